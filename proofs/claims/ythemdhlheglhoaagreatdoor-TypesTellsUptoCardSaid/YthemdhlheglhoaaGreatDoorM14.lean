/- The chapter's functions, walked by the abstract machine: plain lemmas, no condition. Printed by a program from longer texts: names made short. -/
import Derived.Test.YthemdhlheglhoaaGreatDoorM12
import Derived.Test.YthemdhlheglhoaaGreatDoorM13
import Derived.Test.YthemdhlheglhoaaGreatDoorM11
import Derived.Test.YthemdhlheglhoaaGreatDoorM10
import Derived.Lib.Join
import Derived.Lib.ItoaNum
import Derived.Lib.ItoaLen
import Derived.Test.YthemdhlheglhoaaGreatDoorM8
set_option linter.unusedSectionVars false
set_option linter.unusedSimpArgs false
set_option linter.unusedVariables false
namespace Go.Proofs.YthemdhlheglhoaaGreatDoor
open Go aX
section
variable [Lay]
inductive eA (h:af):(aP→Prop)→List aB→V→Prop
 | mk {S:aP→Prop} {l:List aB} {v:V} (us:List (List V)) (ws:Nat→V) (jf:Nat→aP→Prop) (o:du 0 h 4 v l.length us.flatten) (hu:us.length=l.length) (aU:l.length≤top)
    (cells:∀(i:Nat) (t:aB),l[i]? =some t→us[i]? =some [.int .i64 t.k,.int .i64 t.n,.str t.s,ws i]∧t.s.length≤top)
    (kids:∀(i:Nat) (t:aB),l[i]? =some t→eA h (jf i) t.l (ws i)) (bs:∀b,v.aW b→S b) (dO:∀(i:Nat) (b:aP),i<l.length→jf i b→S b∧¬v.aW b)
    (apart:∀(i j:Nat) (b:aP),i<l.length→j<l.length→i≠j→jf i b→¬jf j b):eA h S l v
variable {h aa:af} {S:aP→Prop} {l:List aB} {v:V}
theorem eA.nil (h:af) (S:aP→Prop):eA h S [] .b6:=
 .mk [] (fun _=>.b6) (fun _ _=>False) ⟨by simp,rfl⟩ rfl (Nat.zero_le _) (fun i t q=>by simp at q) (fun i t q=>by simp at q) (fun b q=>q.elim) (fun i b q=>absurd q (Nat.not_lt_zero _)) (fun i j b q=>absurd q (Nat.not_lt_zero _))
theorem eA.mod {M:aP→Prop} (H:eA h S l v) (m:Mod M h aa) (cY:∀b,S b→¬M b):eA aa S l v:=by
 induction H with
 | mk us ws jf o hu aU cells kids bs dO apart bk=>
   exact .mk us ws jf (o.mod m fun b q=>cY b (bs b q)) hu aU cells (fun i t q=>bk i t q fun b z=>cY b (dO i b (by obtain ⟨an,_⟩:=List.getElem?_eq_some_iff.1 q;exact an) z).1) bs dO apart
theorem eA.ext (H:eA h S l v) (e:Ext h aa):eA aa S l v:=by
 induction H with
 | mk us ws jf o hu aU cells kids bs dO apart bk=>exact .mk us ws jf (o.ext e) hu aU cells bk bs dO apart
theorem eA.fg {Ba:aP→Prop} (H:eA h S l v) (w:∀b,S b→Ba b):eA h Ba l v:=by
 cases H with
 | mk us ws jf o hu aU cells kids bs dO apart=>exact .mk us ws jf o hu aU cells kids (fun b q=>w b (bs b q)) (fun i b q z=>⟨w b (dO i b q z).1,(dO i b q z).2⟩) apart
theorem eA.fv {F:aP→Prop} (H:eA h S l v) (w:∀b,S b→F b):cw F h 4 (l.map aB.enc) v:=by
 induction H with
 | mk us ws jf o hu aU cells kids bs dO apart bk=>
   refine ⟨o.room,by rw [List.length_map];exact aU,⟨us,by rw [List.length_map];exact o.v,by rw [List.length_map];exact hu,fun u q=>?_,fun i e u an az=>?_⟩,fun b q=>w b (bs b q)⟩
   · obtain ⟨i,aC,rfl⟩:=List.getElem_of_mem q
     have:=(cells i _ (List.getElem?_eq_getElem (by omega))).1
     rw [List.getElem?_eq_getElem aC] at this
     rw [Option.some.inj this];rfl
   · rw [List.getElem?_map] at an
     cases aF:(_:List aB)[i]? with
     | none=>rw [aF] at an;cases an
     | some t=>
       rw [aF] at an
       simp only [Option.map_some,Option.some.injEq] at an
       subst an
       obtain ⟨bu,bI⟩:=cells i t aF
       rw [bu] at az
       cases az
       rw [sF]
       have aC:i<_:=(List.getElem?_eq_some_iff.1 aF).1
       exact .i (.i (.s bI ((bk i t aF fun b z=>w b (dO i b aC z).1).cons .nil)))
theorem eA.one (H:eA h S l v):v.one=true∧v.cells=[v]∧v.fK=true:=by
 cases H with
 | mk us ws jf o hu aU cells kids bs dO apart=>exact o.v.one
theorem eA.len (H:eA h S l v):lp v=some (.int .i64 l.length):=by
 cases H with
 | mk us ws jf o hu aU cells kids bs dO apart=>exact o.v.len
theorem eA.bs (H:eA h S l v):∀b,v.aW b→S b:=by
 cases H with
 | mk us ws jf o hu aU cells kids bs dO apart=>exact bs
theorem eA.add {T:aP→Prop} {t:aB} {u:V} (H:eA h S l v) (E:eA h T t.l u) (Ce:∀b,S b→¬T b) (oh:∀b,S b→Old h b) (wu:∀b,T b→Old h b) (hlen:(l.length+1) * 4≤top) (aQ:t.s.length≤top):
 ∃dn aa,kW 4 v (.slice (al h.next) 0 1 1) (h.new (.a1 [.int .i64 t.k,.int .i64 t.n,.str t.s,u] 0 false))=.val dn aa∧eA aa (fun b=>S b∨T b∨(h.next≤dG b∧dG b<aa.next)) (l++[t]) dn∧Mod v.aW h aa∧h.next+1≤aa.next:=by
 have dh:=E.one
 cases H with
 | mk us ws jf o hu aU cells kids bs dO apart=>
   obtain ⟨dn,aa,an,az,aN,bM,dL⟩:=yx (cs:=[.int .i64 t.k,.int .i64 t.n,.str t.s,u]) (by omega) o (Nat.zero_le _) hlen rfl (by simp only [eS,QT,QU,dh.1,Bool.and_self,Bool.and_true])
   have Im:∀b,dn.aW b→¬v.aW b→¬Old h b:=fun b z z2=>by
    rcases dL b z with z | z
    · exact absurd z z2
    · unfold Old;omega
   have snoc:∀(i:Nat) (s:aB),(l++[t])[i]? =some s→(i<l.length∧l[i]? =some s)∨(i=l.length∧s=t):=fun i s q=>B7 q
   refine ⟨dn,aa,an,.mk (us++[[.int .i64 t.k,.int .i64 t.n,.str t.s,u]]) (fun i=>if i<l.length then ws i else u) (fun i=>if i<l.length then jf i else T) ?_ (by simp [hu]) (by rw [List.length_append,List.length_singleton];omega) (fun i s q=>?_) (fun i s q=>?_) (fun b z=>?_) (fun i b aC z=>?_) (fun i j b aC bK nq z=>?_),aN,bM⟩
   · rw [List.length_append,List.length_singleton,List.flatten_append]
     simpa using az
   · rcases snoc i s q with ⟨ab,ae⟩ | ⟨ab,rfl⟩
     · rw [if_pos ab,List.getElem?_append_left (by omega)]
       exact cells i s ae
     · subst ab
       rw [if_neg (by omega),List.getElem?_append_right (by omega),hu,Nat.sub_self]
       exact ⟨rfl,aQ⟩
   · rcases snoc i s q with ⟨ab,ae⟩ | ⟨ab,rfl⟩
     · simp only [if_pos ab]
       exact (kids i s ae).mod aN fun b z=>(dO i b ab z).2
     · subst ab
       simp only [Nat.lt_irrefl,if_false]
       exact E.mod aN fun b z z2=>Ce b (bs b z2) z
   · have aT:=az.v.b1 z
     rcases dL b z with z | z
     · exact .inl (bs b z)
     · exact .inr (.inr (by unfold Old at aT;omega))
   · by_cases ab:i<l.length
     · rw [if_pos ab] at z
       obtain ⟨a,c⟩:=dO i b ab z
       exact ⟨.inl a,fun z2=>Im b z2 c (oh b a)⟩
     · rw [if_neg ab] at z
       exact ⟨.inr (.inl z),fun z2=>Im b z2 (fun z3=>Ce b (bs b z3) z) (wu b z)⟩
   · rw [List.length_append,List.length_singleton] at aC bK
     by_cases ab:i<l.length
     · rw [if_pos ab] at z
       by_cases ae:j<l.length
       · rw [if_pos ae]
         exact apart i j b ab ae nq z
       · rw [if_neg ae]
         exact Ce b (dO i b ab z).1
     · rw [if_neg ab] at z
       rw [if_pos (by omega)]
       exact fun z2=>Ce b (dO j b (by omega) z2).1 z
end
def fD (a b:Nat) (p:aP):Prop:=a≤dG p∧dG p<b
theorem aa6 {size:Nat} (us:List (List V)) (i:Nat) (u:List V) (aC:i<us.length) (hu:u.length=size) (h:∀w ∈ us,w.length=size):hS us.flatten (i * size) u=(us.set i u).flatten:=by
 unfold hS
 rw [List.set_eq_take_append_cons_drop,if_pos aC,List.flatten_append,List.flatten_cons,NO _ _ h,NM _ _ h,hu,List.append_assoc,show (i+1) * size=i * size+size from Nat.succ_mul _ _]
abbrev Jp:aB:=.mk 77 0 [] []
abbrev vR:List V:=[.int .i64 77,.int .i64 0,.str [],.b6]
section
variable [Lay]
theorem eA.over {h:af} {S:aP→Prop} {l:List aB} {v:V} (H:eA h S l v) {i:Nat} (aC:i<l.length):
 ∃(T:aP→Prop) (w:V) (b:aP) (off:Nat),eA h T l[i].l w∧(∀x,T x→S x)∧iT 4 v (.int .i64 i)=some (.ptr b (off+i * 4))∧iw (h.get b) (off+i * 4+3)=some w∧
  ∀ab,Mod T h ab→∃ae,oR 4 ab (.ptr b (off+i * 4)) (.agg vR)=some ae∧eA ae S (l.set i Jp) v∧Mod v.aW ab ae:=by
 cases H with
 | mk us ws jf o hu aU cells kids bs dO apart=>
   obtain ⟨bu,bI⟩:=cells i l[i] (List.getElem?_eq_getElem aC)
   have bo:∀u ∈ us,u.length=4:=fun u q=>by
    obtain ⟨j,bK,rfl⟩:=List.getElem_of_mem q
    have:=(cells j l[j] (List.getElem?_eq_getElem (by omega))).1
    rw [List.getElem?_eq_getElem bK] at this
    rw [Option.some.inj this];rfl
   have np:=yU us bo
   obtain ⟨b,off,aK,aS⟩:=o.v.cD (k:=.i64) aC
   have qP:i<us.length:=by omega
   refine ⟨jf i,ws i,b,off,kids i _ (List.getElem?_eq_getElem aC),fun x q=>(dO i x aC q).1,aK,?_,fun ab m=>?_⟩
   · have:=aS.eu (i:=i * 4+3) (by rw [np];omega)
     rw [Nat.add_assoc,this]
     have ay:=BZ us i _ bo bu
     have:us.flatten[i * 4+3]? =(((us.flatten.drop (i * 4)).take 4)[3]?):=by rw [List.getElem?_take_of_lt (by omega),List.getElem?_drop]
     rw [←List.getElem?_eq_getElem,this,ay]
     rfl
   · have dC:du 0 ab 4 v l.length us.flatten:=o.mod m fun x q z=>(dO i x aC z).2 q
     obtain ⟨bP,lq,ae,f1,f2,f3,f4,f5⟩:=dC.put (i:=i) aC (k:=.i64) (y:=.agg vR) rfl rfl
     have ag:V.ptr b (off+i * 4)=.ptr bP (lq+i * 4):=Option.some.inj (aK.symm.trans f1)
     refine ⟨ae,by rw [ag];exact f3,?_,f5⟩
     have sp:hS us.flatten (i * 4) (V.agg vR).cells=(us.set i vR).flatten:=aa6 us i vR qP rfl bo
     rw [sp] at f4
     refine .mk (us.set i vR) (fun j=>if j=i then .b6 else ws j) jf (by rw [List.length_set];exact f4) (by rw [List.length_set,List.length_set];exact hu) (by rw [List.length_set];exact aU) (fun j t q=>?_) (fun j t q=>?_) bs (fun j x q=>dO j x (by rw [List.length_set] at q;exact q)) (fun j k x an az=>apart j k x (by rw [List.length_set] at an;exact an) (by rw [List.length_set] at az;exact az))
     · by_cases pI:j=i
       · subst pI
         rw [List.getElem?_set_self aC] at q
         cases q
         rw [if_pos rfl,List.getElem?_set_self qP]
         exact ⟨rfl,Nat.zero_le _⟩
       · rw [List.getElem?_set_ne (fun z=>pI z.symm)] at q ⊢
         rw [if_neg pI]
         exact cells j t q
     · by_cases pI:j=i
       · subst pI
         rw [List.getElem?_set_self aC] at q
         cases q
         rw [if_pos rfl]
         exact eA.nil _ _
       · rw [List.getElem?_set_ne (fun z=>pI z.symm)] at q
         rw [if_neg pI]
         have bK:j<l.length:=(List.getElem?_eq_some_iff.1 q).1
         exact ((kids j t q).mod m fun x z z2=>apart j i x bK aC pI z z2).mod f5 fun x z z2=>(dO j x bK z).2 z2
end
theorem Rm:∀(l:List aB) (i:Nat),c9 (l.set i Jp)≤c9 l
 | [],_=>by simp
 | t::l,0=>by rw [List.set_cons_zero,c9,c9];have:=lu t;simp only [aB.size,c9];omega
 | t::l,i+1=>by rw [List.set_cons_succ,c9,c9];have:=Rm l i;omega
set_option maxHeartbeats 2000000 in
theorem QZ:∀(N:Nat) (l:List aB),c9 l≤N→∀(S:aP→Prop) (v:V) (h:af),eA h S l v→bB Tryz.prog 26 [v] h fun x aa=>Mod S h aa
 | N,l,aQ,S,v,h,H=>by
   have hle:l.length≤top:=by cases H;assumption
   refine Xq rfl (cL ?_)
   unfold FJ
   simp +contextual only [↓ak,ax,simprocAttr]
   refine fG (fun r g=>r 0=v∧∃(i:Nat) (cR:List aB),r 2=.int .i64 i∧i≤l.length∧cR.length=l.length∧c9 cR≤N∧eA g S cR v∧Mod S h g) (fun r g=>l.length - (r 2).toN) ?_ ?_
   · exact ⟨by simp only [↓ak,bL,simprocAttr],0,l,by simp only [↓ak,bL,simprocAttr]<;>rfl,by omega,rfl,aQ,H,Mod.refl _ _⟩
   rintro r g ⟨bE,i,cR,bT,aC,gm,hc,W,E⟩
   unfold Mo
   have ai:=W.len
   rw [gm] at ai
   by_cases aL:i<l.length
   · have g0:((i:Int) < (l.length:Int))=True:=eq_true (by omega)
     have iQ:i<cR.length:=by omega
     obtain ⟨T,w,b,off,K,dP,cD,ld,st⟩:=W.over iQ
     have dH:=hT aL (by unfold top at hle;omega)
     have bo:=JG iQ
     simp +contextual only [bE,bT,ai,g0,cD,ld,↓ak,ax,simprocAttr]
     match N,hc with
     | 0,hc=>omega
     | N+1,hc=>
     refine bY (QZ N cR[i].l (by omega) T w g K) ?_
     rintro x g2 m
     obtain ⟨g3,s1,s2,jV⟩:=st g2 m
     have ajr:xc 4 g2 b (off+i * 4) (.agg [.int .i64 77,.int .i64 0,.str [],.b6]) (g2.get b)=some g3:=s1
     simp +contextual only [bE,bT,cD,ajr,dH,↓ak,ax,simprocAttr]
     refine ⟨⟨i+1,cR.set i Jp,rfl,aL,by rw [List.length_set];exact gm,Nat.le_trans (Rm cR i) hc,s2,?_⟩,by omega⟩
     exact E.trans ((m.mono fun x _ q=>dP x q).trans (jV.mono fun x _ q=>s2.bs x q))
   · have g0:((i:Int) < (l.length:Int))=False:=eq_false (by omega)
     simp +contextual only [bE,bT,ai,g0,↓ak,ax,simprocAttr]
     exact E
theorem agV [Lay] {h:af} {T:aP→Prop} {t:aB} {w:V} (K:eA h T t.l w) (dP:∀b,T b→Old h b) (aQ:t.s.length≤top):
 ∃g,h.new (.a1 [.int .i64 t.k,.int .i64 t.n,.str t.s,w] 0 false)=g∧Ext h g∧eA g (fun b=>T b∨b=al h.next) [t] (.slice (al h.next) 0 1 1):=by
 obtain ⟨g,an,az,aN⟩:=IP h 4 1 [.int .i64 t.k,.int .i64 t.n,.str t.s,w] rfl (by unfold top;simp)
 refine ⟨g,an,az,.mk [[.int .i64 t.k,.int .i64 t.n,.str t.s,w]] (fun _=>w) (fun _=>T) (aN.mono (Nat.zero_le _)) rfl (by unfold top;simp) (fun i u q=>?_) (fun i u q=>?_) (fun b q=>.inr q) (fun i b _ q=>⟨.inl q,fun z=>?_⟩) (fun i j b ab ae aG=>?_)⟩
 · cases i with
   | zero=>cases q;exact ⟨rfl,aQ⟩
   | succ i=>simp at q
 · cases i with
   | zero=>cases q;exact K.ext az
   | succ i=>simp at q
 · have:=dP b q;rw [show b=al h.next from z] at this;exact z' (Nat.le_refl _) this
 · simp at ab ae;omega
end Go.Proofs.YthemdhlheglhoaaGreatDoor
namespace Go.Proofs.YthemdhlheglhoaaGreatDoor
open Go aX
theorem alk {P:Program} {cJ:List V} {b:aP} {d:Option Nat} {os:List bD} {D:Option hU} {aM:List g_} {r:aR} {h:af} {Q:de→aR→af→Prop} {K:V→af→Prop}
 (c:Bg P cJ b h K) (H:∀v aa,K v aa→bp P (.os (ia D r h v) os::aM) .normal (r.set d v) aa Q):D6 P (cJ++[.ptr b 0]) d D os aM r h Q:=by
 obtain ⟨v,aa,q,k⟩:=c
 exact ⟨cJ,b,rfl,v,aa,q,H v aa k⟩
abbrev Grow (X fS:aP→Prop) (h:af):Prop:=∀b,fS b→X b∨h.next≤dG b
theorem B_ {X fS:aP→Prop} {h:af} {n:Nat} (c_:Grow X fS h) (aU:n<h.next) (bb:¬X (al n)):¬fS (al n):=fun q=>by
 rcases c_ _ q with q | q
 · exact bb q
 · rw [cK] at q;omega
theorem ag_ {X fS:aP→Prop} {h aa k1:af} (a:Mod X h aa) (c:Mod fS aa k1) (g:Grow X fS h):Mod X h k1:=
 ⟨Nat.le_trans a.next c.next,fun b ag q=>(c.get b (a.b1 ag) fun z=>by
   rcases g b z with z | z
   · exact q z
   · unfold Old at ag;omega).trans (a.get b ag q)⟩
abbrev Inv:=List (Nat × aB)→(aP→Prop)→af→Prop
structure xX (fZ:Nat) (oF:aP) (I J:Inv):Prop where
 ext:∀{d:List (Nat × aB)} {X:aP→Prop} {h aa:af},I d X h→Ext h aa→I d X aa
 BJ:∀{d:List (Nat × aB)} {X:aP→Prop} {h:af} (k:Nat) (p:aB) {ad:List V},I d X h→d.length+1≤1000000000→k≤1000000000→p.size≤1000000000→bJ (fun b=>dG b<fZ) h p.enc ad→
  Bg Tryz.prog [.int .i64 k,.agg ad] oF h fun x aa=>∃fS,Mod X h aa∧Grow X fS h∧(x=.bool true∧I (d++[(k,p)]) fS aa∨x=.bool false∧J (d++[(k,p)]) fS aa)
 b1:∀{d:List (Nat × aB)} {X:aP→Prop} {h:af},I d X h→∀b,X b→Old h b
 bR:∀{d:List (Nat × aB)} {X:aP→Prop} {h:af},I d X h→∀b,X b→fZ≤dG b
def Left (I J:Inv) (d:List (Nat × aB)) (X:aP→Prop) (h:af) (x:V) (aa:af):Prop:=
 ∃fS,Mod X h aa∧Grow X fS h∧(x=.bool true∧I d fS aa∨x=.bool false∧∃hX,hX <+:d∧J hX fS aa)
theorem Jz (d:List (Nat × aB)) (k:Nat) (p:aB):d++p.pred k=d++[(k,p)]++hR (k+1) p.l:=by rw [air];simp
set_option maxHeartbeats 2000000 in
theorem Pn {fZ:Nat} {oF:aP} {I J:Inv} (E:xX fZ oF I J) {s9 si:Nat}:∀(N:Nat) (p:aB),p.size≤N→∀(k:Nat) (d:List (Nat × aB)) (X:aP→Prop) (ad:List V) (h:af),d.length+p.size≤1000000000→k+p.size≤1000000000→¬X (al s9)→¬X (al si)→bJ (fun b=>dG b<fZ) h p.enc ad→
 Has h s9 [.func 4294967296 [.ptr oF 0]]→Has h si [.func 87 [.ptr (al s9) 0,.ptr (al si) 0]]→I d X h→bB Tryz.prog 87 [.int .i64 k,.agg ad,.ptr (al s9) 0,.ptr (al si) 0] h (Left I J (d++p.pred k) X h)
 | 0,p,aQ,_,_,_,_,_,_,_,_,_,_,_,_,_=>by have:=lu p;omega
 | N+1,p,aQ,k,d,X,ad,h,acr,nr,a_,aC,H,Y,B,K=>by
   have amd:=size_eq p
   obtain ⟨bN,rfl,L,_⟩:=aB.open H
   have ol:=L.one
   have ai:=L.len
   have hle:=L.le
   rw [List.length_map] at ai hle
   refine YX rfl (cL ?_)
   unfold Gk
   obtain ⟨ab,an,aK,bC⟩:=dM h (cc p bN)
   have ou:¬X (al h.next):=fun q=>z' (Nat.le_refl _) (E.b1 K _ q)
   have uT:=aK.next
   have yv:=Y.ext aK
   simp +contextual only [ol.1,ol.2.1,an,bC.g,yv.g,jy,List.cons_append,List.nil_append,if_true,↓ak,ax,simprocAttr]
   refine alk (cJ:=[_,_]) (E.BJ k p (E.ext K aK) (by omega) (by omega) (by omega) (H.ext aK)) ?_
   rintro x ae ⟨yt,m2,s2,aq⟩
   have eJ:=B_ s2 yv.lt a_
   have i2:=B_ s2 (B.ext aK).lt aC
   have Sb:Grow X yt h:=fun b q=>by
    rcases s2 b q with q | q
    · exact .inl q
    · exact .inr (by omega)
   have bV:=bC.mod m2 ou
   have UX:=yv.mod m2 a_
   have ec:=(B.ext aK).mod m2 aC
   have Qn:Mod X h ae:=(aK.mod X).trans m2
   rcases aq with ⟨rfl,Er⟩ | ⟨rfl,Er⟩
   rotate_left
   · simp +contextual only [↓ak,ax,simprocAttr]
     exact ⟨yt,Qn,Sb,.inr ⟨rfl,d++[(k,p)],by rw [Jz];exact List.prefix_append _ _,Er⟩⟩
   simp +contextual only [bV.g,ai,↓ak,ax,simprocAttr]
   refine fG (fun r g=>r 0=.int .i64 k∧r 2=.ptr (al s9) 0∧r 3=.ptr (al si) 0∧r 15=bN∧r 16=.int .i64 p.l.length∧∃i:Nat,r 17=.int .i64 i∧i≤p.l.length∧Has g s9 [.func 4294967296 [.ptr oF 0]]∧Has g si [.func 87 [.ptr (al s9) 0,.ptr (al si) 0]]∧
    ∃fS,I (d++[(k,p)]++hR (k+1) (p.l.take i)) fS g∧Mod X h g∧Grow X fS h∧¬fS (al s9)∧¬fS (al si)) (fun r g=>p.l.length - (r 17).toN) ?_ ?_
   · exact ⟨by simp only [↓ak,bL,simprocAttr],by simp only [↓ak,bL,simprocAttr],by simp only [↓ak,bL,simprocAttr],by simp only [↓ak,bL,simprocAttr],by simp only [↓ak,bL,simprocAttr],0,by simp only [↓ak,bL,simprocAttr]<;>rfl,by omega,UX,ec,yt,by rw [List.take_zero,hR,List.append_nil];exact Er,Qn,Sb,eJ,i2⟩
   rintro r g ⟨bE,bT,cg,jR,r16,i,jS,al8,UZ,Tx,fS,Eu,C3,Ka,KI,Iy⟩
   unfold MB
   have mj:=L.mod (dR:=fun b=>dG b<fZ) C3 fun b q _=>⟨fun z=>by have:=E.bR K b z;omega,q⟩
   by_cases aL:i<p.l.length
   · have g0:((i:Int) < (p.l.length:Int))=True:=eq_true (by omega)
     obtain ⟨b,off,wl,cD,UU,fI,ld⟩:=aB.hN mj (k:=.i64) aL
     have fb:=ld g (Ext.refl g)
     have di:=fI.one
     have dH:=hT aL (by unfold top at hle;omega)
     have akV:IntKind.i64.wrap ((k:Int)+1)=((k+1:Nat):Int):=by rw [wrap_i64 (by omega) (by omega)];rfl
     have ca:=l9 (t:=p) (List.getElem_mem aL)
     obtain ⟨g1,ek,bj,Z⟩:=ga g z4 (cc p.l[i] wl)
     have AQ:=Tx.ext bj
     have ES:=UZ.ext bj
     simp +contextual only [bE,bT,cg,jR,r16,jS,g0,cD,fb,ek,Z.g,AQ.g,di.1,di.2.1,akV,jy,List.cons_append,List.nil_append,show (87=4294967296)=False from by simp,if_false,↓ak,ax,simprocAttr]
     have amg:=Dv (l:=p.l) aL
     have O8:=xw p.l (i+1)
     refine bY (Pn E N p.l[i] (by omega) (k+1) _ fS _ g1 (by rw [List.length_append,List.length_append,List.length_singleton,ais];omega) (by omega) KI Iy (UU.ext bj) ES AQ (E.ext Eu bj)) ?_
     rintro x g2 ⟨yu,m3,jV,aq⟩
     have p1:=bj.next
     have z_:=C3.next
     have Sc:Grow X yu h:=fun b q=>by
      rcases jV b q with q | q
      · exact Ka b q
      · exact .inr (by omega)
     have Qo:=ag_ C3 ((bj.mod fS).trans m3) Ka
     have iu:d++[(k,p)]++hR (k+1) (p.l.take i)++p.l[i].pred (k+1)=d++[(k,p)]++hR (k+1) (p.l.take (i+1)):=by
      rw [take_one aL,JA,ait,←List.append_assoc]
     rcases aq with ⟨rfl,Es⟩ | ⟨rfl,hX,wA,Es⟩
     · simp +contextual only [bE,bT,cg,jR,r16,jS,dH,↓ak,ax,simprocAttr]
       exact ⟨⟨i+1,rfl,aL,ES.mod m3 KI,AQ.mod m3 Iy,yu,by rw [←iu];exact Es,Qo,Sc,B_ jV ES.lt KI,B_ jV AQ.lt Iy⟩,by omega⟩
     · simp +contextual only [bE,bT,cg,jR,r16,jS,dH,↓ak,ax,simprocAttr]
       refine ⟨yu,Qo,Sc,.inr ⟨rfl,hX,?_,Es⟩⟩
       rw [iu] at wA
       refine wA.trans ?_
       rw [Jz]
       refine (List.prefix_append_right_inj _).2 ?_
       conv=>rhs;rw [←List.take_append_drop (i+1) p.l,JA]
       exact List.prefix_append _ _
   · have g0:((i:Int) < (p.l.length:Int))=False:=eq_false (by omega)
     rw [List.take_of_length_le (by omega)] at Eu
     simp +contextual only [bE,bT,cg,jR,r16,jS,g0,↓ak,ax,simprocAttr]
     exact ⟨fS,C3,Ka,.inl ⟨rfl,by rw [Jz];exact Eu⟩⟩
theorem KA (ad:List V) (h:af) (aT:eS ad=true) (ai:ad.length≤top):bB Tryz.prog 56 [.agg ad] h fun x aa=>∃n,x=.func 86 [.ptr (al n) 0]∧Has aa n ad∧Ext h aa:=by
 refine X_ rfl (cL ?_)
 unfold F3
 obtain ⟨ab,an,aK,bC⟩:=dM h ad
 have gm:(ad.length≤17179869184)=True:=eq_true ai
 simp +contextual only [an,aT,gm,↓ak,ax,simprocAttr]
 exact ⟨_,rfl,bC,aK⟩
set_option maxHeartbeats 1000000 in
theorem Kz {fZ:Nat} {oF:aP} {I J:Inv} (E:xX fZ oF I J) {xr:Nat} (p:aB) (ah:p.size≤900000000) (X:aP→Prop) (ad:List V) (h:af) (H:bJ (fun b=>dG b<fZ) h p.enc ad) (Ty:Has h xr ad) (K:I [] X h):
 bB Tryz.prog 86 [.func 4294967296 [.ptr oF 0],.ptr (al xr) 0] h fun _ aa=>∃x,Left I J (p.pred 1) X h x aa:=by
 obtain ⟨bN,rfl,L,_⟩:=aB.open H
 refine YU rfl (cL ?_)
 unfold Gj
 obtain ⟨ab,an,aK,yv⟩:=dM h [.func 4294967296 [.ptr oF 0]]
 obtain ⟨ae,az,aS,ec⟩:=ga ab [.iW] [.func 87 [.ptr (al h.next) 0,.ptr (al ab.next) 0]]
 have cQ:=aK.trans aS
 have T5:=Ty.ext cQ
 have cp:¬X (al h.next):=fun q=>z' (Nat.le_refl _) (E.b1 K _ q)
 have gq:¬X (al ab.next):=fun q=>z' (Nat.le_refl _) (E.b1 (E.ext K aK) _ q)
 have ol:=L.one
 have JJ:=az
 simp +contextual only [an,az,ec.g,T5.g,ol.1,ol.2.1,jy,List.cons_append,List.nil_append,show (87=4294967296)=False from by simp,if_false,↓ak,ax,simprocAttr]
 refine bY (Pn E p.size p (Nat.le_refl _) 1 [] X _ ae (by simp;omega) (by omega) cp gq (H.ext cQ) (yv.ext aS) ec (E.ext K cQ)) ?_
 rintro x aG ⟨yu,m3,jV,aq⟩
 have xm:=cQ.next
 simp +contextual only [↓ak,ax,simprocAttr]
 exact ⟨x,yu,(cQ.mod X).trans m3,fun b q=>by
  rcases jV b q with q | q
  · exact .inl q
  · exact .inr (by omega),aq⟩
theorem xz {a b:Nat} (v w:V) (r:aR) {j:Nat} (ab:j≠a) (ae:j≠b) (aG:j≠dY):ly [a,b] [v,w] r j=r j:=by
 simp [ly,aR.sD,aR.set,ab,ae,aG]
theorem ajc {a b:Nat} (v w:V) (r:aR) (ab:a≠b) (aG:a≠dY):ly [a,b] [v,w] r a=v:=by
 simp [ly,aR.sD,aR.set,ab,aG]
theorem R2 {a b:Nat} (v w:V) (r:aR) (aG:b≠dY):ly [a,b] [v,w] r b=w:=by
 simp [ly,aR.sD,aR.set,aG]
theorem IQ {l:jv} (bb:l.st=0) (ah:l.dc=none):l.go 0 none=l:=by
 obtain ⟨st,dc,_,_,_,_,_,_⟩:=l;simp only at bb ah;subst bb ah;rfl
structure KU (bX ew jr eM m:Nat) (l:jv) (d:List (Nat × aB)) (X:aP→Prop) (h:af):Prop where
 fn:Has h bX [.int .i64 (d.length:Nat)]
 BT:Has h ew [.int .i64 (maxD d:Nat)]
 pD:Has h jr [.int .i64 0]
 bR:m<h.next
 kt:h.get (al m)=.cr l
 jA:eM<h.next
 fd:h.get (al eM)=.er
 G1:∀x ∈ d,x.2.own=true
 dK:maxD d≤1000000000
 jF:∀p,X p↔p=al bX∨p=al ew∨p=al jr∨p=al m
structure TA (bX ew jr eM m:Nat) (l:jv) (d:List (Nat × aB)) (X:aP→Prop) (h:af):Prop where
 pD:Has h jr [.int .i64 2]
 bR:m<h.next
 kt:h.get (al m)=.cr (l.go 2 (some .ret))
 jA:eM<h.next
 fd:h.get (al eM)=.er
 bad:∃x ∈ d,x.2.own=false
set_option maxHeartbeats 4000000 in
theorem ZM {fZ bX ew jr eM m:Nat} {l:jv} {r:aR} (og:fZ≤bX) (r6:fZ≤ew) (Oa:fZ≤jr) (abQ:fZ≤m) (cp:bX≠ew) (gq:bX≠jr) (n3:bX≠m) (n4:bX≠eM) (n5:ew≠jr) (n6:ew≠m) (n7:ew≠eM) (n8:jr≠m) (n9:jr≠eM) (n10:m≠eM)
 (F:vs Tryz.prog l 25 r [9,10] FF FG) (bb:l.st=0) (ah:l.dc=none) (bT:r 2=.ptr (al jr) 0) (cg:r 3=.ptr (al bX) 0) (c7:r 4=.ptr (al ew) 0):
 xX fZ (al m) (fun d X h=>KU bX ew jr eM m l d X h) (fun d X h=>TA bX ew jr eM m l d X h) where
 ext:=fun {d X h aa} K e=>⟨K.fn.ext e,K.BT.ext e,K.pD.ext e,Nat.lt_of_lt_of_le K.bR e.next,(e.get _ (eI K.bR)).trans K.kt,Nat.lt_of_lt_of_le K.jA e.next,(e.get _ (eI K.jA)).trans K.fd,K.G1,K.dK,K.jF⟩
 b1:=fun {d X h} K b ag=>by
  rcases (K.jF b).1 ag with rfl | rfl | rfl | rfl
  · exact eI K.fn.lt
  · exact eI K.BT.lt
  · exact eI K.pD.lt
  · exact eI K.bR
 bR:=fun {d X h} K b ag=>by
  rcases (K.jF b).1 ag with rfl | rfl | rfl | rfl<;>rw [cK]<;>assumption
 BJ:=fun {d X h} k p ad K aZ aE um H=>by
  have eo:=H
  obtain ⟨bN,rfl,L,gz⟩:=aB.open H
  have ol:=L.one
  have hm:=IQ bb ah
  refine KJ (by decide) follows cU F K.kt bb rfl ?_
  obtain ⟨ab,an,aK,bC⟩:=ga h z4 (cc p bN)
  have br:ab.get (al m)=.cr l:=(aK.get _ (eI K.bR)).trans K.kt
  have bR:=K.bR
  have jA:=K.jA
  have uT:=aK.next
  have g9:=ajc (a:=9) (b:=10) (.int .i64 k) (.agg (cc p bN)) r (by decide) (by decide)
  have g10:=R2 (a:=9) (b:=10) (.int .i64 k) (.agg (cc p bN)) r (by decide)
  have g2:=xz (a:=9) (b:=10) (.int .i64 k) (.agg (cc p bN)) r (j:=2) (by decide) (by decide) (by decide)
  have g3:=xz (a:=9) (b:=10) (.int .i64 k) (.agg (cc p bN)) r (j:=3) (by decide) (by decide) (by decide)
  have g4:=xz (a:=9) (b:=10) (.int .i64 k) (.agg (cc p bN)) r (j:=4) (by decide) (by decide) (by decide)
  rw [bT] at g2
  rw [cg] at g3
  rw [c7] at g4
  generalize ly [9,10] [V.int .i64 k,.agg (cc p bN)] r=bE at *
  refine cL ?_
  unfold FF
  simp +contextual only [g9,g10,an,ol.1,ol.2.1,↓ak,ax,simprocAttr]
  refine ⟨br,cL ?_⟩
  have bV:=bC.set (m:=m) (by omega) (.cr (l.go 1 l.dc))
  have ml:=(K.fn.ext aK).set (m:=m) n3 (.cr (l.go 1 l.dc))
  have ec:=(K.BT.ext aK).set (m:=m) n6 (.cr (l.go 1 l.dc))
  have hl:=(K.pD.ext aK).set (m:=m) n8 (.cr (l.go 1 l.dc))
  have qK:(ab.set (al m) (.cr (l.go 1 l.dc))).get (al m)=.cr (l.go 1 l.dc):=by rw [c4,if_pos rfl]
  have we:(ab.set (al m) (.cr (l.go 1 l.dc))).get (al eM)=.er:=by rw [c4,if_neg (fun q=>n10 (dW q))];exact (aK.get _ (eI jA)).trans K.fd
  have M2:Mod X h (ab.set (al m) (.cr (l.go 1 l.dc))):=(aK.mod X).set (fun _=>(K.jF _).2 (.inr (.inr (.inr rfl)))) _
  have cq:bJ Any (ab.set (al m) (.cr (l.go 1 l.dc))) p.enc (cc p bN):=(eo.ext aK).mod (M:=fun b=>b=al m) (((Mod.refl (fun b=>b=al m) ab).set (fun _=>rfl) _)) fun b q _=>⟨fun z=>by rw [show b=al m from z,cK] at q;omega,trivial⟩
  have wK:(ab.set (al m) (.cr (l.go 1 l.dc))).next=ab.next:=rfl
  generalize ab.set (al m) (.cr (l.go 1 l.dc))=ae at *
  unfold FG
  simp +contextual only [bV.g,↓ak,ax,simprocAttr]
  refine bY (ah_ p _ ae cq) ?_
  rintro x aG ⟨rfl,bn⟩
  have dd:=bV.ext bn
  have rL:=ml.ext bn
  have hj:=ec.ext bn
  have hV:=hl.ext bn
  have z_:=bn.next
  have B':aG.get (al m)=.cr (l.go 1 l.dc):=(bn.get _ (eI (by omega))).trans qK
  have B6:aG.get (al eM)=.er:=(bn.get _ (eI (by omega))).trans we
  have rK:=M2.trans (bn.mod X)
  cases c:p.own with
  | false=>
    simp +contextual only [g2,hV.g,↓ak,ax,simprocAttr]
    refine ⟨by rw [if_neg n8];exact B',X,(rK.set (fun _=>(K.jF _).2 (.inr (.inr (.inl rfl)))) _).set (fun _=>(K.jF _).2 (.inr (.inr (.inr rfl)))) _,fun b q=>.inl q,.inr ⟨(hV.put _).set n8 _,?_,?_,?_,?_,(k,p),by simp,c⟩⟩
    · show m<aG.next;omega
    · rw [c4,if_pos rfl]
    · show eM<aG.next;omega
    · rw [c4,if_neg (fun q=>n10 (dW q)),c4,if_neg (fun q=>n9 (dW q))];exact B6
  | true=>
    have b3:IntKind.i64.wrap ((d.length:Int)+1)=((d.length+1:Nat):Int):=by rw [wrap_i64 (by omega) (by omega)];rfl
    simp +contextual only [g2,g3,g4,rL.g,hj.g,dd.g,b3,eq_false cp,if_false,Qu,↓ak,ax,simprocAttr]
    have ir:maxD (d++[(k,p)])=max (maxD d) k:=by rw [I1,Qt];unfold maxD;simp
    refine ⟨by rw [if_neg n6,if_neg n3];exact B',X,((rK.set (fun _=>(K.jF _).2 (.inl rfl)) _).set (fun _=>(K.jF _).2 (.inr (.inl rfl))) _).set (fun _=>(K.jF _).2 (.inr (.inr (.inr rfl)))) _,fun b q=>.inl q,.inl ⟨?_,?_,?_,?_,?_,?_,?_,?_,?_,K.jF⟩⟩
    · rw [List.length_append,List.length_singleton]
      exact ((rL.put _).set cp _).set n3 _
    · rw [ir]
      exact ((hj.set (m:=bX) (fun q=>cp q.symm) _).put _).set n6 _
    · exact ((hV.set (m:=bX) (fun q=>gq q.symm) _).set (m:=ew) (fun q=>n5 q.symm) _).set n8 _
    · show m<aG.next;omega
    · rw [c4,if_pos rfl,hm]
    · show eM<aG.next;omega
    · rw [c4,if_neg (fun q=>n10 (dW q)),c4,if_neg (fun q=>n7 (dW q)),c4,if_neg (fun q=>n4 (dW q))];exact B6
    · intro x aq
      rcases List.mem_append.1 aq with aq | aq
      · exact K.G1 x aq
      · rw [List.mem_singleton] at aq;subst aq;exact c
    · rw [ir];have:=K.dK;omega
theorem aip {α:Type} {a b:List α} {P:α→Bool} (h:a <+:b) (q:∃x ∈ a,P x=false):b.all P=false:=by
 obtain ⟨x,aq,ah⟩:=q
 rw [List.all_eq_false]
 exact ⟨x,h.subset aq,by simp [ah]⟩
set_option maxHeartbeats 4000000 in
theorem yK (p:aB) (aQ:p.size≤900000000) (ad:List V) (h:af) (H:bJ Any h p.enc ad):bB Tryz.prog 19 [.agg ad] h fun x aa=>x=.int .i64 p.check∧Ext h aa:=by
 have eo:=H.nG
 have aT:=H.eS
 obtain ⟨bN,cS,L,_⟩:=aB.open H
 have lg:ad.length≤top:=by rw [cS];simp [top]
 have cz:ad.length=4:=by rw [cS];rfl
 have zz:(ad.length≤17179869184)=True:=eq_true lg
 refine Xg rfl (cL ?_)
 unfold FE
 obtain ⟨ab,an,aK,bC⟩:=dM h ad
 obtain ⟨ae,az,aS,hl⟩:=dM ab [.int .i64 0]
 obtain ⟨aG,aN,bn,rL⟩:=dM ae [.int .i64 0]
 obtain ⟨ba,bM,b2,f'⟩:=dM aG [.int .i64 0]
 have ey:=((bC.ext aS).ext bn).ext b2
 have tq:=rL.ext b2
 have mW:=(hl.ext bn).ext b2
 have cp:=aK.next
 have gq:=aS.next
 have n3:=bn.next
 have n4:=b2.next
 have eg:=bC.lt
 have gh:=hl.lt
 have pU:=rL.lt
 have IJ:=f'.lt
 have g4:kI 4 (cb.a1 ad 0 false) 0=some (.agg ad):=by rw [zR,if_pos (by omega),List.drop_zero,List.take_of_length_le (by omega)]
 have f1:(ae.next=aG.next)=False:=eq_false (by omega)
 have f2:(aG.next=ae.next)=False:=eq_false (by omega)
 have f3:(aG.next=h.next)=False:=eq_false (by omega)
 have f4:(ae.next=h.next)=False:=eq_false (by omega)
 simp +contextual only [an,az,aN,bM,aT,zz,ey.g,tq.g,f'.g,mW.g,g4,f1,f2,f3,f4,if_false,↓ak,ax,simprocAttr]
 have hC:Ext h ba:=((aK.trans aS).trans bn).trans b2
 have mP:Ext h ((ba.set (al ae.next) (cb.a1 [V.int .i64 0] 0 false)).set (al aG.next) (cb.a1 [V.int .i64 0] 0 false)):=(hC.set (by omega) _).set (by omega) _
 have T3:=(tq.put [V.int .i64 0]).set (m:=aG.next) (by omega) (cb.a1 [V.int .i64 0] 0 false)
 have kS:=(f'.set (m:=ae.next) (by omega) (cb.a1 [V.int .i64 0] 0 false)).put [V.int .i64 0]
 have vx:=(mW.set (m:=ae.next) (by omega) (cb.a1 [V.int .i64 0] 0 false)).set (m:=aG.next) (by omega) (cb.a1 [V.int .i64 0] 0 false)
 have QH:((ba.set (al ae.next) (cb.a1 [V.int .i64 0] 0 false)).set (al aG.next) (cb.a1 [V.int .i64 0] 0 false)).next=ba.next:=rfl
 generalize (ba.set (al ae.next) (cb.a1 [V.int .i64 0] 0 false)).set (al aG.next) (cb.a1 [V.int .i64 0] 0 false)=cz at *
 refine bY (KA ad cz aT lg) ?_
 rintro x cf ⟨n,rfl,mV,hp⟩
 simp +contextual only [↓ak,ax,simprocAttr]
 refine JQ (g:=86) (cs:=[.ptr (al n) 0]) (by simp only [↓ak,bL,simprocAttr]) (by decide) ⟨_,Tryz.func86,by kernel_rfl⟩ ?_
 intro l F bb ah
 have n6:=hp.next
 have k0:Ext cf ((cf.new .er).new (.cr l)):=((Ext.refl cf).new _).new _
 have mg:=(mP.trans hp).trans k0
 have yj:=(T3.ext hp).ext k0
 have kn:=(kS.ext hp).ext k0
 have Ud:=(vx.ext hp).ext k0
 have E:=ZM (fZ:=h.next) (bX:=ae.next) (ew:=aG.next) (jr:=ab.next) (eM:=cf.next) (m:=cf.next+1) (l:=l) (by omega) (by omega) (by omega) (by omega) (by omega) (by omega) (by omega) (by omega) (by omega) (by omega) (by omega) (by omega) (by omega) (by omega) F bb ah (by simp only [↓ak,bL,simprocAttr]) (by simp only [↓ak,bL,simprocAttr]) (by simp only [↓ak,bL,simprocAttr])
 have yh:KU ae.next aG.next ab.next cf.next (cf.next+1) l [] (fun b=>b=al ae.next∨b=al aG.next∨b=al ab.next∨b=al (cf.next+1)) ((cf.new .er).new (.cr l)):=by
  refine ⟨yj,kn,Ud,by rw [eU,eU];omega,ku _,by rw [eU,eU];omega,?_,(fun x aq=>by cases aq),Nat.zero_le _,fun p=>Iff.rfl⟩
  rw [hI,if_neg (fun q=>by have:=dW q;rw [eU] at this;omega),ku]
 refine (Kz E p aQ _ ad _ (eo.ext mg) (mV.ext k0) yh).mono ?_
 rintro _ hY ⟨x,LJ,m8,Sd,aq⟩
 have CA:p.shape=(p.pred 1).all fun x=>x.2.own:=by
  rw [Sl,←Dt 1 p,List.all_map];rfl
 have rE:Ext h hY:=mg.ke m8 fun b ag=>by
  rcases ag with rfl | rfl | rfl | rfl<;>rw [cK]<;>omega
 rcases aq with ⟨rfl,gO⟩ | ⟨rfl,hX,wA,gO⟩
 · refine ⟨l,gO.kt,by rw [bb];decide,?_⟩
   rw [ah]
   have eD:=gO.bR
   have qj:=gO.fn.set (m:=cf.next+1) (by omega) .dead
   have kT:=gO.BT.set (m:=cf.next+1) (by omega) .dead
   have ym:=gO.pD.set (m:=cf.next+1) (by omega) .dead
   have mh:Ext h (hY.set (al (cf.next+1)) .dead):=rE.set (by omega) _
   have qJ:(hY.set (al (cf.next+1)) .dead).get (al cf.next)=.er:=by rw [c4,if_neg (fun q=>by have:=dW q;omega)];exact gO.fd
   generalize hY.set (al (cf.next+1)) .dead=wj at *
   have oP:p.shape=true:=by rw [CA,List.all_eq_true];exact gO.G1
   have hx:(p.pred 1).length=p.size:=Rh 1 p
   have OW:maxD (p.pred 1)=p.deep:=by have:=Ri 1 p;omega
   rw [hx] at qj
   rw [OW] at kT
   have acr:=M3 p
   have f6:(cf.next=ab.next)=False:=eq_false (by omega)
   have f7:(ab.next=cf.next)=False:=eq_false (by omega)
   rw [ML,if_pos oP]
   by_cases bu:p.size≤4096
   · have f8:((4096:Int) < (p.size:Int))=False:=eq_false (by omega)
     by_cases bI:p.deep≤200
     · have f9:((200:Int) < (p.deep:Int))=False:=eq_false (by omega)
       simp +contextual only [Option.getD_none,qj.g,kT.g,ym.g,f6,f7,f8,f9,eq_true bu,eq_true bI,if_false,if_true,decide_true,decide_false,dY,V.list,aR.a1,lo,qJ,↓ak,ax,simprocAttr]
       exact (mh.set (by omega) _).set (by omega) _
     · have f9:((200:Int) < (p.deep:Int))=True:=eq_true (by omega)
       simp +contextual only [Option.getD_none,qj.g,kT.g,ym.g,f6,f7,f8,f9,eq_true bu,eq_false bI,if_false,if_true,decide_true,decide_false,dY,V.list,aR.a1,lo,qJ,↓ak,ax,simprocAttr]
       exact (mh.set (by omega) _).set (by omega) _
   · have f8:((4096:Int) < (p.size:Int))=True:=eq_true (by omega)
     simp +contextual only [Option.getD_none,qj.g,kT.g,ym.g,f6,f7,f8,eq_false bu,if_false,if_true,decide_true,decide_false,dY,V.list,aR.a1,lo,qJ,↓ak,ax,simprocAttr]
     exact (mh.set (by omega) _).set (by omega) _
 · refine ⟨l.go 2 (some .ret),gO.kt,(by show (2:Nat)≠1;decide),?_⟩
   have oP:p.shape=false:=by rw [CA];exact aip (P:=fun x:Nat × aB=>x.2.own) wA gO.bad
   have aI:p.check=2:=by unfold aB.check;rw [oP];rfl
   rw [aI]
   have eD:=gO.bR
   have ym:=gO.pD.set (m:=cf.next+1) (by omega) .dead
   have mh:Ext h (hY.set (al (cf.next+1)) .dead):=rE.set (by omega) _
   have qJ:(hY.set (al (cf.next+1)) .dead).get (al cf.next)=.er:=by rw [c4,if_neg (fun q=>by have:=dW q;omega)];exact gO.fd
   generalize hY.set (al (cf.next+1)) .dead=wj at *
   have f6:(cf.next=ab.next)=False:=eq_false (by omega)
   simp +contextual only [jv.go,Option.getD_some,ym.g,f6,if_false,dY,V.list,aR.a1,lo,qJ,↓ak,ax,simprocAttr]
   exact mh.set (by omega) _
structure KV (bX eM m:Nat) (l:jv) (d:List (Nat × aB)) (X:aP→Prop) (h:af):Prop where
 fn:Has h bX [.int .i64 (d.length:Nat)]
 bR:m<h.next
 kt:h.get (al m)=.cr l
 jA:eM<h.next
 fd:h.get (al eM)=.er
 jF:∀p,X p↔p=al bX∨p=al m
abbrev Lk:Inv:=fun _ _ _=>False
set_option maxHeartbeats 4000000 in
theorem ZR {fZ bX eM m:Nat} {l:jv} {r:aR} (og:fZ≤bX) (abQ:fZ≤m) (n3:bX≠m) (n4:bX≠eM) (n10:m≠eM)
 (F:vs Tryz.prog l 11 r [6,7] FO FP) (bb:l.st=0) (ah:l.dc=none) (cg:r 3=.ptr (al bX) 0):
 xX fZ (al m) (fun d X h=>KV bX eM m l d X h) Lk where
 ext:=fun {d X h aa} K e=>⟨K.fn.ext e,Nat.lt_of_lt_of_le K.bR e.next,(e.get _ (eI K.bR)).trans K.kt,Nat.lt_of_lt_of_le K.jA e.next,(e.get _ (eI K.jA)).trans K.fd,K.jF⟩
 b1:=fun {d X h} K b ag=>by
  rcases (K.jF b).1 ag with rfl | rfl
  · exact eI K.fn.lt
  · exact eI K.bR
 bR:=fun {d X h} K b ag=>by
  rcases (K.jF b).1 ag with rfl | rfl<;>rw [cK]<;>assumption
 BJ:=fun {d X h} k p ad K aZ aE um H=>by
  have hm:=IQ bb ah
  refine KJ (by decide) follows cU F K.kt bb rfl ?_
  have bR:=K.bR
  have jA:=K.jA
  have g3:=xz (a:=6) (b:=7) (.int .i64 k) (.agg ad) r (j:=3) (by decide) (by decide) (by decide)
  rw [cg] at g3
  generalize ly [6,7] [V.int .i64 k,.agg ad] r=bE at *
  have ml:=K.fn.set (m:=m) n3 (.cr (l.go 1 l.dc))
  unfold FO
  refine ⟨rfl,K.kt,cL ?_⟩
  unfold FP
  have b3:IntKind.i64.wrap ((d.length:Int)+1)=((d.length+1:Nat):Int):=by rw [wrap_i64 (by omega) (by omega)];rfl
  simp +contextual only [g3,ml.g,b3,↓ak,ax,simprocAttr]
  refine ⟨by rw [if_neg n3],X,((((Mod.refl X h).set (fun _=>(K.jF _).2 (.inr rfl)) _).set (fun _=>(K.jF _).2 (.inl rfl)) _).set (fun _=>(K.jF _).2 (.inr rfl)) _),fun b q=>.inl q,.inl ⟨?_,bR,?_,jA,?_,K.jF⟩⟩
  · rw [List.length_append,List.length_singleton]
    exact (ml.put _).set n3 _
  · rw [c4,if_pos rfl,hm]
  · rw [c4,if_neg (fun q=>n10 (dW q)),c4,if_neg (fun q=>n4 (dW q)),c4,if_neg (fun q=>n10 (dW q))]
    exact K.fd
set_option maxHeartbeats 4000000 in
theorem Ss (p:aB) (aQ:p.size≤900000000) (ad:List V) (h:af) (H:bJ Any h p.enc ad):bB Tryz.prog 30 [.agg ad] h fun x aa=>x=.int .i64 (p.size:Nat)∧Ext h aa:=by
 have eo:=H.nG
 have aT:=H.eS
 obtain ⟨bN,cS,L,_⟩:=aB.open H
 have lg:ad.length≤top:=by rw [cS];simp [top]
 have cz:ad.length=4:=by rw [cS];rfl
 have zz:(ad.length≤17179869184)=True:=eq_true lg
 refine XC rfl (cL ?_)
 unfold FN
 obtain ⟨ab,an,aK,bC⟩:=dM h ad
 obtain ⟨ae,az,aS,ml⟩:=ga ab [.int .i64 0] [.int .i64 0]
 have bV:=bC.ext aS
 have g4:kI 4 (cb.a1 ad 0 false) 0=some (.agg ad):=by rw [zR,if_pos (by omega),List.drop_zero,List.take_of_length_le (by omega)]
 simp +contextual only [an,az,aT,zz,bV.g,g4,↓ak,ax,simprocAttr]
 refine bY (KA ad ae aT lg) ?_
 rintro x cf ⟨n,rfl,mV,hp⟩
 simp +contextual only [↓ak,ax,simprocAttr]
 refine JQ (g:=86) (cs:=[.ptr (al n) 0]) (by simp only [↓ak,bL,simprocAttr]) (by decide) ⟨_,Tryz.func86,by kernel_rfl⟩ ?_
 intro l F bb ah
 have cp:=aK.next
 have gq:=aS.next
 have n6:=hp.next
 have eg:=bC.lt
 have gh:=ml.lt
 have k0:Ext cf ((cf.new .er).new (.cr l)):=((Ext.refl cf).new _).new _
 have mg:=((aK.trans aS).trans hp).trans k0
 have yj:=(ml.ext hp).ext k0
 have E:=ZR (fZ:=h.next) (bX:=ab.next) (eM:=cf.next) (m:=cf.next+1) (l:=l) (by omega) (by omega) (by omega) (by omega) (by omega) F bb ah (by simp only [↓ak,bL,simprocAttr])
 have yh:KV ab.next cf.next (cf.next+1) l [] (fun b=>b=al ab.next∨b=al (cf.next+1)) ((cf.new .er).new (.cr l)):=by
  refine ⟨yj,by rw [eU,eU];omega,ku _,by rw [eU,eU];omega,?_,fun p=>Iff.rfl⟩
  rw [hI,if_neg (fun q=>by have:=dW q;rw [eU] at this;omega),ku]
 refine (Kz E p aQ _ ad _ (eo.ext mg) (mV.ext k0) yh).mono ?_
 rintro _ hY ⟨x,LJ,m8,Sd,aq⟩
 have rE:Ext h hY:=mg.ke m8 fun b ag=>by
  rcases ag with rfl | rfl<;>rw [cK]<;>omega
 rcases aq with ⟨rfl,gO⟩ | ⟨rfl,hX,wA,gO⟩
 · refine ⟨l,gO.kt,by rw [bb];decide,?_⟩
   rw [ah]
   have eD:=gO.bR
   have qj:=gO.fn.set (m:=cf.next+1) (by omega) .dead
   have mh:Ext h (hY.set (al (cf.next+1)) .dead):=rE.set (by omega) _
   have qJ:(hY.set (al (cf.next+1)) .dead).get (al cf.next)=.er:=by rw [c4,if_neg (fun q=>by have:=dW q;omega)];exact gO.fd
   generalize hY.set (al (cf.next+1)) .dead=wj at *
   rw [Rh] at qj
   simp +contextual only [Option.getD_none,qj.g,dY,V.list,aR.a1,lo,qJ,↓ak,ax,simprocAttr]
   exact mh.set (by omega) _
 · exact gO.elim
abbrev gv [Lay] (B:Nat) (h:af) (l:List Int) (v:V):Prop:=du B h 1 v l.length (pS l)
section
variable [Lay] {B:Nat} {h aa:af} {l:List Int} {v:V}
theorem gv.nil (B:Nat) (h:af):gv B h [] .b6:=⟨rfl,rfl⟩
theorem gv.add (H:gv B h l v) (c2:B≤h.next) (hlen:l.length+1≤top) (n:Int):
 ∃dn aa,kW 1 v (.slice (al h.next) 0 1 1) (h.new (.a1 [.int .i64 n] 0 false))=.val dn aa∧gv B aa (l++[n]) dn∧Mod v.aW h aa∧h.next+1≤aa.next∧dn.one=true∧dn.cells=[dn]∧∀b,dn.aW b→v.aW b∨h.next<dG b:=by
 obtain ⟨dn,aa,an,az,aN,bM,dL⟩:=yx (cs:=[.int .i64 n]) (Nat.le_refl _) H c2 (by omega) rfl rfl
 exact ⟨dn,aa,an,by (show du B aa 1 dn (l++[n]).length (pS (l++[n])));rw [aej,List.length_append];exact az,aN,bM,az.v.one.1,az.v.one.2.1,dL⟩
end
structure EP (B bX lz eM m:Nat) (sm:aP) (l:jv) (d:List (Nat × aB)) (X:aP→Prop) (h:af):Prop where
 ex:∃v,Has h bX [v]∧gv B h ((d.map Prod.snd).foldl e0 []) v∧(∀b,X b↔b=al bX∨b=al m∨b=sm∨v.aW b)
 mp:∃c0:List (Int × Bool),j2 V.bool h sm c0∧(∀n,dJ n c0=if n ∈ (d.map Prod.snd).foldl e0 [] then some true else none)
 lz:Has h lz [.map sm]
 bR:m<h.next
 kt:h.get (al m)=.cr l
 jA:eM<h.next
 fd:h.get (al eM)=.er
 NA:B≤h.next
theorem B2 (d:List (Nat × aB)) (k:Nat) (p:aB):((d++[(k,p)]).map Prod.snd).foldl e0 []=e0 ((d.map Prod.snd).foldl e0 []) p:=by
 rw [List.map_append,List.foldl_append];rfl
set_option maxHeartbeats 8000000 in
theorem akJ {fZ B bX lz eM m:Nat} {sm:aP} {l:jv} {r:aR} (c2:fZ≤bX) (r6:fZ≤m) (Oa:fZ≤dG sm) (cp:m≠bX) (gq:eM≠bX) (n3:eM≠m) (n4:lz≠bX) (n5:lz≠m) (s1:sm≠al bX) (s2:sm≠al m) (jV:sm≠al eM) (sO:sm≠al lz)
 (cC:bX<B) (ck:m<B) (hF:eM<B) (kq:lz<B) (kX:dG sm<B) (rW:fZ≤B) (F:vs Tryz.prog l 31 r [10,11] FU FV) (bb:l.st=0) (ah:l.dc=none) (cg:r 3=.ptr (al bX) 0) (c7:r 4=.ptr (al lz) 0):
 xX fZ (al m) (fun d X h=>EP B bX lz eM m sm l d X h) Lk where
 ext:=fun {d X h aa} K e=>by
  obtain ⟨v,bH,a2,a3⟩:=K.ex
  obtain ⟨c0,bz,bZ⟩:=K.mp
  exact ⟨⟨v,bH.ext e,a2.ext e,a3⟩,⟨c0,bz.ext e,bZ⟩,K.lz.ext e,Nat.lt_of_lt_of_le K.bR e.next,(e.get _ (eI K.bR)).trans K.kt,Nat.lt_of_lt_of_le K.jA e.next,(e.get _ (eI K.jA)).trans K.fd,Nat.le_trans K.NA e.next⟩
 b1:=fun {d X h} K b ag=>by
  obtain ⟨v,bH,a2,a3⟩:=K.ex
  obtain ⟨c0,bz,bZ⟩:=K.mp
  rcases (a3 b).1 ag with rfl | rfl | rfl | ag
  · exact eI bH.lt
  · exact eI K.bR
  · exact bz.b1
  · exact a2.v.b1 ag
 bR:=fun {d X h} K b ag=>by
  obtain ⟨v,bH,a2,a3⟩:=K.ex
  rcases (a3 b).1 ag with rfl | rfl | rfl | ag
  · rw [cK];exact c2
  · rw [cK];exact r6
  · exact Oa
  · have:=a2.base ag;omega
 BJ:=fun {d X h} k p ad K aZ aE um H=>by
  obtain ⟨v,bH,a2,a3⟩:=K.ex
  obtain ⟨c0,bz,bZ⟩:=K.mp
  obtain ⟨bN,rfl,L,gz⟩:=aB.open H
  have ol:=L.one
  have hm:=IQ bb ah
  refine KJ (by decide) follows cU F K.kt bb rfl ?_
  obtain ⟨ab,an,aK,bC⟩:=ga h z4 (cc p bN)
  have br:ab.get (al m)=.cr l:=(aK.get _ (eI K.bR)).trans K.kt
  have bR:=K.bR
  have jA:=K.jA
  have amK:=K.lz.lt
  have alE:=bH.lt
  have al4:=K.NA
  have uT:=aK.next
  have g11:=R2 (a:=10) (b:=11) (.int .i64 k) (.agg (cc p bN)) r (by decide)
  have g3:=xz (a:=10) (b:=11) (.int .i64 k) (.agg (cc p bN)) r (j:=3) (by decide) (by decide) (by decide)
  have g4:=xz (a:=10) (b:=11) (.int .i64 k) (.agg (cc p bN)) r (j:=4) (by decide) (by decide) (by decide)
  rw [cg] at g3
  rw [c7] at g4
  generalize ly [10,11] [V.int .i64 k,.agg (cc p bN)] r=bE at *
  refine cL ?_
  unfold FU
  simp +contextual only [g11,an,ol.1,ol.2.1,↓ak,ax,simprocAttr]
  refine ⟨br,cL ?_⟩
  have q0:∀k:Nat,k<B→¬v.aW (al k):=fun k aE q=>by have:=a2.base q;rw [cK] at this;omega
  have CE:¬v.aW sm:=fun q=>by have:=a2.base q;omega
  have bV:=bC.set (m:=m) (by omega) (.cr (l.go 1 l.dc))
  have ml:=(bH.ext aK).set (m:=m) (fun q=>cp q.symm) (.cr (l.go 1 l.dc))
  have iK:=(K.lz.ext aK).set (m:=m) n5 (.cr (l.go 1 l.dc))
  have m1:Mod (fun b=>b=al m) ab (ab.set (al m) (.cr (l.go 1 l.dc))):=(Mod.refl (fun b=>b=al m) ab).set (fun _=>rfl) _
  have mZ:gv B (ab.set (al m) (.cr (l.go 1 l.dc))) _ v:=du.mod m1 (du.ext aK a2) fun b q z=>q0 m ck (by rw [←show b=al m from z];exact q)
  have M2:=(bz.ext aK).mod m1 (fun z=>s2 z)
  have qK:(ab.set (al m) (.cr (l.go 1 l.dc))).get (al m)=.cr (l.go 1 l.dc):=by rw [c4,if_pos rfl]
  have we:(ab.set (al m) (.cr (l.go 1 l.dc))).get (al eM)=.er:=by rw [c4,if_neg (fun q=>n3 (dW q).symm)];exact (aK.get _ (eI jA)).trans K.fd
  have Lh:Mod X h (ab.set (al m) (.cr (l.go 1 l.dc))):=(aK.mod X).set (fun _=>(a3 _).2 (.inr (.inl rfl))) _
  have wK:(ab.set (al m) (.cr (l.go 1 l.dc))).next=ab.next:=rfl
  generalize ab.set (al m) (.cr (l.go 1 l.dc))=ae at *
  have hlen:((d.map Prod.snd).foldl e0 []).length≤d.length:=by have:=B1 (d.map Prod.snd) [];simpa using this
  have ix:=M2.look p.n (.bool false) false
  rw [bZ] at ix
  unfold FV
  have fz:∀(wx:e0 ((d.map Prod.snd).foldl e0 []) p=(d.map Prod.snd).foldl e0 []),∃fS,Mod X h (ae.set (al m) (.cr (l.go 0 none)))∧Grow X fS h∧EP B bX lz eM m sm l (d++[(k,p)]) fS (ae.set (al m) (.cr (l.go 0 none))):=by
   intro wx
   have m9:Mod (fun b=>b=al m) ae (ae.set (al m) (.cr (l.go 0 none))):=(Mod.refl (fun b=>b=al m) ae).set (fun _=>rfl) _
   refine ⟨X,Lh.set (fun _=>(a3 _).2 (.inr (.inl rfl))) _,fun b q=>.inl q,⟨⟨v,ml.set (fun q=>cp q.symm) _,?_,a3⟩,⟨c0,M2.mod m9 (fun z=>s2 z),?_⟩,iK.set n5 _,?_,?_,?_,?_,?_⟩⟩
   · rw [B2,wx]
     exact du.mod m9 mZ fun b q z=>q0 m ck (by rw [←show b=al m from z];exact q)
   · intro n;rw [B2,wx];exact bZ n
   · show m<ae.next;omega
   · rw [c4,if_pos rfl,hm]
   · show eM<ae.next;omega
   · rw [c4,if_neg (fun q=>n3 (dW q).symm)];exact we
   · show B≤ae.next;omega
  by_cases c:p.k=1
  · by_cases bI:p.n ∈ (d.map Prod.snd).foldl e0 []
    · rw [if_pos bI] at ix
      simp only [cond_false] at ix
      simp +contextual only [bV.g,eq_true c,g4,iK.g,ju.eq,ix,↓ak,ax,simprocAttr]
      obtain ⟨fS,bj,ct,gr⟩:=fz (by unfold e0;rw [if_neg (fun q=>q.2 bI)])
      exact ⟨qK,fS,bj,ct,.inl gr⟩
    · rw [if_neg bI] at ix
      simp only [cond_false] at ix
      obtain ⟨aG,oT,oU,kj,D3⟩:=M2.l' p.n true
      have dd:=bV.mod kj fun q=>by have:=bz.b1;unfold Old at this;rw [←q,cK] at this;omega
      have rL:=ml.mod kj fun q=>s1 q.symm
      have EJ:=iK.mod kj fun q=>sO q.symm
      have rU:gv B aG _ v:=du.mod kj mZ fun b q z=>CE (by rw [←show b=sm from z];exact q)
      have B':aG.get (al m)=.cr (l.go 1 l.dc):=(kj.get _ (eI (by omega)) (fun q=>s2 q.symm)).trans qK
      have B6:aG.get (al eM)=.er:=(kj.get _ (eI (by omega)) (fun q=>jV q.symm)).trans we
      obtain ⟨dn,ba,bS,yr,cB,hh,q9,dN,pD⟩:=gv.add rU (by omega) (by unfold top;omega) p.n
      have tq:=rL.mod cB (q0 bX cC)
      have rR:=EJ.mod cB (q0 lz kq)
      have yi:=oU.mod cB CE
      have abr:ba.get (al m)=.cr (l.go 1 l.dc):=(cB.get _ (eI (by omega)) (q0 m ck)).trans B'
      have abp:ba.get (al eM)=.er:=(cB.get _ (eI (by omega)) (q0 eM hF)).trans B6
      have wx:e0 ((d.map Prod.snd).foldl e0 []) p=(d.map Prod.snd).foldl e0 []++[p.n]:=by unfold e0;rw [if_pos ⟨c,bI⟩]
      have O_:∀k:Nat,k<B→¬dn.aW (al k):=fun k aE q=>by have:=yr.base q;rw [cK] at this;omega
      simp +contextual only [bV.g,dd.g,eq_true c,g3,g4,iK.g,rL.g,tq.g,ju.eq,ix,oT,bS,q9,dN,↓ak,ax,simprocAttr]
      have CZ:Mod (fun b=>b=al bX) ba (ba.set (al bX) (.a1 [dn] 0 false)):=(Mod.refl (fun b=>b=al bX) ba).set (fun _=>rfl) _
      have IV:∀g:af,Mod (fun b=>b=al m) g (g.set (al m) (.cr (l.go 0 none))):=fun g=>(Mod.refl (fun b=>b=al m) g).set (fun _=>rfl) _
      refine ⟨by rw [if_neg (fun q=>cp q.symm)];exact abr,fun b=>b=al bX∨b=al m∨b=sm∨dn.aW b,?_,?_,.inl ⟨⟨dn,(tq.put _).set (fun q=>cp q.symm) _,?_,fun b=>Iff.rfl⟩,⟨_,(yi.mod CZ (fun z=>s1 z)).mod (IV _) (fun z=>s2 z),?_⟩,(rR.set (m:=bX) n4 _).set n5 _,?_,?_,?_,?_,?_⟩⟩
      · exact (((Lh.trans (kj.mono fun b _ q=>(a3 b).2 (.inr (.inr (.inl q))))).trans (cB.mono fun b _ q=>(a3 b).2 (.inr (.inr (.inr q))))).set (fun _=>(a3 _).2 (.inl rfl)) _).set (fun _=>(a3 _).2 (.inr (.inl rfl))) _
      · intro b q
        rcases q with q | q | q | q
        · exact .inl ((a3 b).2 (.inl q))
        · exact .inl ((a3 b).2 (.inr (.inl q)))
        · exact .inl ((a3 b).2 (.inr (.inr (.inl q))))
        · by_cases z:v.aW b
          · exact .inl ((a3 b).2 (.inr (.inr (.inr z))))
          · rcases pD b q with z2 | z2
            · exact absurd z2 z
            · exact .inr (by omega)
      · rw [B2,wx]
        exact du.mod (IV _) (du.mod CZ yr fun b q z=>O_ bX cC (by rw [←show b=al bX from z];exact q)) fun b q z=>O_ m ck (by rw [←show b=al m from z];exact q)
      · intro n
        rw [B2,wx,Qh,bZ]
        by_cases aU:n=p.n
        · subst aU;simp
        · rw [if_neg aU]
          by_cases wK:n ∈ (d.map Prod.snd).foldl e0 []
          · rw [if_pos wK,if_pos (by simp [wK])]
          · rw [if_neg wK,if_neg (by simp [wK,aU])]
      · show m<ba.next;omega
      · rw [c4,if_pos rfl,hm]
      · show eM<ba.next;omega
      · rw [c4,if_neg (fun q=>n3 (dW q).symm),c4,if_neg (fun q=>gq (dW q).symm)];exact abp
      · show B≤ba.next;omega
  · simp +contextual only [bV.g,eq_false c,↓ak,ax,simprocAttr]
    obtain ⟨fS,bj,ct,gr⟩:=fz (by unfold e0;rw [if_neg (fun q=>c q.1)])
    exact ⟨qK,fS,bj,ct,.inl gr⟩
set_option maxHeartbeats 8000000 in
theorem Ta (p:aB) (aQ:p.size≤900000000) (ad:List V) (h:af) (H:bJ Any h p.enc ad):bB Tryz.prog 34 [.agg ad] h fun x aa=>gv h.next aa p.vars x∧Ext h aa:=by
 have eo:=H.nG
 have aT:=H.eS
 obtain ⟨bN,cS,L,_⟩:=aB.open H
 have lg:ad.length≤top:=by rw [cS];simp [top]
 have cz:ad.length=4:=by rw [cS];rfl
 have zz:(ad.length≤17179869184)=True:=eq_true lg
 refine XO rfl (cL ?_)
 unfold c34
 obtain ⟨ab,an,aK,bC⟩:=dM h ad
 obtain ⟨ae,az,aS,ml⟩:=dM ab [.b6]
 have bn:Ext ae (ae.new (.mp [] 0)):=(Ext.refl _).new _
 have rK:=j2.new V.bool ae
 have xm:(ae.new (.mp [] 0)).next=ae.next+1:=rfl
 obtain ⟨ba,bM,b2,rR⟩:=ga (ae.new (.mp [] 0)) [.jL] [.map (al ae.next)]
 rw [xm] at rR bM
 have ey:=((bC.ext aS).ext bn).ext b2
 have tq:=(ml.ext bn).ext b2
 have yi:=rK.ext b2
 have hC:=((aK.trans aS).trans bn).trans b2
 have g4:kI 4 (cb.a1 ad 0 false) 0=some (.agg ad):=by rw [zR,if_pos (by omega),List.drop_zero,List.take_of_length_le (by omega)]
 simp +contextual only [an,az,bM,xm,aT,zz,ey.g,g4,pZ,uR,aV.opt,↓ak,ax,simprocAttr]
 refine bY (KA ad ba aT lg) ?_
 rintro x cf ⟨n,rfl,mV,hp⟩
 simp +contextual only [↓ak,ax,simprocAttr]
 refine JQ (g:=86) (cs:=[.ptr (al n) 0]) (by simp only [↓ak,bL,simprocAttr]) (by decide) ⟨_,Tryz.func86,by kernel_rfl⟩ ?_
 intro l F bb ah
 have cp:=aK.next
 have gq:=aS.next
 have n4:=b2.next
 have n6:=hp.next
 have eg:=bC.lt
 have gh:=ml.lt
 have IJ:=rR.lt
 have k0:Ext cf ((cf.new .er).new (.cr l)):=((Ext.refl cf).new _).new _
 have mg:=(hC.trans hp).trans k0
 have yj:=(tq.ext hp).ext k0
 have Uj:=(rR.ext hp).ext k0
 have T1:=(yi.ext hp).ext k0
 have us:dG (al ae.next)=ae.next:=cK _
 have E:=akJ (fZ:=h.next) (B:=cf.next+2) (bX:=ab.next) (lz:=ae.next+1) (eM:=cf.next) (m:=cf.next+1) (sm:=al ae.next) (l:=l) (by omega) (by omega) (by rw [us];omega) (by omega) (by omega) (by omega) (by omega) (by omega)
  (fun q=>by have:=dW q;omega) (fun q=>by have:=dW q;omega) (fun q=>by have:=dW q;omega) (fun q=>by have:=dW q;omega) (by omega) (by omega) (by omega) (by omega) (by rw [us];omega) (by omega) F bb ah (by simp only [↓ak,bL,simprocAttr]) (by simp only [↓ak,bL,simprocAttr])
 have yh:EP (cf.next+2) ab.next (ae.next+1) cf.next (cf.next+1) (al ae.next) l [] (fun b=>b=al ab.next∨b=al (cf.next+1)∨b=al ae.next) ((cf.new .er).new (.cr l)):=by
  refine ⟨⟨.b6,yj,gv.nil _ _,fun b=>?_⟩,⟨[],T1,fun n=>by simp [dJ]⟩,Uj,by rw [eU,eU];omega,ku _,by rw [eU,eU];omega,?_,by rw [eU,eU];omega⟩
  · simp [V.aW]
  · rw [hI,if_neg (fun q=>by have:=dW q;rw [eU] at this;omega),ku]
 refine (Kz E p aQ _ ad _ (eo.ext mg) (mV.ext k0) yh).mono ?_
 rintro _ hY ⟨x,LJ,m8,Sd,aq⟩
 have rE:Ext h hY:=mg.ke m8 fun b ag=>by
  rcases ag with rfl | rfl | rfl<;>rw [cK]<;>omega
 rcases aq with ⟨rfl,gO⟩ | ⟨rfl,hX,wA,gO⟩
 · refine ⟨l,gO.kt,by rw [bb];decide,?_⟩
   rw [ah]
   have eD:=gO.bR
   obtain ⟨v,bH,a2,a3⟩:=gO.ex
   rw [Dt] at a2
   have q0:∀k:Nat,k<cf.next+2→¬v.aW (al k):=fun k aE q=>by have:=a2.base q;rw [cK] at this;omega
   have qj:=bH.set (m:=cf.next+1) (by omega) .dead
   have md:Mod (fun b=>b=al (cf.next+1)) hY (hY.set (al (cf.next+1)) .dead):=(Mod.refl (fun b=>b=al (cf.next+1)) hY).set (fun _=>rfl) _
   have Ly:=du.mod md a2 fun b q z=>q0 (cf.next+1) (by omega) (by rw [←show b=al (cf.next+1) from z];exact q)
   have mh:Ext h (hY.set (al (cf.next+1)) .dead):=rE.set (by omega) _
   have qJ:(hY.set (al (cf.next+1)) .dead).get (al cf.next)=.er:=by rw [c4,if_neg (fun q=>by have:=dW q;omega)];exact gO.fd
   generalize hY.set (al (cf.next+1)) .dead=wj at *
   have eW:=Ly.v.one
   simp +contextual only [Option.getD_none,qj.g,eW.1,eW.2.1,dY,V.list,aR.a1,lo,qJ,↓ak,ax,simprocAttr]
   refine ⟨du.mono (du.mod ((Mod.refl (fun b=>b=al cf.next) wj).set (fun _=>rfl) _) Ly fun b q z=>q0 cf.next (by omega) (by rw [←show b=al cf.next from z];exact q)) (by omega),mh.set (by omega) _⟩
 · exact gO.elim
end Go.Proofs.YthemdhlheglhoaaGreatDoor
namespace Go.Proofs.YthemdhlheglhoaaGreatDoor
open Go aX
theorem gv.fv {B:Nat} {h:af} {l:List Int} {v:V} (H:gv B h l v) (ai:l.length≤top):cw Any h 1 (l.map aX.encI) v:=du.Kc H ai
theorem Vk (l:List Int) (n:Int) (v:V) (h:af) (L:cw Any h 1 (l.map aX.encI) v):bB Tryz.prog 92 [v,.int .i64 n] h fun x aa=>x=.bool (decide (n ∈ l))∧aa=h:=by
 have ai:=L.len
 have hle:=L.le
 rw [List.length_map] at ai hle
 refine Za rfl (cL ?_)
 unfold Gq
 simp +contextual only [↓ak,ax,simprocAttr]
 refine fG (fun r g=>g=h∧r 0=v∧r 1=.int .i64 n∧∃i:Nat,r 5=.int .i64 i∧i≤l.length∧(n ∈ l↔n ∈ l.drop i)) (fun r g=>l.length - (r 5).toN) ?_ ?_
 · exact ⟨rfl,by simp only [↓ak,bL,simprocAttr],by simp only [↓ak,bL,simprocAttr],0,by simp only [↓ak,bL,simprocAttr]<;>rfl,by omega,by simp⟩
 rintro r g ⟨rfl,bE,bl,i,c1,aC,hm⟩
 unfold MF
 by_cases aL:i<l.length
 · have g0:((i:Int) < (l.length:Int))=True:=eq_true (by omega)
   obtain ⟨b,off,cD,ld⟩:=L.zI (k:=.i64) aL
   have d1:=ld g (Ext.refl g)
   have dH:=hT aL (by unfold top at hle;omega)
   have y2:l.drop i=l[i]::l.drop (i+1):=(List.drop_eq_getElem_cons aL)
   by_cases c:l[i]=n
   · simp +contextual only [bE,bl,c1,ai,g0,cD,d1,eq_true c,decide_true,↓ak,ax,simprocAttr]
     have:n ∈ l:=by rw [hm,y2,c];simp
     rw [decide_eq_true this]
   · simp +contextual only [bE,bl,c1,ai,g0,cD,d1,eq_false c,decide_false,dH,↓ak,ax,simprocAttr]
     refine ⟨⟨i+1,rfl,aL,?_⟩,by omega⟩
     rw [hm,y2,List.mem_cons]
     exact ⟨fun q=>by rcases q with q | q;exact absurd q.symm c;exact q,.inr⟩
 · have g0:((i:Int) < (l.length:Int))=False:=eq_false (by omega)
   simp +contextual only [bE,bl,c1,ai,g0,↓ak,ax,simprocAttr]
   have:¬n ∈ l:=by rw [hm,List.drop_eq_nil_of_le (by omega)];simp
   rw [decide_eq_false this]
set_option maxHeartbeats 4000000 in
theorem R_:∀(N:Nat) (t:aB),t.size≤N→N≤1000000000→∀(B:Nat) (out:List Int) (ad:List V) (eW:V) (h:af),bJ (fun b=>dG b<B) h t.enc ad→gv B h out eW→B≤h.next→out.length+t.size≤1000000000→
 bB Tryz.prog 67 [.agg ad,eW] h fun x aa=>gv B aa (t.u_ out) x∧Mod eW.aW h aa∧∀b,x.aW b→eW.aW b∨h.next≤dG b
 | 0,t,aQ,_,_,_,_,_,_,_,_,_,_=>by have:=lu t;omega
 | N+1,t,aQ,r8,B,out,ad,eW,h,H,O,c2,hlen=>by
   obtain ⟨bN,rfl,L,gz⟩:=aB.open H
   have bG:N≤1000000000:=by omega
   have ol:=L.one
   have sB:=O.v.one
   have ai:=L.len
   have hle:=L.le
   rw [List.length_map] at ai hle
   have ca:=size_eq t
   refine Yw rfl (cL ?_)
   unfold Ga
   obtain ⟨ab,an,aK,bC⟩:=dM h (cc t bN)
   have A7:gv B ab out eW:=du.ext aK O
   have cp:=aK.next
   have zO:=bC.lt
   have ahy:¬eW.aW (al h.next):=fun q=>z' (Nat.le_refl _) (O.v.b1 q)
   rw [akK]
   have kids:∀{g0:af} {v0:V} (Bf:gv B g0 (e0 out t) v0) (Lf:Mod eW.aW ab g0) (K5:∀b,v0.aW b→eW.aW b∨h.next<dG b) {r:aR} (bl:r 1=v0) (bT:r 2=.ptr (al h.next) 0) (c1:r 5=.int .i64 0) {Q:de→aR→af→Prop}
    (cZ:∀e r g,e.ends→gv B g (oV t.l (e0 out t)) (r 4)→Mod eW.aW h g→(∀b,(r 4).aW b→eW.aW b∨h.next≤dG b)→Q e r g),
    uM Tryz.prog Gb [.aW 0,.c (.seq (bx.ar [⟨(some 35),.fH (.t 1),none,[1]⟩,⟨(some 4),.fH (.t 35),none,[35]⟩]) (bx.ret))] r g0 Q:=by
    intro g0 v0 Bf Lf K5 r bl bT c1 Q cZ
    refine fG (fun r g=>r 2=.ptr (al h.next) 0∧∃(i:Nat) (w:V),r 1=w∧r 5=.int .i64 i∧i≤t.l.length∧gv B g (oV (t.l.take i) (e0 out t)) w∧Mod eW.aW ab g∧∀b,w.aW b→eW.aW b∨h.next<dG b) (fun r g=>t.l.length - (r 5).toN) ?_ ?_
    · exact ⟨bT,0,v0,bl,c1,by omega,by rw [List.take_zero];exact Bf,Lf,K5⟩
    clear bl bT c1
    rintro r g ⟨bT,i,w,bl,c1,aC,W,M,F⟩
    unfold Gb
    have hB:=bC.mod M ahy
    have mj:=L.mod (dR:=fun b=>dG b<B) ((aK.mod eW.aW).trans M) fun b q _=>⟨fun z=>by have:=O.base z;omega,q⟩
    have di:=W.v.one
    have uP:=M.next
    by_cases aL:i<t.l.length
    · have tN:((i:Int) < (t.l.length:Int))=True:=eq_true (by omega)
      obtain ⟨b,off,wl,cD,X,fI,ld⟩:=aB.hN mj (k:=.i64) aL
      have d1:=ld g (Ext.refl g)
      have dH:=hT aL (by unfold top at hle;omega)
      have bo:=l9 (t:=t) (List.getElem_mem aL)
      have aF:=Dv aL
      have O8:=xw t.l (i+1)
      have bs:=B1 (jQ (t.l.take i)) (e0 out t)
      have bq:=LN out t
      rw [Du] at bs
      have Im:(oV (t.l.take i) (e0 out t)).length≤(e0 out t).length+c9 (t.l.take i):=bs
      simp +contextual only [bl,bT,c1,hB.g,ai,tN,cD,d1,↓ak,ax,simprocAttr]
      refine bY (R_ N t.l[i] (by omega) bG B _ _ w g X W (by omega) (by omega)) ?_
      rintro x g2 ⟨mZ,M2,xY⟩
      have xZ:∀b,x.aW b→eW.aW b∨h.next<dG b:=fun b q=>by
       rcases xY b q with z | z
       · exact F b z
       · exact .inr (by omega)
      have rK:Mod eW.aW ab g2:=by
       refine ⟨Nat.le_trans M.next M2.next,fun b ag q=>?_⟩
       refine (M2.get b (M.b1 ag) fun z=>?_).trans (M.get b ag q)
       rcases F b z with z | z
       · exact q z
       · have:ab.next=h.next+1:=by rw [←an];rfl
         unfold Old at ag;omega
      have dA:=mZ.v.one
      simp +contextual only [bl,bT,c1,dA.1,dA.2.1,dH,↓ak,ax,simprocAttr]
      refine ⟨⟨i+1,rfl,aL,?_,rK,xZ⟩,by omega⟩
      rw [take_one aL,akL,akM]
      exact mZ
    · have tN:((i:Int) < (t.l.length:Int))=False:=eq_false (by omega)
      rw [List.take_of_length_le (by omega)] at W
      simp +contextual only [bl,bT,c1,hB.g,ai,tN,di.1,di.2.1,↓ak,ax,simprocAttr]
      refine cZ _ _ _ (by trivial) ?_ ((aK.mod _).trans M) ?_
      · simp only [↓ak,bL,simprocAttr];exact W
      · simp only [↓ak,bL,simprocAttr];exact fun b q=>by
         rcases F b q with z | z
         · exact .inl z
         · exact .inr (by omega)
   by_cases c:t.k=1
   · simp +contextual only [ol.1,ol.2.1,sB.1,sB.2.1,an,bC.g,eq_true c,↓ak,ax,simprocAttr]
     refine bY (Vk out t.n eW ab (gv.fv A7 (by unfold top;omega))) ?_
     rintro x fE ⟨rfl,bf⟩
     rw [bf]
     by_cases bI:t.n ∈ out
     · have bq:e0 out t=out:=by unfold e0;rw [if_neg (fun q=>q.2 bI)]
       rw [bq] at kids
       simp +contextual only [ol.1,ol.2.1,sB.1,sB.2.1,bC.g,eq_true bI,decide_true,decide_false,↓ak,ax,simprocAttr]
       rw [bq]
       exact kids A7 (Mod.refl _ _) (fun b q=>.inl q) (by simp only [↓ak,bL,simprocAttr]) (by simp only [↓ak,bL,simprocAttr]) (by simp only [↓ak,bL,simprocAttr]) fun e r g he a b c=>⟨he,a,b,c⟩
     · have bq:e0 out t=out++[t.n]:=by unfold e0;rw [if_pos ⟨c,bI⟩]
       obtain ⟨dn,g0,bS,Bf,cB,hh,hy,vM,pD⟩:=gv.add A7 (by omega) (by unfold top;omega) t.n
       rw [bq] at kids
       simp +contextual only [ol.1,ol.2.1,sB.1,sB.2.1,bC.g,eq_false bI,decide_true,decide_false,bS,hy,vM,↓ak,ax,simprocAttr]
       rw [bq]
       exact kids Bf cB (fun b q=>by
        rcases pD b q with z | z
        · exact .inl z
        · exact .inr (by omega)) (by simp only [↓ak,bL,simprocAttr]) (by simp only [↓ak,bL,simprocAttr]) (by simp only [↓ak,bL,simprocAttr]) fun e r g he a b c=>⟨he,a,b,c⟩
   · have bq:e0 out t=out:=by unfold e0;rw [if_neg (fun q=>c q.1)]
     rw [bq] at kids
     simp +contextual only [ol.1,ol.2.1,sB.1,sB.2.1,an,bC.g,eq_false c,↓ak,ax,simprocAttr]
     rw [bq]
     exact kids A7 (Mod.refl _ _) (fun b q=>.inl q) (by simp only [↓ak,bL,simprocAttr]) (by simp only [↓ak,bL,simprocAttr]) (by simp only [↓ak,bL,simprocAttr]) fun e r g he a b c=>⟨he,a,b,c⟩
theorem Sa (t:aB) (aQ:t.size≤900000000) (ad:List V) (h:af) (H:bJ Any h t.enc ad):bB Tryz.prog 35 [.agg ad] h fun x aa=>gv h.next aa t.vars x∧Ext h aa:=by
 have eo:=H.nG
 obtain ⟨bN,rfl,L,gz⟩:=aB.open H
 have ol:=L.one
 refine XR rfl (cL ?_)
 unfold FW
 obtain ⟨ab,an,aK,bC⟩:=dM h (cc t bN)
 have cp:=aK.next
 simp +contextual only [ol.1,ol.2.1,an,bC.g,↓ak,ax,simprocAttr]
 refine bY (R_ _ t (Nat.le_refl _) (by omega) ab.next [] _ .b6 ab ((eo.ext aK).fg fun b q=>by unfold Old at q;omega) (gv.nil _ _) (Nat.le_refl _) (by simp;omega)) ?_
 rintro x ae ⟨W,M,F⟩
 have di:=W.v.one
 simp +contextual only [di.1,di.2.1,↓ak,ax,simprocAttr]
 exact ⟨du.mono W cp,aK.trans (M.ext fun b _ q=>q)⟩
theorem ajJ (l m:List Int) (v w:V) (h:af) (L:cw Any h 1 (l.map aX.encI) v) (M:cw Any h 1 (m.map aX.encI) w):bB Tryz.prog 33 [v,w] h fun x aa=>x=.bool (decide (l=m))∧aa=h:=by
 have ai:=L.len
 have hm:=M.len
 have hle:=L.le
 rw [List.length_map] at ai hm hle
 refine XL rfl (cL ?_)
 unfold FT
 by_cases aA:l.length=m.length
 · have f0:((l.length:Int)=(m.length:Int))=True:=eq_true (by omega)
   simp +contextual only [ai,hm,f0,decide_true,decide_false,↓ak,ax,simprocAttr]
   refine fG (fun r g=>r 0=v∧r 1=w∧g=h∧∃i:Nat,r 5=.int .i64 i∧i≤l.length∧(l=m↔l.drop i=m.drop i)) (fun r g=>l.length - (r 5).toN) ?_ ?_
   · exact ⟨by simp only [↓ak,bL,simprocAttr],by simp only [↓ak,bL,simprocAttr],rfl,0,by simp only [↓ak,bL,simprocAttr]<;>rfl,by omega,by simp⟩
   rintro r g ⟨bE,bl,rfl,i,c1,aC,ah⟩
   unfold Mt
   by_cases aL:i<l.length
   · have g0:((i:Int) < (l.length:Int))=True:=eq_true (by omega)
     have wH:i<m.length:=by omega
     obtain ⟨b,off,cD,ld⟩:=L.zI (k:=.i64) aL
     obtain ⟨ck,Ab,kF,l2⟩:=M.zI (k:=.i64) wH
     have d1:=ld g (Ext.refl g)
     have d2:=l2 g (Ext.refl g)
     have dH:=hT aL (by unfold top at hle;omega)
     have tV:l.drop i=l[i]::l.drop (i+1):=List.drop_eq_getElem_cons aL
     have tW:m.drop i=m[i]::m.drop (i+1):=List.drop_eq_getElem_cons wH
     by_cases c:l[i]=m[i]
     · simp +contextual only [bE,bl,c1,ai,g0,cD,kF,d1,d2,eq_true c,decide_true,dH,↓ak,ax,simprocAttr]
       refine ⟨⟨i+1,rfl,aL,?_⟩,by omega⟩
       rw [ah,tV,tW,c,List.cons.injEq];simp
     · simp +contextual only [bE,bl,c1,ai,g0,cD,kF,d1,d2,eq_false c,decide_false,dH,↓ak,ax,simprocAttr]
       rw [decide_eq_false (fun q=>c (by have:=ah.1 q;rw [tV,tW,List.cons.injEq] at this;exact this.1))]
   · have g0:((i:Int) < (l.length:Int))=False:=eq_false (by omega)
     have:l=m:=ah.2 (by rw [List.drop_eq_nil_of_le (by omega),List.drop_eq_nil_of_le (by omega)])
     simp +contextual only [bE,bl,c1,ai,g0,↓ak,ax,simprocAttr]
     rw [decide_eq_true this]
 · have f0:((l.length:Int)=(m.length:Int))=False:=eq_false (by omega)
   simp +contextual only [ai,hm,f0,decide_true,decide_false,↓ak,ax,simprocAttr]
   rw [decide_eq_false (fun q=>aA (by rw [q]))]
end Go.Proofs.YthemdhlheglhoaaGreatDoor
namespace Go.Proofs.YthemdhlheglhoaaGreatDoor
open Go aX
set_option maxHeartbeats 4000000 in
theorem MM:∀(N:Nat) (t:aB),t.size≤N→N≤1000000000→∀(ad:List V) (h:af),bJ Any h t.enc ad→bB Tryz.prog 90 [.agg ad] h fun x aa=>∃w,x=.agg (cc t w)∧eA aa (fD h.next aa.next) t.l w∧Ext h aa
 | 0,t,aQ,_,_,_,_=>by have:=lu t;omega
 | N+1,t,aQ,r8,ad,h,H=>by
   obtain ⟨bN,rfl,L,_⟩:=aB.open H
   have bG:N≤1000000000:=by omega
   have ol:=L.one
   have ai:=L.len
   have hle:=L.le
   rw [List.length_map] at ai hle
   have ca:=size_eq t
   have hx:=oN t.l
   refine Y6 rfl (cL ?_)
   unfold Gn
   obtain ⟨ab,an,aK,bC⟩:=dM h (cc t bN)
   obtain ⟨ae,az,aS,hl⟩:=dM ab z4
   have bV:=bC.ext aS
   have cp:=aK.next
   have gq:=aS.next
   have bH:=bC.lt
   have aiN:=hl.lt
   have dd:=bV.put (cc t .b6)
   have hV:=hl.set (m:=h.next) (by omega) (.a1 (cc t .b6) 0 false)
   have en:Ext h (ae.set (al h.next) (.a1 (cc t .b6) 0 false)):=(aK.trans aS).set (Nat.le_refl _) _
   have n3:(ae.set (al h.next) (.a1 (cc t .b6) 0 false)).next=ae.next:=rfl
   simp +contextual only [ol.1,ol.2.1,an,az,bV.g,ai,↓ak,ax,simprocAttr]
   generalize ae.set (al h.next) (.a1 (cc t .b6) 0 false)=aG at *
   refine fG (fun r g=>r 1=.ptr (al h.next) 0∧r 2=.ptr (al ab.next) 0∧r 9=bN∧r 10=.int .i64 t.l.length∧∃(i:Nat) (w:V),r 11=.int .i64 i∧i≤t.l.length∧Has g h.next (cc t w)∧Has g ab.next z4∧
    eA g (fD aG.next g.next) (t.l.take i) w∧Ext h g∧aG.next≤g.next) (fun r g=>t.l.length - (r 11).toN) ?_ ?_
   · exact ⟨by simp only [↓ak,bL,simprocAttr],by simp only [↓ak,bL,simprocAttr],by simp only [↓ak,bL,simprocAttr],by simp only [↓ak,bL,simprocAttr],0,.b6,by simp only [↓ak,bL,simprocAttr]<;>rfl,by omega,dd,hV,eA.nil _ _,en,Nat.le_refl _⟩
   rintro r g ⟨bl,bT,JN,sI,i,w,JK,aC,A,R,W,E,aH⟩
   unfold MD
   have lA:=W.one
   by_cases aL:i<t.l.length
   · have g0:((i:Int) < (t.l.length:Int))=True:=eq_true (by omega)
     obtain ⟨b,off,wl,cD,X,fI,ld⟩:=aB.hN (L.ext E) (k:=.i64) aL
     have rZ:=ld g (Ext.refl g)
     have di:=fI.one
     have dH:=hT aL (by unfold top at hle;omega)
     have ac0:=l9 (t:=t) (List.getElem_mem aL)
     obtain ⟨g1,ek,bj,Z⟩:=ga g z4 (cc t.l[i] wl)
     have tb:=A.ext bj
     simp +contextual only [bl,bT,JN,sI,JK,g0,cD,rZ,ek,Z.g,A.g,tb.g,di.1,di.2.1,lA.1,lA.2.1,↓ak,ax,simprocAttr]
     refine bY (MM N t.l[i] (by omega) bG _ g1 (X.ext bj)) ?_
     rintro x g2 ⟨u,rfl,U,ct⟩
     have xP:=bj.trans ct
     have xR:=A.ext xP
     have ED:=R.ext xP
     have Bh:=Z.ext ct
     have alp:=Z.lt
     have uT:=bj.next
     have p1:=ct.next
     have dh:=U.one
     have gz:t.l[i].s.length≤top:=by obtain ⟨_,_,_,q⟩:=aB.open X;exact q
     obtain ⟨ao,g3,bS,b0,cB,hh⟩:=(W.ext xP).add (t:=t.l[i]) (T:=fD g1.next g2.next) (u:=u) U (fun b q z=>by unfold fD at q z;omega) (fun b q=>by unfold fD at q;unfold Old;omega) (fun b q=>by unfold fD at q;unfold Old;omega) (by rw [List.length_take];unfold top;omega) gz
     have mx:∀n,n<aG.next→¬w.aW (al n):=fun n aU q=>by have:=W.bs _ q;unfold fD at this;rw [cK] at this;omega
     have xS:=xR.mod cB (mx _ (by omega))
     have EE:=ED.mod cB (mx _ (by omega))
     have Ah:=b0.one
     have en:Ext h g3:=(E.trans xP).ke cB fun b q=>by have:=W.bs _ q;unfold fD at this;omega
     have f1:(g2.next=h.next)=False:=eq_false (by omega)
     simp +contextual only [f1,if_false,bl,bT,JN,sI,JK,Z.g,Bh.g,A.g,tb.g,xR.g,xS.g,dh.1,dh.2.1,lA.1,lA.2.1,Ah.1,Ah.2.1,bS,dH,↓ak,ax,simprocAttr]
     refine ⟨⟨i+1,ao,rfl,aL,xS.put _,EE.set (by omega) _,?_,en.set (by omega) _,by omega⟩,by omega⟩
     rw [take_one aL]
     refine (b0.fg fun b q=>?_).mod ((Mod.refl (fun x=>x=al h.next) g3).set (fun _=>rfl) _) fun b q z=>?_
     · unfold fD at q ⊢;have:=cB.next;omega
     · rw [show b=al h.next from z] at q;unfold fD at q;rw [cK] at q;omega
   · have g0:((i:Int) < (t.l.length:Int))=False:=eq_false (by omega)
     rw [List.take_of_length_le (by omega)] at W
     have f1:(ab.next=h.next)=False:=eq_false (by omega)
     have f2:(h.next=ab.next)=False:=eq_false (by omega)
     simp +contextual only [bl,bT,JN,sI,JK,g0,R.g,A.g,lA.1,lA.2.1,f1,f2,↓ak,ax,simprocAttr]
     refine ⟨_,rfl,(W.mod ((Mod.refl (fun x=>x=al ab.next) g).set (fun _=>rfl) _) fun b q z=>?_).fg fun b q=>?_,E.set (by omega) _⟩
     · rw [show b=al ab.next from z] at q;unfold fD at q;rw [cK] at q;omega
     · unfold fD at q ⊢;exact ⟨by omega,q.2⟩
section
variable [Lay]
def mc (F:aP→Prop) (h:af):List (Int × List V)→fp→Prop
 | [],[]=>True
 | (n,cs)::c0,(m,t)::s=>n=m∧bJ F h t.enc cs∧mc F h c0 s
 | _,_=>False
structure h3 (F:aP→Prop) (h:af) (b:aP) (s:fp):Prop where
 ex:∃c0,j2 V.agg h b c0∧mc F h c0 s
variable {F:aP→Prop} {h aa:af} {b:aP} {s:fp} {c0:List (Int × List V)}
theorem mc.mod {dR M:aP→Prop} (m:Mod M h aa) (cY:∀b,F b→Old h b→¬M b∧dR b) (A:mc F h c0 s):mc dR aa c0 s:=by
 induction c0 generalizing s with
 | nil=>cases s with
   | nil=>trivial
   | cons p s=>exact A.elim
 | cons p c0 bk=>cases s with
   | nil=>exact A.elim
   | cons q s=>
     obtain ⟨bH,a2,a3⟩:=A
     exact ⟨bH,a2.mod m cY,bk a3⟩
theorem mc.ext (e:Ext h aa) (A:mc F h c0 s):mc F aa c0 s:=A.mod (e.mod fun _=>False) fun b q _=>⟨fun z=>z,q⟩
theorem mc.look (A:mc F h c0 s) (n:Int):(dJ n s=none∧dJ n c0=none)∨∃t cs,dJ n s=some t∧dJ n c0=some cs∧bJ F h t.enc cs:=by
 induction c0 generalizing s with
 | nil=>cases s with
   | nil=>exact .inl ⟨rfl,rfl⟩
   | cons p s=>exact A.elim
 | cons p c0 bk=>cases s with
   | nil=>exact A.elim
   | cons q s=>
     obtain ⟨a,cs⟩:=p
     obtain ⟨c,t⟩:=q
     obtain ⟨bH,a2,a3⟩:=A
     subst bH
     simp only [dJ]
     by_cases aU:n=a
     · rw [if_pos aU,if_pos aU];exact .inr ⟨t,cs,rfl,rfl,a2⟩
     · rw [if_neg aU,if_neg aU];exact bk a3
theorem mc.put (A:mc F h c0 s) (n:Int) {t:aB} {cs:List V} (H:bJ F h t.enc cs):mc F h (mI n cs c0) (mI n t s):=by
 induction c0 generalizing s with
 | nil=>cases s with
   | nil=>exact ⟨rfl,H,trivial⟩
   | cons p s=>exact A.elim
 | cons p c0 bk=>cases s with
   | nil=>exact A.elim
   | cons q s=>
     obtain ⟨a,kZ⟩:=p
     obtain ⟨c,rp⟩:=q
     obtain ⟨bH,a2,a3⟩:=A
     subst bH
     simp only [mI]
     by_cases aU:n=a
     · rw [if_pos aU,if_pos aU];exact ⟨rfl,H,a3⟩
     · rw [if_neg aU,if_neg aU];exact ⟨rfl,a2,bk a3⟩
theorem h3.ext (H:h3 F h b s) (e:Ext h aa):h3 F aa b s:=by
 obtain ⟨c0,bH,a2⟩:=H.ex
 exact ⟨c0,bH.ext e,a2.ext e⟩
theorem h3.mod {dR M:aP→Prop} (H:h3 F h b s) (m:Mod M h aa) (ag:¬M b) (cY:∀b,F b→Old h b→¬M b∧dR b):h3 dR aa b s:=by
 obtain ⟨c0,bH,a2⟩:=H.ex
 exact ⟨c0,bH.mod m ag,a2.mod m cY⟩
theorem h3.look (H:h3 F h b s) (n:Int) (z:V) (ok:Bool):(dJ n s=none∧nD ks z ok h (.map b) (.int .i64 n)=some (bif ok then .tuple [z,.bool false] else z))∨
 ∃t cs,dJ n s=some t∧bJ F h t.enc cs∧nD ks z ok h (.map b) (.int .i64 n)=some (bif ok then .tuple [.agg cs,.bool true] else .agg cs):=by
 obtain ⟨c0,bH,a2⟩:=H.ex
 have ix:=bH.look n z ok
 rcases a2.look n with ⟨aK,aS⟩ | ⟨t,cs,aK,aS,bn⟩
 · rw [aS] at ix;exact .inl ⟨aK,ix⟩
 · rw [aS] at ix;exact .inr ⟨t,cs,aK,bn,ix⟩
theorem h3.l' (H:h3 F h b s) (n:Int) {t:aB} {cs:List V} (K:bJ F h t.enc cs) (gS:¬F b):∃aa,mN ks h (.map b) (.int .i64 n) (.agg cs)=some aa∧h3 F aa b (mI n t s)∧Mod (fun p=>p=b) h aa∧aa.next=h.next:=by
 obtain ⟨c0,bH,a2⟩:=H.ex
 obtain ⟨aa,oT,oU,kj,D3⟩:=bH.l' n cs
 exact ⟨aa,oT,⟨_,oU,(a2.put n K).mod kj fun p q _=>⟨fun z=>gS (by rw [←show p=b from z];exact q),q⟩⟩,kj,D3⟩
theorem h3.new (F:aP→Prop) (h:af):h3 F (h.new (.mp [] 0)) (al h.next) []:=⟨[],j2.new V.agg h,trivial⟩
end
end Go.Proofs.YthemdhlheglhoaaGreatDoor
namespace Go.Proofs.YthemdhlheglhoaaGreatDoor
open Go aX
abbrev Fr (eh:Nat):aP→Prop:=fun b=>b≠al eh
theorem aiF (s:fp) {l:List aB} {i:Nat} {ρ:Int} (h:i<l.length) (ad4:¬ρ<0):fX s (l.drop i) ρ=((l[i].h1 s ρ).1::(fX s (l.drop (i+1)) (l[i].h1 s ρ).2).1,(fX s (l.drop (i+1)) (l[i].h1 s ρ).2).2):=by
 rw [List.drop_eq_getElem_cons h,fX,if_neg ad4]
set_option maxHeartbeats 16000000 in
theorem RC (s:fp) (ug:∀n u,dJ n s=some u→u.size≤900000000):∀(N:Nat) (t:aB),t.size≤N→N≤900000000→∀(ρ:Int) (ew:aP) (eh:Nat) (ad:List V) (h:af),0≤ρ→ρ≤1000000000→ew≠al eh→bJ (Fr eh) h t.enc ad→h3 (Fr eh) h ew s→Has h eh [.int .i64 ρ]→
 bB Tryz.prog 60 [.map ew,.agg ad,.ptr (al eh) 0] h fun x aa=>∃w,x=.agg (cc (t.h1 s ρ).1 w)∧eA aa (fD h.next aa.next) (t.h1 s ρ).1.l w∧(t.h1 s ρ).1.s.length≤top∧Has aa eh [.int .i64 (t.h1 s ρ).2]∧Mod (fun b=>b=al eh) h aa
 | 0,t,aQ,_,_,_,_,_,_,_,_,_,_,_,_=>by have:=lu t;omega
 | N+1,t,aQ,r8,ρ,ew,eh,ad,h,ami,amj,pK,H,mU,rO=>by
   have eo:=H
   obtain ⟨bN,rfl,L,gz⟩:=aB.open H
   have bG:N≤900000000:=by omega
   have ol:=L.one
   have ai:=L.len
   have hle:=L.le
   rw [List.length_map] at ai hle
   have ca:=size_eq t
   have hx:=oN t.l
   refine Yl rfl (cL ?_)
   unfold F8
   obtain ⟨ab,an,aK,bC⟩:=dM h (cc t bN)
   obtain ⟨ae,az,aS,hl⟩:=dM ab z4
   have bV:=bC.ext aS
   have cQ:=aK.trans aS
   have cp:=aK.next
   have gq:=aS.next
   have zO:=bC.lt
   have IS:=hl.lt
   have amu:=rO.lt
   have M2:=mU.ext cQ
   have EG:=rO.ext cQ
   rw [aiE]
   have rest:∀(cz:af) (iI:Has cz h.next (cc t .b6)) (vx:Has cz ab.next z4) (A_:Has cz eh [.int .i64 (ρ-1)]) (tp:Mod (fun b=>b=al eh) h cz) (n3:ae.next≤cz.next) {r:aR} {Q:de→aR→af→Prop} (bE:r 0=.map ew) (bT:r 2=.ptr (al eh) 0) (c7:r 4=.ptr (al h.next) 0) (eQ:r 6=.ptr (al ab.next) 0) (sJ:r 42=bN) (sK:r 43=.int .i64 t.l.length) (sL:r 44=.int .i64 0)
    (cZ:∀e r g w,e.ends→r 6=.ptr (al ab.next) 0→Has g ab.next (cc (.mk t.k t.n t.s (fX s t.l (ρ-1)).1) w)→eA g (fD h.next g.next) (fX s t.l (ρ-1)).1 w→Has g eh [.int .i64 (fX s t.l (ρ-1)).2]→Mod (fun b=>b=al eh) h g→Q e r g),
    uM Tryz.prog F9 [.aW 0,.c (bx.seq (bx.ar [⟨(some 62),.kd 4 (.t 4),none,[4]⟩,⟨none,.st 4 (.t 6) (.t 62),none,[6,62]⟩]) (bx.ret))] r cz Q:=by
    intro cz iI vx A_ tp n3 r Q bE bT c7 eQ sJ sK sL cZ
    refine fG (fun r g=>r 0=.map ew∧r 2=.ptr (al eh) 0∧r 4=.ptr (al h.next) 0∧r 6=.ptr (al ab.next) 0∧r 42=bN∧r 43=.int .i64 t.l.length∧∃(i:Nat) (nS:Int) (rZ:List aB) (w:V),r 44=.int .i64 i∧i≤t.l.length∧-900000000≤nS∧nS≤ρ∧rZ.length≤i∧Has g eh [.int .i64 nS]∧Has g h.next (cc t w)∧Has g ab.next z4∧
     eA g (fD cz.next g.next) rZ w∧Mod (fun b=>b=al eh) h g∧cz.next≤g.next∧fX s t.l (ρ-1)=(rZ++(fX s (t.l.drop i) nS).1,(fX s (t.l.drop i) nS).2)) (fun r g=>t.l.length - (r 44).toN) ?_ ?_
    · exact ⟨bE,bT,c7,eQ,sJ,sK,0,ρ-1,[],.b6,sL,by omega,by omega,by omega,Nat.le_refl _,A_,iI,vx,eA.nil _ _,tp,Nat.le_refl _,by simp⟩
    clear bE bT c7 eQ sJ sK sL
    rintro r g ⟨bE,bT,c7,eQ,sJ,sK,i,nS,rZ,w,sL,aC,amk,aml,Ot,rO,A,R,W,M,aH,ah⟩
    unfold F9
    have lA:=W.one
    have f1:(ab.next=h.next)=False:=eq_false (by omega)
    have f2:(h.next=ab.next)=False:=eq_false (by omega)
    have finish:∀(fF:fX s t.l (ρ-1)=(rZ,nS)) {g1:af} (bj:Ext g g1) {r:aR} {e:de},e.ends→r 6=.ptr (al ab.next) 0→Q e r (g1.set (al ab.next) (.a1 [.int .i64 t.k,.int .i64 t.n,.str t.s,w] 0 false)):=by
     intro fF g1 bj r e he aiO
     have xm:=bj.next
     refine cZ e r _ w he aiO ?_ ?_ ?_ ((M.trans (bj.mod _)).fresh cp _)
     · rw [fF];exact (R.ext bj).put _
     · rw [fF]
       refine ((W.ext bj).mod ((Mod.refl (fun x=>x=al ab.next) g1).set (fun _=>rfl) _) fun b q z=>?_).fg fun b q=>?_
       · rw [show b=al ab.next from z] at q;unfold fD at q;rw [cK] at q;omega
       · unfold fD at q ⊢;exact ⟨by omega,by rw [mF];omega⟩
     · rw [fF];exact (rO.ext bj).set (by omega) _
    by_cases aL:i<t.l.length
    · have g0:((i:Int) < (t.l.length:Int))=True:=eq_true (by omega)
      obtain ⟨b,off,wl,cD,X,fI,ld⟩:=aB.hN (L.mod (dR:=Fr eh) M fun b q _=>⟨q,q⟩) (k:=.i64) aL
      have M9:=ld g (Ext.refl g)
      have di:=fI.one
      have dH:=hT aL (by unfold top at hle;omega)
      have ac0:=l9 (t:=t) (List.getElem_mem aL)
      obtain ⟨g1,ek,bj,Z⟩:=ga g z4 (cc t.l[i] wl)
      have tb:=A.ext bj
      have A':=R.ext bj
      have EF:=rO.ext bj
      by_cases qT:nS<0
      · rw [Ap s _ _ qT,List.append_nil] at ah
        have Rg:Has g1 ab.next z4:=A'
        simp +contextual only [bE,bT,c7,eQ,sJ,sK,sL,g0,cD,M9,ek,Z.g,A.g,tb.g,A'.g,rO.g,EF.g,eq_true qT,di.1,di.2.1,lA.1,lA.2.1,f1,f2,↓ak,ax,simprocAttr]
        exact finish ah bj (by trivial) (by simp only [↓ak,bL,simprocAttr,eQ])
      · have H5:=aiF s aL qT
        simp +contextual only [bE,bT,c7,eQ,sJ,sK,sL,g0,cD,M9,ek,Z.g,A.g,tb.g,A'.g,rO.g,EF.g,eq_false qT,di.1,di.2.1,lA.1,lA.2.1,f1,f2,↓ak,ax,simprocAttr]
        have T2:=(mU.mod (dR:=Fr eh) M (fun z=>pK z) fun b q _=>⟨q,q⟩).ext bj
        have hlen:=Rx s t.l (ρ-1)
        refine bY (RC s ug N t.l[i] (by omega) bG nS ew eh _ g1 (by omega) (by omega) pK (X.ext bj) T2 EF) ?_
        rintro x g2 ⟨u,rfl,U,uw,Uf,m2⟩
        have uT:=bj.next
        have p1:=m2.next
        have alp:=Z.lt
        have H_:∀n,n≠eh→al n≠al eh:=fun n aU q=>aU (dW q)
        have xR:=tb.mod m2 (H_ _ (by omega))
        have ED:=A'.mod m2 (H_ _ (by omega))
        have U0:=Z.mod m2 (H_ _ (by omega))
        have mZ:=(W.ext bj).mod m2 fun b q z=>by rw [show b=al eh from z] at q;unfold fD at q;rw [cK] at q;omega
        have dh:=U.one
        have al9:=Rv s 900000000 (by omega) ug t.l[i] nS (by omega)
        generalize hu:(t.l[i].h1 s nS).1=pu at *
        generalize amh:(t.l[i].h1 s nS).2=alq at *
        obtain ⟨ao,g3,bS,b0,cB,hh⟩:=mZ.add (t:=pu) (T:=fD g1.next g2.next) (u:=u) U (fun b q z=>by unfold fD at q z;omega) (fun b q=>by unfold fD at q;unfold Old;omega) (fun b q=>by unfold fD at q;unfold Old;omega) (by unfold top;omega) uw
        have mx:∀n,n<cz.next→¬w.aW (al n):=fun n aU q=>by have:=W.bs _ q;unfold fD at this;rw [cK] at this;omega
        have xS:=xR.mod cB (mx _ (by omega))
        have EE:=ED.mod cB (mx _ (by omega))
        have Ug:=Uf.mod cB (mx _ (by omega))
        have Ah:=b0.one
        have rK:Mod (fun b=>b=al eh) h g3:=((M.trans (bj.mod _)).trans m2).SU cB fun b q=>by have:=W.bs _ q;unfold fD at this;omega
        have f3:(g2.next=h.next)=False:=eq_false (by omega)
        have f4:(g2.next=g.next)=False:=eq_false (by omega)
        simp +contextual only [f3,f4,if_false,bE,bT,c7,eQ,sJ,sK,sL,Z.g,U0.g,A.g,tb.g,xR.g,xS.g,dh.1,dh.2.1,lA.1,lA.2.1,Ah.1,Ah.2.1,bS,dH,↓ak,ax,simprocAttr]
        refine ⟨⟨i+1,alq,rZ++[pu],ao,rfl,aL,by omega,by omega,by rw [List.length_append,List.length_singleton];omega,Ug.set (by omega) _,xS.put _,EE.set (by omega) _,?_,rK.fresh (Nat.le_refl _) _,by omega,?_⟩,by omega⟩
        · refine (b0.fg fun b q=>?_).mod ((Mod.refl (fun x=>x=al h.next) g3).set (fun _=>rfl) _) fun b q z=>?_
          · unfold fD at q ⊢;have:=cB.next;omega
          · rw [show b=al h.next from z] at q;unfold fD at q;rw [cK] at q;omega
        · rw [ah,H5];simp
    · have g0:((i:Int) < (t.l.length:Int))=False:=eq_false (by omega)
      rw [List.drop_eq_nil_of_le (by omega),fX,List.append_nil] at ah
      simp +contextual only [bE,bT,c7,eQ,sJ,sK,sL,g0,A.g,R.g,rO.g,lA.1,lA.2.1,f1,f2,↓ak,ax,simprocAttr]
      exact finish ah (Ext.refl _) (by trivial) (by simp only [↓ak,bL,simprocAttr,eQ])
   have sH:∀(aG:af) (en:Ext ae aG),Has (aG.set (al eh) (.a1 [V.int .i64 (ρ-1)] 0 false)) h.next (cc t bN)∧Has ((aG.set (al eh) (.a1 [V.int .i64 (ρ-1)] 0 false)).set (al h.next) (.a1 (cc t .b6) 0 false)) h.next (cc t .b6)∧
    Has ((aG.set (al eh) (.a1 [V.int .i64 (ρ-1)] 0 false)).set (al h.next) (.a1 (cc t .b6) 0 false)) ab.next z4∧Has ((aG.set (al eh) (.a1 [V.int .i64 (ρ-1)] 0 false)).set (al h.next) (.a1 (cc t .b6) 0 false)) eh [.int .i64 (ρ-1)]∧
    Mod (fun b=>b=al eh) h ((aG.set (al eh) (.a1 [V.int .i64 (ρ-1)] 0 false)).set (al h.next) (.a1 (cc t .b6) 0 false)):=by
    intro aG en
    have dd:=bV.ext en
    have hV:=hl.ext en
    have rP:=EG.ext en
    have vh:=dd.set (m:=eh) (by omega) (.a1 [V.int .i64 (ρ-1)] 0 false)
    refine ⟨vh,vh.put _,(hV.set (m:=eh) (by omega) _).set (m:=h.next) (by omega) _,(rP.put _).set (m:=h.next) (by omega) _,?_⟩
    exact (((cQ.trans en).mod (fun b=>b=al eh)).set (fun _=>rfl) _).fresh (Nat.le_refl _) _
   have b3:IntKind.i64.wrap (ρ-1)=ρ-1:=wrap_i64 (by omega) (by omega)
   have look:=M2.look t.n (.agg z4) true
   have found:∀(u:aB) (cs:List V),(if t.k=1 then dJ t.n s else none)=some u→t.k=1:=fun u cs q=>by
    by_cases c:t.k=1
    · exact c
    · rw [if_neg c] at q;cases q
   rcases look with ⟨qG,ix⟩ | ⟨u,cs,qG,vl,ix⟩
   · have da:(if t.k=1 then dJ t.n s else none)=none:=by rw [qG];split<;>rfl
     rw [da]
     obtain ⟨aG,aN,bn,po⟩:=ga ae z4 z4
     have dd:=bV.ext bn
     have rP:=EG.ext bn
     obtain ⟨vh,Ey,mV,vu,Ez⟩:=sH aG bn
     simp +contextual only [ol.1,ol.2.1,an,az,aN,bV.g,dd.g,vh.g,rP.g,b3,ai,ju.eq,ix,cond_true,↓ak,ax,simprocAttr]
     refine rest _ Ey mV vu Ez bn.next ?_ ?_ ?_ ?_ ?_ ?_ ?_ fun e r g w he H8 Rg ys EH Ew=>?_
     · simp only [↓ak,bL,simprocAttr]
     · simp only [↓ak,bL,simprocAttr]
     · simp only [↓ak,bL,simprocAttr]
     · simp only [↓ak,bL,simprocAttr]
     · simp only [↓ak,bL,simprocAttr]
     · simp only [↓ak,bL,simprocAttr]
     · simp only [↓ak,bL,simprocAttr]
     have di:=ys.one
     simp +contextual only [H8,Rg.g,di.1,di.2.1,he,↓ak,ax,simprocAttr]
     exact ⟨w,rfl,ys,gz,EH,Ew⟩
   · obtain ⟨ul,rfl,Uq,uw⟩:=aB.open vl
     have dh:=Uq.one
     obtain ⟨aG,aN,bn,po⟩:=ga ae z4 (cc u ul)
     have dd:=bV.ext bn
     have hV:=hl.ext bn
     have rP:=EG.ext bn
     have n3:=bn.next
     by_cases c:t.k=1
     · rw [if_pos c,qG]
       have CC:=ug t.n u qG
       simp +contextual only [ol.1,ol.2.1,dh.1,dh.2.1,an,az,aN,bV.g,dd.g,rP.g,po.g,ju.eq,ix,cond_true,eq_true c,↓ak,ax,simprocAttr]
       refine bY (Ss u CC _ aG ((vl.ext bn).fg fun _ _=>trivial)) ?_
       rintro x ba ⟨rfl,b2⟩
       have LM:=po.ext b2
       have mW:=hV.ext b2
       have Lq:=rP.ext b2
       have n4:=b2.next
       have ag5:=po.lt
       have b4:IntKind.i64.wrap (ρ - (u.size:Nat))=ρ - (u.size:Nat):=wrap_i64 (by omega) (by omega)
       have gh:=hl.lt
       have f5:(eh=ae.next)=False:=eq_false (by omega)
       have alC:=LM.set (m:=eh) (by omega) (.a1 [V.int .i64 (ρ - (u.size:Nat))] 0 false)
       have vx:=mW.set (m:=eh) (by omega) (.a1 [V.int .i64 (ρ - (u.size:Nat))] 0 false)
       have A_:=Lq.put [V.int .i64 (ρ - (u.size:Nat))]
       have tp:Mod (fun b=>b=al eh) h (ba.set (al eh) (.a1 [V.int .i64 (ρ - (u.size:Nat))] 0 false)):=(((cQ.trans bn).trans b2).mod (fun b=>b=al eh)).set (fun _=>rfl) _
       have Eb:bJ Any (ba.set (al eh) (.a1 [V.int .i64 (ρ - (u.size:Nat))] 0 false)) u.enc (cc u ul):=((vl.ext (bn.trans b2)).mod (dR:=Fr eh) (M:=fun b=>b=al eh) ((Mod.refl (fun b=>b=al eh) ba).set (fun _=>rfl) _) fun b q _=>⟨q,q⟩).fg fun _ _=>trivial
       have n5:(ba.set (al eh) (.a1 [V.int .i64 (ρ - (u.size:Nat))] 0 false)).next=ba.next:=rfl
       simp +contextual only [po.g,LM.g,rP.g,Lq.g,b4,f5,if_false,↓ak,ax,simprocAttr]
       generalize ba.set (al eh) (.a1 [V.int .i64 (ρ - (u.size:Nat))] 0 false)=cz at *
       refine bY (MM _ u (Nat.le_refl _) (by omega) _ cz Eb) ?_
       rintro x cf ⟨w,rfl,W,hp⟩
       have di:=W.one
       have Lp:=vx.ext hp
       have Uh:=A_.ext hp
       have amt:=Lp.lt
       simp +contextual only [Lp.g,di.1,di.2.1,↓ak,ax,simprocAttr]
       refine ⟨w,rfl,(W.mod ((Mod.refl (fun x=>x=al ab.next) cf).set (fun _=>rfl) _) fun b q z=>?_).fg fun b q=>?_,uw,Uh.set (by omega) _,(tp.trans (hp.mod _)).fresh cp _⟩
       · rw [show b=al ab.next from z] at q;unfold fD at q;rw [cK] at q;omega
       · unfold fD at q ⊢;have:=tp.next;omega
     · rw [if_neg c]
       obtain ⟨vh,Ey,mV,vu,Ez⟩:=sH aG bn
       simp +contextual only [ol.1,ol.2.1,dh.1,dh.2.1,an,az,aN,bV.g,dd.g,vh.g,rP.g,b3,ai,ju.eq,ix,cond_true,eq_false c,↓ak,ax,simprocAttr]
       refine rest _ Ey mV vu Ez bn.next ?_ ?_ ?_ ?_ ?_ ?_ ?_ fun e r g w he H8 Rg ys EH Ew=>?_
       · simp only [↓ak,bL,simprocAttr]
       · simp only [↓ak,bL,simprocAttr]
       · simp only [↓ak,bL,simprocAttr]
       · simp only [↓ak,bL,simprocAttr]
       · simp only [↓ak,bL,simprocAttr]
       · simp only [↓ak,bL,simprocAttr]
       · simp only [↓ak,bL,simprocAttr]
       have di:=ys.one
       simp +contextual only [H8,Rg.g,di.1,di.2.1,he,↓ak,ax,simprocAttr]
       exact ⟨w,rfl,ys,gz,EH,Ew⟩
def nf (p:Int × aB):List D:=.i .i64 p.1::p.2.enc
section
variable [Lay] {F:aP→Prop} {h:af}
theorem cw.VD {size:Nat} {es:List (List D)} {v:V} (H:cw F h size es v) {k:IntKind} {i:Nat} (aC:i<es.length):
 ∃b off u,iT size v (.int k i)=some (.ptr b (off+i * size))∧bJ F h es[i] u∧u.length=size∧(∀aa,Ext h aa→∀j n,j+n≤size→kI n (aa.get b) (off+i * size+j)=some (.agg ((u.drop j).take n)))∧∀aa,Ext h aa→∀j,j<size→iw (aa.get b) (off+i * size+j)=u[j]? :=by
 obtain ⟨us,ab,ae,ai,aG⟩:=H.ex
 have qP:i<us.length:=by omega
 have hu:=List.getElem?_eq_getElem qP
 obtain ⟨b,off,aK,aS⟩:=ab.cD (k:=k) aC
 have ay:=BZ us i _ ai hu
 have np:=yU us ai
 have hle:i * size+size≤us.length * size:=by
  have:=Nat.mul_le_mul_right size (show i+1≤us.length from qP)
  rw [Nat.succ_mul] at this;exact this
 have bo:us[i].length=size:=ai _ (List.getElem_mem qP)
 refine ⟨b,off,us[i],aK,aG i _ _ (List.getElem?_eq_getElem aC) hu,bo,fun aa e j n Cr=>?_,fun aa e j bK=>?_⟩
 · have:=(aS.ext e).kd (i:=i * size+j) (n:=n) (by rw [np];omega)
   rw [Nat.add_assoc,this,←ay]
   congr 2
   rw [List.drop_take,List.take_take,List.drop_drop,Nat.min_eq_left (by omega)]
 · have:=(aS.ext e).eu (i:=i * size+j) (by rw [np];omega)
   rw [Nat.add_assoc,this,←ay,List.getElem?_take_of_lt bK,List.getElem?_drop,List.getElem?_eq_getElem]
theorem fp.hN {s:fp} {v:V} (H:cw F h 5 (s.map nf) v) {k:IntKind} {i:Nat} (aC:i<s.length):
 ∃b off bN,iT 5 v (.int k i)=some (.ptr b (off+i * 5))∧bJ F h s[i].2.enc (cc s[i].2 bN)∧(∀aa,Ext h aa→iw (aa.get b) (off+i * 5)=some (.int .i64 s[i].1))∧
  (∀aa,Ext h aa→kI 4 (aa.get b) (off+i * 5+1)=some (.agg (cc s[i].2 bN)))∧(∀aa,Ext h aa→kI 5 (aa.get b) (off+i * 5)=some (.agg (.int .i64 s[i].1::cc s[i].2 bN))):=by
 obtain ⟨b,off,u,aK,aS,bn,b2,fJ⟩:=cw.VD H (k:=k) (i:=i) (by rw [List.length_map];exact aC)
 rw [List.getElem_map,nf] at aS
 obtain ⟨us,rfl,Nj⟩:=aS.int
 obtain ⟨bN,rfl,L,_⟩:=aB.open Nj
 exact ⟨b,off,bN,aK,Nj,fun aa e=>by simpa using fJ aa e 0 (by omega),fun aa e=>by simpa using b2 aa e 1 4 (by omega),fun aa e=>by simpa using b2 aa e 0 5 (by omega)⟩
end
def x0 (F:aP→Prop) (s:fp) (n:Int) (aa:af) (cs:List V) (ok:Bool):Prop:=match dJ n s with
 | some t=>ok=true∧bJ F aa t.enc cs
 | none=>ok=false∧cs=z4
set_option maxHeartbeats 4000000 in
theorem NL (F:aP→Prop) (s:fp) (n:Int) (p7:V) (h:af) (S:cw F h 5 (s.map nf) p7):bB Tryz.prog 91 [p7,.int .i64 n] h fun x aa=>∃cs ok,x=.tuple [.agg cs,.bool ok]∧cs.length=4∧x0 F s n aa cs ok∧Ext h aa:=by
 have ai:=S.len
 have hle:=S.le
 rw [List.length_map] at ai hle
 refine Y9 rfl (cL ?_)
 unfold Gp
 obtain ⟨ab,an,aK,Lo⟩:=dM h z4
 simp +contextual only [an,↓ak,ax,simprocAttr]
 refine fG (fun r g=>r 0=p7∧r 1=.int .i64 n∧r 4=.ptr (al h.next) 0∧g=ab∧∃i:Nat,r 6=.int .i64 i∧i≤s.length∧dJ n s=dJ n (s.drop i)) (fun r g=>s.length - (r 6).toN) ?_ ?_
 · exact ⟨by simp only [↓ak,bL,simprocAttr],by simp only [↓ak,bL,simprocAttr],by simp only [↓ak,bL,simprocAttr],rfl,0,by simp only [↓ak,bL,simprocAttr]<;>rfl,by omega,rfl⟩
 rintro r g ⟨bE,bl,c7,rfl,i,eQ,aC,aE⟩
 unfold ME
 by_cases aL:i<s.length
 · have g0:((i:Int) < (s.length:Int))=True:=eq_true (by omega)
   obtain ⟨b,off,bN,cD,X,fb,zQ,_⟩:=fp.hN S (k:=.i64) aL
   have d0:=fb g aK
   have d4:=zQ g aK
   have dH:=hT aL (by unfold top at hle;omega)
   have y2:s.drop i=s[i]::s.drop (i+1):=List.drop_eq_getElem_cons aL
   obtain ⟨akQ,gG,fI,_⟩:=aB.open X
   have ol:bN.one=true∧bN.cells=[bN]:=by
    have:=fI.one
    simp only [cc,List.cons.injEq,and_true,true_and] at gG
    subst gG
    exact ⟨this.1,this.2.1⟩
   by_cases c:s[i].1=n
   · simp +contextual only [bE,bl,c7,eQ,ai,g0,cD,d0,d4,eq_true c,ol.1,ol.2,Lo.g,↓ak,ax,simprocAttr]
     refine ⟨_,_,rfl,rfl,?_,aK.set (Nat.le_refl _) _⟩
     unfold x0
     rw [aE,y2,show s[i]=(s[i].1,s[i].2) from rfl,dJ,if_pos c.symm]
     exact ⟨rfl,X.ext (aK.set (Nat.le_refl _) _)⟩
   · simp +contextual only [bE,bl,c7,eQ,ai,g0,cD,d0,d4,eq_false c,dH,↓ak,ax,simprocAttr]
     refine ⟨⟨i+1,rfl,aL,?_⟩,by omega⟩
     rw [aE,y2,show s[i]=(s[i].1,s[i].2) from rfl,dJ,if_neg (fun q=>c q.symm)]
 · have g0:((i:Int) < (s.length:Int))=False:=eq_false (by omega)
   rw [List.drop_eq_nil_of_le (by omega),dJ] at aE
   simp +contextual only [bE,bl,c7,eQ,ai,g0,Lo.g,↓ak,ax,simprocAttr]
   refine ⟨_,_,rfl,rfl,?_,aK.set (Nat.le_refl _) _⟩
   unfold x0
   rw [aE]
   exact ⟨rfl,rfl⟩
end Go.Proofs.YthemdhlheglhoaaGreatDoor
namespace Go.Proofs.YthemdhlheglhoaaGreatDoor
open Go aX
theorem aiH (s:fp) {l:List aB} {i:Nat} (h:i<l.length):dD s (l.take (i+1))=dD s (l.take i)++[l[i].put s]:=by
 rw [Ar,Ar,take_one h,List.map_append];rfl
theorem aiG {s:fp} {t:aB} (eG:s=[]∨t.shape=true) (aE:t.k=1) (aU:dJ t.n s=none):t.put s=t:=by
 rcases eG with rfl | eG
 · exact RD t
 · rw [put_eq,if_pos aE,aU]
   rw [p4,Bool.and_eq_true] at eG
   have ab:=eG.1
   unfold aB.own at ab
   rw [if_pos aE] at ab
   simp only [Bool.and_eq_true,decide_eq_true_eq] at ab
   have ae:=ab.2
   cases t with
   | mk k n x l=>
     simp only [aB.l,aB.k,aB.n,aB.s] at ae ⊢
     rw [List.eq_nil_of_length_eq_zero ae];rfl
set_option maxHeartbeats 4000000 in
theorem R5 (s:fp):∀(N:Nat) (t:aB),t.size≤N→N≤1000000000→(s=[]∨t.shape=true)→∀(F:aP→Prop) (p7:V) (ad:List V) (h:af),(∀b,F b→Old h b)→cw F h 5 (s.map nf) p7→bJ F h t.enc ad→
 bB Tryz.prog 64 [p7,.agg ad] h fun x aa=>(∃cs,x=.agg cs∧bJ (fun b=>F b∨jw h b) aa (t.put s).enc cs)∧Ext h aa
 | 0,t,aQ,_,_,_,_,_,_,_,_,_=>by have:=lu t;omega
 | N+1,t,aQ,r8,eG,F,p7,ad,h,gS,S,H=>by
   have eo:=H
   obtain ⟨bN,rfl,L,gz⟩:=aB.open H
   have bG:N≤1000000000:=by omega
   have ol:=L.one
   have os:=S.one
   have ai:=L.len
   have hle:=L.le
   rw [List.length_map] at ai hle
   have ca:=size_eq t
   have hx:=oN t.l
   refine Yo rfl (cL ?_)
   unfold F'
   obtain ⟨ab,an,aK,bC⟩:=dM h (cc t bN)
   obtain ⟨ae,az,aS,hl⟩:=dM ab z4
   have bV:=bC.ext aS
   have cQ:=aK.trans aS
   have cp:=aK.next
   have gq:=aS.next
   have zO:=bC.lt
   have IS:=hl.lt
   by_cases aE:t.k=1
   · simp +contextual only [ol.1,ol.2.1,an,az,bV.g,eq_true aE,↓ak,ax,simprocAttr]
     refine bY (NL F s t.n p7 ae (S.ext cQ)) ?_
     rintro x aG ⟨cs,ok,rfl,jH,nV,bn⟩
     have dd:=bV.ext bn
     have hV:=hl.ext bn
     have n3:=bn.next
     unfold x0 at nV
     have fin:∀{ba:af} {u:aB} {cs:List V},bJ F ba u.enc cs→Ext h ba→bJ (fun b=>F b∨jw h b) (ba.set (al ab.next) (.a1 cs 0 false)) u.enc cs∧Ext h (ba.set (al ab.next) (.a1 cs 0 false)):=fun C E=>
      ⟨C.mod ((Mod.refl (fun x=>x=al ab.next) _).set (fun _=>rfl) _) fun b q _=>⟨fun z=>by have:=gS b q;rw [show b=al ab.next from z] at this;unfold Old at this;rw [cK] at this;omega,.inl q⟩,E.set cp _⟩
     cases aA:dJ t.n s with
     | some u=>
       rw [aA] at nV
       obtain ⟨rfl,C⟩:=nV
       obtain ⟨gL,rfl,U,hu⟩:=aB.open C
       obtain ⟨ba,bM,b2,f'⟩:=ga aG z4 (cc u gL)
       have dh:=U.one
       have mW:=hV.ext b2
       have f1:(aG.next=ab.next)=False:=eq_false (by omega)
       simp +contextual only [bM,f'.g,mW.g,dh.1,dh.2.1,f1,↓ak,ax,simprocAttr]
       rw [put_eq,if_pos aE,aA]
       obtain ⟨f2,f3⟩:=fin (C.ext b2) ((cQ.trans bn).trans b2)
       exact ⟨⟨_,rfl,f2⟩,f3⟩
     | none=>
       rw [aA] at nV
       obtain ⟨rfl,rfl⟩:=nV
       obtain ⟨ba,bM,b2,f'⟩:=ga aG z4 z4
       have mW:=hV.ext b2
       have ey:=dd.ext b2
       have f1:(h.next=ab.next)=False:=eq_false (by omega)
       simp +contextual only [bM,f'.g,mW.g,ey.g,ol.1,ol.2.1,f1,↓ak,ax,simprocAttr]
       rw [aiG eG aE aA]
       have hC:=(cQ.trans bn).trans b2
       obtain ⟨f2,f3⟩:=fin (eo.ext hC) hC
       exact ⟨⟨_,rfl,f2⟩,f3⟩
   · obtain ⟨aG,aN,bn,hj⟩:=ga ae z4 (cc t .b6)
     have dd:=bV.ext bn
     have hV:=hl.ext bn
     have oF:=hj.lt
     have n3:=bn.next
     have en:=cQ.trans bn
     have sd:(if t.k=1 then dJ t.n s else none)=none:=if_neg aE
     have Ih:∀i (aC:i<t.l.length),s=[]∨t.l[i].shape=true:=fun i aC=>by
      rcases eG with q | q
      · exact .inl q
      · refine .inr ?_
        rw [p4,Bool.and_eq_true,Kb,List.all_eq_true] at q
        exact q.2 _ (List.getElem_mem aC)
     simp +contextual only [ol.1,ol.2.1,an,az,aN,bV.g,eq_false aE,↓ak,ax,simprocAttr]
     refine fG (fun r g=>r 0=p7∧r 3=.ptr (al h.next) 0∧r 4=.ptr (al ab.next) 0∧r 7=.ptr (al ae.next) 0∧∃(i:Nat) (w:V),r 8=.int .i64 i∧i≤t.l.length∧Has g ae.next (cc t w)∧fo aG.next (fun b=>F b∨jw aG b) g 4 ((dD s (t.l.take i)).map aB.enc) w∧Ext ae g∧aG.next≤g.next) (fun r g=>t.l.length - (r 8).toN) ?_ ?_
     · exact ⟨by simp only [↓ak,bL,simprocAttr],by simp only [↓ak,bL,simprocAttr],by simp only [↓ak,bL,simprocAttr],by simp only [↓ak,bL,simprocAttr],0,.b6,by simp only [↓ak,bL,simprocAttr]<;>rfl,by omega,hj,fo.nil _ _ _ _,bn,Nat.le_refl _⟩
     rintro r g ⟨bE,cg,c7,lx,i,w,jT,aC,B,W,E,aH⟩
     unfold Mx
     have av:=cQ.trans E
     have hB:=bV.ext E
     have Ue:=hl.ext E
     have mj:=L.ext av
     have di:=W.one
     have n4:=E.next
     by_cases aL:i<t.l.length
     · have g0:((i:Int) < (t.l.length:Int))=True:=eq_true (by omega)
       obtain ⟨b,off,wl,cD,X,fI,ld⟩:=aB.hN mj (k:=.i64) aL
       have d1:=ld g (Ext.refl g)
       have dH:=hT aL (by unfold top at hle;omega)
       have bo:=l9 (t:=t) (List.getElem_mem aL)
       simp +contextual only [bE,cg,c7,lx,jT,hB.g,ai,g0,cD,d1,↓ak,ax,simprocAttr]
       refine bY (R5 s N t.l[i] (by omega) bG (Ih i aL) F p7 _ g (fun b q=>av.b1 (gS b q)) (S.ext av) X) ?_
       rintro x g2 ⟨⟨cs,rfl,C⟩,ct⟩
       obtain ⟨u,rfl,U,CB⟩:=aB.open C
       obtain ⟨g3,y3,gr,Z⟩:=ga g2 z4 (cc (t.l[i].put s) u)
       have KF:=ct.trans gr
       have rU:=W.ext KF
       have KQ:=B.ext KF
       have dh:=U.one
       have p1:=ct.next
       have z_:=gr.next
       have lH:bJ (fun b=>(F b∨jw aG b)∧¬w.aW b) g3 (t.l[i].put s).enc (cc (t.l[i].put s) u):=(C.ext gr).fg fun b q=>by
        refine ⟨?_,fun z=>?_⟩
        · rcases q with q | q
          · exact .inl q
          · exact .inr (by unfold jw at q ⊢;omega)
        · have fE:=W.base z
          have k2:=W.QQ z
          rcases q with q | q
          · have:=gS b q;unfold Old at this;omega
          · unfold jw at q;unfold Old at k2;omega
       obtain ⟨dn,g4,bS,b0,cB,hh,oI⟩:=rU.add lH (by omega) (by omega) (by rw [List.length_map,Ar,List.length_map,List.length_take];unfold top;omega) rfl
       have eW:=b0.one
       have mx:∀n,n<aG.next→¬w.aW (al n):=fun n aU q=>by have:=W.base q;rw [cK] at this;omega
       have f':=KQ.mod cB (mx _ (by omega))
       have hC:Ext ae g4:=(E.trans KF).ke cB fun b q=>by have:=W.base q;omega
       have f1:(g2.next=ae.next)=False:=eq_false (by omega)
       simp +contextual only [bE,cg,c7,lx,jT,y3,Z.g,KQ.g,f'.g,f1,if_false,dh.1,dh.2.1,di.1,di.2.1,bS,eW.1,eW.2.1,dH,↓ak,ax,simprocAttr]
       refine ⟨⟨i+1,dn,rfl,aL,f'.put _,?_,hC.set (Nat.le_refl _) _,by omega⟩,by omega⟩
       rw [aiH s aL,List.map_append]
       refine b0.mod ((Mod.refl (fun x=>x=al ae.next) g4).set (fun _=>rfl) _) (fun b q z=>?_) fun b q _ _ z=>?_
       · have:=b0.base q;rw [show b=al ae.next from z,cK] at this;omega
       · rw [show b=al ae.next from z] at q
         rcases q with q | q
         · have:=gS _ q;unfold Old at this;rw [cK] at this;omega
         · unfold jw at q;rw [cK] at q;omega
     · have g0:((i:Int) < (t.l.length:Int))=False:=eq_false (by omega)
       rw [List.take_of_length_le (by omega)] at W
       have f1:(ab.next=ae.next)=False:=eq_false (by omega)
       have f2:(ae.next=ab.next)=False:=eq_false (by omega)
       have f3:(h.next=ab.next)=False:=eq_false (by omega)
       have f4:(h.next=ae.next)=False:=eq_false (by omega)
       simp +contextual only [bE,cg,c7,lx,jT,hB.g,Ue.g,B.g,ai,g0,di.1,di.2.1,f1,f2,f3,f4,↓ak,ax,simprocAttr]
       refine ⟨⟨_,rfl,?_⟩,av.set (by omega) _⟩
       rw [put_eq,sd,sF]
       simp only [aB.k,aB.n,aB.s,aB.l]
       refine .i (.i (.s gz (cw.cons ?_ .nil)))
       refine (W.fv (F:=fun b=>F b∨jw aG b) (by rw [List.length_map,Ar,List.length_map];exact hle) (fun b q=>q) fun b q=>.inr q).mod ((Mod.refl (fun x=>x=al ab.next) g).set (fun _=>rfl) _) fun b q _=>⟨fun z=>?_,?_⟩
       · rw [show b=al ab.next from z] at q
         rcases q with q | q
         · have:=gS _ q;unfold Old at this;rw [cK] at this;omega
         · unfold jw at q;rw [cK] at q;omega
       · rcases q with q | q
         · exact .inl q
         · exact .inr (by unfold jw at q ⊢;omega)
mutual
theorem RF (s:fp) (M:Nat) (cY:1≤M) (aQ:∀n u,dJ n s=some u→u.size≤M):∀t:aB,(t.put s).size≤t.size * M
 | .mk k n x l=>by
   rw [aB.put,aB.size]
   cases aA:(if k=1 then dJ n s else none) with
   | some u=>
     have:u.size≤M:=by
      by_cases c:k=1
      · rw [if_pos c] at aA;exact aQ n u aA
      · rw [if_neg c] at aA;cases aA
     simp only
     rw [Nat.add_mul];omega
   | none=>
     have:=RI s M cY aQ l
     simp only
     rw [aB.size,Nat.add_mul];omega
theorem RI (s:fp) (M:Nat) (cY:1≤M) (aQ:∀n u,dJ n s=some u→u.size≤M):∀l:List aB,c9 (dD s l)≤c9 l * M
 | []=>by rw [dD];simp [c9]
 | t::l=>by
   have:=RF s M cY aQ t
   have:=RI s M cY aQ l
   rw [dD,c9,c9,Nat.add_mul];omega
end
theorem mL {t:aB} (q:t.shape=true) {i:Nat} (aC:i<t.l.length):t.l[i].shape=true:=by
 rw [p4,Bool.and_eq_true,Kb,List.all_eq_true] at q
 exact q.2 _ (List.getElem_mem aC)
theorem alo [Lay] (F:aP→Prop) (h:af):bJ F h iG.enc z4:=by
 rw [sF]
 exact .i (.i (.s (by simp [iG,aB.s]) ((cw.nil _ _ _).cons .nil)))
theorem JH {n:Int} {t:aB}:∀{m:fp},dJ n m=none→mI n t m=m++[(n,t)]
 | [],_=>rfl
 | (a,u)::m,h=>by
   simp only [dJ] at h
   split at h
   · cases h
   · rename_i aU
     simp only [mI,if_neg aU,JH h,List.cons_append]
abbrev xM (i:Int):aB:=.mk 1 i [] []
def gi (i:Int):List Int→fp
 | []=>[]
 | n::l=>(n,xM i)::gi (i+1) l
def ki (t:aB):aB:=if t.check=0 then t.put (gi 0 t.vars) else iG
theorem S_ [Lay] (F:aP→Prop) (h:af) (i:Int):bJ F h (xM i).enc [.int .i64 1,.int .i64 i,.str [],.b6]:=by
 rw [sF]
 exact .i (.i (.s (Nat.zero_le _) ((cw.nil _ _ _).cons .nil)))
theorem ai1 (l m:List Int):∀i:Int,gi i (l++m)=gi i l++gi (i+l.length) m:=by
 induction l with
 | nil=>intro i;simp [gi]
 | cons n l bk=>
   intro i
   rw [List.cons_append,gi,gi,bk,List.cons_append,List.length_cons,show i+1 + (l.length:Int)=i + ((l.length+1:Nat):Int) by omega]
theorem RU {l:List Int} {i:Nat} (h:i<l.length):gi 0 (l.take (i+1))=gi 0 (l.take i)++[(l[i],xM i)]:=by
 rw [List.take_succ_eq_append_getElem h,ai1,gi,gi,List.length_take,Nat.min_eq_left (by omega)]
 simp
theorem JT {n:Int} {u:aB}:∀{l:List Int} {i:Int},dJ n (gi i l)=some u→∃j:Int,u=xM j
 | [],i,h=>by cases h
 | m::l,i,h=>by
   simp only [gi,dJ] at h
   split at h
   · cases h;exact ⟨_,rfl⟩
   · exact JT h
theorem RT {n:Int}:∀{l:List Int} {i:Int},¬n ∈ l→dJ n (gi i l)=none
 | [],i,h=>rfl
 | m::l,i,h=>by
   simp only [gi,dJ]
   rw [if_neg (fun q=>h (by rw [q];exact List.mem_cons_self)),RT (fun q=>h (List.mem_cons_of_mem _ q))]
theorem Vh {out:List Int} (t:aB) (h:out.Nodup):(e0 out t).Nodup:=by
 unfold e0
 split
 · rename_i q
   rw [List.nodup_append]
   exact ⟨h,by simp,fun a bq b ag az=>by rw [List.mem_singleton] at ag;subst ag;subst az;exact q.2 bq⟩
 · exact h
theorem NT:∀(l:List aB) {out:List Int},out.Nodup→(l.foldl e0 out).Nodup
 | [],out,h=>h
 | t::l,out,h=>by rw [List.foldl_cons];exact NT l (Vh t h)
theorem akN (t:aB):t.vars.Nodup:=NT _ List.nodup_nil
theorem ahu {l:List Int} (h:l.Nodup) {i:Nat} (aC:i<l.length):¬l[i] ∈ l.take i:=by
 have ab:(l.take (i+1)).Nodup:=h.sublist (List.take_sublist _ _)
 rw [List.take_succ_eq_append_getElem aC,List.nodup_append] at ab
 exact fun q=>ab.2.2 _ q _ (List.mem_singleton.2 rfl) rfl
theorem ai4 (t:aB):(t.put (gi 0 t.vars)).size≤t.size:=by
 have:=RF (gi 0 t.vars) 1 (Nat.le_refl _) (fun n u h=>by obtain ⟨j,rfl⟩:=JT h;simp [aB.size,c9]) t
 omega
theorem ai3 {t:aB} (h:t.check=0):t.h1 (gi 0 t.vars) 4096=(ki t,(4096:Int) - ((ki t).size:Int)):=by
 have ab:=(vP h).2.1
 have ae:=ai4 t
 unfold ki
 rw [if_pos h]
 exact (Rw _ t 4096 (by omega)).1 (by omega)
set_option maxHeartbeats 8000000 in
theorem ai5 (t:aB) (aF:t.size≤900000000) (ad:List V) (h:af) (H:bJ Any h t.enc ad):
 bB Tryz.prog 29 [.agg ad] h fun x aa=>(∃w,x=.agg (cc (ki t) w)∧eA aa (fD h.next aa.next) (ki t).l w∧(ki t).s.length≤top)∧Ext h aa:=by
 have eo:=H.nG
 obtain ⟨bN,rfl,L,gz⟩:=aB.open H
 have ol:=L.one
 refine Xz rfl (cL ?_)
 unfold FM
 obtain ⟨ab,an,aK,bC⟩:=dM h (cc t bN)
 obtain ⟨ae,az,aS,hl⟩:=dM ab z4
 have bV:=bC.ext aS
 have cp:=aK.next
 have gq:=aS.next
 have zO:=bC.lt
 have IS:=hl.lt
 have cQ:=aK.trans aS
 simp +contextual only [ol.1,ol.2.1,an,az,bV.g,↓ak,ax,simprocAttr]
 refine bY (yK t aF _ ae ((eo.ext cQ).fg fun _ _=>trivial)) ?_
 rintro x aG ⟨rfl,bn⟩
 have dd:=bV.ext bn
 have hV:=hl.ext bn
 have vU:=cQ.trans bn
 have n3:=bn.next
 by_cases aI:¬t.check=0
 · have aJ:ki t=iG:=by unfold ki;rw [if_neg aI]
   rw [aJ]
   simp +contextual only [hV.g,eq_false aI,decide_true,decide_false,↓ak,ax,simprocAttr]
   exact ⟨⟨_,rfl,eA.nil _ _,Nat.zero_le _⟩,vU.set cp _⟩
 have aI:t.check=0:=by simpa using aI
 have H5:=ai3 aI
 have lY:=akN t
 have lg:=Kv t
 have hs:=vP aI
 have yi:=h3.new (Old h) aG
 have b2:Ext aG (aG.new (.mp [] 0)):=(Ext.refl aG).new _
 have IJ:(aG.new (.mp [] 0)).next=aG.next+1:=rfl
 have ey:=dd.ext b2
 have mW:=hV.ext b2
 simp +contextual only [show ∀g:af,pZ none g=.val (.map (al g.next)) (g.new (.mp [] 0)) from fun g=>rfl,eq_true aI,decide_true,decide_false,dd.g,ey.g,ol.1,ol.2.1,↓ak,ax,simprocAttr]
 generalize aG.new (.mp [] 0)=ba at *
 have nd:=vU.trans b2
 refine bY (Ta t aF _ ba ((eo.ext nd).fg fun _ _=>trivial)) ?_
 rintro y cz ⟨Y,fJ⟩
 have n5:=fJ.next
 have vC:cw Any cz 1 (t.vars.map aX.encI) y:=gv.fv Y (by unfold top;omega)
 have fW:=vC.one
 have ai:=vC.len
 rw [List.length_map] at ai
 simp +contextual only [fW.1,fW.2.1,ai,↓ak,ax,simprocAttr]
 refine fG (fun r g=>r 1=.ptr (al h.next) 0∧r 2=.ptr (al ab.next) 0∧r 3=.map (al aG.next)∧r 13=y∧r 14=.int .i64 t.vars.length∧∃i:Nat,r 15=.int .i64 i∧i≤t.vars.length∧Has g h.next (cc t bN)∧Has g ab.next z4∧h3 (Old h) g (al aG.next) (gi 0 (t.vars.take i))∧gv ba.next g t.vars y∧Ext h g∧cz.next≤g.next) (fun r g=>t.vars.length - (r 15).toN) ?_ ?_
 · exact ⟨by simp only [↓ak,bL,simprocAttr],by simp only [↓ak,bL,simprocAttr],by simp only [↓ak,bL,simprocAttr],by simp only [↓ak,bL,simprocAttr],by simp only [↓ak,bL,simprocAttr],0,by simp only [↓ak,bL,simprocAttr]<;>rfl,by omega,ey.ext fJ,mW.ext fJ,yi.ext fJ,Y,nd.trans fJ,Nat.le_refl _⟩
 rintro r g ⟨bl,bT,cg,JL,JM,i,jR,aC,A,R,mU,ER,E,aH⟩
 unfold Mq
 by_cases aL:i<t.vars.length
 · have g0:((i:Int) < (t.vars.length:Int))=True:=eq_true (by omega)
   obtain ⟨b,off,cD,ld⟩:=(gv.fv ER (by unfold top;omega)).zI (k:=.i64) aL
   have d1:=ld g (Ext.refl g)
   have dH:=hT aL (by omega)
   have da:dJ t.vars[i] (gi 0 (t.vars.take i))=none:=RT (ahu lY aL)
   obtain ⟨g3,oT,oU,kj,D3⟩:=mU.l' t.vars[i] (t:=xM i) (S_ _ _ _) (fun q=>by unfold Old at q;rw [cK] at q;omega)
   rw [JH da,←RU aL] at oU
   have dd:=A.mod kj (fun q=>by have:=dW q;omega)
   have hV:=R.mod kj (fun q=>by have:=dW q;omega)
   have en:=E.ke kj fun b q=>by rw [show b=al aG.next from q,cK];omega
   simp +contextual only [bl,bT,cg,JL,JM,jR,g0,cD,d1,ju.eq,oT,gB,dH,↓ak,ax,simprocAttr]
   refine ⟨⟨i+1,rfl,aL,dd,hV,oU,?_,en,by omega⟩,by omega⟩
   exact du.mod kj ER fun b q z=>by have:=ER.base q;rw [show b=al aG.next from z,cK] at this;omega
 · have g0:((i:Int) < (t.vars.length:Int))=False:=eq_false (by omega)
   rw [List.take_of_length_le (by omega)] at mU
   have Ob:∀{m:Nat} (b:aP),Old h b→h.next≤m→b≠al m:=fun b q hm z=>by unfold Old at q;rw [z,cK] at q;omega
   obtain ⟨g2,eJ,ct,ec⟩:=ga g [.int .i64 0] [.int .i64 4096]
   have bV:=A.ext ct
   have hl:=R.ext ct
   have cn:=E.trans ct
   have p1:=ct.next
   have oF:=ec.lt
   have vt:=(mU.ext ct).mod (dR:=Fr g.next) (Mod.refl (fun _=>False) g2) (fun z=>z) fun b q _=>⟨fun z=>z,Ob b q (by omega)⟩
   have ug:∀n u,dJ n (gi 0 t.vars)=some u→u.size≤900000000:=fun n u q=>by obtain ⟨j,rfl⟩:=JT q;simp [aB.size,c9]
   simp +contextual only [bl,bT,cg,JL,JM,jR,g0,eJ,bV.g,ec.g,ol.1,ol.2.1,↓ak,ax,simprocAttr]
   refine bY (RC _ ug t.size t (Nat.le_refl _) aF 4096 (al aG.next) g.next _ g2 (by omega) (by omega) (fun q=>by have:=dW q;omega) ((eo.ext cn).fg fun b q=>Ob b q (by omega)) vt ec) ?_
   rintro x g3 ⟨u,rfl,U,uw,hj,m3⟩
   rw [H5] at U uw ⊢
   simp only at U uw ⊢
   have z_:=m3.next
   have hV:=hl.mod m3 (fun q=>by have:=dW q;omega)
   have en:=cn.ke m3 fun b q=>by rw [show b=al g.next from q,cK];omega
   have dh:=U.one
   simp +contextual only [bl,bT,cg,JL,JM,jR,hV.g,dh.1,dh.2.1,↓ak,ax,simprocAttr]
   refine ⟨⟨_,rfl,?_,uw⟩,en.set cp _⟩
   refine (U.mod ((Mod.refl (fun x=>x=al ab.next) _).set (fun _=>rfl) _) fun b q z=>?_).fg fun b q=>?_
   · rw [show b=al ab.next from z] at q;unfold fD at q;rw [cK] at q;omega
   · unfold fD at q ⊢;omega
mutual
def aB.more:aB→aB→fp→Option fp
 | .mk k n x l,u,m=>if k=1 then (match dJ n m with
    | some w=>if w.same u then some m else none
    | none=>some (m++[(n,u)]))
   else if u.k=k∧x=u.s then g' l u.l m else none
def g':List aB→List aB→fp→Option fp
 | [],[],m=>some m
 | t::l,u::cR,m=>match t.more u m with
   | some cj=>g' l cR cj
   | none=>none
 | [],_::_,_=>none
 | _::_,[],_=>none
end
theorem Qy (t u:aB) (m:fp):t.more u m=if t.k=1 then (match dJ t.n m with
 | some w=>if w.same u then some m else none
 | none=>some (m++[(t.n,u)]))
 else if u.k=t.k∧t.s=u.s then g' t.l u.l m else none:=by cases t;rw [aB.more];rfl
theorem I3:∀{l cR:List aB} {m cj:fp},g' l cR m=some cj→l.length=cR.length
 | [],[],_,_,_=>rfl
 | t::l,u::cR,m,cj,h=>by
   rw [g'] at h
   cases aA:t.more u m with
   | none=>rw [aA] at h;cases h
   | some m2=>rw [aA] at h;rw [List.length_cons,List.length_cons,I3 h]
 | [],_::_,_,_,h=>by rw [g'] at h;cases h
 | _::_,[],_,_,h=>by rw [g'] at h;cases h
theorem QA {l cR:List aB} {i:Nat} (h:i<l.length) (aa:i<cR.length) (m:fp):g' (l.drop i) (cR.drop i) m=match l[i].more cR[i] m with
 | some cj=>g' (l.drop (i+1)) (cR.drop (i+1)) cj
 | none=>none:=by
 rw [List.drop_eq_getElem_cons h,List.drop_eq_getElem_cons aa,g']
def C4 (t u:aB):Bool:=decide (t.check=0)&&decide (u.check=0)&&(t.more u []).isSome
def A6 [Lay] (F:aP→Prop) (ew:aP) (h:af) (r:Option fp) (ok:Bool):Prop:=match r with
 | some m=>ok=true∧h3 F h ew m
 | none=>ok=false
set_option maxHeartbeats 16000000 in
theorem Qx (F:aP→Prop) (ew:aP) (pm eX:Nat) (gS:¬F ew) (OI:ew≠al pm) (k9:ew≠al eX):∀N:Nat,
 (∀(t u:aB),t.size≤N→∀(m:fp) (ad ws:List V) (h:af),bJ F h t.enc ad→bJ F h u.enc ws→h3 F h ew m→Has h pm [.map ew]→Has h eX [.func 65 [.ptr (al pm) 0,.ptr (al eX) 0]]→
   bB Tryz.prog 65 [.agg ad,.agg ws,.ptr (al pm) 0,.ptr (al eX) 0] h fun x aa=>∃ok,x=.bool ok∧A6 F ew aa (t.more u m) ok∧Mod (fun b=>b=ew) h aa)∧
 (∀(l cR:List aB),c9 l≤N→∀(m:fp) (v w:V) (h:af),cw F h 4 (l.map aB.enc) v→cw F h 4 (cR.map aB.enc) w→h3 F h ew m→Has h pm [.map ew]→Has h eX [.func 65 [.ptr (al pm) 0,.ptr (al eX) 0]]→
   bB Tryz.prog 66 [v,w,.func 65 [.ptr (al pm) 0,.ptr (al eX) 0]] h fun x aa=>∃ok,x=.bool ok∧A6 F ew aa (g' l cR m) ok∧Mod (fun b=>b=ew) h aa)
 | 0=>by
   refine ⟨fun t u aQ=>by have:=lu t;omega,fun l cR aQ m v w h L M mU A8 n0=>?_⟩
   have k6:l.length=0:=by have:=oN l;omega
   obtain rfl:=List.eq_nil_of_length_eq_zero k6
   have ai:=L.len
   have hm:=M.len
   rw [List.length_map] at ai hm
   refine By rfl (cL ?_)
   unfold vN
   by_cases aA:cR.length=0
   · obtain rfl:=List.eq_nil_of_length_eq_zero aA
     simp +contextual only [ai,hm,decide_true,decide_false,↓ak,ax,simprocAttr]
     refine fG (fun r g=>r 17=.int .i64 0∧r 16=.int .i64 0∧g=h) (fun r g=>0) ?_ ?_
     · exact ⟨by simp only [↓ak,bL,simprocAttr],by simp only [↓ak,bL,simprocAttr]<;>rfl,rfl⟩
     rintro r g ⟨jS,r16,rfl⟩
     unfold yJ
     simp +contextual only [r16,jS,show ((0:Int)<0)=False from by simp,↓ak,ax,simprocAttr]
     refine ⟨?_,Mod.refl _ _⟩
     rw [g'];exact ⟨rfl,mU⟩
   · have f0:((0:Int)=(cR.length:Int))=False:=eq_false (by omega)
     simp only [List.length_nil,Int.ofNat_zero,Int.natCast_zero] at ai
     simp +contextual only [ai,hm,f0,decide_true,decide_false,↓ak,ax,simprocAttr]
     refine ⟨?_,Mod.refl _ _⟩
     match cR,aA with
     | u::cR,_=>rw [g'];rfl
     | [],aA=>exact absurd rfl aA
 | N+1=>by
   obtain ⟨zF,uz⟩:=Qx F ew pm eX gS OI k9 N
   have H1:∀(t u:aB),t.size≤N+1→∀(m:fp) (ad ws:List V) (h:af),bJ F h t.enc ad→bJ F h u.enc ws→h3 F h ew m→Has h pm [.map ew]→Has h eX [.func 65 [.ptr (al pm) 0,.ptr (al eX) 0]]→
    bB Tryz.prog 65 [.agg ad,.agg ws,.ptr (al pm) 0,.ptr (al eX) 0] h fun x aa=>∃ok,x=.bool ok∧A6 F ew aa (t.more u m) ok∧Mod (fun b=>b=ew) h aa:=by
    intro t u aQ m ad ws h H cq mU A8 n0
    have x1:=cq
    obtain ⟨bN,rfl,L,_⟩:=aB.open H
    obtain ⟨wl,rfl,M,_⟩:=aB.open cq
    have ol:=L.one
    have db:=M.one
    have ca:=size_eq t
    refine Yr rfl (cL ?_)
    unfold F_
    obtain ⟨ab,an,aK,bC⟩:=dM h (n' t bN)
    obtain ⟨ae,az,aS,ec⟩:=dM ab (n' u wl)
    have bV:=bC.ext aS
    have cQ:=aK.trans aS
    have yl:=A8.ext cQ
    have ig:=n0.ext cQ
    have vt:=mU.ext cQ
    rw [Qy]
    by_cases bu:t.k=1
    · rw [if_pos bu]
      rcases vt.look t.n (.agg z4) true with ⟨qG,ix⟩ | ⟨w,cs,qG,K_,ix⟩
      · rw [qG]
        obtain ⟨aG,aN,bn,po⟩:=ga ae z4 z4
        have EA:=yl.ext bn
        have hj:=ec.ext bn
        have dd:=bV.ext bn
        obtain ⟨g3,oT,oU,kj,D3⟩:=(vt.ext bn).l' t.n (t:=u) ((x1.ext cQ).ext bn) gS
        rw [JH qG] at oU
        simp +contextual only [an,az,aN,ol.1,ol.2.1,db.1,db.2.1,bV.g,ec.g,dd.g,hj.g,yl.g,EA.g,eq_true bu,ju.eq,ix,cond_true,oT,gB,decide_true,decide_false,↓ak,ax,simprocAttr]
        exact ⟨⟨rfl,oU⟩,((cQ.trans bn).mod _).trans kj⟩
      · rw [qG]
        obtain ⟨ZN,rfl,W,_⟩:=aB.open K_
        have uU:=W.one
        obtain ⟨aG,aN,bn,po⟩:=ga ae z4 (n' w ZN)
        have EA:=yl.ext bn
        have hj:=ec.ext bn
        have dd:=bV.ext bn
        simp +contextual only [an,az,aN,ol.1,ol.2.1,db.1,db.2.1,uU.1,uU.2.1,po.g,bV.g,ec.g,dd.g,hj.g,yl.g,EA.g,eq_true bu,ju.eq,ix,cond_true,decide_true,decide_false,↓ak,ax,simprocAttr]
        refine bY (SZ w u _ _ aG ((K_.ext bn).fg fun _ _=>trivial) (((x1.ext cQ).ext bn).fg fun _ _=>trivial)) ?_
        rintro x ba ⟨rfl,b2⟩
        simp +contextual only [↓ak,ax,simprocAttr]
        refine ⟨?_,((cQ.trans bn).trans b2).mod _⟩
        cases ag:w.same u with
        | true=>exact ⟨rfl,(vt.ext bn).ext b2⟩
        | false=>rfl
    · rw [if_neg bu]
      by_cases bI:u.k=t.k
      · by_cases c3:t.s=u.s
        · rw [if_pos ⟨bI,c3⟩]
          simp +contextual only [an,az,ol.1,ol.2.1,db.1,db.2.1,bV.g,ec.g,ig.g,eq_false bu,eq_true bI,eq_true c3,decide_true,decide_false,Bool.true_and,↓ak,ax,simprocAttr]
          refine bY (uz t.l u.l (by omega) m bN wl ae (L.ext cQ) (M.ext cQ) vt yl ig) ?_
          rintro x aG ⟨ok,rfl,aT,bn⟩
          simp +contextual only [↓ak,ax,simprocAttr]
          exact ⟨aT,(cQ.mod _).trans bn⟩
        · rw [if_neg (fun q=>c3 q.2)]
          simp +contextual only [an,az,ol.1,ol.2.1,db.1,db.2.1,bV.g,ec.g,eq_false bu,eq_true bI,eq_false c3,decide_true,decide_false,Bool.true_and,Bool.false_and,↓ak,ax,simprocAttr]
          exact ⟨rfl,cQ.mod _⟩
      · rw [if_neg (fun q=>bI q.1)]
        simp +contextual only [an,az,ol.1,ol.2.1,db.1,db.2.1,bV.g,ec.g,eq_false bu,eq_false bI,decide_true,decide_false,Bool.true_and,Bool.false_and,↓ak,ax,simprocAttr]
        exact ⟨rfl,cQ.mod _⟩
   refine ⟨H1,fun l m aQ st v w h L M mU A8 n0=>?_⟩
   have ai:=L.len
   have hm:=M.len
   have hle:=L.le
   rw [List.length_map] at ai hm hle
   refine By rfl (cL ?_)
   unfold vN
   by_cases aA:l.length=m.length
   · have f0:((l.length:Int)=(m.length:Int))=True:=eq_true (by omega)
     simp +contextual only [ai,hm,f0,decide_true,decide_false,↓ak,ax,simprocAttr]
     refine fG (fun r g=>r 1=w∧r 2=.func 65 [.ptr (al pm) 0,.ptr (al eX) 0]∧r 15=v∧r 16=.int .i64 l.length∧∃(i:Nat) (s:fp),r 17=.int .i64 i∧i≤l.length∧g' l m st=g' (l.drop i) (m.drop i) s∧h3 F g ew s∧Mod (fun b=>b=ew) h g) (fun r g=>l.length - (r 17).toN) ?_ ?_
     · exact ⟨by simp only [↓ak,bL,simprocAttr],by simp only [↓ak,bL,simprocAttr],by simp only [↓ak,bL,simprocAttr],by simp only [↓ak,bL,simprocAttr],0,st,by simp only [↓ak,bL,simprocAttr]<;>rfl,by omega,rfl,mU,Mod.refl _ _⟩
     rintro r g ⟨bl,bT,jR,r16,i,s,jS,aC,ah,Lg,E⟩
     unfold yJ
     have Oc:∀b,F b→Old h b→¬(b=ew)∧F b:=fun b q _=>⟨fun z=>gS (by rw [←z];exact q),q⟩
     by_cases aL:i<l.length
     · have g0:((i:Int) < (l.length:Int))=True:=eq_true (by omega)
       have iQ:i<m.length:=by omega
       obtain ⟨b,off,bN,cD,X,fI,ld⟩:=aB.hN (L.mod E Oc) (k:=.i64) aL
       obtain ⟨ck,Ab,wl,kF,Y,vD,l2⟩:=aB.hN (M.mod E Oc) (k:=.i64) iQ
       have d1:=ld g (Ext.refl g)
       have ol:=fI.one
       have db:=vD.one
       have dH:=hT aL (by unfold top at hle;omega)
       obtain ⟨g1,ek,bj,bC⟩:=ga g z4 (n' l[i] bN)
       obtain ⟨g2,eJ,ct,ec⟩:=ga g1 z4 (n' m[i] wl)
       have d2:=l2 g1 bj
       have bV:=bC.ext ct
       have jb:=bj.trans ct
       have bo:=xv (List.getElem_mem aL)
       simp +contextual only [bl,bT,jR,r16,jS,g0,cD,kF,d1,d2,ek,eJ,ol.1,ol.2.1,db.1,db.2.1,bC.g,bV.g,ec.g,jy,List.cons_append,List.nil_append,show (65=4294967296)=False from by simp,if_false,↓ak,ax,simprocAttr]
       refine bY (H1 l[i] m[i] (by omega) s _ _ g2 (X.ext jb) (Y.ext jb) (Lg.ext jb) ((A8.mod E (fun z=>OI z.symm)).ext jb) ((n0.mod E (fun z=>k9 z.symm)).ext jb)) ?_
       rintro x g3 ⟨ok,rfl,aT,gr⟩
       have aZ:=QA aL iQ s
       have en:=(E.trans (jb.mod _)).trans gr
       cases ag:l[i].more m[i] s with
       | some fA=>
         rw [ag] at aT aZ
         obtain ⟨rfl,aT⟩:=aT
         simp +contextual only [bl,bT,jR,r16,jS,dH,↓ak,ax,simprocAttr]
         exact ⟨⟨i+1,fA,rfl,aL,ah.trans aZ,aT,en⟩,by omega⟩
       | none=>
         rw [ag] at aT aZ
         obtain rfl:ok=false:=aT
         simp +contextual only [bl,bT,jR,r16,jS,dH,↓ak,ax,simprocAttr]
         refine ⟨?_,en⟩
         rw [ah.trans aZ];rfl
     · have g0:((i:Int) < (l.length:Int))=False:=eq_false (by omega)
       simp +contextual only [bl,bT,jR,r16,jS,g0,↓ak,ax,simprocAttr]
       refine ⟨?_,E⟩
       rw [ah,List.drop_eq_nil_of_le (by omega),List.drop_eq_nil_of_le (by omega),g']
       exact ⟨rfl,Lg⟩
   · have f0:((l.length:Int)=(m.length:Int))=False:=eq_false (by omega)
     simp +contextual only [ai,hm,f0,decide_true,decide_false,↓ak,ax,simprocAttr]
     refine ⟨?_,Mod.refl _ _⟩
     cases ag:g' l m st with
     | none=>rfl
     | some s=>exact absurd (I3 ag) aA
section
variable {σ τ:Int→aB}
end
theorem Sm {t:aB} {l:List aB} (h:ic (t::l)=true):t.shape=true∧ic l=true:=by
 rw [ic,Bool.and_eq_true] at h
 exact h
end Go.Proofs.YthemdhlheglhoaaGreatDoor
namespace Go.Proofs.YthemdhlheglhoaaGreatDoor
open Go aX
def xL (n:Nat):List UInt8:=39::UInt8.ofNat (97+n % 26)::(if n<26 then [] else Lib.decDigits (n / 26))
def par (a:aB) (p:List UInt8) (x y:List UInt8):List UInt8:=if a.k=2∧(a.s=x∨a.s=y) then 40::(p++[41]) else p
def AG (x:List UInt8) (l:List aB) (bO:List (List UInt8)):List UInt8:=
 if x=iM then par (l.getD 0 iG) (bO.getD 0 []) iM iM++[32,45,62,32]++bO.getD 1 []
 else if x=nO then par (l.getD 0 iG) (bO.getD 0 []) iM nO++[32,42,32]++par (l.getD 1 iG) (bO.getD 1 []) iM iM
 else if l.length=0 then x
 else if l.length=1 then par (l.getD 0 iG) (bO.getD 0 []) iM nO++[32]++x
 else 40::(Lib.join bO [44,32]++[41,32]++x)
mutual
def aB.text:aB→List UInt8
 | .mk k n x l=>if k=1 then xL n.toNat else AG x l (texts l)
def texts:List aB→List (List UInt8)
 | []=>[]
 | t::l=>t.text::texts l
end
theorem D0:∀l:List aB,texts l=l.map aB.text
 | []=>rfl
 | t::l=>by rw [texts,List.map_cons,D0 l]
theorem SS (t:aB):t.text=if t.k=1 then xL t.n.toNat else AG t.s t.l (t.l.map aB.text):=by
 cases t;rw [aB.text,D0];rfl
def D2 (t:aB):List UInt8:=if t.check=0 then t.text else []
theorem nI (a:aB) (p x y:List UInt8):(par a p x y).length≤p.length+2:=by
 unfold par;split
 · simp
 · omega
theorem akI (n:Nat) (h:n≤1048575):(xL n).length≤22:=by
 unfold xL
 have:(Lib.decDigits (n / 26)).length≤20:=by rw [Lib.decDigits_length];exact Lib.nDigits_le20 _ (by omega)
 simp only [List.length_cons]
 split
 · simp
 · omega
theorem Jm {t:aB} (h:t.own=true) (aE:¬t.k=1):t.s.length≤64:=by
 unfold aB.own at h
 rw [if_neg aE] at h
 split at h
 · split at h
   · rename_i q
     rcases q with q | q<;>rw [q]<;>simp [iM,nO]
   · simp only [Bool.and_eq_true] at h
     exact (QD h.2).2.1
 · cases h
theorem Jn {t:aB} (h:t.own=true) (aE:t.k=1):0≤t.n∧t.n≤1048575:=by
 unfold aB.own at h
 rw [if_pos aE] at h
 simp only [Bool.and_eq_true,decide_eq_true_eq] at h
 exact ⟨h.1.1.1,h.1.1.2⟩
theorem Dj {t:aB} (h:t.own=true) (aE:¬t.k=1) (aQ:t.s=iM∨t.s=nO):t.l.length=2:=by
 unfold aB.own at h
 rw [if_neg aE] at h
 by_cases q:t.k=2
 · rw [if_pos q,if_pos aQ] at h
   simp only [Bool.and_eq_true,decide_eq_true_eq] at h
   exact h.2
 · rw [if_neg q] at h;cases h
theorem xe (t:List UInt8) (l:List (List UInt8)):Lib.lens (t::l)=t.length+Lib.lens l:=by unfold Lib.lens;rw [List.map_cons,List.sum_cons]
theorem G5:∀(l:List (List UInt8)) (i:Nat),(l.getD i []).length≤Lib.lens l
 | [],i=>by simp
 | t::l,0=>by rw [xe];simp
 | t::l,i+1=>by rw [xe];have:=G5 l i;simp only [List.getD_cons_succ];omega
theorem abq:∀(l:List (List UInt8)),(l.getD 0 []).length + (l.getD 1 []).length≤Lib.lens l
 | []=>by simp
 | t::l=>by rw [xe];have:=G5 l 0;simp only [List.getD_cons_succ,List.getD_cons_zero];omega
theorem PH:∀bO:List (List UInt8),(Lib.join bO [44,32]).length≤Lib.lens bO+2 * bO.length
 | []=>by rw [Lib.join_nil];simp
 | t::bO=>by rw [Lib.join_length];simp only [List.length_cons,List.length_nil];omega
mutual
theorem AD:∀t:aB,t.shape=true→t.text.length+2≤80 * t.size
 | .mk k n x l,h=>by
   have aT:=h
   rw [p4,Bool.and_eq_true] at aT
   rw [aB.text,aB.size]
   by_cases c:k=1
   · rw [if_pos c]
     obtain ⟨ab,ae⟩:=Jn aT.1 c
     have:n.toNat≤1048575:=by have:n≤1048575:=ae;omega
     have:=akI n.toNat this
     omega
   · rw [if_neg c]
     have aU:x.length≤64:=Jm aT.1 c
     have ai:=Kr l aT.2
     have hx:=oN l
     unfold AG
     have g0:=G5 (texts l) 0
     have g2:=abq (texts l)
     have j:=PH (texts l)
     have ako:(texts l).length=l.length:=by rw [D0,List.length_map]
     split
     · have:=nI (l.getD 0 iG) ((texts l).getD 0 []) iM iM
       simp only [List.length_append,List.length_cons,List.length_nil];omega
     split
     · have:=nI (l.getD 0 iG) ((texts l).getD 0 []) iM nO
       have:=nI (l.getD 1 iG) ((texts l).getD 1 []) iM iM
       simp only [List.length_append,List.length_cons,List.length_nil];omega
     split
     · omega
     split
     · have:=nI (l.getD 0 iG) ((texts l).getD 0 []) iM nO
       simp only [List.length_append,List.length_cons,List.length_nil];omega
     · simp only [List.length_append,List.length_cons,List.length_nil];omega
theorem Kr:∀l:List aB,ic l=true→Lib.lens (texts l)+2 * l.length≤80 * c9 l
 | [],_=>by rw [texts,c9];simp [Lib.lens]
 | t::l,h=>by
   have ab:=AD t (Sm h).1
   have ae:=Kr l (Sm h).2
   rw [texts,c9,xe,List.length_cons]
   omega
end
theorem aak {u:Nat} (h:u<10):(([48,49,50,51,52,53,54,55,56,57]:List UInt8).drop u).take 1=[UInt8.ofNat (48+u)]:=by
 revert u
 decide
theorem aab (u:Nat) (hu:u≤4294967296) (h:af):fh Tryz.prog 98 [.int .i64 u] h (.str (Lib.decDigits u)) h:=by
 induction u using Nat.strongRecOn with
 | _ u bk=>
   refine mJ (Zg rfl (cL ?_))
   unfold Gs
   rw [Lib.decDigits]
   by_cases G8:u<10
   · have g0:((u:Int)<10)=True:=eq_true (by omega)
     have g1:(0≤(u:Int))=True:=eq_true (by omega)
     have w:IntKind.i64.wrap ((u:Int)+1)=((u+1:Nat):Int):=by rw [wrap_i64 (by omega) (by omega)];rfl
     have g2:((u:Int)≤((u+1:Nat):Int))=True:=eq_true (by omega)
     have g3:(((u+1:Nat):Int)≤((10:Nat):Int))=True:=eq_true (by omega)
     have aQ:kQ (.str [48,49,50,51,52,53,54,55,56,57]) (some (.int .i64 (u:Int))) (some (.int .i64 ((u+1:Nat):Int))) none=some (.str [UInt8.ofNat (48+u)]):=by
      rw [St,if_pos ⟨by omega,by omega,by simp only [List.length_cons,List.length_nil];omega⟩,Int.toNat_natCast,Int.toNat_natCast,show u+1-u=1 by omega,aak G8]
     rw [dif_pos G8]
     simp +contextual only [g0,w,aQ,↓ak,ax,simprocAttr]
   · have g0:((u:Int)<10)=False:=eq_false (by omega)
     rw [dif_neg G8]
     have aA:(dV.int .quo).run Tryz.prog (.int .i64 (u:Int)) (.int .i64 10)=some (.int .i64 ((u / 10:Nat):Int)):=by
      rw [PM .i64 _ _ (by decide),show (10:Int)=((10:Nat):Int) from rfl,←Int.ofNat_tdiv,wrap_i64 (by omega) (by omega)]
     have aJ:(dV.int .rem).run Tryz.prog (.int .i64 (u:Int)) (.int .i64 10)=some (.int .i64 ((u % 10:Nat):Int)):=by
      rw [PN .i64 _ _ (by decide),show (10:Int)=((10:Nat):Int) from rfl,←Int.ofNat_tmod]
     simp +contextual only [g0,aA,↓ak,ax,simprocAttr]
     refine fq (bk (u / 10) (by omega) (by omega)) ?_
     simp +contextual only [g0,aJ,↓ak,ax,simprocAttr]
     refine fq (bk (u % 10) (by omega) (by omega)) ?_
     have ae:Lib.decDigits (u % 10)=[UInt8.ofNat (48+u % 10)]:=by rw [Lib.decDigits,dif_pos (by omega)]
     have ai:(Lib.decDigits (u / 10)).length≤20:=by rw [Lib.decDigits_length];exact Lib.nDigits_le20 _ (by omega)
     rw [ae]
     have ac5:((Lib.decDigits (u / 10)).length+1≤17179869184)=True:=eq_true (by omega)
     simp +contextual only [ac5,↓ak,ax,simprocAttr]
theorem Z1 (l:List UInt8) (h:af) (ai:l.length≤top):pt.run (.slice (al h.next) 0 l.length l.length) (h.new (.a1 (gE l) 0 false))=.val (.str l) (h.new (.a1 (gE l) 0 false)):=
 GC (B:=0) ⟨by rw [vL,Nat.mul_one],rfl,Nat.zero_le _,eI (by rw [eU];omega),Nat.le_refl _,ai,_,0,false,ku _,by rw [vL];omega,by simp⟩
theorem S' {n:Nat} (h:n≤1048575):(dV.int .rem).run Tryz.prog (.int .i64 (n:Int)) (.int .i64 26)=some (.int .i64 ((n % 26:Nat):Int))∧IntKind.i64.wrap (97 + ((n % 26:Nat):Int))=((97+n % 26:Nat):Int)∧(dV.int .quo).run Tryz.prog (.int .i64 (n:Int)) (.int .i64 26)=some (.int .i64 ((n / 26:Nat):Int)):=by
 refine ⟨?_,?_,?_⟩
 · rw [PN .i64 _ _ (by decide),show (26:Int)=((26:Nat):Int) from rfl,←Int.ofNat_tmod]
 · rw [wrap_i64 (by omega) (by omega)];omega
 · rw [PM .i64 _ _ (by decide),show (26:Int)=((26:Nat):Int) from rfl,←Int.ofNat_tdiv,wrap_i64 (by omega) (by omega)]
theorem akz {i:Nat} (h:i<26):IntKind.u8.wrap ((97+i:Nat):Int)=((97+i:Nat):Int):=by
 revert i
 decide
set_option maxHeartbeats 4000000 in
theorem DJ (t:aB) (aQ:t.shape=true) (bo:t.size≤4096) (T:∀(ad:List V) (h:af),bJ Any h t.enc ad→bB Tryz.prog 73 [.agg ad] h fun x aa=>x=.str t.text∧Ext h aa) (a b:List UInt8) (ad:List V) (h:af) (H:bJ Any h t.enc ad):
 bB Tryz.prog 99 [.agg ad,.str a,.str b] h fun x aa=>x=.str (par t t.text a b)∧Ext h aa:=by
 have eo:=H
 obtain ⟨bN,rfl,L,gz⟩:=aB.open H
 have ol:=L.one
 have hlen:=AD t aQ
 have eg:(t.text.length+1≤17179869184)=True:=eq_true (by omega)
 have gh:(1+t.text.length≤17179869184)=True:=eq_true (by omega)
 have pU:(t.text.length+1+1≤17179869184)=True:=eq_true (by omega)
 refine Zj rfl (cL ?_)
 unfold Gt
 obtain ⟨ab,an,aK,bC⟩:=dM h (cc t bN)
 unfold par
 by_cases bu:t.k=2
 · by_cases bI:t.s=a
   · rw [if_pos ⟨bu,.inl bI⟩]
     simp +contextual only [ol.1,ol.2.1,an,bC.g,eq_true bu,eq_true bI,decide_true,decide_false,↓ak,ax,simprocAttr]
     refine bY (T _ ab (eo.ext aK)) ?_
     rintro x ae ⟨rfl,aS⟩
     simp +contextual only [eg,gh,pU,↓ak,ax,simprocAttr]
     first | exact aK.trans aS | exact ⟨by simp,aK.trans aS⟩
   · by_cases c3:t.s=b
     · rw [if_pos ⟨bu,.inr c3⟩]
       simp +contextual only [ol.1,ol.2.1,an,bC.g,eq_true bu,eq_false bI,eq_true c3,decide_true,decide_false,↓ak,ax,simprocAttr]
       refine bY (T _ ab (eo.ext aK)) ?_
       rintro x ae ⟨rfl,aS⟩
       simp +contextual only [eg,gh,pU,↓ak,ax,simprocAttr]
       first | exact aK.trans aS | exact ⟨by simp,aK.trans aS⟩
     · rw [if_neg (fun q=>q.2.elim bI c3)]
       simp +contextual only [ol.1,ol.2.1,an,bC.g,eq_true bu,eq_false bI,eq_false c3,decide_true,decide_false,↓ak,ax,simprocAttr]
       refine bY (T _ ab (eo.ext aK)) ?_
       rintro x ae ⟨rfl,aS⟩
       simp +contextual only [↓ak,ax,simprocAttr]
       exact aK.trans aS
 · rw [if_neg (fun q=>bu q.1)]
   simp +contextual only [ol.1,ol.2.1,an,bC.g,eq_false bu,decide_true,decide_false,↓ak,ax,simprocAttr]
   refine bY (T _ ab (eo.ext aK)) ?_
   rintro x ae ⟨rfl,aS⟩
   simp +contextual only [↓ak,ax,simprocAttr]
   exact aK.trans aS
theorem aeg (l:List (List UInt8)) (s:List UInt8) (v:V) (h:af) (L:cw Any h 1 (l.map aX.encS) v):bB Tryz.prog 93 [v,.str s] h fun x aa=>(∃z:Int,x=.int .i64 z∧(0≤z↔s ∈ l))∧aa=h:=by
 have ai:=L.len
 have hle:=L.le
 rw [List.length_map] at ai hle
 refine Zd rfl (cL ?_)
 unfold Gr
 simp +contextual only [ai,↓ak,ax,simprocAttr]
 refine fG (fun r g=>r 0=v∧r 1=.str s∧r 7=.int .i64 l.length∧g=h∧∃i:Nat,r 8=.int .i64 i∧i≤l.length∧(s ∈ l↔s ∈ l.drop i)) (fun r g=>l.length - (r 8).toN) ?_ ?_
 · exact ⟨by simp only [↓ak,bL,simprocAttr],by simp only [↓ak,bL,simprocAttr],by simp only [↓ak,bL,simprocAttr],rfl,0,by simp only [↓ak,bL,simprocAttr]<;>rfl,by omega,by simp⟩
 rintro r g ⟨bE,bl,lx,rfl,i,jT,aC,ah⟩
 unfold MG
 by_cases aL:i<l.length
 · have g0:((i:Int) < (l.length:Int))=True:=eq_true (by omega)
   obtain ⟨b,off,cD,_,ld⟩:=L.aj4 (k:=.i64) aL
   have d1:=ld g (Ext.refl g)
   have dH:=hT aL (by unfold top at hle;omega)
   have aZ:l.drop i=l[i]::l.drop (i+1):=List.drop_eq_getElem_cons aL
   by_cases c:s=l[i]
   · simp +contextual only [bE,bl,lx,jT,g0,cD,d1,eq_true c,decide_true,decide_false,↓ak,ax,simprocAttr]
     exact ⟨_,rfl,fun _=>by rw [ah,aZ,c];exact List.mem_cons_self,fun _=>by omega⟩
   · simp +contextual only [bE,bl,lx,jT,g0,cD,d1,eq_false c,decide_true,decide_false,dH,↓ak,ax,simprocAttr]
     refine ⟨⟨i+1,rfl,aL,?_⟩,by omega⟩
     rw [ah,aZ,List.mem_cons]
     exact ⟨fun q=>q.elim (fun q=>absurd q c) id,.inr⟩
 · have g0:((i:Int) < (l.length:Int))=False:=eq_false (by omega)
   rw [List.drop_eq_nil_of_le (by omega)] at ah
   simp +contextual only [bE,bl,lx,jT,g0,↓ak,ax,simprocAttr]
   exact ⟨_,rfl,by rw [ah];simp⟩
theorem ZX (l:List (List UInt8)) (s:List UInt8) (v:V) (h:af) (L:cw Any h 1 (l.map aX.encS) v):bB Tryz.prog 69 [v,.str s] h fun x aa=>x=.bool (decide (s ∈ l))∧aa=h:=by
 refine YC rfl (cL ?_)
 unfold Gd
 simp +contextual only [↓ak,ax,simprocAttr]
 refine bY (aeg l s v h L) ?_
 rintro x aa ⟨⟨z,rfl,bo⟩,rfl⟩
 simp +contextual only [↓ak,ax,simprocAttr]
 by_cases q:s ∈ l
 · rw [decide_eq_true q,decide_eq_true (bo.2 q)]
 · rw [decide_eq_false q,decide_eq_false (fun w=>q (bo.1 w))]
theorem aac (n:Nat) (aU:n≤1048575) (h:af):bB Tryz.prog 71 [.int .i64 n] h fun x aa=>x=.str (Lib.decDigits n)∧aa=h:=by
 refine YI rfl (cL ?_)
 unfold Gg
 simp +contextual only [↓ak,ax,simprocAttr]
 refine fq (aeq (n:Int) (by omega) (by omega) h) ?_
 have aC:Lib.itoa (n:Int)=Lib.decDigits n:=by unfold Lib.itoa;rw [if_neg (by omega),Int.toNat_natCast]
 simp +contextual only [aC,↓ak,ax,simprocAttr]
theorem ajq (n:Int) (h:af):(n_ Tryz.prog 21 9).run (.int .i32 n) h=.val (.str (Utf8.encode n).data.toList) h:=by kernel_rfl
theorem ajp {i:Nat} (h:i<26):(Utf8.encode ((97+i:Nat):Int)).data.toList=[UInt8.ofNat (97+i)]:=by
 revert i
 decide
theorem ad5 {i:Nat} (h:i<26):IntKind.i32.wrap ((97+i:Nat):Int)=((97+i:Nat):Int):=by
 revert i
 decide
abbrev f70 (eX iZ:Nat):V:=.func 70 [.ptr (al iZ) 0,.ptr (al eX) 0]
abbrev f68 (eX:Nat):V:=.func 68 [.ptr (al eX) 0]
set_option maxHeartbeats 4000000 in
theorem Dp (eX iZ:Nat) (t:aB) (aQ:t.shape=true) (bo:t.size≤4096) (T:∀(ad:List V) (h:af),bJ Any h t.enc ad→Has h eX [f70 eX iZ]→Has h iZ [f68 eX]→bB Tryz.prog 70 [.agg ad,.ptr (al iZ) 0,.ptr (al eX) 0] h fun x aa=>x=.str t.text∧Ext h aa) (ws:List (List UInt8)) (v:V) (ad:List V) (h:af) (H:bJ Any h t.enc ad) (W:cw Any h 1 (ws.map aX.encS) v) (n0:Has h eX [f70 eX iZ]) (yk:Has h iZ [f68 eX]):
 bB Tryz.prog 68 [.agg ad,v,.ptr (al eX) 0] h fun x aa=>x=.str (if t.k=2∧t.s ∈ ws then 40::(t.text++[41]) else t.text)∧Ext h aa:=by
 have eo:=H
 obtain ⟨bN,rfl,L,gz⟩:=aB.open H
 have ol:=L.one
 have di:=W.one
 have hlen:=AD t aQ
 have eg:(t.text.length+1≤17179869184)=True:=eq_true (by omega)
 have gh:(1+t.text.length≤17179869184)=True:=eq_true (by omega)
 have pU:(t.text.length+1+1≤17179869184)=True:=eq_true (by omega)
 refine Yz rfl (cL ?_)
 unfold Gc
 obtain ⟨ab,an,aK,bC⟩:=dM h (cc t bN)
 have kV:=n0.ext aK
 have lF:=yk.ext aK
 simp +contextual only [ol.1,ol.2.1,di.1,di.2.1,an,bC.g,kV.g,jy,List.cons_append,List.nil_append,show (70=4294967296)=False from by simp,if_false,↓ak,ax,simprocAttr]
 refine bY (T _ ab (eo.ext aK) kV lF) ?_
 rintro x ae ⟨rfl,aS⟩
 have bV:=bC.ext aS
 simp +contextual only [di.1,di.2.1,bV.g,↓ak,ax,simprocAttr]
 refine bY (ZX ws t.s v ae ((W.ext aK).ext aS)) ?_
 rintro x aG ⟨rfl,rfl⟩
 by_cases bu:t.s ∈ ws
 · by_cases bI:t.k=2
   · rw [if_pos ⟨bI,bu⟩]
     simp +contextual only [bV.g,eq_true bu,eq_true bI,decide_true,decide_false,eg,gh,pU,↓ak,ax,simprocAttr]
     first | exact aK.trans aS | exact ⟨by simp,aK.trans aS⟩
   · rw [if_neg (fun q=>bI q.1)]
     simp +contextual only [bV.g,eq_true bu,eq_false bI,decide_true,decide_false,↓ak,ax,simprocAttr]
     exact aK.trans aS
 · rw [if_neg (fun q=>bu q.2)]
   simp +contextual only [bV.g,eq_false bu,decide_true,decide_false,↓ak,ax,simprocAttr]
   exact aK.trans aS
theorem aB.uI [Lay] {F:aP→Prop} {h:af} {l:List aB} {v:V} (H:cw F h 4 (l.map aB.enc) v) (aC:0<l.length):∃b off bN,iT 4 v (.int .i64 0)=some (.ptr b off)∧bJ F h (l[0]).enc (cc (l[0]) bN)∧bN.one=true∧bN.cells=[bN]∧∀aa,Ext h aa→kI 4 (aa.get b) off=some (.agg (cc (l[0]) bN)):=by
 obtain ⟨b,off,bN,cD,X,fI,ld⟩:=aB.hN H (k:=.i64) aC
 have o:=fI.one
 exact ⟨b,off,bN,by simpa using cD,X,o.1,o.2.1,fun aa e=>by simpa using ld aa e⟩
theorem aB.zN [Lay] {F:aP→Prop} {h:af} {l:List aB} {v:V} (H:cw F h 4 (l.map aB.enc) v) (aC:1<l.length):∃b off bN,iT 4 v (.int .i64 1)=some (.ptr b off)∧bJ F h (l[1]).enc (cc (l[1]) bN)∧bN.one=true∧bN.cells=[bN]∧∀aa,Ext h aa→kI 4 (aa.get b) off=some (.agg (cc (l[1]) bN)):=by
 obtain ⟨b,off,bN,cD,X,fI,ld⟩:=aB.hN H (k:=.i64) aC
 have o:=fI.one
 exact ⟨b,off+1 * 4,bN,by simpa using cD,X,o.1,o.2.1,fun aa e=>ld aa e⟩
theorem aet (a:List (List UInt8)) (t sep:List UInt8):Lib.join (a++[t]) sep=if a=[] then t else Lib.join a sep++sep++t:=by
 cases a with
 | nil=>rw [if_pos rfl,List.nil_append,Lib.join_one]
 | cons y r=>
   rw [if_neg (by simp),List.cons_append,Lib.join_cons,Lib.join_cons]
   simp [Lib.joinTail]
theorem Qb:∀(l:List (List UInt8)) (i:Nat),Lib.lens (l.take i)≤Lib.lens l
 | [],i=>by simp
 | t::l,0=>by simp [Lib.lens]
 | t::l,i+1=>by rw [List.take_succ_cons,xe,xe];have:=Qb l i;omega
theorem PJ {l:List aB} (h:ic l=true) (i:Nat):(Lib.join ((l.map aB.text).take i) [44,32]).length≤80 * c9 l:=by
 have ab:=Kr l h
 rw [D0] at ab
 have ae:=PH ((l.map aB.text).take i)
 have aG:=Qb (l.map aB.text) i
 have ba:((l.map aB.text).take i).length≤l.length:=by rw [List.length_take,List.length_map];omega
 omega
set_option maxHeartbeats 16000000 in
theorem R6:∀(N:Nat) (t:aB),t.size≤N→N≤4096→t.shape=true→∀(ad:List V) (h:af),bJ Any h t.enc ad→bB Tryz.prog 73 [.agg ad] h fun x aa=>x=.str t.text∧Ext h aa
 | 0,t,aQ,_,_,_,_,_=>by have:=lu t;omega
 | N+1,t,aQ,r8,eG,ad,h,H=>by
   have bG:N≤4096:=by omega
   have eo:=H
   obtain ⟨bN,rfl,L,gz⟩:=aB.open H
   have ol:=L.one
   have ai:=L.len
   have hle:=L.le
   rw [List.length_map] at ai hle
   have ca:=size_eq t
   have hx:=oN t.l
   have fi:t.own=true:=by rw [p4,Bool.and_eq_true] at eG;exact eG.1
   refine YL rfl (cL ?_)
   unfold Gh
   obtain ⟨ab,an,aK,bC⟩:=dM h (cc t bN)
   rw [SS]
   by_cases bz:t.k=1
   · rw [if_pos bz]
     obtain ⟨cA,cp⟩:=Jn fi bz
     obtain ⟨n,aU⟩:∃n:Nat,t.n=n:=⟨t.n.toNat,by omega⟩
     have ou:n≤1048575:=by omega
     rw [show t.n.toNat=n by omega]
     obtain ⟨bu,bI,c3⟩:=S' ou
     rw [←aU] at bu c3
     have dN:=akz (i:=n % 26) (by omega)
     have c5:pt.run (.slice (al ab.next) 0 1 1) (ab.new (.a1 [.int .u8 ((97+n % 26:Nat):Int)] 0 false))=.val (.str [UInt8.ofNat (97+n % 26)]) (ab.new (.a1 [.int .u8 ((97+n % 26:Nat):Int)] 0 false)):=by
      have:=Z1 [UInt8.ofNat (97+n % 26)] ab (by unfold top;simp)
      have ag:gE [UInt8.ofNat (97+n % 26)]=[.int .u8 ((97+n % 26:Nat):Int)]:=by
       simp only [gE]
       rw [show ((UInt8.ofNat (97+n % 26)).toNat:Int)=((97+n % 26:Nat):Int) by rw [UInt8.toNat_ofNat'];omega]
      rw [ag] at this
      exact this
     have bV:=bC.ext ((Ext.refl ab).new (.a1 [.int .u8 ((97+n % 26:Nat):Int)] 0 false))
     have cn:Ext h (ab.new (.a1 [.int .u8 ((97+n % 26:Nat):Int)] 0 false)):=aK.new _
     unfold xL
     by_cases aL:n<26
     · have g0:(t.n<26)=True:=eq_true (by omega)
       have g1:(26≤t.n)=False:=eq_false (by omega)
       simp +contextual only [ol.1,ol.2.1,an,bC.g,bV.g,eq_true bz,bu,bI,dN,c5,g0,g1,decide_true,decide_false,Int.toNat_natCast,↓ak,ax,simprocAttr]
       exact ⟨by rw [if_pos aL],cn⟩
     · have g0:(t.n<26)=False:=eq_false (by omega)
       have g1:(26≤t.n)=True:=eq_true (by omega)
       simp +contextual only [ol.1,ol.2.1,an,bC.g,bV.g,eq_true bz,bu,bI,c3,dN,c5,g0,g1,decide_true,decide_false,Int.toNat_natCast,↓ak,ax,simprocAttr]
       refine fq (aab (n / 26) (by omega) _) ?_
       have aZ:(Lib.decDigits (n / 26)).length≤20:=by rw [Lib.decDigits_length];exact Lib.nDigits_le20 _ (by omega)
       have d1:((Lib.decDigits (n / 26)).length+1+1≤17179869184)=True:=eq_true (by omega)
       have d2:(2 + (Lib.decDigits (n / 26)).length≤17179869184)=True:=eq_true (by omega)
       simp +contextual only [d1,d2,↓ak,ax,simprocAttr]
       exact ⟨by rw [if_neg aL],cn⟩
   · rw [if_neg bz]
     have lU:∀i (aC:i<t.l.length),∀(ad:List V) (h:af),bJ Any h (t.l[i]).enc ad→bB Tryz.prog 73 [.agg ad] h fun x aa=>x=.str (t.l[i]).text∧Ext h aa:=fun i aC=>
      R6 N t.l[i] (by have:=l9 (t:=t) (List.getElem_mem aC);omega) bG (mL eG aC)
     have h7:∀i (aC:i<t.l.length),(t.l[i]).size≤4096:=fun i aC=>by have:=l9 (t:=t) (List.getElem_mem aC);omega
     have gT:∀i (aC:i<t.l.length),(t.l[i]).text.length≤400000:=fun i aC=>by have:=AD t.l[i] (mL eG aC);have:=h7 i aC;omega
     unfold AG
     have EY:iM=[45,62]:=rfl
     have st:nO=[42]:=rfl
     rw [EY,st]
     by_cases s1:t.s=[45,62]
     · rw [if_pos s1]
       have ae:t.l.length=2:=Dj fi bz (.inl s1)
       have i0:0<t.l.length:=by omega
       have i1:1<t.l.length:=by omega
       obtain ⟨lL,f0,v0,h0,lI,e5,e6,fb⟩:=aB.uI (L.ext aK) i0
       obtain ⟨cC,f1,v1,jn,pn,fO,fP,eu⟩:=aB.zN (L.ext aK) i1
       have a0:=fb ab (Ext.refl _)
       have bH:=eu ab (Ext.refl _)
       have ah:=nI t.l[0] t.l[0].text [45,62] [45,62]
       have t0:=gT 0 i0
       have t1:=gT 1 i1
       rw [show t.l.getD 0 iG=t.l[0] by simp [List.getD,List.getElem?_eq_getElem i0],show (t.l.map aB.text).getD 0 []=t.l[0].text by simp [List.getD,List.getElem?_eq_getElem i0],show (t.l.map aB.text).getD 1 []=t.l[1].text by simp [List.getD,List.getElem?_eq_getElem i1]]
       simp +contextual only [ol.1,ol.2.1,an,bC.g,eq_false bz,eq_true s1,h0,jn,a0,bH,e5,e6,fO,fP,decide_true,decide_false,↓ak,ax,simprocAttr]
       refine bY (DJ t.l[0] (mL eG i0) (h7 0 i0) (lU 0 i0) _ _ _ ab lI) ?_
       rintro x aG ⟨rfl,bn⟩
       have dd:=bC.ext bn
       have lJ:=fb aG bn
       have m_:=eu aG bn
       have bS:((par t.l[0] t.l[0].text [45,62] [45,62]).length+1+1+1+1≤17179869184)=True:=eq_true (by omega)
       have b0:((par t.l[0] t.l[0].text [45,62] [45,62]).length+4≤17179869184)=True:=eq_true (by omega)
       simp +contextual only [ol.1,ol.2.1,bC.g,dd.g,h0,jn,a0,bH,lJ,m_,e5,e6,fO,fP,bS,b0,↓ak,ax,simprocAttr]
       refine bY (lU 1 i1 _ aG (pn.ext bn)) ?_
       rintro x ba ⟨rfl,b2⟩
       have ey:=dd.ext b2
       have pr:=fb ba (bn.trans b2)
       have rV:=eu ba (bn.trans b2)
       have cB:((par t.l[0] t.l[0].text [45,62] [45,62]++[32,45,62,32]).length+t.l[1].text.length≤17179869184)=True:=eq_true (by simp only [List.length_append,List.length_cons,List.length_nil];omega)
       simp +contextual only [ol.1,ol.2.1,bC.g,dd.g,ey.g,h0,jn,a0,bH,lJ,m_,pr,rV,e5,e6,fO,fP,cB,↓ak,ax,simprocAttr]
       exact (aK.trans bn).trans b2
     rw [if_neg s1]
     by_cases s2:t.s=[42]
     · rw [if_pos s2]
       have ae:t.l.length=2:=Dj fi bz (.inr s2)
       have i0:0<t.l.length:=by omega
       have i1:1<t.l.length:=by omega
       obtain ⟨lL,f0,v0,h0,lI,e5,e6,fb⟩:=aB.uI (L.ext aK) i0
       obtain ⟨cC,f1,v1,jn,pn,fO,fP,eu⟩:=aB.zN (L.ext aK) i1
       have a0:=fb ab (Ext.refl _)
       have bH:=eu ab (Ext.refl _)
       have ah:=nI t.l[0] t.l[0].text [45,62] [42]
       have ht:=nI t.l[1] t.l[1].text [45,62] [45,62]
       have t0:=gT 0 i0
       have t1:=gT 1 i1
       rw [show t.l.getD 0 iG=t.l[0] by simp [List.getD,List.getElem?_eq_getElem i0],show t.l.getD 1 iG=t.l[1] by simp [List.getD,List.getElem?_eq_getElem i1],show (t.l.map aB.text).getD 0 []=t.l[0].text by simp [List.getD,List.getElem?_eq_getElem i0],show (t.l.map aB.text).getD 1 []=t.l[1].text by simp [List.getD,List.getElem?_eq_getElem i1]]
       simp +contextual only [ol.1,ol.2.1,an,bC.g,eq_false bz,eq_false s1,eq_true s2,h0,jn,a0,bH,e5,e6,fO,fP,decide_true,decide_false,↓ak,ax,simprocAttr]
       refine bY (DJ t.l[0] (mL eG i0) (h7 0 i0) (lU 0 i0) _ _ _ ab lI) ?_
       rintro x aG ⟨rfl,bn⟩
       have dd:=bC.ext bn
       have lJ:=fb aG bn
       have m_:=eu aG bn
       have bS:((par t.l[0] t.l[0].text [45,62] [42]).length+1+1+1≤17179869184)=True:=eq_true (by omega)
       have b0:((par t.l[0] t.l[0].text [45,62] [42]).length+3≤17179869184)=True:=eq_true (by omega)
       simp +contextual only [ol.1,ol.2.1,bC.g,dd.g,h0,jn,a0,bH,lJ,m_,e5,e6,fO,fP,bS,b0,↓ak,ax,simprocAttr]
       refine bY (DJ t.l[1] (mL eG i1) (h7 1 i1) (lU 1 i1) _ _ _ aG (pn.ext bn)) ?_
       rintro x ba ⟨rfl,b2⟩
       have ey:=dd.ext b2
       have pr:=fb ba (bn.trans b2)
       have rV:=eu ba (bn.trans b2)
       have cB:((par t.l[0] t.l[0].text [45,62] [42]++[32,42,32]).length + (par t.l[1] t.l[1].text [45,62] [45,62]).length≤17179869184)=True:=eq_true (by simp only [List.length_append,List.length_cons,List.length_nil];omega)
       simp +contextual only [ol.1,ol.2.1,bC.g,dd.g,ey.g,h0,jn,a0,bH,lJ,m_,pr,rV,e5,e6,fO,fP,cB,↓ak,ax,simprocAttr]
       exact (aK.trans bn).trans b2
     rw [if_neg s2]
     by_cases xa:t.l.length=0
     · rw [if_pos xa]
       have q5:((t.l.length:Int)=0)=True:=eq_true (by omega)
       simp +contextual only [ol.1,ol.2.1,an,bC.g,eq_false bz,eq_false s1,eq_false s2,ai,q5,decide_true,decide_false,↓ak,ax,simprocAttr]
       exact aK
     rw [if_neg xa]
     have q5:((t.l.length:Int)=0)=False:=eq_false (by omega)
     have j_:=Jm fi bz
     by_cases eg:t.l.length=1
     · rw [if_pos eg]
       have uK:((t.l.length:Int)=1)=True:=eq_true (by omega)
       have i0:0<t.l.length:=by omega
       obtain ⟨lL,f0,v0,h0,lI,e5,e6,fb⟩:=aB.uI (L.ext aK) i0
       have a0:=fb ab (Ext.refl _)
       have ah:=nI t.l[0] t.l[0].text [45,62] [42]
       have t0:=gT 0 i0
       rw [show t.l.getD 0 iG=t.l[0] by simp [List.getD,List.getElem?_eq_getElem i0],show (t.l.map aB.text).getD 0 []=t.l[0].text by simp [List.getD,List.getElem?_eq_getElem i0]]
       simp +contextual only [ol.1,ol.2.1,an,bC.g,eq_false bz,eq_false s1,eq_false s2,ai,q5,uK,h0,a0,e5,e6,decide_true,decide_false,↓ak,ax,simprocAttr]
       refine bY (DJ t.l[0] (mL eG i0) (h7 0 i0) (lU 0 i0) _ _ _ ab lI) ?_
       rintro x aG ⟨rfl,bn⟩
       have dd:=bC.ext bn
       have lJ:=fb aG bn
       have bS:((par t.l[0] t.l[0].text [45,62] [42]).length+1≤17179869184)=True:=eq_true (by omega)
       have cB:((par t.l[0] t.l[0].text [45,62] [42]++[32]).length+t.s.length≤17179869184)=True:=eq_true (by simp only [List.length_append,List.length_cons,List.length_nil];omega)
       simp +contextual only [ol.1,ol.2.1,bC.g,dd.g,h0,a0,lJ,e5,e6,bS,cB,↓ak,ax,simprocAttr]
       exact aK.trans bn
     rw [if_neg eg]
     have uK:((t.l.length:Int)=1)=False:=eq_false (by omega)
     simp +contextual only [ol.1,ol.2.1,an,bC.g,eq_false bz,eq_false s1,eq_false s2,ai,q5,uK,decide_true,decide_false,↓ak,ax,simprocAttr]
     have CB:ic t.l=true:=by rw [p4,Bool.and_eq_true] at eG;exact eG.2
     refine fG (fun r g=>r 1=.ptr (al h.next) 0∧∃i:Nat,r 5=.int .i64 i∧i≤t.l.length∧r 4=.str (40::Lib.join ((t.l.map aB.text).take i) [44,32])∧Ext ab g) (fun r g=>t.l.length - (r 5).toN) ?_ ?_
     · exact ⟨by simp only [↓ak,bL,simprocAttr],0,by simp only [↓ak,bL,simprocAttr]<;>rfl,by omega,by simp only [↓ak,bL,simprocAttr]<;>rfl,Ext.refl _⟩
     rintro r g ⟨bl,i,c1,aC,c7,E⟩
     unfold Mz
     have hB:=bC.ext E
     have mj:=L.ext (aK.trans E)
     have Od:=PJ CB i
     have ac4:(40::Lib.join ((t.l.map aB.text).take i) [44,32]).length≤400000:=by rw [List.length_cons];omega
     by_cases aL:i<t.l.length
     · have g0:((i:Int) < (t.l.length:Int))=True:=eq_true (by omega)
       obtain ⟨b,off,wl,cD,X,fI,ld⟩:=aB.hN mj (k:=.i64) aL
       have d1:=ld g (Ext.refl g)
       have di:=fI.one
       have dH:=hT aL (by unfold top at hle;omega)
       have akw:=gT i aL
       have qY:Lib.join ((t.l.map aB.text).take (i+1)) [44,32]=if (t.l.map aB.text).take i=[] then t.l[i].text else Lib.join ((t.l.map aB.text).take i) [44,32]++[44,32]++t.l[i].text:=by
        rw [List.take_succ_eq_append_getElem (by rw [List.length_map];exact aL),aet,List.getElem_map]
       by_cases i0:i=0
       · have z0:((0:Int) < (i:Int))=False:=eq_false (by omega)
         have ov:(t.l.map aB.text).take i=[]:=by rw [i0];rfl
         rw [ov,Lib.join_nil] at c7
         rw [if_pos ov] at qY
         have bS:(1+t.l[i].text.length≤17179869184)=True:=eq_true (by omega)
         have b0:(t.l[i].text.length+1≤17179869184)=True:=eq_true (by omega)
         simp +contextual only [bl,c7,c1,hB.g,ai,g0,z0,cD,d1,di.1,di.2.1,↓ak,ax,simprocAttr]
         refine bY (lU i aL _ g X) ?_
         rintro x g2 ⟨rfl,ct⟩
         simp +contextual only [bl,c7,c1,bS,b0,dH,↓ak,ax,simprocAttr]
         exact ⟨⟨i+1,rfl,aL,by rw [qY],E.trans ct⟩,by omega⟩
       · have z0:((0:Int) < (i:Int))=True:=eq_true (by omega)
         have ov:¬(t.l.map aB.text).take i=[]:=fun q=>by
          have:=congrArg List.length q
          rw [List.length_take,List.length_map,List.length_nil] at this;omega
         rw [if_neg ov] at qY
         generalize aA:40::Lib.join ((t.l.map aB.text).take i) [44,32]=J at *
         have bS:(J.length+1+1≤17179869184)=True:=eq_true (by omega)
         have b0:(J.length+2≤17179869184)=True:=eq_true (by omega)
         have cB:((J++[44,32]).length+t.l[i].text.length≤17179869184)=True:=eq_true (by simp only [List.length_append,List.length_cons,List.length_nil];omega)
         simp +contextual only [bl,c7,c1,hB.g,ai,g0,z0,bS,b0,cD,d1,di.1,di.2.1,↓ak,ax,simprocAttr]
         refine bY (lU i aL _ g X) ?_
         rintro x g2 ⟨rfl,ct⟩
         simp +contextual only [bl,c7,c1,bS,b0,cB,dH,↓ak,ax,simprocAttr]
         refine ⟨⟨i+1,rfl,aL,?_,E.trans ct⟩,by omega⟩
         rw [qY,←aA];simp
     · have g0:((i:Int) < (t.l.length:Int))=False:=eq_false (by omega)
       rw [List.take_of_length_le (by rw [List.length_map];omega)] at c7 ac4
       generalize aA:40::Lib.join (t.l.map aB.text) [44,32]=J at *
       have bS:(J.length+1+1≤17179869184)=True:=eq_true (by omega)
       have b0:(J.length+2≤17179869184)=True:=eq_true (by omega)
       have cB:((J++[41,32]).length+t.s.length≤17179869184)=True:=eq_true (by simp only [List.length_append,List.length_cons,List.length_nil];omega)
       simp +contextual only [bl,c7,c1,hB.g,ai,g0,bS,b0,cB,↓ak,ax,simprocAttr]
       exact ⟨by rw [←aA];simp,aK.trans E⟩
theorem ajh (t:aB) (aQ:t.size≤1000000000) (ad:List V) (h:af) (H:bJ Any h t.enc ad):bB Tryz.prog 37 [.agg ad] h fun x aa=>x=.str (D2 t)∧Ext h aa:=by
 have eo:=H
 obtain ⟨bN,rfl,L,gz⟩:=aB.open H
 have ol:=L.one
 refine XX rfl (cL ?_)
 unfold FY
 obtain ⟨ab,an,aK,bC⟩:=dM h (cc t bN)
 unfold D2
 simp +contextual only [ol.1,ol.2.1,an,bC.g,↓ak,ax,simprocAttr]
 refine bY (Au t aQ _ ab (eo.ext aK)) ?_
 rintro x ae ⟨rfl,aS⟩
 have bV:=bC.ext aS
 by_cases c:t.check=0
 · obtain ⟨bz,bZ,_⟩:=vP c
   simp +contextual only [ol.1,ol.2.1,bV.g,eq_true c,decide_true,decide_false,↓ak,ax,simprocAttr]
   refine bY (R6 t.size t (Nat.le_refl _) bZ bz _ ae ((eo.ext aK).ext aS)) ?_
   rintro x aG ⟨rfl,bn⟩
   simp +contextual only [↓ak,ax,simprocAttr]
   exact (aK.trans aS).trans bn
 · simp +contextual only [eq_false c,decide_true,decide_false,↓ak,ax,simprocAttr]
   exact aK.trans aS
section
variable [Lay] {B:Nat} {G F:aP→Prop} {h aa:af} {size:Nat} {es hq:List (List D)} {v w:V}
theorem NN {F:aP→Prop}:∀(us:List (List V)) (es:List (List D)),us.length=es.length→(∀(i:Nat) (e:List D) (u:List V),es[i]? =some e→us[i]? =some u→bJ F h e u)→eS us.flatten=true
 | [],_,_,_=>rfl
 | u::us,[],h,_=>by simp at h
 | u::us,e::es,ai,H=>by
   have ab:=(H 0 e u rfl rfl).eS
   have ae:=NN us es (by simpa using ai) fun i e u a b=>H (i+1) e u (by simpa using a) (by simpa using b)
   have app:∀a b:List V,eS a=true→eS b=true→eS (a++b)=true:=by
    intro a
    induction a with
    | nil=>intro b _ q;exact q
    | cons x a bk=>
      intro b an az
      simp only [eS,Bool.and_eq_true,List.cons_append] at an ⊢
      exact ⟨an.1,bk b an.2 az⟩
   rw [List.flatten_cons]
   exact app _ _ ab ae
theorem fo.app (H:fo B G h size es v) (L:cw F h size hq w) (gS:∀b,F b→G b∧¬v.aW b) (ca:1≤size) (c2:B≤h.next) (hlen:(es.length+hq.length) * size≤top):
 ∃dn aa,kW size v w h=.val dn aa∧fo B G aa size (es++hq) dn∧Mod v.aW h aa∧∀b,dn.aW b→v.aW b∨h.next≤dG b:=by
 obtain ⟨us,a,b,c,d⟩:=H.ex
 obtain ⟨S8,a2,ck,bI,d2⟩:=L.ex
 obtain ⟨dn,aa,an,az,aN,bM⟩:=LS ca a a2 c2 hlen (NN S8 hq ck d2)
 have fz:∀b,(G b∧¬v.aW b)→Old h b→¬v.aW b∧(G b∧¬dn.aW b):=fun b q o=>⟨q.2,q.1,fun z=>by
  rcases bM b z with z | z
  · exact q.2 z
  · unfold Old at o;omega⟩
 refine ⟨dn,aa,an,⟨us++S8,?_,by simp [b,ck],?_,?_⟩,aN,bM⟩
 · rw [List.length_append,List.flatten_append];exact az
 · intro u hu
   rcases List.mem_append.1 hu with hu | hu
   · exact c u hu
   · exact bI u hu
 · intro i e u aK aS
   by_cases aC:i<es.length
   · rw [List.getElem?_append_left aC] at aK
     rw [List.getElem?_append_left (by omega)] at aS
     exact (d i e u aK aS).mod aN fz
   · rw [List.getElem?_append_right (by omega)] at aK
     rw [List.getElem?_append_right (by omega),b] at aS
     exact (d2 _ e u aK aS).mod aN fun b q o=>fz b (gS b q) o
theorem cw.both (H:cw F h size es v):cw (fun b=>F b∧Old h b) h size es v:=by
 obtain ⟨us,a,b,c,d⟩:=H.ex
 exact ⟨H.room,H.le,⟨us,a,b,c,fun i x u an az=>(d i x u an az).b1⟩,fun b q=>⟨H.wc b q,a.b1 q⟩⟩
theorem fo.agR (G:aP→Prop) (h:af) (size:Nat):∃g,h.new (.a1 [] 0 false)=g∧Ext h g∧fo h.next G g size [] (.slice (al h.next) 0 0 0):=by
 obtain ⟨g,an,az,aN⟩:=IP h size 0 [] (by simp) (Nat.zero_le _)
 exact ⟨g,an,az,⟨[],aN,rfl,fun u hu=>(by cases hu),fun i e u q=>(by simp at q)⟩⟩
end
theorem ai2 {a:aB} (h:a.check=0):ki a=a.put (gi 0 a.vars):=by unfold ki;rw [if_pos h]
set_option maxHeartbeats 8000000 in
theorem ajg (t:aB) (aF:t.size≤900000000) (ad:List V) (h:af) (H:bJ Any h t.enc ad):
 bB Tryz.prog 39 [.agg ad] h fun x aa=>(∃cs,x=.agg cs∧bJ Any aa (ki t).enc cs)∧Ext h aa:=by
 have eo:=H.nG
 obtain ⟨bN,rfl,L,gz⟩:=aB.open H
 have ol:=L.one
 refine X3 rfl (cL ?_)
 unfold F0
 obtain ⟨ab,an,aK,bC⟩:=dM h (cc t bN)
 obtain ⟨ae,az,aS,hl⟩:=dM ab z4
 have bV:=bC.ext aS
 have cp:=aK.next
 have gq:=aS.next
 have zO:=bC.lt
 have IS:=hl.lt
 have cQ:=aK.trans aS
 simp +contextual only [ol.1,ol.2.1,an,az,bV.g,↓ak,ax,simprocAttr]
 refine bY (Au t (by omega) _ ae ((eo.ext cQ).fg fun _ _=>trivial)) ?_
 rintro x aG ⟨rfl,bn⟩
 have dd:=bV.ext bn
 have hV:=hl.ext bn
 have vU:=cQ.trans bn
 have n3:=bn.next
 by_cases aI:¬t.check=0
 · have aJ:ki t=iG:=by unfold ki;rw [if_neg aI]
   rw [aJ]
   simp +contextual only [hV.g,eq_false aI,decide_true,decide_false,↓ak,ax,simprocAttr]
   exact ⟨⟨_,rfl,alo _ _⟩,vU.set cp _⟩
 have aI:t.check=0:=by simpa using aI
 have lg:=Kv t
 have hs:=vP aI
 simp +contextual only [eq_true aI,decide_true,decide_false,dd.g,ol.1,ol.2.1,↓ak,ax,simprocAttr]
 refine bY (Sa t aF _ aG ((eo.ext vU).fg fun _ _=>trivial)) ?_
 rintro y cz ⟨Y,fJ⟩
 have n5:=fJ.next
 have vC:cw Any cz 1 (t.vars.map aX.encI) y:=gv.fv Y (by unfold top;omega)
 have fW:=vC.one
 have ai:=vC.len
 rw [List.length_map] at ai
 simp +contextual only [fW.1,fW.2.1,↓ak,ax,simprocAttr]
 have mP:=vU.trans fJ
 refine fG (fun r g=>r 1=.ptr (al h.next) 0∧r 2=.ptr (al ab.next) 0∧r 3=y∧∃(i:Nat) (w:V),r 4=w∧r 5=.int .i64 i∧i≤t.vars.length∧fo cz.next (fun _=>False) g 5 ((gi 0 (t.vars.take i)).map nf) w∧Ext cz g) (fun r g=>t.vars.length - (r 5).toN) ?_ ?_
 · exact ⟨by simp only [↓ak,bL,simprocAttr],by simp only [↓ak,bL,simprocAttr],by simp only [↓ak,bL,simprocAttr],0,.b6,by simp only [↓ak,bL,simprocAttr],by simp only [↓ak,bL,simprocAttr]<;>rfl,by omega,fo.nil _ _ _ _,Ext.refl _⟩
 rintro r g ⟨bl,bT,cg,i,w,c7,c1,aC,W,E⟩
 unfold Mu
 have di:=W.one
 have xm:=E.next
 by_cases aL:i<t.vars.length
 · have g0:((i:Int) < (t.vars.length:Int))=True:=eq_true (by omega)
   obtain ⟨b,off,cD,ld⟩:=vC.zI (k:=.i64) aL
   have d1:=ld g E
   have dH:=hT aL (by omega)
   have lH:bJ (fun b=>False∧¬w.aW b) g (nf (t.vars[i],xM i)) [.int .i64 t.vars[i],.int .i64 1,.int .i64 i,.str [],.b6]:=.i (S_ _ _ _)
   have ze:((gi 0 (t.vars.take i)).map nf).length≤t.vars.length:=by
    have:∀(l:List Int) (z:Int),(gi z l).length=l.length:=fun l=>by
     induction l with
     | nil=>intro z;rfl
     | cons n l bk=>intro z;rw [gi,List.length_cons,bk,List.length_cons]
    rw [List.length_map,this,List.length_take];omega
   obtain ⟨dn,g3,bS,b0,cB,hh,oI⟩:=W.add lH (by omega) (by omega) (by unfold top;omega) rfl
   have eW:=b0.one
   have en:Ext cz g3:=E.ke cB fun b q=>W.base q
   simp +contextual only [bl,bT,cg,c7,c1,ai,g0,cD,d1,di.1,di.2.1,bS,eW.1,eW.2.1,dH,↓ak,ax,simprocAttr]
   refine ⟨⟨i+1,rfl,aL,?_,en⟩,by omega⟩
   rw [RU aL,List.map_append]
   exact b0
 · have g0:((i:Int) < (t.vars.length:Int))=False:=eq_false (by omega)
   rw [List.take_of_length_le (by omega)] at W
   have Tu:=(dd.ext fJ).ext E
   have Rg:=(hV.ext fJ).ext E
   have AU:=mP.trans E
   have zg:((gi 0 t.vars).map nf).length≤top:=by
    have:∀(l:List Int) (z:Int),(gi z l).length=l.length:=fun l=>by
     induction l with
     | nil=>intro z;rfl
     | cons n l bk=>intro z;rw [gi,List.length_cons,bk,List.length_cons]
    rw [List.length_map,this];unfold top;omega
   simp +contextual only [bl,bT,cg,c7,c1,ai,g0,Tu.g,Rg.g,ol.1,ol.2.1,di.1,di.2.1,↓ak,ax,simprocAttr]
   refine bY (R5 (gi 0 t.vars) t.size t (Nat.le_refl _) (by omega) (.inr hs.1) (fun b=>Old g b∧b≠al ab.next) w _ g (fun b q=>q.1) ((cw.both (W.fv (F:=fun b=>cz.next≤dG b) zg (fun _ q=>q.elim) fun _ q=>q)).fg fun b q=>⟨q.2,fun z=>by have:=q.1;rw [z,cK] at this;omega⟩) ((eo.ext AU).fg fun b q=>⟨AU.b1 q,fun z=>by unfold Old at q;rw [z,cK] at q;omega⟩)) ?_
   rintro x g3 ⟨⟨cs,rfl,C⟩,gr⟩
   obtain ⟨u,rfl,U,hu⟩:=aB.open C
   have dh:=U.one
   have mW:=Rg.ext gr
   have hC:=AU.trans gr
   simp +contextual only [bl,bT,mW.g,dh.1,dh.2.1,↓ak,ax,simprocAttr]
   refine ⟨⟨_,rfl,?_⟩,hC.set cp _⟩
   rw [ai2 aI]
   refine C.mod ((Mod.refl (fun x=>x=al ab.next) _).set (fun _=>rfl) _) fun b q _=>⟨fun z=>?_,trivial⟩
   rcases q with q | q
   · exact q.2 z
   · rw [show b=al ab.next from z] at q;unfold jw at q;rw [cK] at q;have:=AU.next;omega
end Go.Proofs.YthemdhlheglhoaaGreatDoor
namespace Go.Proofs.YthemdhlheglhoaaGreatDoor
open Go aX
theorem Q1 (a:aB) (p x:List UInt8):(if a.k=2∧a.s ∈ [x] then 40::(p++[41]) else p)=par a p x x:=by
 unfold par;simp
theorem Q2 (a:aB) (p x y:List UInt8):(if a.k=2∧a.s ∈ [x,y] then 40::(p++[41]) else p)=par a p x y:=by
 unfold par;simp
theorem xJ [Lay] (F:aP→Prop) (h:af) (x:List UInt8) (aq:x.length≤top):bJ F h (aX.encS x) [.str x]:=.s aq .nil
theorem SI (us:List V):∀(bO:List (List UInt8)) (off:Nat),off+bO.length≤us.length→(us.drop off).take bO.length=bO.map V.str→rm (aX.dD .e 0 us) off bO.length=some bO
 | [],off,_,_=>rfl
 | s::bO,off,h,hu=>by
   rw [List.length_cons] at h hu
   have aZ:us.drop off=us[off]::us.drop (off+1):=List.drop_eq_getElem_cons (by omega)
   rw [aZ,List.take_succ_cons,List.map_cons,List.cons.injEq] at hu
   have ab:=B8 us 0 off .e
   rw [Nat.zero_add] at ab
   rw [if_pos (by omega)] at ab
   simp only [List.length_cons,rm]
   rw [ab]
   have ae:(us[off]?).getD V.bad=.str s:=by rw [List.getElem?_eq_getElem (by omega),Option.getD_some];exact hu.1
   have bk:=SI us bO (off+1) (by omega) hu.2
   simp only [Nat.sub_zero,ae,bk]
theorem SL [Lay] {F:aP→Prop} {h:af}:∀(us:List (List V)) (bO:List (List UInt8)),us.length=(bO.map aX.encS).length→(∀(i:Nat) (e:List D) (u:List V),(bO.map aX.encS)[i]? =some e→us[i]? =some u→bJ F h e u)→us.flatten=bO.map V.str
 | [],[],_,_=>rfl
 | [],t::bO,ai,_=>by simp at ai
 | u::us,[],ai,_=>by simp at ai
 | u::us,t::bO,ai,H=>by
   have ab:=H 0 _ u rfl rfl
   obtain ⟨r,rfl,_,ae⟩:=bJ.str ab
   obtain rfl:=ae.no
   rw [List.flatten_cons,List.map_cons,SL us bO (by simpa using ai) fun i e u a b=>H (i+1) e u (by simpa using a) (by simpa using b)]
   rfl
theorem PE {h:af} {b:aP} {us:List V} {cy:Nat} {st:Bool} {off:Nat} {bO:List (List UInt8)} (sep:List UInt8) (aH:h.get b=.a1 us cy st) (ai:off+bO.length≤us.length) (hu:(us.drop off).take bO.length=bO.map V.str) (aU:bO.length≤1000000) (bK:(Lib.join bO sep).length≤1000000):
 w7 h b off bO.length sep=.val (.str (Lib.join bO sep)) h:=by
 unfold w7
 rw [aH]
 simp only [cb.a1]
 rw [show (Nat.ble (off+bO.length) us.length&&Nat.ble bO.length 1000000)=true from by simp only [Bool.and_eq_true,Nat.ble_eq];exact ⟨ai,aU⟩]
 simp only [cond_true]
 rw [SI us bO off ai hu]
 simp only [Km]
 rw [show Nat.ble (Lib.join bO sep).length 1000000=true from by rw [Nat.ble_eq];exact bK]
 rfl
theorem aes {B:Nat} {G:aP→Prop} (bO:List (List UInt8)) (sep:List UInt8) (v:V) (h:af) (W:fo B G h 1 (bO.map aX.encS) v) (aU:bO.length≤1000000) (bK:(Lib.join bO sep).length≤1000000):bB Tryz.prog 72 [v,.str sep] h fun x aa=>x=.str (Lib.join bO sep)∧aa=h:=by
 obtain ⟨us,a,b,c,d⟩:=W.ex
 have ay:=SL us bO b d
 rw [ay,List.length_map] at a
 have he:w8.run [v,.str sep] h=.val (.str (Lib.join bO sep)) h:=by
  have ab:=a.1
  have ae:=a.2
  cases v<;>simp only at ae<;>try (exact ae.elim)
  case b6=>
   have:bO=[]:=List.eq_nil_of_length_eq_zero (by omega)
   subst this;rfl
  case slice=>
   obtain ⟨an,az,aN,bM,dL,akH,cy,st,eP,hi,iD⟩:=ae
   rw [List.length_map] at iD
   simp only [w8]
   rw [an]
   exact PE sep eP (by omega) iD aU bK
  case eC=>
   obtain ⟨an,az,aN,bM,dL,akH,st,eP,hi,iD⟩:=ae
   rw [List.length_map] at iD hi
   simp only [w8]
   rw [an,bM]
   exact PE sep eP (by omega) (by simpa using iD) aU bK
 have aI:fh Tryz.prog 72 [v,.str sep] h (.str (Lib.join bO sep)) h:=by
  refine ⟨fun e=>absurd e (by decide),.inl ⟨⟨_,Tryz.func72,by kernel_rfl⟩,fun aw E w xs aq s=>PG PI he aw E w xs aq s⟩⟩
 exact ⟨_,_,aI,rfl,rfl⟩
set_option maxHeartbeats 16000000 in
theorem Ro (eX iZ:Nat):∀(N:Nat) (t:aB),t.size≤N→N≤4096→t.shape=true→∀(ad:List V) (h:af),bJ Any h t.enc ad→Has h eX [f70 eX iZ]→Has h iZ [f68 eX]→
 bB Tryz.prog 70 [.agg ad,.ptr (al iZ) 0,.ptr (al eX) 0] h fun x aa=>x=.str t.text∧Ext h aa
 | 0,t,aQ,_,_,_,_,_,_,_=>by have:=lu t;omega
 | N+1,t,aQ,r8,eG,ad,h,H,n0,yk=>by
   have bG:N≤4096:=by omega
   have eo:=H
   obtain ⟨bN,rfl,L,gz⟩:=aB.open H
   have ol:=L.one
   have ai:=L.len
   have hle:=L.le
   rw [List.length_map] at ai hle
   have ca:=size_eq t
   have hx:=oN t.l
   have fi:t.own=true:=by rw [p4,Bool.and_eq_true] at eG;exact eG.1
   refine YF rfl (cL ?_)
   unfold Gf
   obtain ⟨ab,an,aK,bC⟩:=dM h (cc t bN)
   have kV:=n0.ext aK
   have lF:=yk.ext aK
   rw [SS]
   by_cases bz:t.k=1
   · rw [if_pos bz]
     obtain ⟨cA,cp⟩:=Jn fi bz
     obtain ⟨n,aU⟩:∃n:Nat,t.n=n:=⟨t.n.toNat,by omega⟩
     have ou:n≤1048575:=by omega
     rw [show t.n.toNat=n by omega]
     obtain ⟨bu,bI,c3⟩:=S' ou
     rw [←aU] at bu c3
     have dN:=ad5 (i:=n % 26) (by omega)
     have c5:=ajq ((97+n % 26:Nat):Int) ab
     rw [ajp (by omega)] at c5
     unfold xL
     by_cases aL:n<26
     · have g0:(t.n<26)=True:=eq_true (by omega)
       have g1:(26≤t.n)=False:=eq_false (by omega)
       simp +contextual only [ol.1,ol.2.1,an,bC.g,eq_true bz,bu,bI,dN,c5,g0,g1,decide_true,decide_false,↓ak,ax,simprocAttr]
       exact ⟨by rw [if_pos aL],aK⟩
     · have g0:(t.n<26)=False:=eq_false (by omega)
       have g1:(26≤t.n)=True:=eq_true (by omega)
       simp +contextual only [ol.1,ol.2.1,an,bC.g,eq_true bz,bu,bI,c3,dN,c5,g0,g1,decide_true,decide_false,↓ak,ax,simprocAttr]
       refine bY (aac (n / 26) (by omega) _) ?_
       rintro x ae ⟨rfl,rfl⟩
       have aZ:(Lib.decDigits (n / 26)).length≤20:=by rw [Lib.decDigits_length];exact Lib.nDigits_le20 _ (by omega)
       have d1:((Lib.decDigits (n / 26)).length+1+1≤17179869184)=True:=eq_true (by omega)
       have d2:(2 + (Lib.decDigits (n / 26)).length≤17179869184)=True:=eq_true (by omega)
       simp +contextual only [d1,d2,↓ak,ax,simprocAttr]
       exact ⟨by rw [if_neg aL],aK⟩
   · rw [if_neg bz]
     have lU:∀i (aC:i<t.l.length),∀(ad:List V) (h:af),bJ Any h (t.l[i]).enc ad→Has h eX [f70 eX iZ]→Has h iZ [f68 eX]→bB Tryz.prog 70 [.agg ad,.ptr (al iZ) 0,.ptr (al eX) 0] h fun x aa=>x=.str (t.l[i]).text∧Ext h aa:=fun i aC=>
      Ro eX iZ N t.l[i] (by have:=l9 (t:=t) (List.getElem_mem aC);omega) bG (mL eG aC)
     have h7:∀i (aC:i<t.l.length),(t.l[i]).size≤4096:=fun i aC=>by have:=l9 (t:=t) (List.getElem_mem aC);omega
     have gT:∀i (aC:i<t.l.length),(t.l[i]).text.length≤400000:=fun i aC=>by have:=AD t.l[i] (mL eG aC);have:=h7 i aC;omega
     unfold AG
     have EY:iM=[45,62]:=rfl
     have st:nO=[42]:=rfl
     rw [EY,st]
     by_cases s1:t.s=[45,62]
     · rw [if_pos s1]
       have ae:t.l.length=2:=Dj fi bz (.inl s1)
       have i0:0<t.l.length:=by omega
       have i1:1<t.l.length:=by omega
       obtain ⟨lL,f0,v0,h0,lI,e5,e6,fb⟩:=aB.uI (L.ext aK) i0
       obtain ⟨cC,f1,v1,jn,pn,fO,fP,eu⟩:=aB.zN (L.ext aK) i1
       have a0:=fb ab (Ext.refl _)
       have bH:=eu ab (Ext.refl _)
       obtain ⟨k2,eJ,aS,iK⟩:=IN (h:=ab) (F:=Any) (size:=1) rfl (xJ Any ab [45,62] (by decide)) trivial
       have bV:=bC.ext aS
       have ig:=kV.ext aS
       have j3:=lF.ext aS
       have pq:=fb k2 aS
       have a12:=eu k2 aS
       have ah:=nI t.l[0] t.l[0].text [45,62] [45,62]
       have t0:=gT 0 i0
       have t1:=gT 1 i1
       rw [show t.l.getD 0 iG=t.l[0] by simp [List.getD,List.getElem?_eq_getElem i0],show (t.l.map aB.text).getD 0 []=t.l[0].text by simp [List.getD,List.getElem?_eq_getElem i0],show (t.l.map aB.text).getD 1 []=t.l[1].text by simp [List.getD,List.getElem?_eq_getElem i1]]
       simp +contextual only [ol.1,ol.2.1,an,eJ,bC.g,bV.g,kV.g,lF.g,ig.g,j3.g,eq_false bz,eq_true s1,h0,jn,a0,bH,pq,a12,e5,e6,fO,fP,jy,List.cons_append,List.nil_append,show (68=4294967296)=False from by simp,show (70=4294967296)=False from by simp,if_false,decide_true,decide_false,↓ak,ax,simprocAttr]
       refine bY (Dp eX iZ t.l[0] (mL eG i0) (h7 0 i0) (lU 0 i0) [[45,62]] _ _ k2 (lI.ext aS) iK ig j3) ?_
       rintro x aG ⟨rfl,bn⟩
       rw [Q1]
       have dd:=bV.ext bn
       have o7:=ig.ext bn
       have o8:=j3.ext bn
       have lJ:=fb aG (aS.trans bn)
       have m_:=eu aG (aS.trans bn)
       have bS:((par t.l[0] t.l[0].text [45,62] [45,62]).length+1+1+1+1≤17179869184)=True:=eq_true (by omega)
       have b0:((par t.l[0] t.l[0].text [45,62] [45,62]).length+4≤17179869184)=True:=eq_true (by omega)
       simp +contextual only [ol.1,ol.2.1,bC.g,bV.g,dd.g,kV.g,lF.g,ig.g,j3.g,o7.g,o8.g,h0,jn,a0,bH,pq,a12,lJ,m_,e5,e6,fO,fP,bS,b0,jy,List.cons_append,List.nil_append,show (68=4294967296)=False from by simp,show (70=4294967296)=False from by simp,if_false,↓ak,ax,simprocAttr]
       refine bY (lU 1 i1 _ aG ((pn.ext aS).ext bn) o7 o8) ?_
       rintro x ba ⟨rfl,b2⟩
       have ey:=dd.ext b2
       have rM:=o7.ext b2
       have rN:=o8.ext b2
       have pr:=fb ba ((aS.trans bn).trans b2)
       have rV:=eu ba ((aS.trans bn).trans b2)
       have cB:((par t.l[0] t.l[0].text [45,62] [45,62]++[32,45,62,32]).length+t.l[1].text.length≤17179869184)=True:=eq_true (by simp only [List.length_append,List.length_cons,List.length_nil];omega)
       simp +contextual only [ol.1,ol.2.1,bC.g,bV.g,dd.g,ey.g,kV.g,lF.g,ig.g,j3.g,o7.g,o8.g,rM.g,rN.g,h0,jn,a0,bH,pq,a12,lJ,m_,pr,rV,e5,e6,fO,fP,cB,jy,List.cons_append,List.nil_append,↓ak,ax,simprocAttr]
       exact ((aK.trans aS).trans bn).trans b2
     rw [if_neg s1]
     by_cases s2:t.s=[42]
     · rw [if_pos s2]
       have ae:t.l.length=2:=Dj fi bz (.inr s2)
       have i0:0<t.l.length:=by omega
       have i1:1<t.l.length:=by omega
       obtain ⟨lL,f0,v0,h0,lI,e5,e6,fb⟩:=aB.uI (L.ext aK) i0
       obtain ⟨cC,f1,v1,jn,pn,fO,fP,eu⟩:=aB.zN (L.ext aK) i1
       have a0:=fb ab (Ext.refl _)
       have bH:=eu ab (Ext.refl _)
       obtain ⟨k2,eJ,aS,iK⟩:=zV (h:=ab) (F:=Any) (size:=1) rfl rfl (xJ Any ab [45,62] (by decide)) (xJ Any ab [42] (by decide)) trivial
       obtain ⟨wh,y3,bn,EJ⟩:=IN (h:=k2) (F:=Any) (size:=1) rfl (xJ Any k2 [45,62] (by decide)) trivial
       have s8:ab.new (.a1 [.str [45,62],.str [42]] 0 false)=k2:=eJ
       have bV:=bC.ext aS
       have ig:=kV.ext aS
       have j3:=lF.ext aS
       have pq:=fb k2 aS
       have a12:=eu k2 aS
       have dd:=bV.ext bn
       have o7:=ig.ext bn
       have o8:=j3.ext bn
       have lJ:=fb wh (aS.trans bn)
       have m_:=eu wh (aS.trans bn)
       have ah:=nI t.l[0] t.l[0].text [45,62] [42]
       have ht:=nI t.l[1] t.l[1].text [45,62] [45,62]
       have t0:=gT 0 i0
       have t1:=gT 1 i1
       rw [show t.l.getD 0 iG=t.l[0] by simp [List.getD,List.getElem?_eq_getElem i0],show t.l.getD 1 iG=t.l[1] by simp [List.getD,List.getElem?_eq_getElem i1],show (t.l.map aB.text).getD 0 []=t.l[0].text by simp [List.getD,List.getElem?_eq_getElem i0],show (t.l.map aB.text).getD 1 []=t.l[1].text by simp [List.getD,List.getElem?_eq_getElem i1]]
       simp +contextual only [ol.1,ol.2.1,an,s8,y3,bC.g,bV.g,dd.g,kV.g,lF.g,ig.g,j3.g,o7.g,o8.g,eq_false bz,eq_false s1,eq_true s2,h0,jn,a0,bH,pq,a12,lJ,m_,e5,e6,fO,fP,jy,List.cons_append,List.nil_append,show (68=4294967296)=False from by simp,show (70=4294967296)=False from by simp,if_false,decide_true,decide_false,↓ak,ax,simprocAttr]
       refine bY (Dp eX iZ t.l[0] (mL eG i0) (h7 0 i0) (lU 0 i0) [[45,62],[42]] _ _ wh ((lI.ext aS).ext bn) (iK.ext bn) o7 o8) ?_
       rintro x ba ⟨rfl,b2⟩
       rw [Q2]
       have ey:=dd.ext b2
       have rM:=o7.ext b2
       have rN:=o8.ext b2
       have pr:=fb ba ((aS.trans bn).trans b2)
       have rV:=eu ba ((aS.trans bn).trans b2)
       have bS:((par t.l[0] t.l[0].text [45,62] [42]).length+1+1+1≤17179869184)=True:=eq_true (by omega)
       have b0:((par t.l[0] t.l[0].text [45,62] [42]).length+3≤17179869184)=True:=eq_true (by omega)
       simp +contextual only [ol.1,ol.2.1,s8,y3,bC.g,bV.g,dd.g,ey.g,kV.g,lF.g,ig.g,j3.g,o7.g,o8.g,rM.g,rN.g,h0,jn,a0,bH,pq,a12,lJ,m_,pr,rV,e5,e6,fO,fP,bS,b0,jy,List.cons_append,List.nil_append,show (68=4294967296)=False from by simp,show (70=4294967296)=False from by simp,if_false,↓ak,ax,simprocAttr]
       refine bY (Dp eX iZ t.l[1] (mL eG i1) (h7 1 i1) (lU 1 i1) [[45,62]] _ _ ba (((pn.ext aS).ext bn).ext b2) (EJ.ext b2) rM rN) ?_
       rintro x cz ⟨rfl,fJ⟩
       rw [Q1]
       have iI:=ey.ext fJ
       have T8:=rM.ext fJ
       have T9:=rN.ext fJ
       have U1:=fb cz (((aS.trans bn).trans b2).trans fJ)
       have U2:=eu cz (((aS.trans bn).trans b2).trans fJ)
       have cB:((par t.l[0] t.l[0].text [45,62] [42]++[32,42,32]).length + (par t.l[1] t.l[1].text [45,62] [45,62]).length≤17179869184)=True:=eq_true (by simp only [List.length_append,List.length_cons,List.length_nil];omega)
       simp +contextual only [ol.1,ol.2.1,s8,y3,bC.g,bV.g,dd.g,ey.g,iI.g,kV.g,lF.g,ig.g,j3.g,o7.g,o8.g,rM.g,rN.g,T8.g,T9.g,h0,jn,a0,bH,pq,a12,lJ,m_,pr,rV,U1,U2,e5,e6,fO,fP,cB,jy,List.cons_append,List.nil_append,↓ak,ax,simprocAttr]
       exact (((aK.trans aS).trans bn).trans b2).trans fJ
     rw [if_neg s2]
     by_cases xa:t.l.length=0
     · rw [if_pos xa]
       have q5:((t.l.length:Int)=0)=True:=eq_true (by omega)
       simp +contextual only [ol.1,ol.2.1,an,bC.g,eq_false bz,eq_false s1,eq_false s2,ai,q5,decide_true,decide_false,↓ak,ax,simprocAttr]
       exact aK
     rw [if_neg xa]
     have q5:((t.l.length:Int)=0)=False:=eq_false (by omega)
     have j_:=Jm fi bz
     by_cases eg:t.l.length=1
     · rw [if_pos eg]
       have uK:((t.l.length:Int)=1)=True:=eq_true (by omega)
       have i0:0<t.l.length:=by omega
       obtain ⟨lL,f0,v0,h0,lI,e5,e6,fb⟩:=aB.uI (L.ext aK) i0
       have a0:=fb ab (Ext.refl _)
       obtain ⟨k2,eJ,aS,iK⟩:=zV (h:=ab) (F:=Any) (size:=1) rfl rfl (xJ Any ab [45,62] (by decide)) (xJ Any ab [42] (by decide)) trivial
       have s8:ab.new (.a1 [.str [45,62],.str [42]] 0 false)=k2:=eJ
       have bV:=bC.ext aS
       have ig:=kV.ext aS
       have j3:=lF.ext aS
       have pq:=fb k2 aS
       have ah:=nI t.l[0] t.l[0].text [45,62] [42]
       have t0:=gT 0 i0
       rw [show t.l.getD 0 iG=t.l[0] by simp [List.getD,List.getElem?_eq_getElem i0],show (t.l.map aB.text).getD 0 []=t.l[0].text by simp [List.getD,List.getElem?_eq_getElem i0]]
       simp +contextual only [ol.1,ol.2.1,an,s8,bC.g,bV.g,kV.g,lF.g,ig.g,j3.g,eq_false bz,eq_false s1,eq_false s2,ai,q5,uK,h0,a0,pq,e5,e6,jy,List.cons_append,List.nil_append,show (68=4294967296)=False from by simp,show (70=4294967296)=False from by simp,if_false,decide_true,decide_false,↓ak,ax,simprocAttr]
       refine bY (Dp eX iZ t.l[0] (mL eG i0) (h7 0 i0) (lU 0 i0) [[45,62],[42]] _ _ k2 (lI.ext aS) iK ig j3) ?_
       rintro x ba ⟨rfl,b2⟩
       rw [Q2]
       have ey:=bV.ext b2
       have rM:=ig.ext b2
       have rN:=j3.ext b2
       have pr:=fb ba (aS.trans b2)
       have bS:((par t.l[0] t.l[0].text [45,62] [42]).length+1≤17179869184)=True:=eq_true (by omega)
       have cB:((par t.l[0] t.l[0].text [45,62] [42]++[32]).length+t.s.length≤17179869184)=True:=eq_true (by simp only [List.length_append,List.length_cons,List.length_nil];omega)
       simp +contextual only [ol.1,ol.2.1,s8,bC.g,bV.g,ey.g,kV.g,lF.g,ig.g,j3.g,rM.g,rN.g,h0,a0,pq,pr,e5,e6,bS,cB,jy,List.cons_append,List.nil_append,↓ak,ax,simprocAttr]
       exact (aK.trans aS).trans b2
     rw [if_neg eg]
     have uK:((t.l.length:Int)=1)=False:=eq_false (by omega)
     have CB:ic t.l=true:=by rw [p4,Bool.and_eq_true] at eG;exact eG.2
     simp +contextual only [ol.1,ol.2.1,an,bC.g,eq_false bz,eq_false s1,eq_false s2,ai,q5,uK,decide_true,decide_false,↓ak,ax,simprocAttr]
     refine fG (fun r g=>r 1=.ptr (al iZ) 0∧r 2=.ptr (al eX) 0∧r 3=.ptr (al h.next) 0∧r 93=bN∧r 94=.int .i64 t.l.length∧∃(i:Nat) (w:V),r 6=w∧r 95=.int .i64 i∧i≤t.l.length∧fo ab.next (fun _=>False) g 1 (((t.l.map aB.text).take i).map aX.encS) w∧Ext ab g) (fun r g=>t.l.length - (r 95).toN) ?_ ?_
     · exact ⟨by simp only [↓ak,bL,simprocAttr],by simp only [↓ak,bL,simprocAttr],by simp only [↓ak,bL,simprocAttr],by simp only [↓ak,bL,simprocAttr],by simp only [↓ak,bL,simprocAttr],0,.b6,by simp only [↓ak,bL,simprocAttr],by simp only [↓ak,bL,simprocAttr]<;>rfl,by omega,fo.nil _ _ _ _,Ext.refl _⟩
     rintro r g ⟨bl,bT,cg,DB,DC,i,w,eQ,DD,aC,W,E⟩
     unfold My
     have hB:=bC.ext E
     have mj:=L.ext (aK.trans E)
     have Ln:=kV.ext E
     have T':=lF.ext E
     have di:=W.one
     have xm:=E.next
     by_cases aL:i<t.l.length
     · have g0:((i:Int) < (t.l.length:Int))=True:=eq_true (by omega)
       obtain ⟨b,off,wl,cD,X,fI,ld⟩:=aB.hN mj (k:=.i64) aL
       have d1:=ld g (Ext.refl g)
       have hQ:=fI.one
       have dH:=hT aL (by unfold top at hle;omega)
       have akw:=gT i aL
       obtain ⟨g1,ek,bj,Z⟩:=ga g z4 (cc t.l[i] wl)
       have ig:=Ln.ext bj
       have j3:=T'.ext bj
       simp +contextual only [bl,bT,cg,eQ,DB,DC,DD,g0,cD,d1,ek,Z.g,Ln.g,ig.g,hQ.1,hQ.2.1,di.1,di.2.1,jy,List.cons_append,List.nil_append,show (70=4294967296)=False from by simp,if_false,↓ak,ax,simprocAttr]
       refine bY (lU i aL _ g1 (X.ext bj) ig j3) ?_
       rintro x g2 ⟨rfl,ct⟩
       have mZ:=(W.ext bj).ext ct
       have cp:=bj.next
       have gq:=ct.next
       obtain ⟨dn,g3,bS,b0,cB,hh,oI⟩:=mZ.add (cs:=[.str t.l[i].text]) (.s (by unfold top;omega) .nil:bJ (fun b=>False∧¬w.aW b) g2 (aX.encS t.l[i].text) [.str t.l[i].text]) (by omega) (by omega) (by rw [List.length_map,List.length_take,List.length_map];unfold top;unfold top at hle;omega) rfl
       have eW:=b0.one
       have en:Ext ab g3:=((E.trans bj).trans ct).ke cB fun b q=>mZ.base q
       simp +contextual only [bl,bT,cg,eQ,DB,DC,DD,di.1,di.2.1,bS,eW.1,eW.2.1,dH,↓ak,ax,simprocAttr]
       refine ⟨⟨i+1,rfl,aL,?_,en⟩,by omega⟩
       rw [List.take_succ_eq_append_getElem (by rw [List.length_map];exact aL),List.map_append,List.getElem_map]
       exact b0
     · have g0:((i:Int) < (t.l.length:Int))=False:=eq_false (by omega)
       rw [List.take_of_length_le (by rw [List.length_map];omega)] at W
       simp +contextual only [bl,bT,cg,eQ,DB,DC,DD,g0,hB.g,di.1,di.2.1,↓ak,ax,simprocAttr]
       have Od:=PJ CB t.l.length
       rw [List.take_of_length_le (by rw [List.length_map];omega)] at Od
       refine bY (aes (t.l.map aB.text) [44,32] _ g W (by rw [List.length_map];omega) (by omega)) ?_
       rintro x g2 ⟨rfl,rfl⟩
       generalize aA:Lib.join (t.l.map aB.text) [44,32]=J at *
       have Jo:(1+J.length≤17179869184)=True:=eq_true (by omega)
       have bS:(J.length+1≤17179869184)=True:=eq_true (by omega)
       have b0:(J.length+1+1+1≤17179869184)=True:=eq_true (by omega)
       have cB:(J.length+1+2≤17179869184)=True:=eq_true (by omega)
       have hh:((J++[41,32]).length+1+t.s.length≤17179869184)=True:=eq_true (by simp only [List.length_append,List.length_cons,List.length_nil];omega)
       simp +contextual only [bl,bT,cg,eQ,DB,DC,DD,hB.g,Jo,bS,b0,cB,hh,↓ak,ax,simprocAttr]
       exact aK.trans E
end Go.Proofs.YthemdhlheglhoaaGreatDoor
namespace Go.Proofs.YthemdhlheglhoaaGreatDoor
open Go aX
set_option maxHeartbeats 4000000 in
theorem aix (t:aB) (aQ:t.size≤900000000) (ad:List V) (h:af) (H:bJ Any h t.enc ad):bB Tryz.prog 36 [.agg ad] h fun x aa=>x=.str (D2 t)∧Ext h aa:=by
 have eo:=H
 obtain ⟨bN,rfl,L,gz⟩:=aB.open H
 have ol:=L.one
 refine XU rfl (cL ?_)
 unfold FX
 obtain ⟨ab,an,aK,bC⟩:=dM h (cc t bN)
 unfold D2
 simp +contextual only [ol.1,ol.2.1,an,bC.g,↓ak,ax,simprocAttr]
 refine bY (yK t aQ _ ab (eo.ext aK)) ?_
 rintro x ae ⟨rfl,aS⟩
 have bV:=bC.ext aS
 have cQ:=aK.trans aS
 have n12:=cQ.next
 by_cases c:t.check=0
 case neg=>
  simp +contextual only [eq_false c,decide_true,decide_false,↓ak,ax,simprocAttr]
  exact cQ
 obtain ⟨bz,bZ,_⟩:=vP c
 obtain ⟨aG,aN,bn,Ll⟩:=dM ae [.iW]
 obtain ⟨ba,bM,b2,T6⟩:=ga aG [.iW] [f68 ae.next]
 have pU:=Ll.lt
 have Lm:=Ll.ext b2
 have n0:=Lm.put [f70 ae.next aG.next]
 have yk:=T6.set (m:=ae.next) (by omega) (.a1 [f70 ae.next aG.next] 0 false)
 have ey:=(bV.ext bn).ext b2
 have amp:=bV.lt
 have iI:=ey.set (m:=ae.next) (by have:=bC.lt;have:=aS.next;omega) (.a1 [f70 ae.next aG.next] 0 false)
 have mP:Ext h (ba.set (al ae.next) (.a1 [f70 ae.next aG.next] 0 false)):=((cQ.trans bn).trans b2).set n12 _
 simp +contextual only [ol.1,ol.2.1,aN,bM,Lm.g,n0.g,ey.g,iI.g,eq_true c,jy,List.cons_append,List.nil_append,show (70=4294967296)=False from by simp,if_false,decide_true,decide_false,↓ak,ax,simprocAttr]
 refine bY (Ro ae.next aG.next t.size t (Nat.le_refl _) bZ bz _ _ (eo.ext mP) n0 yk) ?_
 rintro x cf ⟨rfl,hp⟩
 simp +contextual only [↓ak,ax,simprocAttr]
 exact mP.trans hp
end Go.Proofs.YthemdhlheglhoaaGreatDoor
namespace Go.Proofs.YthemdhlheglhoaaGreatDoor
open Go aX
set_option maxHeartbeats 8000000 in
theorem aha (t u:aB) (aF:t.size≤900000000) (hu:u.size≤900000000) (ad ws:List V) (h:af) (H:bJ Any h t.enc ad) (cq:bJ Any h u.enc ws):bB Tryz.prog 27 [.agg ad,.agg ws] h fun x aa=>x=.bool (C4 t u)∧Ext h aa:=by
 have eo:=H.nG
 have x2:=cq.nG
 obtain ⟨bN,rfl,L,gz⟩:=aB.open H
 obtain ⟨wl,rfl,M,my⟩:=aB.open cq
 have ol:=L.one
 have db:=M.one
 refine Xt rfl (cL ?_)
 unfold FK
 obtain ⟨ab,an,aK,bC⟩:=dM h (cc t bN)
 obtain ⟨ae,az,aS,ec⟩:=dM ab (cc u wl)
 have bV:=bC.ext aS
 have cp:=aK.next
 have gq:=aS.next
 have cQ:=aK.trans aS
 unfold C4
 simp +contextual only [ol.1,ol.2.1,db.1,db.2.1,an,az,bV.g,↓ak,ax,simprocAttr]
 refine bY (yK t aF _ ae ((eo.ext cQ).fg fun _ _=>trivial)) ?_
 rintro x aG ⟨rfl,bn⟩
 have hj:=ec.ext bn
 have dd:=bV.ext bn
 have n3:=bn.next
 by_cases bu:t.check=0
 case neg=>
  simp +contextual only [eq_false bu,decide_true,decide_false,Bool.false_and,↓ak,ax,simprocAttr]
  exact cQ.trans bn
 simp +contextual only [ol.1,ol.2.1,db.1,db.2.1,dd.g,hj.g,eq_true bu,decide_true,decide_false,Bool.true_and,↓ak,ax,simprocAttr]
 refine bY (yK u hu _ aG (((x2.ext cQ).ext bn).fg fun _ _=>trivial)) ?_
 rintro x ba ⟨rfl,b2⟩
 have f':=hj.ext b2
 have ey:=dd.ext b2
 have n4:=b2.next
 have nd:=(cQ.trans bn).trans b2
 by_cases bI:u.check=0
 case neg=>
  simp +contextual only [eq_false bI,decide_true,decide_false,Bool.true_and,Bool.false_and,↓ak,ax,simprocAttr]
  exact nd
 have tp:=h3.new (Old h) ba
 have fJ:Ext ba (ba.new (.mp [] 0)):=(Ext.refl ba).new _
 have amn:(ba.new (.mp [] 0)).next=ba.next+1:=rfl
 have C9:pZ none ba=.val (.map (al ba.next)) (ba.new (.mp [] 0)):=rfl
 generalize dL:ba.new (.mp [] 0)=cz at *
 obtain ⟨cf,eP,hp,mV⟩:=ga cz [.jL] [.map (al ba.next)]
 obtain ⟨jG,hi,BI,vu⟩:=ga cf [.iW] [.func 65 [.ptr (al cz.next) 0,.ptr (al cf.next) 0]]
 have GM:=(fJ.trans hp).trans BI
 have GL:=nd.trans GM
 have lB:=ey.ext GM
 have kn:=f'.ext GM
 have T7:=mV.ext BI
 have n6:=hp.next
 have n7:=BI.next
 have amo:=mV.lt
 simp +contextual only [ol.1,ol.2.1,db.1,db.2.1,C9,eq_true bI,decide_true,decide_false,Bool.true_and,eP,hi,vu.g,lB.g,kn.g,jy,List.cons_append,List.nil_append,show (65=4294967296)=False from by simp,if_false,↓ak,ax,simprocAttr]
 refine bY ((Qx (Old h) (al ba.next) cz.next cf.next (fun q=>by unfold Old at q;rw [cK] at q;have:=nd.next;omega) (fun q=>by have:=dW q;omega) (fun q=>by have:=dW q;omega) t.size).1 t u (Nat.le_refl _) [] _ _ jG (eo.ext GL) (x2.ext GL) ((tp.ext hp).ext BI) T7 vu) ?_
 rintro x hY ⟨ok,rfl,aT,m8⟩
 simp +contextual only [↓ak,ax,simprocAttr]
 refine ⟨?_,GL.ke m8 fun b q=>by rw [show b=al ba.next from q,cK];have:=nd.next;omega⟩
 unfold A6 at aT
 cases ag:t.more u [] with
 | some s=>rw [ag] at aT;rw [aT.1];rfl
 | none=>rw [ag] at aT;rw [aT];rfl
end Go.Proofs.YthemdhlheglhoaaGreatDoor
namespace Go.Proofs.YthemdhlheglhoaaGreatDoor
open Go aX
mutual
theorem Qz:∀(t u:aB) (m cj:fp),t.more u m=some cj→cj.length≤m.length+t.size
 | .mk k n x l,u,m,cj,h=>by
   rw [aB.more] at h
   rw [aB.size]
   by_cases c:k=1
   · rw [if_pos c] at h
     split at h
     · split at h
       · cases h;omega
       · cases h
     · cases h;rw [List.length_append,List.length_singleton];omega
   · rw [if_neg c] at h
     split at h
     · have:=QB l u.l m cj h;omega
     · cases h
theorem QB:∀(l cR:List aB) (m cj:fp),g' l cR m=some cj→cj.length≤m.length+c9 l
 | [],[],m,cj,h=>by rw [g'] at h;cases h;rw [c9];omega
 | t::l,u::cR,m,cj,h=>by
   rw [g'] at h
   cases aA:t.more u m with
   | none=>rw [aA] at h;cases h
   | some m2=>
     rw [aA] at h
     have:=Qz t u m m2 aA
     have:=QB l cR m2 cj h
     rw [c9];omega
 | [],_::_,_,_,h=>by rw [g'] at h;cases h
 | _::_,[],_,_,h=>by rw [g'] at h;cases h
end
theorem aib {t:aB} (h:t.shape=true) (aE:¬t.k=1):t.k=2:=by
 rw [p4,Bool.and_eq_true] at h
 have ab:=h.1
 unfold aB.own at ab
 rw [if_neg aE] at ab
 split at ab
 · rename_i q;exact q
 · cases ab
set_option maxHeartbeats 16000000 in
theorem R1:∀(N:Nat) (t u:aB),t.size≤N→t.shape=true→∀(m:fp),m.length+t.size≤1000000→∀(w_:V) (ad ws:List V) (h:af),bJ Any h t.enc ad→bJ Any h u.enc ws→cw Any h 5 (m.map nf) w_→
 bB Tryz.prog 74 [.agg ad,.agg ws,w_] h fun x aa=>(∃v,x=.tuple [v,.bool (t.more u m).isSome]∧v.one=true∧v.cells=[v]∧∀cj,t.more u m=some cj→cw Any aa 5 (cj.map nf) v)∧Ext h aa
 | 0,t,u,aQ,_,_,_,_,_,_,_,_,_,_=>by have:=lu t;omega
 | N+1,t,u,aQ,eG,m,ON,w_,ad,ws,h,H,cq,K=>by
   have x1:=cq
   obtain ⟨bN,rfl,L,_⟩:=aB.open H
   obtain ⟨wl,rfl,M,_⟩:=aB.open cq
   have ol:=L.one
   have db:=M.one
   have ok:=K.one
   have ai:=L.len
   have hm:=M.len
   have hle:=L.le
   rw [List.length_map] at ai hm hle
   have ca:=size_eq t
   have hx:=oN t.l
   refine YO rfl (cL ?_)
   unfold Gi
   obtain ⟨ab,an,aK,bC⟩:=dM h (cc t bN)
   obtain ⟨ae,az,aS,ec⟩:=dM ab (cc u wl)
   have bV:=bC.ext aS
   have cQ:=aK.trans aS
   rw [Qy]
   by_cases bu:t.k=1
   · rw [if_pos bu]
     simp +contextual only [an,az,ol.1,ol.2.1,db.1,db.2.1,ok.1,ok.2.1,bV.g,eq_true bu,decide_true,decide_false,↓ak,ax,simprocAttr]
     refine bY (NL Any m t.n w_ ae (K.ext cQ)) ?_
     rintro x aG ⟨cs,amF,rfl,jH,nV,bn⟩
     unfold x0 at nV
     have dd:=bV.ext bn
     have hj:=ec.ext bn
     have en:=cQ.trans bn
     cases aA:dJ t.n m with
     | some w=>
       rw [aA] at nV
       obtain ⟨rfl,C⟩:=nV
       obtain ⟨ao,rfl,Uw,hw⟩:=aB.open C
       have di:=Uw.one
       obtain ⟨ba,bM,b2,D'⟩:=ga aG z4 (cc w ao)
       have f':=hj.ext b2
       have ey:=dd.ext b2
       simp +contextual only [bM,D'.g,f'.g,ey.g,di.1,di.2.1,db.1,db.2.1,ok.1,ok.2.1,↓ak,ax,simprocAttr]
       refine bY (J4 w.size w u (Nat.le_refl _) _ _ ba (C.ext b2) ((x1.ext en).ext b2)) ?_
       rintro x cz ⟨rfl,fJ⟩
       have mP:=(en.trans b2).trans fJ
       simp +contextual only [ok.1,ok.2.1,↓ak,ax,simprocAttr]
       have aQ:(if w.same u=true then some m else none).isSome=w.same u:=by cases w.same u<;>rfl
       refine ⟨⟨w_,by rw [aQ],ok.1,ok.2.1,fun cj q=>?_⟩,mP⟩
       split at q
       · cases q;exact K.ext mP
       · cases q
     | none=>
       rw [aA] at nV
       obtain ⟨rfl,rfl⟩:=nV
       obtain ⟨ba,bM,b2,D'⟩:=ga aG z4 z4
       have f':=hj.ext b2
       have ey:=dd.ext b2
       have hC:=en.trans b2
       obtain ⟨g1,ek,bj,Uu⟩:=fo.agR (fun _=>True) ba 5
       have n4:=bj.next
       obtain ⟨g2,eJ,ct,mZ⟩:=IN (F:=fun b=>Old ba b∨b=al g1.next) (size:=5) (ds:=nf (t.n,u)) (cs:=.int .i64 t.n::cc u wl) rfl (.i (((x1.ext hC).nG.ext bj).fg fun b q=>.inl q)) (.inr rfl)
       have n5:=ct.next
       have eg:ba.next<g1.next:=by rw [←ek,eU];omega
       have gh:g1.next<g2.next:=by rw [←eJ,eU];omega
       obtain ⟨v2,g3,y3,rU,m3,f3⟩:=fo.app (Uu.ext ct) (((K.ext hC).nG.ext bj).ext ct) (fun b q=>⟨trivial,fun z=>by rw [show b=al ba.next from z] at q;unfold Old at q;rw [cK] at q;omega⟩) (by omega) (by omega) (by rw [List.length_map];unfold top;simp only [List.length_nil];omega)
       have n6:=m3.next
       have mx:∀b,(Old ba b∨b=al g1.next)→¬(V.slice (al ba.next) 0 0 0).aW b:=fun b q z=>by
        rcases q with q | q
        · rw [show b=al ba.next from z] at q;unfold Old at q;rw [cK] at q;omega
        · rw [show b=al ba.next from z] at q;have:=dW q;omega
       obtain ⟨v4,g4,y4,yr,m4,f4⟩:=fo.app rU (mZ.mod (dR:=fun b=>Old ba b∨b=al g1.next) m3 fun b q _=>⟨mx b q,q⟩) (fun b q=>⟨trivial,fun z=>by
        rcases f3 b z with z | z
        · exact mx b q z
        · rcases q with q | q
          · unfold Old at q;omega
          · rw [q,cK] at z;omega⟩) (by omega) (by omega) (by rw [List.length_append,List.length_map];unfold top;simp only [List.length_nil,List.length_singleton];omega)
       have ag:∀{n:Nat},n<ba.next→¬(V.slice (al ba.next) 0 0 0).aW (al n):=fun {n} aU z=>by have:=dW (show al n=al ba.next from z);omega
       have mr:∀{n:Nat},n<ba.next→¬v2.aW (al n):=fun {n} aU z=>by
        rcases f3 _ z with z | z
        · exact ag aU z
        · rw [cK] at z;omega
       have PW:=ey.lt
       have P3:=f'.lt
       have iI:=(ey.ext bj).ext ct
       have kS:=(f'.ext bj).ext ct
       have mb:=iI.mod m3 (ag PW)
       have me:=kS.mod m3 (ag P3)
       have lB:=mb.mod m4 (mr PW)
       have kn:=me.mod m4 (mr P3)
       have Tt:=ey.ext bj
       have Tw:=f'.ext bj
       have dA:=rU.one
       have q9:=yr.one
       have mg:Ext h g4:=((((hC.trans bj).trans ct).ke m3 fun b q=>by rw [show b=al ba.next from q,cK];exact hC.next).ke m4 fun b q=>by
        rcases f3 _ q with q | q
        · rw [show b=al ba.next from q,cK];exact hC.next
        · have:=hC.next;omega)
       simp +contextual only [bM,D'.g,f'.g,ey.g,ek,eJ,y3,y4,Tt.g,Tw.g,iI.g,kS.g,mb.g,me.g,lB.g,kn.g,ol.1,ol.2.1,db.1,db.2.1,ok.1,ok.2.1,dA.1,dA.2.1,q9.1,q9.2.1,↓ak,ax,simprocAttr]
       refine ⟨⟨v4,rfl,q9.1,q9.2.1,fun cj q=>?_⟩,mg⟩
       cases q
       rw [List.map_append]
       exact yr.fv (by rw [List.length_append,List.length_append,List.length_map];unfold top;simp only [List.length_nil,List.length_singleton];omega) (fun _ _=>trivial) fun _ _=>trivial
   · rw [if_neg bu]
     have sd:=aib eG bu
     by_cases bI:u.k=2
     case neg=>
      rw [if_neg (fun q=>bI (by rw [q.1,sd]))]
      simp +contextual only [an,az,ol.1,ol.2.1,db.1,db.2.1,ok.1,ok.2.1,bV.g,ec.g,eq_false bu,eq_false bI,decide_true,decide_false,↓ak,ax,simprocAttr]
      exact ⟨⟨.b6,rfl,rfl,rfl,fun _=>trivial⟩,cQ⟩
     by_cases c3:t.s=u.s
     case neg=>
      rw [if_neg (fun q=>c3 q.2)]
      simp +contextual only [an,az,ol.1,ol.2.1,db.1,db.2.1,ok.1,ok.2.1,bV.g,ec.g,eq_false bu,eq_true bI,eq_false c3,decide_true,decide_false,↓ak,ax,simprocAttr]
      exact ⟨⟨.b6,rfl,rfl,rfl,fun _=>trivial⟩,cQ⟩
     rw [if_pos ⟨by rw [bI,sd],c3⟩]
     by_cases dN:t.l.length=u.l.length
     case neg=>
      have tA:((t.l.length:Int)=(u.l.length:Int))=False:=eq_false (by omega)
      have mx:g' t.l u.l m=none:=by
       cases ag:g' t.l u.l m with
       | none=>rfl
       | some s=>exact absurd (I3 ag) dN
      rw [mx]
      simp +contextual only [an,az,ol.1,ol.2.1,db.1,db.2.1,ok.1,ok.2.1,bV.g,ec.g,ai,hm,tA,eq_false bu,eq_true bI,eq_true c3,decide_true,decide_false,↓ak,ax,simprocAttr]
      exact ⟨⟨.b6,rfl,rfl,rfl,fun _=>trivial⟩,cQ⟩
     have tA:((t.l.length:Int)=(u.l.length:Int))=True:=eq_true (by omega)
     simp +contextual only [an,az,ol.1,ol.2.1,db.1,db.2.1,ok.1,ok.2.1,bV.g,ec.g,ai,hm,tA,eq_false bu,eq_true bI,eq_true c3,decide_true,decide_false,↓ak,ax,simprocAttr]
     refine fG (fun r g=>r 3=.ptr (al h.next) 0∧r 4=.ptr (al ab.next) 0∧∃(i:Nat) (s:fp) (v:V),r 2=v∧r 10=.int .i64 i∧i≤t.l.length∧g' t.l u.l m=g' (t.l.drop i) (u.l.drop i) s∧cw Any g 5 (s.map nf) v∧s.length≤m.length+c9 (t.l.take i)∧Ext ae g) (fun r g=>t.l.length - (r 10).toN) ?_ ?_
     · exact ⟨by simp only [↓ak,bL,simprocAttr],by simp only [↓ak,bL,simprocAttr],0,m,w_,by simp only [↓ak,bL,simprocAttr],by simp only [↓ak,bL,simprocAttr]<;>rfl,by omega,rfl,K.ext cQ,by omega,Ext.refl _⟩
     rintro r g ⟨cg,c7,i,s,v,bT,sI,aC,ah,Et,gz,E⟩
     unfold MA
     have hB:=bV.ext E
     have nU:=ec.ext E
     have av:=cQ.trans E
     have eW:=Et.one
     by_cases aL:i<t.l.length
     · have g0:((i:Int) < (t.l.length:Int))=True:=eq_true (by omega)
       have iQ:i<u.l.length:=by omega
       obtain ⟨b,off,ako,cD,X,fI,ld⟩:=aB.hN (L.ext av) (k:=.i64) aL
       obtain ⟨ck,Ab,ul,kF,Y,vD,l2⟩:=aB.hN (M.ext av) (k:=.i64) iQ
       have d1:=ld g (Ext.refl g)
       have d2:=l2 g (Ext.refl g)
       have dC:=fI.one
       have dA:=vD.one
       have dH:=hT aL (by unfold top at hle;omega)
       have bo:=l9 (t:=t) (List.getElem_mem aL)
       have nu:=Dv aL
       have amc:=xw t.l (i+1)
       have Ih:=mL eG aL
       simp +contextual only [bT,cg,c7,sI,hB.g,nU.g,ai,g0,cD,kF,d1,d2,dC.1,dC.2.1,dA.1,dA.2.1,eW.1,eW.2.1,↓ak,ax,simprocAttr]
       refine bY (R1 N t.l[i] u.l[i] (by omega) Ih s (by omega) v _ _ g X Y Et) ?_
       rintro x g2 ⟨⟨dn,rfl,Jd,q9,dv⟩,ct⟩
       have dd:=hB.ext ct
       have hj:=nU.ext ct
       have MY:=ld g2 ct
       have MZ:=l2 g2 ct
       have aZ:=QA aL iQ s
       have en:=E.trans ct
       cases ag:t.l[i].more u.l[i] s with
       | some fA=>
         rw [ag] at aZ dv
         have g_:=dv fA rfl
         have ui:=Qz _ _ _ _ ag
         simp +contextual only [bT,cg,c7,sI,hB.g,nU.g,dd.g,hj.g,cD,kF,d1,d2,MY,MZ,dC.1,dC.2.1,dA.1,dA.2.1,eW.1,eW.2.1,Jd,q9,Option.isSome_some,dH,↓ak,ax,simprocAttr]
         exact ⟨⟨i+1,fA,rfl,aL,ah.trans aZ,g_,by omega,en⟩,by omega⟩
       | none=>
         rw [ag] at aZ dv
         rw [ah.trans aZ]
         simp +contextual only [bT,cg,c7,sI,hB.g,nU.g,dd.g,hj.g,cD,kF,d1,d2,MY,MZ,dC.1,dC.2.1,dA.1,dA.2.1,eW.1,eW.2.1,Jd,q9,Option.isSome_none,dH,↓ak,ax,simprocAttr]
         exact ⟨⟨.b6,rfl,rfl,rfl,fun _=>trivial⟩,cQ.trans en⟩
     · have g0:((i:Int) < (t.l.length:Int))=False:=eq_false (by omega)
       rw [ah,List.drop_eq_nil_of_le (by omega),List.drop_eq_nil_of_le (by omega),g']
       simp +contextual only [bT,cg,c7,sI,hB.g,nU.g,ai,g0,eW.1,eW.2.1,↓ak,ax,simprocAttr]
       exact ⟨⟨v,rfl,eW.1,eW.2.1,fun cj q=>by cases q;exact Et⟩,av⟩
set_option maxHeartbeats 4000000 in
theorem ajb (t u:aB) (aF:t.size≤900000000) (hu:u.size≤900000000) (ad ws:List V) (h:af) (H:bJ Any h t.enc ad) (cq:bJ Any h u.enc ws):bB Tryz.prog 38 [.agg ad,.agg ws] h fun x aa=>x=.bool (C4 t u)∧Ext h aa:=by
 have eo:=H
 have x2:=cq
 obtain ⟨bN,rfl,L,gz⟩:=aB.open H
 obtain ⟨wl,rfl,M,my⟩:=aB.open cq
 have ol:=L.one
 have db:=M.one
 refine X0 rfl (cL ?_)
 unfold FZ
 obtain ⟨ab,an,aK,bC⟩:=dM h (cc t bN)
 obtain ⟨ae,az,aS,ec⟩:=dM ab (cc u wl)
 have bV:=bC.ext aS
 have cQ:=aK.trans aS
 unfold C4
 simp +contextual only [ol.1,ol.2.1,db.1,db.2.1,an,az,bV.g,↓ak,ax,simprocAttr]
 refine bY (Au t (by omega) _ ae (eo.ext cQ)) ?_
 rintro x aG ⟨rfl,bn⟩
 have hj:=ec.ext bn
 have dd:=bV.ext bn
 by_cases bu:t.check=0
 case neg=>
  simp +contextual only [eq_false bu,decide_true,decide_false,Bool.false_and,↓ak,ax,simprocAttr]
  exact cQ.trans bn
 simp +contextual only [ol.1,ol.2.1,db.1,db.2.1,dd.g,hj.g,eq_true bu,decide_true,decide_false,Bool.true_and,↓ak,ax,simprocAttr]
 refine bY (Au u (by omega) _ aG ((x2.ext cQ).ext bn)) ?_
 rintro x ba ⟨rfl,b2⟩
 have f':=hj.ext b2
 have ey:=dd.ext b2
 have nd:=(cQ.trans bn).trans b2
 by_cases bI:u.check=0
 case neg=>
  simp +contextual only [eq_false bI,decide_true,decide_false,Bool.true_and,Bool.false_and,↓ak,ax,simprocAttr]
  exact nd
 have hs:=vP bu
 simp +contextual only [ol.1,ol.2.1,db.1,db.2.1,ey.g,f'.g,eq_true bI,decide_true,decide_false,Bool.true_and,↓ak,ax,simprocAttr]
 refine bY (R1 t.size t u (Nat.le_refl _) hs.1 [] (by have:=hs.2.1;simp only [List.length_nil];omega) .b6 _ _ ba (eo.ext nd) (x2.ext nd) (cw.nil _ _ _)) ?_
 rintro x cz ⟨⟨v,rfl,dC,dA,_⟩,fJ⟩
 simp +contextual only [dC,dA,↓ak,ax,simprocAttr]
 exact nd.trans fJ
end Go.Proofs.YthemdhlheglhoaaGreatDoor
