/- The chapter's functions, walked by the abstract machine: plain lemmas, no condition. Printed by a program from longer texts: names made short. -/
import Derived.Test.YthemdhlheglhoaaGreatDoorM12
import Derived.Test.YthemdhlheglhoaaGreatDoorM13
import Derived.Test.YthemdhlheglhoaaGreatDoorM11
import Derived.Test.YthemdhlheglhoaaGreatDoorM4
set_option linter.unusedSectionVars false
set_option linter.unusedSimpArgs false
set_option linter.unusedVariables false
set_option maxHeartbeats 64000000
noncomputable section
namespace Go.Proofs.YthemdhlheglhoaaGreatDoor
section
open Go a8
section
variable [Lay]
inductive fm (h:ah):(aQ->Prop)->List aM->V->Prop
 | mk {S:aQ->Prop} {l:List aM} {v:V} (us:List (List V)) (ws:Nat->V) (gX:Nat->aQ->Prop) (o:cJ 0 h 4 v l.length us.flatten) (hu:us.length=l.length) (aV:l.length<=top)
    (cells:∀(i:Nat) (t:aM),l[i]? =some t->us[i]? =some [.int .i64 t.k,.int .i64 t.n,.str t.s,ws i]/\t.s.length<=top)
    (kids:∀(i:Nat) (t:aM),l[i]? =some t->fm h (gX i) t.l (ws i)) (bj:∀b,v.aN b->S b) (dn:∀(i:Nat) (b:aQ),i<l.length->gX i b->S b/\¬v.aN b)
    (apart:∀(i j:Nat) (b:aQ),i<l.length->j<l.length->i≠j->gX i b->¬gX j b):fm h S l v
variable {h ab:ah} {S:aQ->Prop} {l:List aM} {v:V}
theorem fm.nil (h:ah) (S:aQ->Prop):fm h S [] .bB:=
 .mk [] (fun _=>.bB) (fun _ _=>False) ⟨by simp,rfl⟩ rfl (Nat.zero_le _) (fun i t q=>by simp at q) (fun i t q=>by simp at q) (fun b q=>q.elim) (fun i b q=>absurd q (Nat.not_lt_zero _)) (fun i j b q=>absurd q (Nat.not_lt_zero _))
theorem fm.mod {M:aQ->Prop} (H:fm h S l v) (m:Mod M h ab) (dz:∀b,S b->¬M b):fm ab S l v:=by
 induction H with
 | mk us ws gX o hu aV cells kids bj dn apart bq=>
   exact .mk us ws gX (o.mod m fun b q=>dz b (bj b q)) hu aV cells (fun i t q=>bq i t q fun b z=>dz b (dn i b (by obtain ⟨ar,_⟩:=List.getElem?_eq_some_iff.1 q;exact ar) z).1) bj dn apart
theorem fm.ext (H:fm h S l v) (e:Ext h ab):fm ab S l v:=by
 induction H with
 | mk us ws gX o hu aV cells kids bj dn apart bq=>exact .mk us ws gX (o.ext e) hu aV cells bq bj dn apart
theorem fm.k1 {gv:aQ->Prop} (H:fm h S l v) (w:∀b,S b->gv b):fm h gv l v:=by
 cases H with
 | mk us ws gX o hu aV cells kids bj dn apart=>exact .mk us ws gX o hu aV cells kids (fun b q=>w b (bj b q)) (fun i b q z=>⟨w b (dn i b q z).1,(dn i b q z).2⟩) apart
theorem fm.fY {F:aQ->Prop} (H:fm h S l v) (w:∀b,S b->F b):dc F h 4 (l.map aM.enc) v:=by
 induction H with
 | mk us ws gX o hu aV cells kids bj dn apart bq=>
   refine ⟨o.room,by rw [List.length_map];exact aV,⟨us,by rw [List.length_map];exact o.v,by rw [List.length_map];exact hu,fun u q=>?_,fun i e u ar aw=>?_⟩,fun b q=>w b (bj b q)⟩
   . obtain ⟨i,ao,rfl⟩:=List.getElem_of_mem q;have:=(cells i _ (List.getElem?_eq_getElem (by omega))).1;rw [List.getElem?_eq_getElem ao] at this;rw [Option.some.inj this];rfl
   . rw [List.getElem?_map] at ar;cases av:(_:List aM)[i]? with
     | none=>rw [av] at ar;cases ar
     | some t=>
       rw [av] at ar;simp only [Option.map_some,Option.some.injEq] at ar;subst ar;obtain ⟨bP,bX⟩:=cells i t av;rw [bP] at aw;cases aw;rw [CR];have ao:i<_:=(List.getElem?_eq_some_iff.1 av).1;exact .i (.i (.s bX ((bq i t av fun b z=>w b (dn i b ao z).1).cons .nil)))
theorem fm.one (H:fm h S l v):v.one=true/\v.cells=[v]/\v.gd=true:=by
 cases H with
 | mk us ws gX o hu aV cells kids bj dn apart=>exact o.v.one
theorem fm.bj (H:fm h S l v):∀b,v.aN b->S b:=by
 cases H with
 | mk us ws gX o hu aV cells kids bj dn apart=>exact bj
theorem fm.add {T:aQ->Prop} {t:aM} {u:V} (H:fm h S l v) (E:fm h T t.l u) (sv:∀b,S b->¬T b) (oe:∀b,S b->Old h b) (t':∀b,T b->Old h b) (hlen:(l.length+1) * 4<=top) (aS:t.s.length<=top):
 ∃dd ab,ij 4 v (.slice (aj h.next) 0 1 1) (h.new (.bE [.int .i64 t.k,.int .i64 t.n,.str t.s,u] 0 false))=.val dd ab/\fm ab (fun b=>S b\/T b\/(h.next<=cB b/\cB b<ab.next)) (l++[t]) dd/\Mod v.aN h ab/\h.next+1<=ab.next:=by
 have rG:=E.one;cases H with
 | mk us ws gX o hu aV cells kids bj dn apart=>
   obtain ⟨dd,ab,ar,aw,aK,bY,ek⟩:=qO (cs:=[.int .i64 t.k,.int .i64 t.n,.str t.s,u]) (by omega) o (Nat.zero_le _) hlen rfl (by simp only [eI,Gy,Gz,rG.1,Bool.and_self,Bool.and_true]);have uj:∀b,dd.aN b->¬v.aN b->¬Old h b:=fun b z z2=>by
    rcases ek b z with z | z
    . exact absurd z z2
    . unfold Old;omega
   have snoc:∀(i:Nat) (s:aM),(l++[t])[i]? =some s->(i<l.length/\l[i]? =some s)\/(i=l.length/\s=t):=fun i s q=>R1 q;refine ⟨dd,ab,ar,.mk (us++[[.int .i64 t.k,.int .i64 t.n,.str t.s,u]]) (fun i=>if i<l.length then ws i else u) (fun i=>if i<l.length then gX i else T) ?_ (by simp [hu]) (by rw [List.length_append,List.length_singleton];omega) (fun i s q=>?_) (fun i s q=>?_) (fun b z=>?_) (fun i b ao z=>?_) (fun i j b ao aU nj z=>?_),aK,bY⟩
   . rw [List.length_append,List.length_singleton,List.flatten_append];simpa using aw
   . rcases snoc i s q with ⟨aa,ad⟩ | ⟨aa,rfl⟩
     . rw [if_pos aa,List.getElem?_append_left (by omega)];exact cells i s ad
     . subst aa;rw [if_neg (by omega),List.getElem?_append_right (by omega),hu,Nat.sub_self];exact ⟨rfl,aS⟩
   . rcases snoc i s q with ⟨aa,ad⟩ | ⟨aa,rfl⟩
     . simp only [if_pos aa];exact (kids i s ad).mod aK fun b z=>(dn i b aa z).2
     . subst aa;simp only [Nat.lt_irrefl,if_false];exact E.mod aK fun b z z2=>sv b (bj b z2) z
   . have a6:=aw.v.bF z;rcases ek b z with z | z
     . exact .inl (bj b z)
     . exact .inr (.inr (by unfold Old at a6;omega))
   . by_cases aa:i<l.length
     . rw [if_pos aa] at z;obtain ⟨a,c⟩:=dn i b aa z;exact ⟨.inl a,fun z2=>uj b z2 c (oe b a)⟩
     . rw [if_neg aa] at z;exact ⟨.inr (.inl z),fun z2=>uj b z2 (fun z3=>sv b (bj b z3) z) (t' b z)⟩
   . rw [List.length_append,List.length_singleton] at ao aU;by_cases aa:i<l.length
     . rw [if_pos aa] at z;by_cases ad:j<l.length
       . rw [if_pos ad];exact apart i j b aa ad nj z
       . rw [if_neg ad];exact sv b (dn i b aa z).1
     . rw [if_neg aa] at z;rw [if_pos (by omega)];exact fun z2=>sv b (dn j b (by omega) z2).1 z
end
def ew (a b:Nat) (p:aQ):Prop:=a<=cB p/\cB p<b
section
variable [Lay]
end
theorem aoQ {P:Program} {cV:List V} {b:aQ} {d:Option Nat} {os:List bH} {D:Option iT} {aI:List h5} {r:bc} {h:ah} {Q:dm->bc->ah->Prop} {K:V->ah->Prop}
 (c:D1 P cV b h K) (H:∀v ab,K v ab->bo P (.os (js D r h v) os::aI) .normal (r.set d v) ab Q):Dl P (cV++[.ptr b 0]) d D os aI r h Q:=by
 obtain ⟨v,ab,q,k⟩:=c;exact ⟨cV,b,rfl,v,ab,q,H v ab k⟩
abbrev Grow (X ih:aQ->Prop) (h:ah):Prop:=∀b,ih b->X b\/h.next<=cB b
theorem EZ {X ih:aQ->Prop} {h:ah} {n:Nat} (b4:Grow X ih h) (aV:n<h.next) (aW:¬X (aj n)):¬ih (aj n):=fun q=>by
 rcases b4 _ q with q | q
 . exact aW q
 . rw [b9] at q;omega
theorem akj {X ih:aQ->Prop} {h ab mj:ah} (a:Mod X h ab) (c:Mod ih ab mj) (g:Grow X ih h):Mod X h mj:=
 ⟨Nat.le_trans a.next c.next,fun b ae q=>(c.get b (a.bF ae) fun z=>by
   rcases g b z with z | z
   . exact q z
   . unfold Old at ae;omega).trans (a.get b ae q)⟩
abbrev Inv:=List (Nat × aM)->(aQ->Prop)->ah->Prop
structure Hw (ly:Nat) (qj:aQ) (I J:Inv):Prop where
 ext:∀{d:List (Nat × aM)} {X:aQ->Prop} {h ab:ah},I d X h->Ext h ab->I d X ab
 Rp:∀{d:List (Nat × aM)} {X:aQ->Prop} {h:ah} (k:Nat) (p:aM) {ai:List V},I d X h->d.length+1<=1000000000->k<=1000000000->p.size<=1000000000->cW (fun b=>cB b<ly) h p.enc ai->
  D1 Tryz.prog [.int .i64 k,.agg ai] qj h fun x ab=>∃ih,Mod X h ab/\Grow X ih h/\(x=.bool true/\I (d++[(k,p)]) ih ab\/x=.bool false/\J (d++[(k,p)]) ih ab)
 bF:∀{d:List (Nat × aM)} {X:aQ->Prop} {h:ah},I d X h->∀b,X b->Old h b
 bC:∀{d:List (Nat × aM)} {X:aQ->Prop} {h:ah},I d X h->∀b,X b->ly<=cB b
def Left (I J:Inv) (d:List (Nat × aM)) (X:aQ->Prop) (h:ah) (x:V) (ab:ah):Prop:=
 ∃ih,Mod X h ab/\Grow X ih h/\(x=.bool true/\I d ih ab\/x=.bool false/\∃ji,ji <+:d/\J ji ih ab)
theorem Mh (d:List (Nat × aM)) (k:Nat) (p:aM):d++p.pred k=d++[(k,p)]++iR (k+1) p.l:=by rw [alF];simp
theorem TB {ly:Nat} {qj:aQ} {I J:Inv} (E:Hw ly qj I J) {u7 um:Nat}:∀(N:Nat) (p:aM),p.size<=N->∀(k:Nat) (d:List (Nat × aM)) (X:aQ->Prop) (ai:List V) (h:ah),d.length+p.size<=1000000000->k+p.size<=1000000000->¬X (aj u7)->¬X (aj um)->cW (fun b=>cB b<ly) h p.enc ai->
 Has h u7 [.func 4294967296 [.ptr qj 0]]->Has h um [.func 87 [.ptr (aj u7) 0,.ptr (aj um) 0]]->I d X h->de Tryz.prog 87 [.int .i64 k,.agg ai,.ptr (aj u7) 0,.ptr (aj um) 0] h (Left I J (d++p.pred k) X h)
 | 0,p,aS,_,_,_,_,_,_,_,_,_,_,_,_,_=>by have:=qx p;omega
 | N+1,p,aS,k,d,X,ai,h,ao6,ap8,aZ,ao,H,Y,B,K=>by
   have ao8:=size_eq p;obtain ⟨du,rfl,L,_⟩:=aM.open H;have ol:=L.one;have aA:=L.len;have hle:=L.le;rw [List.length_map] at aA hle;refine abf.z rfl (dM ?_);unfold QJ;obtain ⟨aa,ar,aP,c6⟩:=h7 h (fT p du);have cF:¬X (aj h.next):=fun q=>Gr (Nat.le_refl _) (E.bF K _ q);have CF:=aP.next
   have Dc:=Y.ext aP;simp +contextual only [ol.1,ol.2.1,ar,c6.g,Dc.g,IY,List.cons_append,List.nil_append,if_true,↓al,aG,simprocAttr];refine aoQ (cV:=[_,_]) (E.Rp k p (E.ext K aP) (by omega) (by omega) (by omega) (H.ext aP)) ?_;rintro x ad ⟨lD,m2,s2,ak⟩;have fZ:=EZ s2 Dc.lt aZ;have i2:=EZ s2 (B.ext aP).lt ao;have Ov:Grow X lD h:=fun b q=>by
    rcases s2 b q with q | q
    . exact .inl q
    . exact .inr (by omega)
   have gp:=c6.mod m2 cF;have YG:=Dc.mod m2 aZ;have hQ:=(B.ext aP).mod m2 ao;have On:Mod X h ad:=(aP.mod X).trans m2;rcases ak with ⟨rfl,Hp⟩ | ⟨rfl,Hp⟩
   rotate_left
   . simp +contextual only [↓al,aG,simprocAttr];exact ⟨lD,On,Ov,.inr ⟨rfl,d++[(k,p)],by rw [Mh];exact List.prefix_append _ _,Hp⟩⟩
   simp +contextual only [gp.g,aA,↓al,aG,simprocAttr];refine fa (fun r g=>r 0=.int .i64 k/\r 2=.ptr (aj u7) 0/\r 3=.ptr (aj um) 0/\r 15=du/\r 16=.int .i64 p.l.length/\∃i:Nat,r 17=.int .i64 i/\i<=p.l.length/\Has g u7 [.func 4294967296 [.ptr qj 0]]/\Has g um [.func 87 [.ptr (aj u7) 0,.ptr (aj um) 0]]/\
    ∃ih,I (d++[(k,p)]++iR (k+1) (p.l.take i)) ih g/\Mod X h g/\Grow X ih h/\¬ih (aj u7)/\¬ih (aj um)) (fun r g=>p.l.length - (r 17).toN) ?_ ?_
   . exact ⟨by simp only [↓al,bs,simprocAttr],by simp only [↓al,bs,simprocAttr],by simp only [↓al,bs,simprocAttr],by simp only [↓al,bs,simprocAttr],by simp only [↓al,bs,simprocAttr],0,by simp only [↓al,bs,simprocAttr]<;>rfl,by omega,YG,hQ,lD,by rw [List.take_zero,iR,List.append_nil];exact Hp,On,Ov,fZ,i2⟩
   rintro r g ⟨bt,cF,cr,F3,r16,i,Dq,apc,YH,Yy,ih,Hr,Dr,HC,HD,Hz⟩;unfold QK;have AG:=L.mod (fD:=fun b=>cB b<ly) Dr fun b q _=>⟨fun z=>by have:=E.bC K b z;omega,q⟩;by_cases aO:i<p.l.length
   . have g0:((i:Int) < (p.l.length:Int))=True:=eq_true (by omega);obtain ⟨b,off,wl,cH,YF,mZ,ld⟩:=aM.c0 AG (k:=.i64) aO;have zo:=ld g (Ext.refl g);have kT:=mZ.one;have dv:=kB aO (by unfold top at hle;omega);have Zo:IntKind.i64.wrap ((k:Int)+1)=((k+1:Nat):Int):=by rw [wrap_i64 (by omega) (by omega)];rfl
     have cq:=px (t:=p) (List.getElem_mem aO);obtain ⟨g1,e1,bA,Z⟩:=n' g z4 (fT p.l[i] wl);have Hk:=Yy.ext bA;have Hs:=YH.ext bA;simp +contextual only [bt,cF,cr,F3,r16,Dq,g0,cH,zo,e1,Z.g,Hk.g,kT.1,kT.2.1,Zo,IY,List.cons_append,List.nil_append,show (87=4294967296)=False from by simp,if_false,↓al,aG,simprocAttr];have apd:=xf (l:=p.l) aO;have ao':=py p.l (i+1);refine cK (TB E N p.l[i] (by omega) (k+1) _ ih _ g1 (by rw [List.length_append,List.length_append,List.length_singleton,alH];omega) (by omega) HD Hz (YF.ext bA) Hs Hk (E.ext Hr bA)) ?_;rintro x g2 ⟨Db,m3,ma,ak⟩;have rC:=bA.next
     have Gv:=Dr.next
     have Ow:Grow X Db h:=fun b q=>by
      rcases ma b q with q | q
      . exact HC b q
      . exact .inr (by omega)
     have Oo:=akj Dr ((bA.mod ih).trans m3) HC;have jT:d++[(k,p)]++iR (k+1) (p.l.take i)++p.l[i].pred (k+1)=d++[(k,p)]++iR (k+1) (p.l.take (i+1)):=by rw [take_one aO,Mi,alI,<-List.append_assoc]
     rcases ak with ⟨rfl,Hq⟩ | ⟨rfl,ji,Fc,Hq⟩
     . simp +contextual only [bt,cF,cr,F3,r16,Dq,dv,↓al,aG,simprocAttr];exact ⟨⟨i+1,rfl,aO,Hs.mod m3 HD,Hk.mod m3 Hz,Db,by rw [<-jT];exact Hq,Oo,Ow,EZ ma Hs.lt HD,EZ ma Hk.lt Hz⟩,by omega⟩
     . simp +contextual only [bt,cF,cr,F3,r16,Dq,dv,↓al,aG,simprocAttr];refine ⟨Db,Oo,Ow,.inr ⟨rfl,ji,?_,Hq⟩⟩;rw [jT] at Fc;refine Fc.trans ?_;rw [Mh];refine (List.prefix_append_right_inj _).2 ?_
       conv=>rhs;rw [<-List.take_append_drop (i+1) p.l,Mi]
       exact List.prefix_append _ _
   . have g0:((i:Int) < (p.l.length:Int))=False:=eq_false (by omega);rw [List.take_of_length_le (by omega)] at Hr;simp +contextual only [bt,cF,cr,F3,r16,Dq,g0,↓al,aG,simprocAttr];exact ⟨ih,Dr,HC,.inl ⟨rfl,by rw [Mh];exact Hr⟩⟩
theorem aop (ai:List V) (h:ah) (a6:eI ai=true) (aA:ai.length<=top):de Tryz.prog 56 [.agg ai] h fun x ab=>∃n,x=.func 86 [.ptr (aj n) 0]/\Has ab n ai/\Ext h ab:=by refine aa4.z rfl (dM ?_);unfold Qn;obtain ⟨aa,ar,aP,c6⟩:=h7 h ai;have fq:(ai.length<=17179869184)=True:=eq_true aA;simp +contextual only [ar,a6,fq,↓al,aG,simprocAttr];exact ⟨_,rfl,c6,aP⟩
theorem aoo {ly:Nat} {qj:aQ} {I J:Inv} (E:Hw ly qj I J) {zK:Nat} (p:aM) (af:p.size<=900000000) (X:aQ->Prop) (ai:List V) (h:ah) (H:cW (fun b=>cB b<ly) h p.enc ai) (Yz:Has h zK ai) (K:I [] X h):
 de Tryz.prog 86 [.func 4294967296 [.ptr qj 0],.ptr (aj zK) 0] h fun _ ab=>∃x,Left I J (p.pred 1) X h x ab:=by
 obtain ⟨du,rfl,L,_⟩:=aM.open H;refine abe.z rfl (dM ?_);unfold QI;obtain ⟨aa,ar,aP,Dc⟩:=h7 h [.func 4294967296 [.ptr qj 0]];obtain ⟨ad,aw,bf,hQ⟩:=n' aa [.mH] [.func 87 [.ptr (aj h.next) 0,.ptr (aj aa.next) 0]];have yt:=aP.trans bf;have YC:=Yz.ext yt;have cT:¬X (aj h.next):=fun q=>Gr (Nat.le_refl _) (E.bF K _ q);have gP:¬X (aj aa.next):=fun q=>Gr (Nat.le_refl _) (E.bF (E.ext K aP) _ q);have ol:=L.one;have aoZ:=aw;simp +contextual only [ar,aw,hQ.g,YC.g,ol.1,ol.2.1,IY,List.cons_append,List.nil_append,show (87=4294967296)=False from by simp,if_false,↓al,aG,simprocAttr];refine cK (TB E p.size p (Nat.le_refl _) 1 [] X _ ad (by simp;omega) (by omega) cT gP (H.ext yt) (Dc.ext bf) hQ (E.ext K yt)) ?_;rintro x aJ ⟨Db,m3,ma,ak⟩;have aoX:=yt.next
 simp +contextual only [↓al,aG,simprocAttr];exact ⟨x,Db,(yt.mod X).trans m3,fun b q=>by
  rcases ma b q with q | q
  . exact .inl q
  . exact .inr (by omega),ak⟩
theorem MK {a b:Nat} (v w:V) (r:bc) {j:Nat} (aa:j≠a) (ad:j≠b) (aJ:j≠eN):oK [a,b] [v,w] r j=r j:=by simp [oK,bc.uI,bc.set,aa,ad,aJ]
theorem amr {a b:Nat} (v w:V) (r:bc) (aa:a≠b) (aJ:a≠eN):oK [a,b] [v,w] r a=v:=by simp [oK,bc.uI,bc.set,aa,aJ]
theorem ams {a b:Nat} (v w:V) (r:bc) (aJ:b≠eN):oK [a,b] [v,w] r b=w:=by simp [oK,bc.uI,bc.set,aJ]
theorem aj7 {l:lB} (aW:l.st=0) (af:l.er=none):l.go 0 none=l:=by obtain ⟨st,er,_,_,_,_,_,_⟩:=l;simp only at aW af;subst aW af;rfl
structure NR (cc cS kz dG m:Nat) (l:lB) (d:List (Nat × aM)) (X:aQ->Prop) (h:ah):Prop where
 fn:Has h cc [.int .i64 (d.length:Nat)]
 yu:Has h cS [.int .i64 (maxD d:Nat)]
 vV:Has h kz [.int .i64 0]
 bC:m<h.next
 tT:h.get (aj m)=.dA l
 tP:dG<h.next
 fd:h.get (aj dG)=.f_
 Jy:∀x ∈ d,x.2.own=true
 ed:maxD d<=1000000000
 pV:∀p,X p↔p=aj cc\/p=aj cS\/p=aj kz\/p=aj m
structure XY (cc cS kz dG m:Nat) (l:lB) (d:List (Nat × aM)) (X:aQ->Prop) (h:ah):Prop where
 vV:Has h kz [.int .i64 2]
 bC:m<h.next
 tT:h.get (aj m)=.dA (l.go 2 (some .ret))
 tP:dG<h.next
 fd:h.get (aj dG)=.f_
 bad:∃x ∈ d,x.2.own=false
theorem abI {ly cc cS kz dG m:Nat} {l:lB} {r:bc} (q2:ly<=cc) (tY:ly<=cS) (apD:ly<=kz) (apE:ly<=m) (cT:cc≠cS) (gP:cc≠kz) (n3:cc≠m) (n4:cc≠dG) (n5:cS≠kz) (n6:cS≠m) (n7:cS≠dG) (n8:kz≠m) (n9:kz≠dG) (n10:m≠dG)
 (F:DQ Tryz.prog l 25 r [9,10] IE IF) (aW:l.st=0) (af:l.er=none) (cF:r 2=.ptr (aj kz) 0) (cr:r 3=.ptr (aj cc) 0) (gm:r 4=.ptr (aj cS) 0):
 Hw ly (aj m) (fun d X h=>NR cc cS kz dG m l d X h) (fun d X h=>XY cc cS kz dG m l d X h) where
 ext:=fun {d X h ab} K e=>⟨K.fn.ext e,K.yu.ext e,K.vV.ext e,Nat.lt_of_lt_of_le K.bC e.next,(e.get _ (fW K.bC)).trans K.tT,Nat.lt_of_lt_of_le K.tP e.next,(e.get _ (fW K.tP)).trans K.fd,K.Jy,K.ed,K.pV⟩
 bF:=fun {d X h} K b ae=>by
  rcases (K.pV b).1 ae with rfl | rfl | rfl | rfl
  . exact fW K.fn.lt
  . exact fW K.yu.lt
  . exact fW K.vV.lt
  . exact fW K.bC
 bC:=fun {d X h} K b ae=>by rcases (K.pV b).1 ae with rfl | rfl | rfl | rfl<;>rw [b9]<;>assumption
 Rp:=fun {d X h} k p ai K bb aH FD H=>by
  have vc:=H;obtain ⟨du,rfl,L,ot⟩:=aM.open H;have ol:=L.one;have hm:=aj7 aW af;refine aoR (by decide) follows Cy F K.tT aW rfl ?_;obtain ⟨aa,ar,aP,c6⟩:=n' h z4 (fT p du);have bu:aa.get (aj m)=.dA l:=(aP.get _ (fW K.bC)).trans K.tT;have bC:=K.bC;have tP:=K.tP;have CF:=aP.next
  have g9:=amr (a:=9) (b:=10) (.int .i64 k) (.agg (fT p du)) r (by decide) (by decide);have g10:=ams (a:=9) (b:=10) (.int .i64 k) (.agg (fT p du)) r (by decide);have g2:=MK (a:=9) (b:=10) (.int .i64 k) (.agg (fT p du)) r (j:=2) (by decide) (by decide) (by decide);have g3:=MK (a:=9) (b:=10) (.int .i64 k) (.agg (fT p du)) r (j:=3) (by decide) (by decide) (by decide);have g4:=MK (a:=9) (b:=10) (.int .i64 k) (.agg (fT p du)) r (j:=4) (by decide) (by decide) (by decide);rw [cF] at g2;rw [cr] at g3;rw [gm] at g4;generalize oK [9,10] [V.int .i64 k,.agg (fT p du)] r=bt at *;refine dM ?_;unfold IE;simp +contextual only [g9,g10,ar,ol.1,ol.2.1,↓al,aG,simprocAttr];refine ⟨bu,dM ?_⟩;have gp:=c6.set (m:=m) (by omega) (.dA (l.go 1 l.er));have AJ:=(K.fn.ext aP).set (m:=m) n3 (.dA (l.go 1 l.er));have hQ:=(K.yu.ext aP).set (m:=m) n6 (.dA (l.go 1 l.er));have nZ:=(K.vV.ext aP).set (m:=m) n8 (.dA (l.go 1 l.er));have adx:(aa.set (aj m) (.dA (l.go 1 l.er))).get (aj m)=.dA (l.go 1 l.er):=by rw [dC,if_pos rfl]
  have JF:(aa.set (aj m) (.dA (l.go 1 l.er))).get (aj dG)=.f_:=by rw [dC,if_neg (fun q=>n10 (fj q))];exact (aP.get _ (fW tP)).trans K.fd
  have M2:Mod X h (aa.set (aj m) (.dA (l.go 1 l.er))):=(aP.mod X).set (fun _=>(K.pV _).2 (.inr (.inr (.inr rfl)))) _;have cp:cW Any (aa.set (aj m) (.dA (l.go 1 l.er))) p.enc (fT p du):=(vc.ext aP).mod (M:=fun b=>b=aj m) (((Mod.refl (fun b=>b=aj m) aa).set (fun _=>rfl) _)) fun b q _=>⟨fun z=>by rw [show b=aj m from z,b9] at q;omega,trivial⟩;have pa:(aa.set (aj m) (.dA (l.go 1 l.er))).next=aa.next:=rfl
  generalize aa.set (aj m) (.dA (l.go 1 l.er))=ad at *;unfold IF;simp +contextual only [gp.g,↓al,aG,simprocAttr];refine cK (alq p _ ad cp) ?_;rintro x aJ ⟨rfl,c4⟩;have pH:=gp.ext c4;have kF:=AJ.ext c4;have Al:=hQ.ext c4;have AL:=nZ.ext c4;have Gv:=c4.next
  have R5:aJ.get (aj m)=.dA (l.go 1 l.er):=(c4.get _ (fW (by omega))).trans adx;have R0:aJ.get (aj dG)=.f_:=(c4.get _ (fW (by omega))).trans JF;have vk:=M2.trans (c4.mod X);cases c:p.own with
  | false=>
    simp +contextual only [g2,AL.g,↓al,aG,simprocAttr];refine ⟨by rw [if_neg n8];exact R5,X,(vk.set (fun _=>(K.pV _).2 (.inr (.inr (.inl rfl)))) _).set (fun _=>(K.pV _).2 (.inr (.inr (.inr rfl)))) _,fun b q=>.inl q,.inr ⟨(AL.put _).set n8 _,?_,?_,?_,?_,(k,p),by simp,c⟩⟩
    . show m<aJ.next;omega
    . rw [dC,if_pos rfl]
    . show dG<aJ.next;omega
    . rw [dC,if_neg (fun q=>n10 (fj q)),dC,if_neg (fun q=>n9 (fj q))];exact R0
  | true=>
    have b3:IntKind.i64.wrap ((d.length:Int)+1)=((d.length+1:Nat):Int):=by rw [wrap_i64 (by omega) (by omega)];rfl
    simp +contextual only [g2,g3,g4,kF.g,Al.g,pH.g,b3,eq_false cT,if_false,Gh,↓al,aG,simprocAttr];have jS:maxD (d++[(k,p)])=max (maxD d) k:=by rw [LH,Ut];unfold maxD;simp
    refine ⟨by rw [if_neg n6,if_neg n3];exact R5,X,((vk.set (fun _=>(K.pV _).2 (.inl rfl)) _).set (fun _=>(K.pV _).2 (.inr (.inl rfl))) _).set (fun _=>(K.pV _).2 (.inr (.inr (.inr rfl)))) _,fun b q=>.inl q,.inl ⟨?_,?_,?_,?_,?_,?_,?_,?_,?_,K.pV⟩⟩
    . rw [List.length_append,List.length_singleton];exact ((kF.put _).set cT _).set n3 _
    . rw [jS];exact ((Al.set (m:=cc) (fun q=>cT q.symm) _).put _).set n6 _
    . exact ((AL.set (m:=cc) (fun q=>gP q.symm) _).set (m:=cS) (fun q=>n5 q.symm) _).set n8 _
    . show m<aJ.next;omega
    . rw [dC,if_pos rfl,hm]
    . show dG<aJ.next;omega
    . rw [dC,if_neg (fun q=>n10 (fj q)),dC,if_neg (fun q=>n7 (fj q)),dC,if_neg (fun q=>n4 (fj q))];exact R0
    . intro x ak;rcases List.mem_append.1 ak with ak | ak
      . exact K.Jy x ak
      . rw [List.mem_singleton] at ak;subst ak;exact c
    . rw [jS];have:=K.ed;omega
theorem alE {α:Type} {a b:List α} {P:α->Bool} (h:a <+:b) (q:∃x ∈ a,P x=false):b.all P=false:=by obtain ⟨x,ak,af⟩:=q;rw [List.all_eq_false];exact ⟨x,h.subset ak,by simp [af]⟩
theorem I0 (p:aM) (aS:p.size<=900000000) (ai:List V) (h:ah) (H:cW Any h p.enc ai):de Tryz.prog 19 [.agg ai] h fun x ab=>x=.int .i64 p.check/\Ext h ab:=by
 have vc:=H.rE;have a6:=H.eI;obtain ⟨du,c_,L,_⟩:=aM.open H;have lT:ai.length<=top:=by rw [c_];simp [top]
 have di:ai.length=4:=by rw [c_];rfl
 have aga:(ai.length<=17179869184)=True:=eq_true lT;refine aaK rfl (dM ?_);unfold ID;obtain ⟨aa,ar,aP,c6⟩:=h7 h ai;obtain ⟨ad,aw,bf,nZ⟩:=h7 aa [.int .i64 0];obtain ⟨aJ,aK,c4,kF⟩:=h7 ad [.int .i64 0];obtain ⟨bG,bY,gj,Ho⟩:=h7 aJ [.int .i64 0];have Dp:=((c6.ext bf).ext c4).ext gj;have Ou:=kF.ext gj;have DT:=(nZ.ext c4).ext gj;have cT:=aP.next
 have gP:=bf.next
 have n3:=c4.next
 have n4:=gj.next
 have dZ:=c6.lt;have eS:=nZ.lt;have Cl:=kF.lt;have zl:=Ho.lt;have g4:pk 4 (cd.bE ai 0 false) 0=some (.agg ai):=by rw [Lq,if_pos (by omega),List.drop_zero,List.take_of_length_le (by omega)]
 have f1:(ad.next=aJ.next)=False:=eq_false (by omega);have f2:(aJ.next=ad.next)=False:=eq_false (by omega);have f3:(aJ.next=h.next)=False:=eq_false (by omega);have f4:(ad.next=h.next)=False:=eq_false (by omega);simp +contextual only [ar,aw,aK,bY,a6,aga,Dp.g,Ou.g,Ho.g,DT.g,g4,f1,f2,f3,f4,if_false,↓al,aG,simprocAttr];have tp:Ext h bG:=((aP.trans bf).trans c4).trans gj;have X3:Ext h ((bG.set (aj ad.next) (cd.bE [V.int .i64 0] 0 false)).set (aj aJ.next) (cd.bE [V.int .i64 0] 0 false)):=(tp.set (by omega) _).set (by omega) _;have Yv:=(Ou.put [V.int .i64 0]).set (m:=aJ.next) (by omega) (cd.bE [V.int .i64 0] 0 false);have XT:=(Ho.set (m:=ad.next) (by omega) (cd.bE [V.int .i64 0] 0 false)).put [V.int .i64 0];have YQ:=(DT.set (m:=ad.next) (by omega) (cd.bE [V.int .i64 0] 0 false)).set (m:=aJ.next) (by omega) (cd.bE [V.int .i64 0] 0 false);have UP:((bG.set (aj ad.next) (cd.bE [V.int .i64 0] 0 false)).set (aj aJ.next) (cd.bE [V.int .i64 0] 0 false)).next=bG.next:=rfl
 generalize (bG.set (aj ad.next) (cd.bE [V.int .i64 0] 0 false)).set (aj aJ.next) (cd.bE [V.int .i64 0] 0 false)=di at *;refine cK (aop ai di a6 lT) ?_;rintro x dD ⟨n,rfl,tx,o3⟩;simp +contextual only [↓al,aG,simprocAttr];refine amb (g:=86) (cs:=[.ptr (aj n) 0]) (by simp only [↓al,bs,simprocAttr]) (by decide) ⟨_,Tryz.func86,by kernel_rfl⟩ ?_;intro l F aW af;have n6:=o3.next
 have Bb:Ext dD ((dD.new .f_).new (.dA l)):=((Ext.refl dD).new _).new _;have NZ:=(X3.trans o3).trans Bb;have Yw:=(Yv.ext o3).ext Bb;have XU:=(XT.ext o3).ext Bb;have YR:=(YQ.ext o3).ext Bb;have E:=abI (ly:=h.next) (cc:=ad.next) (cS:=aJ.next) (kz:=aa.next) (dG:=dD.next) (m:=dD.next+1) (l:=l) (by omega) (by omega) (by omega) (by omega) (by omega) (by omega) (by omega) (by omega) (by omega) (by omega) (by omega) (by omega) (by omega) (by omega) F aW af (by simp only [↓al,bs,simprocAttr]) (by simp only [↓al,bs,simprocAttr]) (by simp only [↓al,bs,simprocAttr]);have Yh:NR ad.next aJ.next aa.next dD.next (dD.next+1) l [] (fun b=>b=aj ad.next\/b=aj aJ.next\/b=aj aa.next\/b=aj (dD.next+1)) ((dD.new .f_).new (.dA l)):=by refine ⟨Yw,XU,YR,by rw [gk,gk];omega,nd _,by rw [gk,gk];omega,?_,(fun x ak=>by cases ak),Nat.zero_le _,fun p=>Iff.rfl⟩;rw [iE,if_neg (fun q=>by have:=fj q;rw [gk] at this;omega),nd]
 refine (aoo E p aS _ ai _ (vc.ext NZ) (tx.ext Bb) Yh).mono ?_;rintro _ pW ⟨x,ao7,m8,aqF,ak⟩;have FH:p.shape=(p.pred 1).all fun x=>x.2.own:=by rw [Wr,<-Mg 1 p,List.all_map];rfl
 have N0:Ext h pW:=NZ.h1 m8 fun b ae=>by rcases ae with rfl | rfl | rfl | rfl<;>rw [b9]<;>omega
 rcases ak with ⟨rfl,nU⟩ | ⟨rfl,ji,Fc,nU⟩
 . refine ⟨l,nU.tT,by rw [aW];decide,?_⟩;rw [af];have ey:=nU.bC;have DR:=nU.fn.set (m:=dD.next+1) (by omega) .dead;have Dt:=nU.yu.set (m:=dD.next+1) (by omega) .dead;have AM:=nU.vV.set (m:=dD.next+1) (by omega) .dead;have Ap:Ext h (pW.set (aj (dD.next+1)) .dead):=N0.set (by omega) _;have Bl:(pW.set (aj (dD.next+1)) .dead).get (aj dD.next)=.f_:=by rw [dC,if_neg (fun q=>by have:=fj q;omega)];exact nU.fd
   generalize pW.set (aj (dD.next+1)) .dead=E2 at *;have qA:p.shape=true:=by rw [FH,List.all_eq_true];exact nU.Jy
   have jo:(p.pred 1).length=p.size:=alG 1 p;have SY:maxD (p.pred 1)=p.deep:=by have:=Vw 1 p;omega
   rw [jo] at DR;rw [SY] at Dt;have apI:=Q7 p;have f6:(dD.next=aa.next)=False:=eq_false (by omega);have f7:(aa.next=dD.next)=False:=eq_false (by omega);rw [QT,if_pos qA];by_cases bP:p.size<=4096
   . have f8:((4096:Int) < (p.size:Int))=False:=eq_false (by omega);by_cases bX:p.deep<=200
     . have f9:((200:Int) < (p.deep:Int))=False:=eq_false (by omega);simp +contextual only [Option.getD_none,DR.g,Dt.g,AM.g,f6,f7,f8,f9,eq_true bP,eq_true bX,if_false,if_true,decide_true,decide_false,eN,V.list,bc.bE,qk,Bl,↓al,aG,simprocAttr];exact (Ap.set (by omega) _).set (by omega) _
     . have f9:((200:Int) < (p.deep:Int))=True:=eq_true (by omega);simp +contextual only [Option.getD_none,DR.g,Dt.g,AM.g,f6,f7,f8,f9,eq_true bP,eq_false bX,if_false,if_true,decide_true,decide_false,eN,V.list,bc.bE,qk,Bl,↓al,aG,simprocAttr];exact (Ap.set (by omega) _).set (by omega) _
   . have f8:((4096:Int) < (p.size:Int))=True:=eq_true (by omega);simp +contextual only [Option.getD_none,DR.g,Dt.g,AM.g,f6,f7,f8,eq_false bP,if_false,if_true,decide_true,decide_false,eN,V.list,bc.bE,qk,Bl,↓al,aG,simprocAttr];exact (Ap.set (by omega) _).set (by omega) _
 . refine ⟨l.go 2 (some .ret),nU.tT,(by show (2:Nat)≠1;decide),?_⟩;have qA:p.shape=false:=by rw [FH];exact alE (P:=fun x:Nat × aM=>x.2.own) Fc nU.bad
   have aD:p.check=2:=by unfold aM.check;rw [qA];rfl
   rw [aD];have ey:=nU.bC;have AM:=nU.vV.set (m:=dD.next+1) (by omega) .dead;have Ap:Ext h (pW.set (aj (dD.next+1)) .dead):=N0.set (by omega) _;have Bl:(pW.set (aj (dD.next+1)) .dead).get (aj dD.next)=.f_:=by rw [dC,if_neg (fun q=>by have:=fj q;omega)];exact nU.fd
   generalize pW.set (aj (dD.next+1)) .dead=E2 at *;have f6:(dD.next=aa.next)=False:=eq_false (by omega);simp +contextual only [lB.go,Option.getD_some,AM.g,f6,if_false,eN,V.list,bc.bE,qk,Bl,↓al,aG,simprocAttr];exact Ap.set (by omega) _
structure aoV (cc dG m:Nat) (l:lB) (d:List (Nat × aM)) (X:aQ->Prop) (h:ah):Prop where
 fn:Has h cc [.int .i64 (d.length:Nat)]
 bC:m<h.next
 tT:h.get (aj m)=.dA l
 tP:dG<h.next
 fd:h.get (aj dG)=.f_
 pV:∀p,X p↔p=aj cc\/p=aj m
abbrev Yf [Lay] (B:Nat) (h:ah) (l:List Int) (v:V):Prop:=cJ B h 1 v l.length (lY l)
section
variable [Lay] {B:Nat} {h ab:ah} {l:List Int} {v:V}
end
structure ao5 (B cc fM dG m:Nat) (sm:aQ) (l:lB) (d:List (Nat × aM)) (X:aQ->Prop) (h:ah):Prop where
 ex:∃v,Has h cc [v]/\Yf B h ((d.map Prod.snd).foldl OP []) v/\(∀b,X b↔b=aj cc\/b=aj m\/b=sm\/v.aN b)
 mp:∃bM:List (Int × Bool),je V.bool h sm bM/\(∀n,e_ n bM=if n ∈ (d.map Prod.snd).foldl OP [] then some true else none)
 fM:Has h fM [.map sm]
 bC:m<h.next
 tT:h.get (aj m)=.dA l
 tP:dG<h.next
 fd:h.get (aj dG)=.f_
 yt:B<=h.next
section
variable [Lay]
def toV (π w:Nat->Nat) (i:Nat):V:=if w i=i then .ee else .ptr (aj (π (w i))) 0
abbrev rI (π:Nat->Nat) (aI:List Nat):List V:=aI.map fun k=>.ptr (aj (π k)) 0
abbrev mG (π w:Nat->Nat) (bR:Nat->V) (bN:Nat->Int) (aL:dw) (i:Nat):List V:=[toV π w i,.bool aL.ch,.str aL.s,bR i,.int .i64 (bN i)]
structure e4 (h:ah) (g:bp) (π:Nat->Nat) (bR:Nat->V) (w:Nat->Nat) (bN:Nat->Int):Prop where
 has:∀(i:Nat) (aL:dw),g.nodes[i]? =some aL->Has h (π i) (mG π w bR bN aL i)
 c0:∀(i:Nat) (aL:dw),g.nodes[i]? =some aL->fG h 1 (bR i) aL.kids.length (rI π aL.kids)/\s9 (bR i)/\aL.kids.length<=top
 inj:∀i j,i<g.N->j<g.N->π i=π j->i=j
 sep:∀i j,i<g.N->j<g.N->¬(bR i).aN (aj (π j))
def jG (g:bp) (π:Nat->Nat) (b:aQ):Prop:=∃i,i<g.N/\b=aj (π i)
theorem hK {g:bp} {i:Nat} (ao:i<g.N):∃aL,g.nodes[i]? =some aL:=⟨_,List.getElem?_eq_getElem ao⟩
theorem hn {g:bp} {i:Nat} {aL:dw} (h:g.nodes[i]? =some aL):i<g.N:=(List.getElem?_eq_some_iff.1 h).1
variable {h ab:ah} {g:bp} {π:Nat->Nat} {bR:Nat->V} {w:Nat->Nat} {bN:Nat->Int}
theorem e4.mod {M:aQ->Prop} (H:e4 h g π bR w bN) (m:Mod M h ab) (aa:∀i,i<g.N->¬M (aj (π i))) (ad:∀i b,i<g.N->(bR i).aN b->¬M b):e4 ab g π bR w bN:=
 ⟨fun i aL e=>(H.has i aL e).mod m (aa i (hn e)),fun i aL e=>⟨(H.c0 i aL e).1.mod m fun b q=>ad i b (hn e) q,(H.c0 i aL e).2⟩,H.inj,H.sep⟩
theorem e4.ext (H:e4 h g π bR w bN) (e:Ext h ab):e4 ab g π bR w bN:=H.mod (M:=fun _=>False) (e.mod _) (fun _ _ q=>q) fun _ _ _ _ q=>q
theorem e4.lt (H:e4 h g π bR w bN) {i:Nat} (ao:i<g.N):π i<h.next:=by obtain ⟨aL,e⟩:=hK ao;exact (H.has i aL e).lt
theorem e4.rk (H:e4 h g π bR w bN) {i:Nat} (ao:i<g.N) {b:aQ} (ae:(bR i).aN b):Old h b:=by obtain ⟨aL,e⟩:=hK ao;exact (H.c0 i aL e).1.bF ae
theorem e4.put (H:e4 h g π bR w bN) {b:Nat} {aL:dw} (ae:g.nodes[b]? =some aL) {an:Nat->Nat} {fJ:Nat->Int} (hw:∀x,x≠b->an x=w x) (aV:∀x,x≠b->fJ x=bN x):e4 (h.set (aj (π b)) (.bE (mG π an bR fJ aL b) 0 false)) g π bR an fJ:=by
 have m:Mod (fun x=>x=aj (π b)) h (h.set (aj (π b)) (.bE (mG π an bR fJ aL b) 0 false)):=(Mod.refl (fun x=>x=aj (π b)) h).set (fun _=>rfl) _;refine ⟨fun i cl e=>?_,fun i cl e=>⟨(H.c0 i cl e).1.mod m fun x q z=>?_,(H.c0 i cl e).2⟩,H.inj,H.sep⟩
 . by_cases q:i=b
   . subst q;obtain rfl:cl=aL:=by rw [e] at ae;exact Option.some.inj ae
     exact (H.has i cl e).put _
   . have aa:=H.has i cl e;rw [show mG π an bR fJ cl i=mG π w bR bN cl i from by unfold mG toV;rw [hw i q,aV i q]];exact aa.set (fun z=>q (H.inj i b (hn e) (hn ae) z)) _
 . rw [show x=aj (π b) from z] at q;exact H.sep i b (hn e) (hn ae) q
theorem e4.root (H:e4 h g π bR w bN) {b:Nat} {aL:dw} (ae:g.nodes[b]? =some aL) (hw:w b=b):h.get (aj (π b))=.bE [.ee,.bool aL.ch,.str aL.s,bR b,.int .i64 (bN b)] 0 false:=by have:=(H.has b aL ae).g;unfold mG toV at this;rw [if_pos hw] at this;exact this
theorem e4.step (H:e4 h g π bR w bN) {b:Nat} {aL:dw} (ae:g.nodes[b]? =some aL) (hw:w b≠b):h.get (aj (π b))=.bE [.ptr (aj (π (w b))) 0,.bool aL.ch,.str aL.s,bR b,.int .i64 (bN b)] 0 false:=by have:=(H.has b aL ae).g;unfold mG toV at this;rw [if_neg hw] at this;exact this
open Classical in
def idx (g:bp) (π:Nat->Nat) (v:V):Nat:=if h:∃i,i<g.N/\v=.ptr (aj (π i)) 0 then h.choose else 0
theorem e4.idx (H:e4 h g π bR w bN) {i:Nat} (ao:i<g.N):Go.Proofs.YthemdhlheglhoaaGreatDoor.idx g π (.ptr (aj (π i)) 0)=i:=by
 unfold Go.Proofs.YthemdhlheglhoaaGreatDoor.idx;have ak:∃j,j<g.N/\V.ptr (aj (π i)) 0=.ptr (aj (π j)) 0:=⟨i,ao,rfl⟩;rw [dif_pos ak];obtain ⟨aa,ad⟩:=Exists.choose_spec ak;injection ad with ad _
 exact (H.inj _ _ ao aa (fj ad)).symm
end
theorem RB {P:Program} (b:aQ) (o:Nat):(eC.jL true 1).run P (.ptr b o) .ee=some (.bool true):=by rfl
theorem RA {P:Program}:(eC.jL true 1).run P .ee .ee=some (.bool false):=by rfl
theorem Ad {g:bp} {π:Nat->Nat} {bR:Nat->V} {w:Nat->Nat} {bN:Nat->Int} {ρ:Nat->Nat} {h:ah} (H:e4 h g π bR w bN) (S:eP g ρ) (eW:Way w ρ) {a:Nat} (a1:a<g.N):
 de Tryz.prog 53 [.ptr (aj (π a)) 0] h fun x ab=>x=.ptr (aj (π (ρ a))) 0/\∃an,e4 ab g π bR an bN/\Way an ρ/\Mod (jG g π) h ab:=by
 obtain ⟨eM,R⟩:=eW;refine aa0.z rfl (dM ?_);unfold Qh;simp +contextual only [↓al,aG,simprocAttr];refine fa (fun r aW=>aW=h/\r 0=.ptr (aj (π a)) 0/\∃b,b<g.N/\r 3=.ptr (aj (π b)) 0/\ρ b=ρ a) (fun r _=>eM (idx g π (r 3))) ?_ ?_
 . exact ⟨rfl,by simp only [↓al,bs,simprocAttr],a,a1,by simp only [↓al,bs,simprocAttr],rfl⟩
 rintro r aW ⟨rfl,bt,b,ae,cr,e⟩;obtain ⟨cc,EB⟩:=hK ae;unfold Qi;by_cases q:w b=b
 . have G:=H.root EB q;have Jl:ρ a=b:=by rw [<-e];exact Way.end ⟨eM,R⟩ q
   subst Jl;simp +contextual only [bt,cr,G,RA,↓al,aG,simprocAttr];refine fa (fun r aa=>r 3=.ptr (aj (π (ρ a))) 0/\∃b an,b<g.N/\r 0=.ptr (aj (π b)) 0/\ρ b=ρ a/\e4 aa g π bR an bN/\vr eM an ρ/\Mod (jG g π) aW aa) (fun r _=>eM (idx g π (r 0))) ?_ ?_
   . exact ⟨by simp only [cr,↓al,bs,simprocAttr],a,w,a1,by simp only [bt,↓al,bs,simprocAttr],rfl,H,R,Mod.refl _ _⟩
   rintro r aa ⟨cr,c,an,aD,bt,Rq,H1,oT,jF⟩;obtain ⟨qn,enc⟩:=hK aD;unfold Qj;by_cases CX:an c=c
   . have G:=H1.root enc CX;simp +contextual only [bt,cr,G,RA,↓al,aG,simprocAttr];exact ⟨an,H1,⟨eM,oT⟩,jF⟩
   . have G:=H1.step enc CX;have hw:=Way.lt S ⟨eM,oT⟩ aD;simp +contextual only [bt,cr,G,RB,H1.idx aD,H1.idx hw,↓al,aG,simprocAttr];have nZ:=oT.short S CX;have ck:ρ c≠c:=fun z=>CX (Way.root S ⟨eM,oT⟩ z);have fE:=H1.put enc (an:=fun x=>if x=c then ρ c else an x) (fJ:=bN) (fun x ak=>if_neg ak) (fun _ _=>rfl);unfold mG toV at fE;simp only [if_true,if_neg ck] at fE;rw [Rq] at fE nZ;refine ⟨⟨an c,_,hw,rfl,(Way.step ⟨eM,oT⟩ c).trans Rq,fE,nZ,jF.set (fun _=>⟨c,aD,rfl⟩) _⟩,?_⟩;rcases oT c with z | ⟨_,z,_⟩
     . exact (CX z.1).elim
     . exact z
 . have G:=H.step EB q;have hw:=Way.lt S ⟨eM,R⟩ ae;simp +contextual only [bt,cr,G,RB,H.idx ae,H.idx hw,↓al,aG,simprocAttr];refine ⟨⟨w b,hw,rfl,(Way.step ⟨eM,R⟩ b).trans e⟩,?_⟩;rcases R b with z | ⟨_,z,_⟩
   . exact (q z.1).elim
   . exact z
def eU {α:Type} (f:Nat->α) (n:Nat) (x:α):Nat->α:=fun i=>if i=n then x else f i
theorem fu {α:Type} (f:Nat->α) (n:Nat) (x:α):eU f n x n=x:=if_pos rfl
theorem eA {α:Type} (f:Nat->α) {n i:Nat} (x:α) (h:i≠n):eU f n x i=f i:=if_neg h
section
variable [Lay]
theorem N1 {α:Type} {e cX:α->V}:∀{bM:List (Int × α)} {es:List cI},(∀p ∈ bM,e p.2=cX p.2)->qI e bM es->qI cX bM es
 | [],[],_,H=>H
 | [],_::_,_,H=>H.elim
 | _::_,[],_,H=>H.elim
 | (s,a)::bM,m::es,h,H=>⟨H.1,H.2.1.trans (h (s,a) List.mem_cons_self),N1 (fun p af=>h p (List.mem_cons_of_mem _ af)) H.2.2⟩
theorem Om {α:Type} {e cX:α->V} {h:ah} {b:aQ} {bM:List (Int × α)} (M:je e h b bM) (he:∀p ∈ bM,e p.2=cX p.2):je cX h b bM:=by obtain ⟨es,clock,ar,aw,aK⟩:=M.ex;exact ⟨⟨es,clock,ar,N1 he aw,aK⟩,M.bF⟩
theorem VC {α:Type} {s:Int} {x:α}:∀{bM:List (Int × α)},e_ s bM=none->zQ s x bM=bM++[(s,x)]
 | [],_=>rfl
 | (n,a)::bM,h=>by
   simp only [e_] at h;simp only [zQ,List.cons_append]
   split at h
   . cases h
   . rename_i q;rw [if_neg q,VC h]
structure mh (h:ah) (g:bp) (π:Nat->Nat) (bR:Nat->V) (w:Nat->Nat) (bN:Nat->Int) (cS:aQ):Prop where
 gl:e4 h g π bR w bN
 mp:je (fun i=>V.ptr (aj (π i)) 0) h cS g.vars
 s1:∀i,i<g.N->cS≠aj (π i)
 s2:∀i,i<g.N->¬(bR i).aN cS
variable {h ab:ah} {g:bp} {π:Nat->Nat} {bR:Nat->V} {w:Nat->Nat} {bN:Nat->Int} {cS:aQ}
theorem mh.mod {M:aQ->Prop} (H:mh h g π bR w bN cS) (m:Mod M h ab) (aW:¬M cS) (aa:∀i,i<g.N->¬M (aj (π i))) (ad:∀i b,i<g.N->(bR i).aN b->¬M b):mh ab g π bR w bN cS:=⟨H.gl.mod m aa ad,H.mp.mod m aW,H.s1,H.s2⟩
theorem mh.ext (H:mh h g π bR w bN cS) (e:Ext h ab):mh ab g π bR w bN cS:=⟨H.gl.ext e,H.mp.ext e,H.s1,H.s2⟩
theorem e4.add (H:e4 h g π bR w bN) (W:g.dX) (pd:∀i,i<g.N->w i<g.N) (hw:w g.N=g.N) {aL:dw} {n:Nat} {v:V} {m:Int} {cC:bp} (aB:cC.nodes=g.nodes++[aL]) (B:Has h n [.ee,.bool aL.ch,.str aL.s,v,.int .i64 m])
 (K:fG h 1 v aL.kids.length (rI π aL.kids)) (aE:s9 v) (aA:aL.kids.length<=top) (aH:∀x ∈ aL.kids,x<g.N) (d1:∀i,i<g.N->n≠π i) (d2:∀i,i<g.N->¬(bR i).aN (aj n)) (d3:∀i,i<g.N->¬v.aN (aj (π i))) (d4:¬v.aN (aj n)):
 e4 h cC (eU π g.N n) (eU bR g.N v) w (eU bN g.N m):=by
 have bJ:cC.N=g.N+1:=by unfold bp.N;rw [aB,List.length_append];rfl
 have zA:∀{aI:List Nat},(∀x ∈ aI,x<g.N)->rI (eU π g.N n) aI=rI π aI:=fun {aI} h=>List.map_congr_left fun x ak=>by rw [eA _ _ (by have:=h x ak;omega)]
 have split:∀{i:Nat} {cl:dw},cC.nodes[i]? =some cl->(i<g.N/\g.nodes[i]? =some cl)\/(i=g.N/\cl=aL):=fun {i cl} e=>by
  rw [aB] at e;rcases oc e with e | e
  . exact .inl ⟨hn e,e⟩
  . exact .inr e
 refine ⟨fun i cl e=>?_,fun i cl e=>?_,fun i j ao aU e=>?_,fun i j ao aU=>?_⟩
 . rcases split e with ⟨ao,e⟩ | ⟨rfl,rfl⟩
   . have:=H.has i cl e;have aa:=pd i ao;rw [eA _ _ (by omega)];rw [show mG (eU π g.N n) w (eU bR g.N v) (eU bN g.N m) cl i=mG π w bR bN cl i from by
      unfold mG toV;rw [eA _ _ (by omega),eA _ _ (by omega),eA _ _ (by omega)]]
     exact this
   . rw [fu];rw [show mG (eU π g.N n) w (eU bR g.N v) (eU bN g.N m) cl g.N=[.ee,.bool cl.ch,.str cl.s,v,.int .i64 m] from by
      unfold mG toV;rw [if_pos hw,fu,fu]]
     exact B
 . rcases split e with ⟨ao,e⟩ | ⟨rfl,rfl⟩
   . rw [eA _ _ (by omega),zA fun x ak=>W.qf e ak];exact H.c0 i cl e
   . rw [fu,zA aH];exact ⟨K,aE,aA⟩
 . rw [bJ] at ao aU;by_cases ci:i=g.N<;>by_cases sf:j=g.N
   . rw [ci,sf]
   . rw [ci,fu,eA _ _ sf] at e;exact (d1 j (by omega) e).elim
   . rw [sf,fu,eA _ _ ci] at e;exact (d1 i (by omega) e.symm).elim
   . rw [eA _ _ ci,eA _ _ sf] at e;exact H.inj i j (by omega) (by omega) e
 . rw [bJ] at ao aU;by_cases ci:i=g.N<;>by_cases sf:j=g.N
   . rw [ci,sf,fu,fu];exact d4
   . rw [ci,fu,eA _ _ sf];exact d3 j (by omega)
   . rw [sf,fu,eA _ _ ci];exact d2 i (by omega)
   . rw [eA _ _ ci,eA _ _ sf];exact H.sep i j (by omega) (by omega)
end
structure pL (g cC:bp) (π kh:Nat->Nat) (bR lZ:Nat->V) (bN fJ:Nat->Int) (B:Nat):Prop where
 pi:∀i,i<g.N->kh i=π i
 bR:∀i,i<g.N->lZ i=bR i
 bN:∀i,i<g.N->fJ i=bN i
 new:∀(i:Nat) (aL:dw),g.N<=i->cC.nodes[i]? =some aL->fJ i=if aL.ch=true then -1 else aL.n
 Bk:∀i,g.N<=i->i<cC.N->B<=kh i
 so:∀(i:Nat) (b:aQ),g.N<=i->i<cC.N->(lZ i).aN b->B<=cB b
theorem pL.refl (g:bp) (π:Nat->Nat) (bR:Nat->V) (bN:Nat->Int) (B:Nat):pL g g π π bR bR bN bN B:=
 ⟨fun _ _=>rfl,fun _ _=>rfl,fun _ _=>rfl,fun i aL h e=>(by have:=hn e;omega),fun i h ab=>by omega,fun i b h ab=>by omega⟩
theorem pL.trans {g g1 g2:bp} {π Dn me:Nat->Nat} {bR F4 rl:Nat->V} {bN Gp CD:Nat->Int} {B u_:Nat} (a:pL g g1 π Dn bR F4 bN Gp B) (b:pL g1 g2 Dn me F4 rl Gp CD u_) (da:B<=u_) (aa:g.le g1) (ad:g1.le g2):pL g g2 π me bR rl bN CD B:=by
 have cT:=aa.n;refine ⟨fun i ao=>(b.pi i (by omega)).trans (a.pi i ao),fun i ao=>(b.bR i (by omega)).trans (a.bR i ao),fun i ao=>(b.bN i (by omega)).trans (a.bN i ao),fun i aL ao e=>?_,fun i ao hB=>?_,fun i c ao hB q=>?_⟩
 . by_cases q:i<g1.N
   . rw [b.bN i q];rw [ad.bF q] at e;exact a.new i aL ao e
   . exact b.new i aL (by omega) e
 . by_cases q:i<g1.N
   . rw [b.pi i q];exact a.Bk i ao q
   . have:=b.Bk i (by omega) hB;omega
 . by_cases z:i<g1.N
   . rw [b.bR i z] at q;exact a.so i c ao z q
   . have:=b.so i c (by omega) hB q;omega
abbrev H0 (cS:aQ):aQ->Prop:=fun b=>b≠cS
theorem Zn (t:aM) (g:bp):cf [t] g=((t.add g).1,[(t.add g).2]):=by simp [cf]
theorem OS (l:List aM) (t:aM) (g:bp):cf (l++[t]) g=((t.add (cf l g).1).1,(cf l g).2++[(t.add (cf l g).1).2]):=by rw [OR,Zn]
theorem LZ:∀(N:Nat) (t:aM),t.size<=N->N<=900000000->t.lr=true->∀(g:bp) (π:Nat->Nat) (bR:Nat->V) (w:Nat->Nat) (bN:Nat->Int) (cS:aQ) (ai:List V) (h:ah),g.dX->(∀i,i<g.N->w i<g.N)->(∀i,g.N<=i->w i=i)->cW (H0 cS) h t.enc ai->mh h g π bR w bN cS->
 de Tryz.prog 49 [.map cS,.agg ai] h fun x ab=>∃kh lZ fJ,x=.ptr (aj (kh (t.add g).2)) 0/\mh ab (t.add g).1 kh lZ w fJ cS/\pL g (t.add g).1 π kh bR lZ bN fJ h.next/\Mod (fun b=>b=cS) h ab
 | 0,t,aS,_,_,_,_,_,_,_,_,_,_,_,_,_,_,_=>by have:=qx t;omega
 | N+1,t,aS,Bo,bj,g,π,bR,w,bN,cS,ai,h,W,pd,hw,H,P=>by
   obtain ⟨du,rfl,L,ot⟩:=aM.open H;have bJ:N<=900000000:=by omega
   have ol:=L.one;have aA:=L.len;have hle:=L.le;rw [List.length_map] at aA hle;have cq:=size_eq t;have jo:=qw t.l;have wI:=Xw t;rw [bj] at wI;refine aaW.z rfl (dM ?_);unfold c49;obtain ⟨aa,ar,aP,c6⟩:=h7 h (fT t du);have cT:=aP.next
   have Cm:=c6.lt;have hk:=P.ext aP;have hF:=hk.mp.look t.n .ee true;rw [add_eq];by_cases c:t.k=1
   . simp only [if_pos c];unfold bp.var;cases aC:e_ t.n g.vars with
     | some i=>
       rw [aC] at hF;simp only [cond_true] at hF;simp +contextual only [ol.1,ol.2.1,ar,c6.g,eq_true c,mV.eq,hF,↓al,aG,simprocAttr];exact ⟨π,bR,bN,rfl,hk,pL.refl _ _ _ _ _,aP.mod _⟩
     | none=>
       rw [aC] at hF;simp only [cond_true] at hF;have aV:0<=t.n:=by simp only [c,ne_eq,not_true_eq_false,decide_false,Bool.false_or] at wI;have:=wI.symm;simp only [Bool.and_eq_true,decide_eq_true_eq] at this;exact this.1.1
       obtain ⟨ad,aw,bf,hQ⟩:=h7 aa [.ee,.bool false,.str [],.bB,.int .i64 t.n];have gP:=bf.next
       have qj:=hQ.lt;have fE:=hk.ext bf;have gp:=c6.ext bf;have afm:∀i,i<g.N->aa.next≠π i:=fun i ao=>by have:=hk.gl.lt ao;omega
       have ae9:∀i,i<g.N->¬(bR i).aN (aj aa.next):=fun i ao q=>by have:=hk.gl.rk ao q;unfold Old at this;rw [b9] at this;omega
       have om:Old aa cS:=hk.mp.bF;have SM:cS≠aj aa.next:=fun q=>by rw [q] at om;unfold Old at om;rw [b9] at om;omega
       have YD:=fE.gl.add W pd (hw _ (Nat.le_refl _)) (aL:=⟨false,t.n,[],[]⟩) (n:=aa.next) (v:=.bB) (m:=t.n) (cC:=⟨g.nodes++[⟨false,t.n,[],[]⟩],g.vars++[(t.n,g.nodes.length)]⟩) rfl hQ ⟨rfl,rfl⟩ (fun b o l c e=>(by cases e)) (Nat.zero_le _) (fun x ak=>by cases ak) afm ae9 (fun i ao q=>q) (fun q=>q);have M2:je (fun i=>V.ptr (aj (eU π g.N aa.next i)) 0) ad cS g.vars:=Om fE.mp fun p af=>by have gF:=wX W.keys (show (p.1,p.2) ∈ g.vars from af);obtain ⟨aL,e,_⟩:=W.hF _ _ gF;have:=hn e;simp only [eA _ _ (show p.2≠g.N by omega)]
       obtain ⟨aJ,u1,Ab,Ac,an3⟩:=M2.eU t.n g.N;rw [VC aC] at Ab;have pH:=gp.mod Ac fun q=>by have:=P.mp.bF;rw [<-q] at this;unfold Old at this;rw [b9] at this;omega
       simp only [fu] at u1;simp +contextual only [ol.1,ol.2.1,ar,aw,c6.g,gp.g,eq_true c,mV.eq,hF,u1,↓al,aG,simprocAttr];refine ⟨eU π g.N aa.next,eU bR g.N .bB,eU bN g.N t.n,?_,⟨YD.mod Ac (fun i ao q=>?_) (fun i b ao ae q=>?_),Ab,fun i ao=>?_,fun i ao=>?_⟩,⟨fun i ao=>eA _ _ (by omega),fun i ao=>eA _ _ (by omega),fun i ao=>eA _ _ (by omega),fun i aL ao e=>?_,fun i ao hB=>?_,fun i b ao hB q=>?_⟩,((aP.trans bf).mod _).trans Ac⟩
       . show V.ptr (aj aa.next) 0=.ptr (aj (eU π g.N aa.next g.N)) 0;rw [fu]
       . have hB:i<g.N+1:=by simpa [bp.N] using ao
         by_cases z:i=g.N
         . rw [z,fu] at q;exact SM q.symm
         . rw [eA _ _ z] at q;exact P.s1 i (by omega) q.symm
       . have hB:i<g.N+1:=by simpa [bp.N] using ao
         rw [show b=cS from q] at ae;by_cases z:i=g.N
         . rw [z,fu] at ae;exact ae
         . rw [eA _ _ z] at ae;exact P.s2 i (by omega) ae
       . have hB:i<g.N+1:=by simpa [bp.N] using ao
         by_cases z:i=g.N
         . rw [z,fu];exact SM
         . rw [eA _ _ z];exact P.s1 i (by omega)
       . have hB:i<g.N+1:=by simpa [bp.N] using ao
         by_cases z:i=g.N
         . rw [z,fu];exact fun q=>q
         . rw [eA _ _ z];exact P.s2 i (by omega)
       . rcases oc e with e | ⟨c_,rfl⟩
         . have:=hn e;omega
         . rw [show i=g.N from c_,fu];rfl
       . have hB:i<g.N+1:=by simpa [bp.N] using hB
         rw [show i=g.N by omega,fu];omega
       . have hB:i<g.N+1:=by simpa [bp.N] using hB
         rw [show i=g.N by omega,fu] at q;exact q.elim
   . simp only [if_neg c];obtain ⟨ad,aw,bf,lD⟩:=h7 aa [.ee,.bool true,.str t.s,.bB,.int .i64 (-1)];have gP:=bf.next
     have l3:=lD.lt;have fE:=hk.ext bf;have gp:=c6.ext bf;have lT:kA t.l=true:=by have:=wI.symm;simp only [Bool.and_eq_true] at this;exact this.2
     have om:Old aa cS:=hk.mp.bF;have Ky:cS≠aj aa.next:=fun q=>by rw [q] at om;unfold Old at om;rw [b9] at om;omega
     simp +contextual only [ol.1,ol.2.1,ar,aw,c6.g,gp.g,eq_false c,aA,↓al,aG,simprocAttr];refine fa (fun r cC=>r 0=.map cS/\r 7=.ptr (aj aa.next) 0/\r 36=du/\r 37=.int .i64 t.l.length/\∃(i:Nat) (kh:Nat->Nat) (lZ:Nat->V) (fJ:Nat->Int) (v:V),r 38=.int .i64 i/\i<=t.l.length/\
      mh cC (cf (t.l.take i) g).1 kh lZ w fJ cS/\pL g (cf (t.l.take i) g).1 π kh bR lZ bN fJ h.next/\Has cC aa.next [.ee,.bool true,.str t.s,v,.int .i64 (-1)]/\cJ h.next cC 1 v i (rI kh (cf (t.l.take i) g).2)/\Mod (fun b=>b=cS) h cC/\ad.next<=cC.next/\
      (∀b,v.aN b->b≠cS/\b≠aj aa.next/\∀j,j < (cf (t.l.take i) g).1.N->b≠aj (kh j)/\¬(lZ j).aN b)/\∀j,j < (cf (t.l.take i) g).1.N->aa.next≠kh j/\¬(lZ j).aN (aj aa.next)) (fun r g=>t.l.length - (r 38).toN) ?_ ?_
     . refine ⟨by simp only [↓al,bs,simprocAttr],by simp only [↓al,bs,simprocAttr],by simp only [↓al,bs,simprocAttr],by simp only [↓al,bs,simprocAttr],0,π,bR,bN,.bB,by simp only [↓al,bs,simprocAttr]<;>rfl,by omega,fE,pL.refl _ _ _ _ _,lD,⟨rfl,rfl⟩,(aP.trans bf).mod _,Nat.le_refl _,fun b q=>q.elim,fun j aU=>⟨?_,fun q=>?_⟩⟩
       . have:=hk.gl.lt aU;omega
       . have:=hk.gl.rk aU q;unfold Old at this;rw [b9] at this;omega
     rintro r cC ⟨bt,eJ,Mr,uQ,i,kh,lZ,fJ,v,oJ,ao,PP,jf,X,O,M,aB,c2,G_⟩;unfold Qc;have dB:=O.v.one;have KZ:kA (t.l.take i)=true:=by have:=Nv (t.l.take i) (t.l.drop i);rw [List.take_append_drop,lT] at this;have:=this.symm;simp only [Bool.and_eq_true] at this;exact this.1
     obtain ⟨vZ,jg,Cj,JD⟩:=D5 (t.l.take i) g KZ W;have Bm:=vZ.n;by_cases aO:i<t.l.length
     . have g0:((i:Int) < (t.l.length:Int))=True:=eq_true (by omega);obtain ⟨b,off,wl,cH,H8,mZ,ld⟩:=aM.c0 (L.mod (fD:=H0 cS) M fun b q _=>⟨q,q⟩) (k:=.i64) aO;have A_:=ld cC (Ext.refl cC);have kT:=mZ.one;have dv:=kB aO (by unfold top at hle;omega);have Fq:=px (t:=t) (List.getElem_mem aO);have B1:=Nw lT (List.getElem_mem aO);obtain ⟨g1,e1,bA,Z⟩:=n' cC z4 (fT t.l[i] wl);have H9:=X.ext bA;have CF:=bA.next
       simp +contextual only [bt,eJ,Mr,uQ,oJ,g0,cH,A_,e1,Z.g,X.g,H9.g,kT.1,kT.2.1,dB.1,dB.2.1,↓al,aG,simprocAttr];refine cK (LZ N t.l[i] (by omega) bJ B1 _ kh lZ w fJ cS _ g1 jg (fun j aU=>?_) (fun j aU=>hw j (by omega)) (H8.ext bA) (PP.ext bA)) ?_
       . by_cases z:j<g.N
         . have:=pd j z;omega
         . rw [hw j (by omega)];exact aU
       rintro x g2 ⟨me,rl,CD,rfl,ig,kF,m2⟩;obtain ⟨EY,mY,agU,JE⟩:=r5 t.l[i] _ B1 jg;have JH:=EY.n;have rC:=m2.next
       have aoT:=Z.lt;have OH:=H9.mod m2 fun q=>Ky q.symm;have Y5:=Z.mod m2 fun q=>by have:=PP.mp.bF;rw [<-q] at this;unfold Old at this;rw [b9] at this;omega
       have M7:∀b,v.aN b->Old cC b:=fun b q=>O.v.bF q;have nW:cJ h.next g2 1 v i (rI kh (cf (t.l.take i) g).2):=(O.ext bA).mod m2 fun b q z=>(c2 b q).1 z
       have hZ:rI me (cf (t.l.take i) g).2=rI kh (cf (t.l.take i) g).2:=List.map_congr_left fun x ak=>by rw [kF.pi x (Cj x ak)]
       obtain ⟨dd,g3,bW,bV,b8,gH,i_⟩:=qO (cs:=[.ptr (aj (me (t.l[i].add (cf (t.l.take i) g).1).2)) 0]) (Nat.le_refl _) nW (by omega) (by unfold top at hle ⊢;omega) rfl rfl;have kf:=bV.v.one;have ho:cf (t.l.take (i+1)) g=((t.l[i].add (cf (t.l.take i) g).1).1,(cf (t.l.take i) g).2++[(t.l[i].add (cf (t.l.take i) g).1).2]):=by rw [take_one aO,OS]
       have OI:=OH.mod b8 fun q=>(c2 _ q).2.1 rfl;have UG:∀j,j < (t.l[i].add (cf (t.l.take i) g).1).1.N->(j < (cf (t.l.take i) g).1.N/\me j=kh j/\rl j=lZ j)\/(g1.next<=me j/\∀b,(rl j).aN b->g1.next<=cB b):=fun j aU=>by
        by_cases z:j < (cf (t.l.take i) g).1.N
        . exact .inl ⟨z,kF.pi j z,kF.bR j z⟩
        . exact .inr ⟨kF.Bk j (by omega) aU,fun b q=>kF.so j b (by omega) aU q⟩
       have M8:∀b,v.aN b->∀j,j < (t.l[i].add (cf (t.l.take i) g).1).1.N->b≠aj (me j)/\¬(rl j).aN b:=fun b q j aU=>by
        rcases UG j aU with ⟨b6,z2,z3⟩ | ⟨b6,z2⟩
        . rw [z2,z3];exact (c2 b q).2.2 j b6
        . have:=M7 b q;unfold Old at this;exact ⟨fun z=>by rw [z,b9] at this;omega,fun z=>by have:=z2 b z;omega⟩
       have pN:=ig.mod b8 (fun q=>(c2 _ q).1 rfl) (fun j aU q=>(M8 _ q j aU).1 rfl) fun j b aU ae q=>(M8 _ q j aU).2 ae;have M':∀j,j < (t.l[i].add (cf (t.l.take i) g).1).1.N->aa.next≠me j/\¬(rl j).aN (aj aa.next):=fun j aU=>by
        rcases UG j aU with ⟨b6,z2,z3⟩ | ⟨b6,z2⟩
        . rw [z2,z3];exact G_ j b6
        . exact ⟨by omega,fun z=>by have:=z2 _ z;rw [b9] at this;omega⟩
       have m5:Mod (fun b=>b=aj aa.next) g3 (g3.set (aj aa.next) (.bE [.ee,.bool true,.str t.s,dd,.int .i64 (-1)] 0 false)):=(Mod.refl (fun b=>b=aj aa.next) g3).set (fun _=>rfl) _;have nX:=pN.mod m5 (fun q=>Ky q) (fun j aU q=>(M' j aU).1 (fj q).symm) fun j b aU ae q=>(M' j aU).2 (by rw [<-show b=aj aa.next from q];exact ae);have Tf:∀b,dd.aN b->b≠aj aa.next:=fun b q z=>by
        rcases i_ b q with q | q
        . exact (c2 b q).2.1 z
        . rw [z,b9] at q;omega
       have Yx:=bV.mod m5 fun b q z=>Tf b q z;have f4:(g2.next=aa.next)=False:=eq_false (by omega);have f5:(g2.next=cC.next)=False:=eq_false (by omega);simp +contextual only [f4,f5,if_false,bt,eJ,Mr,uQ,oJ,Z.g,Y5.g,X.g,H9.g,OH.g,OI.g,kT.1,kT.2.1,dB.1,dB.2.1,kf.1,kf.2.1,bW,dv,↓al,aG,simprocAttr];refine ⟨⟨i+1,me,rl,CD,dd,rfl,aO,?_,?_,OI.put _,?_,?_,?_,?_,?_⟩,by omega⟩
       . rw [ho];exact nX
       . rw [ho];exact jf.trans kF (by have:=M.next;omega) vZ EY
       . rw [ho];simp only [rI,List.map_append,List.map_cons,List.map_nil];rw [show (cf (t.l.take i) g).2.map (fun k=>V.ptr (aj (me k)) 0)=rI me (cf (t.l.take i) g).2 from rfl,hZ];exact Yx
       . have jF:Mod (fun b=>b=cS) h g2:=(M.trans (bA.mod _)).trans m2;exact (jF.z_ b8 fun b q=>O.base q).fresh (show h.next<=aa.next by omega) _
       . show ad.next<=g3.next;omega
       . intro b q;refine ⟨fun z=>?_,Tf b q,fun j aU=>?_⟩
         . rcases i_ b q with q | q
           . exact (c2 b q).1 z
           . have:=ig.mp.bF;rw [<-z] at this;unfold Old at this;omega
         . rw [ho] at aU;rcases i_ b q with q | q
           . exact M8 b q j aU
           . refine ⟨fun z=>?_,fun z=>?_⟩
             . have:=ig.gl.lt aU;rw [z,b9] at q;omega
             . have:=ig.gl.rk aU z;unfold Old at this;omega
       . rw [ho];exact M'
     . have g0:((i:Int) < (t.l.length:Int))=False:=eq_false (by omega);rw [List.take_of_length_le (by omega)] at PP jf O Cj vZ jg c2 G_ Bm JD;simp +contextual only [bt,eJ,Mr,uQ,oJ,g0,↓al,aG,simprocAttr];have iH:(cf t.l g).2.length=i:=by rw [D4];omega
       have E6:((cf t.l g).1.put t.s (cf t.l g).2).N=(cf t.l g).1.N+1:=by simp [bp.put,bp.N]
       have YE:=PP.gl.add jg (fun j aU=>by
        by_cases z:j<g.N
        . have:=pd j z;omega
        . rw [hw j (by omega)];exact aU) (hw _ (by omega)) (aL:=⟨true,0,t.s,(cf t.l g).2⟩) (n:=aa.next) (v:=v) (m:=-1) (cC:=(cf t.l g).1.put t.s (cf t.l g).2) rfl X (by rw [iH];exact O.v) O.room (by rw [iH];omega) Cj (fun j aU=>(G_ j aU).1) (fun j aU=>(G_ j aU).2) (fun j aU q=>((c2 _ q).2.2 j aU).1 rfl) (fun q=>(c2 _ q).2.1 rfl)
       refine ⟨eU kh (cf t.l g).1.N aa.next,eU lZ (cf t.l g).1.N v,eU fJ (cf t.l g).1.N (-1),by rw [fu],⟨YE,Om PP.mp fun p af=>?_,fun j aU=>?_,fun j aU=>?_⟩,⟨fun j aU=>?_,fun j aU=>?_,fun j aU=>?_,fun j aL aU e=>?_,fun j aU sx=>?_,fun j b aU sx q=>?_⟩,M⟩
       . have gF:=wX jg.keys (show (p.1,p.2) ∈ (cf t.l g).1.vars from af);obtain ⟨aL,e,_⟩:=jg.hF _ _ gF;have:=hn e;simp only [eA _ _ (show p.2≠(cf t.l g).1.N by omega)]
       . rw [E6] at aU;by_cases z:j=(cf t.l g).1.N
         . rw [z,fu];exact Ky
         . rw [eA _ _ z];exact PP.s1 j (by omega)
       . rw [E6] at aU;by_cases z:j=(cf t.l g).1.N
         . rw [z,fu];exact fun q=>(c2 _ q).1 rfl
         . rw [eA _ _ z];exact PP.s2 j (by omega)
       . rw [eA _ _ (by omega)];exact jf.pi j aU
       . rw [eA _ _ (by omega)];exact jf.bR j aU
       . rw [eA _ _ (by omega)];exact jf.bN j aU
       . rcases oc e with e | ⟨c_,rfl⟩
         . have:=hn e;rw [eA _ _ (by omega)];exact jf.new j aL aU e
         . rw [show j=(cf t.l g).1.N from c_,fu];rfl
       . rw [E6] at sx;by_cases z:j=(cf t.l g).1.N
         . rw [z,fu];omega
         . rw [eA _ _ z];exact jf.Bk j aU (by omega)
       . rw [E6] at sx;by_cases z:j=(cf t.l g).1.N
         . rw [z,fu] at q;exact O.base q
         . rw [eA _ _ z] at q;exact jf.so j b aU (by omega) q
end
section
open Go a8
theorem ajx {p:Nat->Prop}:∀(n:Nat),p n->∃m,p m/\∀k,k<m->¬p k:=by
 intro n
 induction n using Nat.strongRecOn with
 | _ n bq=>
   intro h;by_cases q:∃k,k<n/\p k
   . obtain ⟨k,aa,ad⟩:=q;exact bq k aa ad
   . exact ⟨n,h,fun k aH z=>q ⟨k,aH,z⟩⟩
open Classical in
def leastOf (p:Nat->Prop):Nat:=if h:∃m,p m/\∀k,k<m->¬p k then h.choose else 0
theorem leastOf_spec {p:Nat->Prop} {n:Nat} (h:p n):p (leastOf p)/\leastOf p<=n:=by
 unfold leastOf;have ak:=ajx n h;rw [dif_pos ak];obtain ⟨aa,ad⟩:=Exists.choose_spec ak;exact ⟨aa,by
  by_cases q:Exists.choose ak<=n
  . exact q
  . exact (ad n (by omega) h).elim⟩
theorem aj5 [Lay] {P:Program} {b:aY} {aI:List h5} {r:bc} {h:ah} {Q:dm->bc->ah->Prop} (I:bc->ah->Nat->Prop) {cD:Nat} (aW:I r h cD)
 (step:∀(J:bc->ah->Prop) (r:bc) (h:ah) (n:Nat),(∀bD ab ry,ry<n->I bD ab ry->J bD ab)->I r h n->bo P [.c b] .normal r h fun e bD ab=>e.andThen (J bD ab) (bo P aI e bD ab Q)):zt P b aI r h Q:=
 fa (fun r h=>∃n,I r h n) (fun r h=>leastOf (I r h)) ⟨cD,aW⟩ fun r h ⟨n,aV⟩=>by obtain ⟨aa,_⟩:=leastOf_spec aV;exact step _ r h _ (fun bD ab ry aA ao=>⟨⟨ry,ao⟩,Nat.lt_of_le_of_lt (leastOf_spec ao).2 aA⟩) aa
def wZ (a b:Int):Int:=if b<0\/(0<=a/\a<b) then a else b
def HV (g:bp) (ρ:Nat->Nat) (m:Int) (r:Nat):Prop:=
 (m<0/\∀(y:Nat) (aL:dw),g.nodes[y]? =some aL->ρ y=r->aL.ch=true)\/
 (0<=m/\(∃(y:Nat) (aL:dw),g.nodes[y]? =some aL/\ρ y=r/\aL.ch=false/\aL.n=m)/\∀(y:Nat) (aL:dw),g.nodes[y]? =some aL->ρ y=r->aL.ch=false->m<=aL.n)
def mg (g:bp) (ρ:Nat->Nat) (bN:Nat->Int):Prop:=∀r,r<g.N->ρ r=r->HV g ρ (bN r) r
theorem mg.one {g:bp} {ρ:Nat->Nat} {bN:Nat->Int} {r s:Nat} (H:mg g ρ bN) (aE:ρ r=r) (aS:ρ s=s) (ck:r≠s) (qm:r<g.N) (ls:s<g.N):mg g (ea ρ r s) (eU bN s (wZ (bN r) (bN s))):=by
 have cs:∀y,ea ρ r s y=s↔ρ y=r\/ρ y=s:=fun y=>by
  unfold ea
  split
  . rename_i q;exact ⟨fun _=>.inl q,fun _=>rfl⟩
  . rename_i q;exact ⟨.inr,fun z=>z.resolve_left q⟩
 intro t av e;by_cases c:t=s
 . subst c;rw [fu];have cL:=H r qm aE;have dn:=H t ls aS;unfold HV at *;simp only [cs];unfold wZ;rcases cL with ⟨bZ,a2⟩ | ⟨bZ,⟨y,aL,e1,fZ,y3,y4⟩,a3⟩<;>rcases dn with ⟨cb,ca⟩ | ⟨cb,⟨z,iO,b6,z2,z3,z4⟩,e5⟩
   . rw [if_pos (.inl cb)];exact .inl ⟨bZ,fun y aL h q=>q.elim (a2 y aL h) (ca y aL h)⟩
   . rw [if_neg (by omega)];refine .inr ⟨cb,⟨z,iO,b6,.inr z2,z3,z4⟩,fun y aL h q c=>?_⟩;rcases q with q | q
     . rw [a2 y aL h q] at c;cases c
     . exact e5 y aL h q c
   . rw [if_pos (.inl cb)];refine .inr ⟨bZ,⟨y,aL,e1,.inl fZ,y3,y4⟩,fun x fV h q c=>?_⟩;rcases q with q | q
     . exact a3 x fV h q c
     . rw [ca x fV h q] at c;cases c
   . by_cases l:bN r<bN t
     . rw [if_pos (.inr ⟨bZ,l⟩)];refine .inr ⟨bZ,⟨y,aL,e1,.inl fZ,y3,y4⟩,fun x fV h q c=>?_⟩;rcases q with q | q
       . exact a3 x fV h q c
       . have:=e5 x fV h q c;omega
     . rw [if_neg (by omega)];refine .inr ⟨cb,⟨z,iO,b6,.inr z2,z3,z4⟩,fun x fV h q c=>?_⟩;rcases q with q | q
       . have:=a3 x fV h q c;omega
       . exact e5 x fV h q c
 . rw [eA _ _ c];have ab4:∀y,ea ρ r s y=t↔ρ y=t:=fun y=>by
    unfold ea
    split
    . rename_i q;refine ⟨fun z=>(c z.symm).elim,fun z=>?_⟩;rw [q] at z;subst z;unfold ea at e;rw [if_pos aE] at e;exact e
    . exact Iff.rfl
   have hz:ρ t=t:=by
    unfold ea at e
    split at e
    . exact (c e.symm).elim
    . exact e
   have:=H t av hz;unfold HV at *;simp only [ab4];exact this
theorem Oz {p q:aQ}:aQ.gY p q=decide (p=q):=by
 by_cases h:p=q
 . subst h;rw [aQ.yn,decide_eq_true rfl]
 . rw [decide_eq_false h,<-Bool.not_eq_true];exact fun z=>h (aQ.k_ z)
theorem alU {h:ah} {i j:Nat} {a b:List V} (g1:h.get (aj i)=.bE a 0 false) (g2:h.get (aj j)=.bE b 0 false) (neg:Bool):uN neg h (.ptr (aj i) 0) (.ptr (aj j) 0)=some (.bool (bif neg then !decide (i=j) else decide (i=j))):=by
 unfold uN hs;simp only [Oz,g1,g2,cd.bE,cd.zN,Bool.not_false,Bool.and_self,cond_true];by_cases c:i=j
 . subst c;simp
 . rw [decide_eq_false (fun z=>c (fj z)),decide_eq_false c];simp
theorem Zv (b:aQ) (o:Nat):(sQ 2 1).run (.ptr b o) (.int .i64 0)=some (.ptr b o):=rfl
theorem Zw (b:aQ) (o:Nat):(sQ 2 1).run (.ptr b o) (.int .i64 1)=some (.ptr b (o+1)):=rfl
def IJ:aY:=
 aY.seq (aY.aq [⟨(some 104),.b0 (.t 8),none,[8]⟩,
  ⟨(some 105),.h2 (.t 104),none,[104]⟩,
  ⟨(some 106),.eH 4 (.t 105),none,[105]⟩,
  ⟨(some 107),.d' (.t 106),none,[106]⟩,
  ⟨(some 10),.b0 (.t 107),none,[107]⟩])
  (aY.seq (aY.seq (aY.aq [⟨(some 108),.b0 (.t 10),none,[10]⟩,
    ⟨(some 109),.bin (.int .lss) (.t 108) (.c (.int .i64 0)),none,[108]⟩,
    ⟨(some 110),.b0 (.t 109),none,[109]⟩,
    ⟨(some 111),.b0 (.t 7),(some (110,false)),[7,110]⟩,
    ⟨(some 112),.h2 (.t 111),(some (110,false)),[111,110]⟩,
    ⟨(some 113),.eH 4 (.t 112),(some (110,false)),[112,110]⟩,
    ⟨(some 114),.d' (.t 113),(some (110,false)),[113,110]⟩,
    ⟨(some 115),.bin (.int .geq) (.t 114) (.c (.int .i64 0)),(some (110,false)),[114,110]⟩,
    ⟨(some 116),.b0 (.t 115),(some (110,false)),[115,110]⟩,
    ⟨(some 117),.b0 (.t 7),(some (116,true)),[7,116]⟩,
    ⟨(some 118),.h2 (.t 117),(some (116,true)),[117,116]⟩,
    ⟨(some 119),.eH 4 (.t 118),(some (116,true)),[118,116]⟩,
    ⟨(some 120),.d' (.t 119),(some (116,true)),[119,116]⟩,
    ⟨(some 121),.b0 (.t 10),(some (116,true)),[10,116]⟩,
    ⟨(some 122),.bin (.int .lss) (.t 120) (.t 121),(some (116,true)),[120,121,116]⟩,
    ⟨(some 123),.pick (.t 116) (.t 122) (.c (.bool false)),(some (110,false)),[116,122,110]⟩,
    ⟨(some 124),.pick (.t 110) (.c (.bool true)) (.t 123),none,[110,123]⟩])
   (aY.cond (.t 124)
    (aY.aq [⟨(some 125),.b0 (.t 7),none,[7]⟩,
      ⟨(some 126),.h2 (.t 125),none,[125]⟩,
      ⟨(some 127),.eH 4 (.t 126),none,[126]⟩,
      ⟨(some 128),.d' (.t 127),none,[127]⟩,
      ⟨(some 10),.b0 (.t 128),none,[128]⟩])
    (aY.skip)))
  (aY.aq [⟨(some 129),.b0 (.t 7),none,[7]⟩,
    ⟨(some 130),.b0 (.t 8),none,[8]⟩,
    ⟨(some 131),.b0 (.t 8),none,[8]⟩,
    ⟨(some 132),.b0 (.t 10),none,[10]⟩,
    ⟨(some 133),.h2 (.t 129),none,[129]⟩,
    ⟨(some 134),.eH 0 (.t 133),none,[133]⟩,
    ⟨none,.st 1 (.t 134) (.t 131),none,[134,131]⟩,
    ⟨(some 135),.h2 (.t 130),none,[130]⟩,
    ⟨(some 136),.eH 4 (.t 135),none,[135]⟩,
    ⟨none,.st 1 (.t 136) (.t 132),none,[136,132]⟩]))
theorem aaV:II=
 aY.seq (aY.seq (aY.aq [⟨(some 15),.b0 (.t 5),none,[5]⟩,
  ⟨(some 16),.len .slice (.t 15),none,[15]⟩,
  ⟨(some 17),.bin (.int .gtr) (.t 16) (.c (.int .i64 0)),none,[16]⟩])
 (aY.cond (.t 17)
  (aY.skip)
  (aY.exit 0)))
 (aY.block 1 (aY.seq (aY.aq [⟨(some 18),.b0 (.t 5),none,[5]⟩,
   ⟨(some 19),.b0 (.t 5),none,[5]⟩,
   ⟨(some 20),.len .slice (.t 19),none,[19]⟩,
   ⟨(some 21),.bin (.int .sub) (.t 20) (.c (.int .i64 1)),none,[20]⟩,
   ⟨(some 22),.cH 2 (.t 18) (.t 21),none,[18,21]⟩,
   ⟨(some 23),.iM 2 (.t 22),none,[22]⟩,
   ⟨(some 6),.new [.ee,.ee],none,[]⟩,
   ⟨none,.st 2 (.t 6) (.t 23),none,[6,23]⟩])
  (aY.seq (aY.aq [⟨(some 24),.b0 (.t 5),none,[5]⟩,
    ⟨(some 25),.b0 (.t 5),none,[5]⟩,
    ⟨(some 26),.len .slice (.t 25),none,[25]⟩,
    ⟨(some 27),.bin (.int .sub) (.t 26) (.c (.int .i64 1)),none,[26]⟩,
    ⟨(some 28),.fY 2 (.t 24) none (some (.t 27)) none,none,[24,27]⟩,
    ⟨(some 5),.b0 (.t 28),none,[28]⟩])
  (aY.seq (aY.draw [⟨(some 29),.lU 2 1 (.t 6) (.c (.int .i64 0)),none,[6]⟩,
    ⟨(some 30),.d' (.t 29),none,[29]⟩,
    ⟨(some 32),.lU 2 1 (.t 6) (.c (.int .i64 1)),none,[6]⟩,
    ⟨(some 33),.d' (.t 32),none,[32]⟩,
    ⟨(some 31),.call 53 [(.t 30)],none,[30]⟩,
    ⟨(some 34),.call 53 [(.t 33)],none,[33]⟩,
    ⟨(some 7),.b0 (.t 31),none,[31]⟩,
    ⟨(some 8),.b0 (.t 34),none,[34]⟩] [(1,[4]),(3,[4,5])])
  (aY.seq (aY.seq (aY.aq [⟨(some 35),.b0 (.t 7),none,[7]⟩,
    ⟨(some 36),.b0 (.t 8),none,[8]⟩,
    ⟨(some 37),.peq false (.t 35) (.t 36),none,[35,36]⟩])
   (aY.cond (.t 37)
    (aY.exit 1)
    (aY.skip)))
  (aY.seq (aY.seq (aY.aq [⟨(some 38),.b0 (.t 7),none,[7]⟩,
    ⟨(some 39),.h2 (.t 38),none,[38]⟩,
    ⟨(some 40),.eH 1 (.t 39),none,[39]⟩,
    ⟨(some 41),.d' (.t 40),none,[40]⟩,
    ⟨(some 42),.b0 (.t 41),none,[41]⟩,
    ⟨(some 43),.b0 (.t 8),(some (42,true)),[8,42]⟩,
    ⟨(some 44),.h2 (.t 43),(some (42,true)),[43,42]⟩,
    ⟨(some 45),.eH 1 (.t 44),(some (42,true)),[44,42]⟩,
    ⟨(some 46),.d' (.t 45),(some (42,true)),[45,42]⟩,
    ⟨(some 47),.pick (.t 42) (.t 46) (.c (.bool false)),none,[42,46]⟩])
   (aY.cond (.t 47)
    (aY.seq (aY.seq (aY.draw [⟨(some 48),.b0 (.t 7),none,[7]⟩,
      ⟨(some 49),.h2 (.t 48),none,[48]⟩,
      ⟨(some 50),.eH 2 (.t 49),none,[49]⟩,
      ⟨(some 51),.d' (.t 50),none,[50]⟩,
      ⟨(some 52),.b0 (.t 8),none,[8]⟩,
      ⟨(some 53),.h2 (.t 52),none,[52]⟩,
      ⟨(some 54),.eH 2 (.t 53),none,[53]⟩,
      ⟨(some 55),.d' (.t 54),none,[54]⟩,
      ⟨(some 56),.bin (.str .neq) (.t 51) (.t 55),none,[51,55]⟩,
      ⟨(some 57),.b0 (.t 56),none,[56]⟩,
      ⟨(some 58),.b0 (.t 7),(some (57,false)),[7,57]⟩,
      ⟨(some 59),.h2 (.t 58),(some (57,false)),[58,57]⟩,
      ⟨(some 60),.eH 3 (.t 59),(some (57,false)),[59,57]⟩,
      ⟨(some 61),.d' (.t 60),(some (57,false)),[60,57]⟩,
      ⟨(some 62),.len .slice (.t 61),(some (57,false)),[61,57]⟩,
      ⟨(some 63),.b0 (.t 8),(some (57,false)),[8,57]⟩,
      ⟨(some 64),.h2 (.t 63),(some (57,false)),[63,57]⟩,
      ⟨(some 65),.eH 3 (.t 64),(some (57,false)),[64,57]⟩,
      ⟨(some 66),.d' (.t 65),(some (57,false)),[65,57]⟩,
      ⟨(some 67),.len .slice (.t 66),(some (57,false)),[66,57]⟩,
      ⟨(some 68),.bin (.int .neq) (.t 62) (.t 67),(some (57,false)),[62,67,57]⟩,
      ⟨(some 69),.pick (.t 57) (.c (.bool true)) (.t 68),none,[57,68]⟩] [])
      (aY.cond (.t 69)
       (aY.seq (aY.aq [⟨(some 4),.b0 (.c (.bool false)),none,[]⟩])
        (aY.ret))
       (aY.skip)))
     (aY.seq (aY.aq [⟨(some 70),.b0 (.t 7),none,[7]⟩,
       ⟨(some 71),.h2 (.t 70),none,[70]⟩,
       ⟨(some 72),.eH 3 (.t 71),none,[71]⟩,
       ⟨(some 73),.d' (.t 72),none,[72]⟩,
       ⟨(some 74),.len .slice (.t 73),none,[73]⟩,
       ⟨(some 75),.b0 (.c (.int .i64 0)),none,[]⟩])
     (aY.block 2 (aY.loop IH))))
    (aY.skip)))
  (aY.seq (aY.seq (aY.aq [⟨(some 97),.b0 (.t 8),none,[8]⟩,
    ⟨(some 98),.h2 (.t 97),none,[97]⟩,
    ⟨(some 99),.eH 1 (.t 98),none,[98]⟩,
    ⟨(some 100),.d' (.t 99),none,[99]⟩,
    ⟨(some 101),.un .not (.t 100),none,[100]⟩])
   (aY.cond (.t 101)
    (aY.aq [⟨(some 102),.b0 (.t 8),none,[8]⟩,
      ⟨(some 103),.b0 (.t 7),none,[7]⟩,
      ⟨(some 7),.b0 (.t 102),none,[102]⟩,
      ⟨(some 8),.b0 (.t 103),none,[103]⟩])
    (aY.skip)))
  (IJ)))))))):=rfl
theorem Ha {r s:Nat} {g:bp} {π:Nat->Nat} {bR:Nat->V} {w:Nat->Nat} {bN:Nat->Int} {h:ah} {aI:List h5} {Q:dm->bc->ah->Prop} {aq:bc} (H:e4 h g π bR w bN) (aE:r<g.N) (aS:s<g.N) (ck:r≠s) (wr:w r=r) (ws:w s=s) (eJ:aq 7=.ptr (aj (π r)) 0) (dW:aq 8=.ptr (aj (π s)) 0)
 (K:∀rJ ab,rJ 5=aq 5->e4 ab g π bR (fun a=>if a=r then s else w a) (eU bN s (wZ (bN r) (bN s)))->Mod (jG g π) h ab->ab.next=h.next->bo Tryz.prog aI .normal rJ ab Q):bo Tryz.prog (.c IJ::aI) .normal aq h Q:=by
 obtain ⟨dL,jM⟩:=hK aE;obtain ⟨d_,es⟩:=hK aS;have mP:=H.root jM wr;have gS:=H.root es ws;have hk:=H.put jM (an:=fun a=>if a=r then s else w a) (fJ:=bN) (fun x ak=>if_neg ak) (fun _ _=>rfl);have fE:=hk.put es (an:=fun a=>if a=r then s else w a) (fJ:=eU bN s (wZ (bN r) (bN s))) (fun _ _=>rfl) (fun x ak=>eA _ _ ak);have FO:(π r=π s)=False:=eq_false fun z=>ck (H.inj _ _ aE aS z);have FP:(π s=π r)=False:=eq_false fun z=>ck (H.inj _ _ aE aS z.symm);unfold mG toV at hk fE;simp only [if_true,if_neg ck.symm,if_neg ck,ws,fu] at hk fE;have M2:=((Mod.refl (jG g π) h).set (fun _=>⟨r,aE,rfl⟩) (.bE [.ptr (aj (π s)) 0,.bool dL.ch,.str dL.s,bR r,.int .i64 (bN r)] 0 false)).set (b:=aj (π s)) (fun _=>⟨s,aS,rfl⟩) (.bE [.ee,.bool d_.ch,.str d_.s,bR s,.int .i64 (wZ (bN r) (bN s))] 0 false);unfold IJ;unfold wZ at K fE M2;by_cases bP:bN s<0
 . rw [if_pos (.inl bP)] at K fE M2;simp +contextual only [eJ,dW,mP,gS,FO,FP,eq_true bP,if_false,↓al,aG,simprocAttr];exact K _ _ (by simp only [↓al,bs,simprocAttr]) fE M2 rfl
 . by_cases bX:0<=bN r
   . by_cases c3:bN r<bN s
     . rw [if_pos (.inr ⟨bX,c3⟩)] at K fE M2;simp +contextual only [eJ,dW,mP,gS,FO,FP,eq_false bP,eq_true bX,eq_true c3,if_false,↓al,aG,simprocAttr];exact K _ _ (by simp only [↓al,bs,simprocAttr]) fE M2 rfl
     . rw [if_neg (by omega)] at K fE M2;simp +contextual only [eJ,dW,mP,gS,FO,FP,eq_false bP,eq_true bX,eq_false c3,if_false,↓al,aG,simprocAttr];exact K _ _ (by simp only [↓al,bs,simprocAttr]) fE M2 rfl
   . rw [if_neg (by omega)] at K fE M2;simp +contextual only [eJ,dW,mP,gS,FO,FP,eq_false bP,eq_false bX,if_false,↓al,aG,simprocAttr];exact K _ _ (by simp only [↓al,bs,simprocAttr]) fE M2 rfl
end
section
open Go a8
def qv (π:Nat->Nat) (T:List (Nat × Nat)):List V:=T.flatMap fun p=>[.ptr (aj (π p.1)) 0,.ptr (aj (π p.2)) 0]
theorem Vz (π:Nat->Nat) (T:List (Nat × Nat)):qv π T=(T.map fun p=>[V.ptr (aj (π p.1)) 0,.ptr (aj (π p.2)) 0]).flatten:=by unfold qv;rw [List.flatMap_def]
theorem Mm (π:Nat->Nat) (T:List (Nat × Nat)):(qv π T).length=T.length * 2:=by rw [Vz,sq _ (size:=2) (fun u hu=>by obtain ⟨p,_,rfl⟩:=List.mem_map.1 hu;rfl),List.length_map]
theorem alM (π:Nat->Nat) {T:List (Nat × Nat)} {i:Nat} {p:Nat × Nat} (h:T[i]? =some p):((qv π T).drop (i * 2)).take 2=[V.ptr (aj (π p.1)) 0,.ptr (aj (π p.2)) 0]:=by rw [Vz];exact yw _ i _ (fun u hu=>by obtain ⟨p,_,rfl⟩:=List.mem_map.1 hu;rfl) (by rw [List.getElem?_map,h];rfl)
theorem Vy (π:Nat->Nat) (T U:List (Nat × Nat)):qv π (T++U)=qv π T++qv π U:=by unfold qv;rw [List.flatMap_append]
theorem an_ {g:bp} {π:Nat->Nat} {bR:Nat->V} {w:Nat->Nat} {bN:Nat->Int} {ρ:Nat->Nat} {E:List (Nat × Nat)} {a b:Nat} {h:ah} (W:g.dX) (cq:1+kl g ρ<=1000000000) (H:e4 h g π bR w bN) (S:eP g ρ) (eW:Way w ρ) (L:mg g ρ bN) (J:ev g E ρ [(a,b)]) (a1:a<g.N) (ae:b<g.N):
 de Tryz.prog 48 [.ptr (aj (π a)) 0,.ptr (aj (π b)) 0] h fun x ab=>Mod (jG g π) h ab/\∃an fJ dF,e4 ab g π bR an fJ/\eP g dF/\Way an dF/\((x=.bool false/\mN g E)\/(x=.bool true/\ev g E dF []/\mg g dF fJ)):=by
 have L1:∀i,i<g.N->π i<h.next:=fun i ao=>H.lt ao
 have akX:∀i b,i<g.N->(bR i).aN b->cB b<h.next:=fun i b ao q=>H.rk ao q
 refine aaU.z rfl (dM ?_);unfold Qb;obtain ⟨aa,ar,aP,DS⟩:=Lv h 2 1 [.ptr (aj (π a)) 0,.ptr (aj (π b)) 0] rfl (by unfold top;omega);simp +contextual only [ar,↓al,aG,simprocAttr];refine aj5 (fun r cC n=>∃v T an fJ dF,r 5=v/\cJ h.next cC 2 v T.length (qv π T)/\e4 cC g π bR an fJ/\eP g dF/\Way an dF/\mg g dF fJ/\ev g E dF T/\(∀p ∈ T,p.1<g.N/\p.2<g.N)/\n=T.length+kl g dF/\n<=1+kl g ρ/\Mod (jG g π) h cC/\aa.next<=cC.next) (cD:=1+kl g ρ) ?_ ?_
 . refine ⟨_,[(a,b)],w,bN,ρ,by simp only [↓al,bs,simprocAttr],DS,H.ext aP,S,eW,L,J,fun p af=>?_,rfl,Nat.le_refl _,aP.mod _,Nat.le_refl _⟩;rw [List.mem_singleton] at af;subst af;exact ⟨a1,ae⟩
 rintro Yg r cC n JM ⟨v,T,an,fJ,dF,c1,O,P,gv,OG,DO,N9,dK,aV,pa,M,aB⟩;have cT:=aP.next
 have dB:=O.v.one;have jU:=O.v.len;unfold Go.Proofs.YthemdhlheglhoaaGreatDoor.II;rw [show (aY.seq _ _:aY)=_ from aaV];rcases List.eq_nil_or_concat T with rfl | ⟨cg,⟨x,y⟩,rfl⟩
 . simp +contextual only [c1,jU,List.length_nil,show ((0:Int) < ((0:Nat):Int))=False from by simp,↓al,aG,simprocAttr];exact ⟨M,an,fJ,dF,P,gv,OG,.inr ⟨N9,DO⟩⟩
 have hlen:(cg.concat (x,y)).length=cg.length+1:=by simp
 rw [List.concat_eq_append] at *;have ak:x<g.N/\y<g.N:=dK (x,y) (by simp);have JS:∀p ∈ cg,p.1<g.N/\p.2<g.N:=fun p af=>dK p (by simp [af]);have b3:IntKind.i64.wrap (((cg.length+1:Nat):Int)-1)=((cg.length:Nat):Int):=by rw [wrap_i64 (by omega) (by omega)];omega
 have g0:((0:Int) < ((cg.length+1:Nat):Int))=True:=eq_true (by omega);rw [hlen] at O jU;obtain ⟨lF,off,cH,XR⟩:=O.v.cH (k:=.i64) (i:=cg.length) (by omega);have ld:=XR.iM (i:=cg.length * 2) (n:=2) (by rw [Mm,List.length_append,List.length_singleton];omega);rw [alM π (T:=cg++[(x,y)]) (i:=cg.length) (p:=(x,y)) (by simp)] at ld;obtain ⟨dd,cut,vm,sub⟩:=O.cut (k:=.i64) (m:=cg.length) (by omega) (by omega);rw [Vy,List.take_append_of_le_length (by rw [Mm];exact Nat.le_refl _),List.take_of_length_le (by rw [Mm];exact Nat.le_refl _)] at vm;obtain ⟨g1,aw,bf,Z⟩:=n' cC [.ee,.ee] [.ptr (aj (π x)) 0,.ptr (aj (π y)) 0];have kf:=vm.v.one;have aoT:=Z.lt;have gP:=bf.next
 have AE:ev g E dF ((x,y)::cg):=N9.perm fun p=>by simp [or_comm]
 simp +contextual only [c1,jU,g0,b3,cH,ld,aw,Z.g,cut,dB.1,dB.2.1,kf.1,kf.2.1,Zv,Zw,↓al,aG,simprocAttr];have hk:=P.ext bf;refine cK (Ad hk gv OG ak.1) ?_;rintro bA g2 ⟨rfl,b2,fE,tB,M2⟩;have Sf:¬jG g π (aj cC.next):=fun ⟨i,ao,q⟩=>by have:=L1 i ao;have:=fj q;omega
 have iU:=Z.mod M2 Sf;simp +contextual only [Z.g,iU.g,↓al,aG,simprocAttr];refine cK (Ad fE gv tB ak.2) ?_;rintro eB g3 ⟨rfl,iS,ig,k6,vk⟩;have lE:=iU.mod vk Sf;have n3:=M2.next
 have n4:=vk.next
 have w8:∀{k bg:ah},Mod (jG g π) k bg->∀{u:V} {n:Nat} {cs:List V},cJ h.next k 2 u n cs->cJ h.next bg 2 u n cs:=fun {k bg} m {u n cs} O=>O.mod m fun c q ⟨i,ao,z⟩=>by have:=O.base q;have:=L1 i ao;rw [z,b9] at *;omega
 have pM:=w8 vk (w8 M2 (vm.ext bf));have AH:Mod (jG g π) h g3:=((M.trans (bf.mod _)).trans M2).trans vk;obtain ⟨fV,ex⟩:=hK (gv.lt x ak.1);obtain ⟨kd,jN⟩:=hK (gv.lt y ak.2);have rx:=gv.idem x;have uU:=gv.idem y;have mP:=ig.root ex (Way.root gv k6 rx);have gS:=ig.root jN (Way.root gv k6 uU);have uL:=alU mP gS false;simp only [cond_false] at uL;by_cases c:dF x=dF y
 . simp +contextual only [Z.g,iU.g,lE.g,uL,decide_eq_true (congrArg π c),jz,↓al,aG,simprocAttr];refine JM _ _ (cg.length+kl g dF) (by rw [aV,hlen];omega) ⟨dd,cg,iS,fJ,dF,by simp only [↓al,bs,simprocAttr],pM,ig,gv,k6,DO,AE.skip c,JS,rfl,by omega,AH,by omega⟩
 have yh:¬π (dF x)=π (dF y):=fun z=>c (ig.inj _ _ (gv.lt x ak.1) (gv.lt y ak.2) z);have l3:=gv.lt x ak.1;have rv:=gv.lt y ak.2;have xJ:=Way.root gv k6 rx;have Dh:=Way.root gv k6 uU;have fin:∀(R s:Nat) (IU:∀aL:dw,g.nodes[R]? =some aL->aL.ch=false),((R=dF x/\s=dF y)\/(R=dF y/\s=dF x))->∀(rJ:bc) (ab:ah),rJ 5=dd->e4 ab g π bR (fun a=>if a=R then s else iS a) (eU fJ s (wZ (fJ R) (fJ s)))->Mod (jG g π) g3 ab->ab.next=g3.next->Yg rJ ab:=by
  intro R s IU Sg rJ ab gM nX pK n5;have cL:dF R=R/\dF s=s/\R≠s/\R<g.N/\s<g.N:=by
   rcases Sg with ⟨rfl,rfl⟩ | ⟨rfl,rfl⟩
   . exact ⟨rx,uU,c,l3,rv⟩
   . exact ⟨uU,rx,fun z=>c z.symm,rv,l3⟩
  obtain ⟨b6,z2,z3,z4,z5⟩:=cL;have hw:=Hi b6 z2 z3 z4;refine JM _ _ (cg.length+kl g (ea dF R s)) (by rw [aV,hlen];omega) ⟨dd,cg,_,_,ea dF R s,gM,w8 pK pM,nX,gv.one b6 z2 z3 z4 z5 (fun aL ar aw=>by rw [IU aL ar] at aw;cases aw),k6.one gv b6 z2 z3,DO.one b6 z2 z3 z4 z5,AE.Xk gv (by
   rcases Sg with ⟨rfl,rfl⟩ | ⟨rfl,rfl⟩
   . exact .inl ⟨rfl,rfl⟩
   . exact .inr ⟨rfl,rfl⟩) b6 z2 IU,JS,rfl,by rw [aV,hlen] at pa;omega,AH.trans pK,by omega⟩
 cases wg:fV.ch with
 | false=>
   rw [wg] at mP;cases o8:kd.ch with
   | false=>
     rw [o8] at gS;simp +contextual only [Z.g,iU.g,lE.g,uL,decide_eq_false yh,mP,gS,jz,↓al,aG,simprocAttr];refine Ha ig rv l3 (fun z=>c z.symm) Dh xJ (by simp only [↓al,bs,simprocAttr]) (by simp only [↓al,bs,simprocAttr]) fun rJ ab gM nX pK n5=>?_;simp only [↓al,aG,simprocAttr];exact fin _ _ (fun aL q=>by rw [jN] at q;cases q;exact o8) (.inr ⟨rfl,rfl⟩) _ _ (by rw [gM];simp only [↓al,bs,simprocAttr]) nX pK n5
   | true=>
     rw [o8] at gS;simp +contextual only [Z.g,iU.g,lE.g,uL,decide_eq_false yh,mP,gS,jz,↓al,aG,simprocAttr];refine Ha ig l3 rv c xJ Dh (by simp only [↓al,bs,simprocAttr]) (by simp only [↓al,bs,simprocAttr]) fun rJ ab gM nX pK n5=>?_;simp only [↓al,aG,simprocAttr];exact fin _ _ (fun aL q=>by rw [ex] at q;cases q;exact wg) (.inl ⟨rfl,rfl⟩) _ _ (by rw [gM];simp only [↓al,bs,simprocAttr]) nX pK n5
 | true=>
   rw [wg] at mP;cases o8:kd.ch with
   | false=>
     rw [o8] at gS;simp +contextual only [Z.g,iU.g,lE.g,uL,decide_eq_false yh,mP,gS,jz,↓al,aG,simprocAttr];refine Ha ig rv l3 (fun z=>c z.symm) Dh xJ (by simp only [↓al,bs,simprocAttr]) (by simp only [↓al,bs,simprocAttr]) fun rJ ab gM nX pK n5=>?_;simp only [↓al,aG,simprocAttr];exact fin _ _ (fun aL q=>by rw [jN] at q;cases q;exact o8) (.inr ⟨rfl,rfl⟩) _ _ (by rw [gM];simp only [↓al,bs,simprocAttr]) nX pK n5
   | true=>
     rw [o8] at gS;obtain ⟨kE,V',Gc⟩:=ig.c0 _ _ ex;obtain ⟨Yk,aqE,ap'⟩:=ig.c0 _ _ jN;have mE:=kE.len;have T9:=Yk.len;by_cases cs:fV.s=kd.s
     . by_cases tM:fV.kids.length=kd.kids.length
       . simp +contextual only [Z.g,iU.g,lE.g,uL,decide_eq_false yh,mP,gS,eq_true cs,mE,T9,tM,eq_self,G2,jz,↓al,aG,simprocAttr];have bn:(fV.kids.zip kd.kids).length=fV.kids.length:=by rw [List.length_zip,tM];omega
         have iH:sT g (dF x)=fV.kids.length:=by unfold sT;rw [ex]
         have hw:=Hi rx uU c l3;rw [iH] at hw;rw [hlen] at aV;refine fa (fun r k=>r 7=.ptr (aj (π (dF x))) 0/\r 8=.ptr (aj (π (dF y))) 0/\r 74=.int .i64 fV.kids.length/\∃(i:Nat) (u:V),r 75=.int .i64 i/\r 5=u/\i<=fV.kids.length/\cJ h.next k 2 u (cg.length+i) (qv π (cg++(fV.kids.zip kd.kids).take i))/\e4 k g π bR iS fJ/\Mod (jG g π) h k/\g3.next<=k.next) (fun r k=>fV.kids.length - (r 75).toN) ?_ ?_
         . exact ⟨by simp only [↓al,bs,simprocAttr],by simp only [↓al,bs,simprocAttr],by simp only [tM,↓al,bs,simprocAttr],0,dd,by simp only [↓al,bs,simprocAttr]<;>rfl,by simp only [↓al,bs,simprocAttr],Nat.zero_le _,by simpa using pM,ig,AH,Nat.le_refl _⟩
         rintro r k ⟨eJ,dW,VQ,i,u,VR,c1,ao,AK,gV,f',aH⟩;have rG:=AK.v.one;have HA:=gV.root ex xJ;have HB:=gV.root jN Dh;rw [wg] at HA;rw [o8] at HB;unfold IH;by_cases aO:i<fV.kids.length
         . have vX:((i:Int) < (fV.kids.length:Int))=True:=eq_true (by omega);obtain ⟨Od,_,_⟩:=gV.c0 _ _ ex;obtain ⟨Oe,_,_⟩:=gV.c0 _ _ jN;have kS:=Od.one;have U3:=Oe.one;obtain ⟨tH,fs,ox,xM⟩:=Od.cH (k:=.i64) aO;obtain ⟨ZS,iy,agu,NO⟩:=Oe.cH (k:=.i64) (i:=i) (by omega);have mD:=xM.d' (i:=i) (by rw [List.length_map];exact aO);have Ls:=NO.d' (i:=i) (by rw [List.length_map];omega);rw [List.getElem_map] at mD Ls;rw [show fs+i=fs+i * 1 by omega] at mD;rw [show iy+i=iy+i * 1 by omega] at Ls;have d1:(k.next=π (dF x))=False:=eq_false (by have:=gV.lt l3;omega);have d2:(k.next=π (dF y))=False:=eq_false (by have:=gV.lt rv;omega);have d3:(aj k.next=tH)=False:=CI xM.1 (Nat.le_refl _);have d4:(aj k.next=ZS)=False:=CI NO.1 (Nat.le_refl _);obtain ⟨gR,bg,bW,bV,b8,gH,i_⟩:=qO (cs:=[.ptr (aj (π fV.kids[i])) 0,.ptr (aj (π kd.kids[i])) 0]) (by omega) AK (by omega) (by unfold top;omega) rfl rfl;have uH:=bV.v.one;have dv:IntKind.i64.wrap ((i:Int)+1)=((i+1:Nat):Int):=by rw [wrap_i64 (by omega) (by omega)];rfl
           simp +contextual only [eJ,dW,VQ,VR,c1,vX,HA,HB,kS.1,kS.2.1,U3.1,U3.2.1,ox,agu,mD,Ls,d1,d2,d3,d4,if_false,bW,dv,rG.1,rG.2.1,uH.1,uH.2.1,↓al,aG,simprocAttr];have pc:∀b,u.aN b->h.next<=cB b:=fun b q=>AK.base q
           refine ⟨⟨i+1,gR,rfl,by simp only [↓al,bs,simprocAttr],aO,?_,gV.mod b8 (fun j aU q=>?_) (fun j b aU ae q=>?_),f'.z_ b8 pc,by omega⟩,by omega⟩
           . rw [show cg.length + (i+1)=cg.length+i+1 by omega,List.take_succ_eq_append_getElem (by rw [bn];exact aO),<-List.append_assoc,Vy];simpa [qv] using bV
           . have:=pc _ q;rw [b9] at this;have:=L1 j aU;omega
           . have:=pc _ q;have:=akX j b aU ae;omega
         . have vX:((i:Int) < (fV.kids.length:Int))=False:=eq_false (by omega);rw [List.take_of_length_le (by rw [bn];omega)] at AK;simp +contextual only [eJ,dW,VQ,VR,c1,vX,HA,HB,↓al,aG,simprocAttr];refine Ha gV l3 rv c xJ Dh (by simp only [eJ,↓al,bs,simprocAttr]) (by simp only [dW,↓al,bs,simprocAttr]) fun rJ ab gM nX pK n5=>?_;simp only [↓al,aG,simprocAttr];have hB:i=fV.kids.length:=by omega
           refine JM _ _ (cg.length+fV.kids.length+kl g (ea dF (dF x) (dF y))) (by omega) ⟨u,cg++fV.kids.zip kd.kids,_,_,ea dF (dF x) (dF y),by rw [gM];simp only [c1,↓al,bs,simprocAttr],?_,nX,gv.one rx uU c l3 rv (fun aL ar aw=>⟨kd,jN,o8⟩),k6.one gv rx uU c,DO.one rx uU c l3 rv,(AE.Xj gv rfl rfl ex jN wg o8 cs tM).perm fun p=>by simp [or_comm],fun p af=>?_,by rw [List.length_append,bn],by omega,f'.trans pK,by omega⟩
           . rw [List.length_append,bn,<-hB];exact w8 pK AK
           . rcases List.mem_append.1 af with af | af
             . exact JS p af
             . obtain ⟨bW,bV⟩:=p;have:=List.of_mem_zip af;exact ⟨W.qf ex this.1,W.qf jN this.2⟩
       . have abK:¬((fV.kids.length:Int)=(kd.kids.length:Int)):=by omega
         simp +contextual only [Z.g,iU.g,lE.g,uL,decide_eq_false yh,mP,gS,eq_true cs,mE,T9,eq_false abK,G2,jz,↓al,aG,simprocAttr];exact ⟨AH,iS,fJ,dF,ig,gv,k6,.inl (AE.Es gv rfl rfl ex jN wg o8 (.inr tM))⟩
     . simp +contextual only [Z.g,iU.g,lE.g,uL,decide_eq_false yh,mP,gS,eq_false cs,G2,jz,↓al,aG,simprocAttr];exact ⟨AH,iS,fJ,dF,ig,gv,k6,.inl (AE.Es gv rfl rfl ex jN wg o8 (.inl cs))⟩
section
variable {α:Type}
def hL (i:Nat):List (Nat × α)->Option α
 | []=>none
 | (n,a)::bM=>if i=n then some a else hL i bM
def nG (i:Nat) (x:α):List (Nat × α)->List (Nat × α)
 | []=>[(i,x)]
 | (n,a)::bM=>if i=n then (i,x)::bM else (n,a)::nG i x bM
theorem Lx (i:Nat) (x:α) (j:Nat):∀bM:List (Nat × α),hL j (nG i x bM)=if j=i then some x else hL j bM
 | []=>by simp only [nG,hL]
 | (n,a)::bM=>by
   simp only [nG];by_cases q:i=n
   . subst q;simp only [if_true,hL]
     split<;>rfl
   . rw [if_neg q];simp only [hL,Lx i x j bM];by_cases r:j=n
     . rw [if_pos r,if_neg (fun z=>q (z.symm.trans r)),if_pos r]
     . rw [if_neg r,if_neg r]
theorem Lj (i:Nat) (x:α):∀bM:List (Nat × α),∀j,j ∈ (nG i x bM).map Prod.fst->j=i\/j ∈ bM.map Prod.fst
 | [],j,h=>by simp [nG] at h;exact .inl h
 | (n,a)::bM,j,h=>by
   simp only [nG] at h
   split at h
   . simp only [List.map_cons,List.mem_cons] at h ⊢;rcases h with h | h
     . exact .inl h
     . exact .inr (.inr h)
   . simp only [List.map_cons,List.mem_cons] at h ⊢;rcases h with h | h
     . exact .inr (.inl h)
     . rcases Lj i x bM j h with h | h
       . exact .inl h
       . exact .inr (.inr h)
theorem Uc {i:Nat} {a:α}:∀{bM:List (Nat × α)},hL i bM=some a->(i,a) ∈ bM
 | [],h=>by cases h
 | (n,b)::bM,h=>by
   simp only [hL] at h
   split at h
   . rename_i q;cases h;subst q;exact List.mem_cons_self
   . exact List.mem_cons_of_mem _ (Uc h)
theorem Cs {i:Nat}:∀{bM:List (Nat × α)},hL i bM=none↔i ∉ bM.map Prod.fst
 | []=>by simp [hL]
 | (n,b)::bM=>by
   simp only [hL,List.map_cons,List.mem_cons,not_or];by_cases q:i=n
   . simp [q]
   . rw [if_neg q,Cs (bM:=bM)];simp [q]
def oR (e:α->V) (π:Nat->Nat):List (Nat × α)->List cI->Prop
 | [],[]=>True
 | (n,a)::bM,m::es=>m.k=.ptr (aj (π n)) 0/\m.v=e a/\oR e π bM es
 | _,_=>False
structure h6 (e:α->V) (π:Nat->Nat) (h:ah) (b:aQ) (bM:List (Nat × α)):Prop where
 ex:∃es clock,h.get b=.mp es clock/\oR e π bM es/\hV clock 0 es=true
 bF:Old h b
variable {e:α->V} {π:Nat->Nat} {h ab:ah} {b:aQ} {bM:List (Nat × α)} {es:List cI} {i:Nat}
abbrev vi (h:ah) (π:Nat->Nat) (i:Nat) (aI:List Nat):Prop:=∀j,j ∈ aI->hs h (.ptr (aj (π i)) 0) (.ptr (aj (π j)) 0)=some (decide (i=j))
theorem oR.find (H:oR e π bM es) (K:vi h π i (bM.map Prod.fst)):nc ⟨hs h⟩ (.ptr (aj (π i)) 0) es=some ((hL i bM).map e):=by
 induction bM generalizing es with
 | nil=>
   cases es with
   | nil=>rfl
   | cons m es=>exact H.elim
 | cons p bM bq=>
   obtain ⟨n,a⟩:=p;cases es with
   | nil=>exact H.elim
   | cons m es=>
     obtain ⟨aa,ad,aJ⟩:=H;have iu:=K n (by simp);simp only [nc,aa,iu,hL];by_cases q:i=n
     . subst q;simp [ad]
     . simp only [q,decide_false,cond_false,if_false];exact bq aJ fun j aU=>K j (by simp only [List.map_cons,List.mem_cons];exact .inr aU)
theorem oR.q0 (H:oR e π bM es) (K:vi h π i (bM.map Prod.fst)) (aV:hL i bM=none):a8.q0 ⟨hs h⟩ (.ptr (aj (π i)) 0) es=some none:=by
 induction bM generalizing es with
 | nil=>
   cases es with
   | nil=>rfl
   | cons m es=>exact H.elim
 | cons p bM bq=>
   obtain ⟨n,a⟩:=p;cases es with
   | nil=>exact H.elim
   | cons m es=>
     obtain ⟨aa,ad,aJ⟩:=H;have iu:=K n (by simp);simp only [hL] at aV
     split at aV
     . cases aV
     . rename_i q;simp only [a8.q0,aa,iu,q,decide_false,cond_false];exact bq aJ (fun j aU=>K j (by simp only [List.map_cons,List.mem_cons];exact .inr aU)) aV
theorem oR.put (H:oR e π bM es) (K:vi h π i (bM.map Prod.fst)) (x:α) (clock:Nat) (bC:Nat) (ey:bC<=clock) (B:hV clock bC es=true):
 ∃gw f,kW ⟨hs h⟩ (.ptr (aj (π i)) 0) (e x) clock es=some (gw,f)/\oR e π (nG i x bM) gw/\hV (bif f then clock+1 else clock) bC gw=true:=by
 induction bM generalizing es bC with
 | nil=>
   cases es with
   | nil=>
     refine ⟨_,true,rfl,⟨rfl,rfl,trivial⟩,?_⟩;simp only [hV,cond_true,Bool.and_true,Bool.and_eq_true,Nat.ble_eq,Nat.blt_eq];omega
   | cons m es=>exact H.elim
 | cons p bM bq=>
   obtain ⟨n,a⟩:=p;cases es with
   | nil=>exact H.elim
   | cons m es=>
     obtain ⟨aa,ad,aJ⟩:=H;simp only [hV,Bool.and_eq_true,Nat.ble_eq,Nat.blt_eq] at B;obtain ⟨⟨cb,ca⟩,e5⟩:=B;have iu:=K n (by simp);simp only [kW,aa,iu,nG];by_cases q:i=n
     . subst q;refine ⟨⟨.ptr (aj (π i)) 0,e x,m.born⟩::es,false,by simp only [decide_true,cond_true],?_,?_⟩
       . rw [if_pos rfl];exact ⟨rfl,rfl,aJ⟩
       . simp only [cond_false,hV,e5,Bool.and_true,Bool.and_eq_true,Nat.ble_eq,Nat.blt_eq];exact ⟨cb,ca⟩
     . obtain ⟨gw,f,ar,aw,aK⟩:=bq (bC:=m.born+1) aJ (fun j aU=>K j (by simp only [List.map_cons,List.mem_cons];exact .inr aU)) (by omega) e5;refine ⟨m::gw,f,by simp only [q,decide_false,cond_false,ar],by rw [if_neg q];exact ⟨aa,ad,aw⟩,?_⟩;simp only [hV,aK,Bool.and_true,Bool.and_eq_true,Nat.ble_eq,Nat.blt_eq];refine ⟨cb,?_⟩;cases f<;>simp only [cond_true,cond_false]<;>omega
theorem oR.snoc (H:oR e π bM es) (x:α) (c:Nat):oR e π (bM++[(i,x)]) (es++[⟨.ptr (aj (π i)) 0,e x,c⟩]):=by
 induction bM generalizing es with
 | nil=>
   cases es with
   | nil=>exact ⟨rfl,rfl,trivial⟩
   | cons m es=>exact H.elim
 | cons p bM bq=>
   cases es with
   | nil=>exact H.elim
   | cons m es=>exact ⟨H.1,H.2.1,bq H.2.2⟩
theorem Pp {c:Nat} {k v:V}:∀{es:List cI} {bC:Nat},bC<=c->hV c bC es=true->hV (c+1) bC (es++[⟨k,v,c⟩])=true
 | [],bC,h,_=>by simp only [List.nil_append,hV,Bool.and_true,Bool.and_eq_true,Nat.ble_eq,Nat.blt_eq];omega
 | m::es,bC,h,B=>by simp only [hV,Bool.and_eq_true,Nat.ble_eq,Nat.blt_eq] at B;simp only [List.cons_append,hV,Bool.and_eq_true,Nat.ble_eq,Nat.blt_eq];exact ⟨⟨B.1.1,by omega⟩,Pp (by omega) B.2⟩
theorem RI {c:Nat} {k v x:V}:∀{es:List cI} {bC:Nat},hV c bC es=true->sl c x (es++[⟨k,v,c⟩])=some (es++[⟨k,x,c⟩])
 | [],bC,_=>by simp [sl]
 | m::es,bC,B=>by
   simp only [hV,Bool.and_eq_true,Nat.ble_eq,Nat.blt_eq] at B;have:Nat.beq m.born c=false:=by rw [<-Bool.not_eq_true,Nat.beq_eq];omega
   simp only [List.cons_append,sl,this,cond_false,RI B.2]
theorem h6.ext (H:h6 e π h b bM) (x:Ext h ab):h6 e π ab b bM:=by obtain ⟨es,clock,ar,aw,aK⟩:=H.ex;exact ⟨⟨es,clock,by rw [x.get b H.bF];exact ar,aw,aK⟩,x.bF H.bF⟩
theorem h6.mod {M:aQ->Prop} (H:h6 e π h b bM) (m:Mod M h ab) (ae:¬M b):h6 e π ab b bM:=by obtain ⟨es,clock,ar,aw,aK⟩:=H.ex;exact ⟨⟨es,clock,by rw [m.get b H.bF ae];exact ar,aw,aK⟩,m.bF H.bF⟩
theorem h6.look (H:h6 e π h b bM) (K:vi h π i (bM.map Prod.fst)) (z:V) (ok:Bool):jq ⟨hs h⟩ z ok h (.map b) (.ptr (aj (π i)) 0)=some (match hL i bM with
 | some a=>(bif ok then .tuple [e a,.bool true] else e a)
 | none=>(bif ok then .tuple [z,.bool false] else z)):=by
 obtain ⟨es,clock,ar,aw,aK⟩:=H.ex;simp only [jq,sX,ar,cd.jZ,aw.find K];cases hL i bM<;>rfl
theorem h6.eU (H:h6 e π h b bM) (K:vi h π i (bM.map Prod.fst)) (x:α):∃ab,k0 ⟨hs h⟩ h (.map b) (.ptr (aj (π i)) 0) (e x)=some ab/\h6 e π ab b (nG i x bM)/\Mod (fun p=>p=b) h ab/\ab.next=h.next:=by obtain ⟨es,clock,ar,aw,aK⟩:=H.ex;obtain ⟨gw,f,br,cF,cr⟩:=aw.put K x clock 0 (Nat.zero_le _) aK;refine ⟨h.set b (.mp gw (bif f then clock+1 else clock)),by simp only [k0,ar,cd.jZ,br],⟨⟨gw,_,by rw [dC,if_pos rfl],cF,cr⟩,?_⟩,(Mod.refl (fun p=>p=b) h).set (fun _=>rfl) _,rfl⟩;exact ((Mod.refl (fun p=>p=b) h).set (fun _=>rfl) _).bF H.bF
theorem h6.entry (H:h6 e π h b bM) (K:vi h π i (bM.map Prod.fst)) (aV:hL i bM=none) (z:V) (x:α):∃(c:Nat) (aa ad:ah),ym z (.map b) (.ptr (aj (π i)) 0) h=.val (.tuple [z,.int .i64 c]) aa/\tR aa (.map b) (.int .i64 c) (e x)=some ad/\
 h6 e π ad b (bM++[(i,x)])/\Mod (fun p=>p=b) h aa/\aa.next=h.next/\Mod (fun p=>p=b) h ad/\ad.next=h.next:=by
 obtain ⟨es,clock,ar,aw,aK⟩:=H.ex;have m1:∀k,Mod (fun p=>p=b) h (h.set b k):=fun k=>(Mod.refl (fun p=>p=b) h).set (fun _=>rfl) _;refine ⟨clock,h.set b (.mp (es++[⟨.ptr (aj (π i)) 0,z,clock⟩]) (clock+1)),(h.set b (.mp (es++[⟨.ptr (aj (π i)) 0,z,clock⟩]) (clock+1))).set b (.mp (es++[⟨.ptr (aj (π i)) 0,e x,clock⟩]) (clock+1)),?_,?_,⟨⟨_,_,by rw [dC,if_pos rfl],aw.snoc x clock,Pp (Nat.zero_le _) aK⟩,(((m1 _).set (fun _=>rfl) _).bF H.bF)⟩,m1 _,rfl,(m1 _).set (fun _=>rfl) _,rfl⟩
 . simp only [ym,w3,ar,cd.jZ,aw.q0 K aV]
 . have:((clock:Nat):Int)=Int.ofNat clock:=rfl;simp only [tR,this,dC,if_true,cd.jZ,RI aK]
theorem h6.new (e:α->V) (π:Nat->Nat) (h:ah):h6 e π (h.new (.mp [] 0)) (aj h.next) []:=
 ⟨⟨[],0,nd _,trivial,rfl⟩,fW (by rw [gk];omega)⟩
end
theorem e4.key {h:ah} {g:bp} {π:Nat->Nat} {bR:Nat->V} {w:Nat->Nat} {bN:Nat->Int} (H:e4 h g π bR w bN) {i:Nat} (ao:i<g.N) {aI:List Nat} (aH:∀j ∈ aI,j<g.N):vi h π i aI:=fun j aU=>by
 obtain ⟨akA,ba⟩:=hK ao;obtain ⟨akC,acz⟩:=hK (aH j aU);have g1:=(H.has i akA ba).g;have g2:=(H.has j akC acz).g;unfold hs;simp only [Oz,g1,g2,cd.bE,cd.zN,Bool.not_false,Bool.and_self,cond_true];by_cases c:i=j
 . subst c;simp
 . rw [decide_eq_false (fun z=>c (H.inj i j ao (aH j aU) (fj z))),decide_eq_false c];simp
theorem zy:∀(n:Nat) (l:List Nat),l.Nodup->(∀x ∈ l,x<n)->l.length<=n
 | 0,l,_,h=>by
   cases l with
   | nil=>exact Nat.le_refl _
   | cons x l=>have:=h x List.mem_cons_self;omega
 | n+1,l,aV,h=>by
   by_cases q:n ∈ l
   . have:=zy n (l.erase n) (aV.erase n) fun x ak=>by
      have aa:=h x (List.mem_of_mem_erase ak);have ad:=(aV.mem_erase_iff.1 ak).1;omega
     rw [List.length_erase_of_mem q] at this;omega
   . have:=zy n l aV fun x ak=>by
      have aa:=h x ak;have ad:x≠n:=fun z=>q (z ▸ ak);omega
     omega
theorem am8 [Lay] {h:ah} {size:Nat} {v:V} {n:Nat} {ai:List V} (H:fG h size v n ai) {b:aQ} (ae:v.aN b):∃us,Rd h b us:=by
 have cp:=H.2;cases v<;>simp only [V.aN] at ae<;>simp only at cp
 all_goals
  subst ae;obtain ⟨_,_,us,aa,_⟩:=cp;exact ⟨us,aa⟩
theorem LL {h:ah} {b bL:aQ} {es:List cI} {c:Nat} {us:List V} (aa:h.get b=.mp es c) (ad:Rd h bL us):b≠bL:=fun q=>by subst q;rcases ad with ad | ⟨_,_,ad⟩<;>rw [aa] at ad<;>cases ad
abbrev z' (t:aM):V:=.int .i64 ((min t.size 4097:Nat):Int)
abbrev Jb (t:aM):V:=.int .i64 ((t.deep:Nat):Int)
structure k4 (h:ah) (g:bp) (π:Nat->Nat) (bR:Nat->V) (w:Nat->Nat) (bN:Nat->Int) (iA:Nat) (fM dG ej:aQ) (md:List (Nat × aM)) (ix:List (Nat × Bool)):Prop where
 gl:e4 h g π bR w bN
 hw:Has h iA [.map fM,.map dG,.map ej]
 ms:h6 z' π h fM md
 si:h6 Jb π h dG md
 op:h6 V.bool π h ej ix
 d1:fM≠dG
 d2:fM≠ej
 d3:dG≠ej
 zC:∀i,i<g.N->iA≠π i
 l7:∀i,i<g.N->¬(bR i).aN (aj iA)
def rY (g:bp) (π:Nat->Nat) (fM dG ej:aQ) (b:aQ):Prop:=jG g π b\/b=fM\/b=dG\/b=ej
section
variable {h ab:ah} {g:bp} {π:Nat->Nat} {bR:Nat->V} {w:Nat->Nat} {bN:Nat->Int} {iA:Nat} {fM dG ej:aQ} {md:List (Nat × aM)} {ix:List (Nat × Bool)}
theorem h6.apart {α:Type} {e:α->V} {b:aQ} {bM:List (Nat × α)} (M:h6 e π h b bM) (P:e4 h g π bR w bN):(∀i,i<g.N->b≠aj (π i))/\∀i,i<g.N->¬(bR i).aN b:=by
 obtain ⟨es,c,q,_⟩:=M.ex;refine ⟨fun i ao=>?_,fun i ao z=>?_⟩
 . obtain ⟨aL,e⟩:=hK ao;exact LL q (.inr ⟨_,_,(P.has i aL e).g⟩)
 . obtain ⟨aL,e⟩:=hK ao;obtain ⟨us,r⟩:=am8 (P.c0 i aL e).1 z;exact LL q r rfl
theorem h6.LR {α:Type} {e:α->V} {b:aQ} {bM:List (Nat × α)} (M:h6 e π h b bM) {n:Nat} {l:List V} (P:Has h n l):b≠aj n:=by obtain ⟨es,c,q,_⟩:=M.ex;exact LL q (.inr ⟨_,_,P.g⟩)
theorem k4.find (H:k4 h g π bR w bN iA fM dG ej md ix) {an:Nat->Nat} (P:e4 ab g π bR an bN) (m:Mod (jG g π) h ab):k4 ab g π bR an bN iA fM dG ej md ix:=by have cT:=(H.ms.apart H.gl).1;have gP:=(H.si.apart H.gl).1;have n3:=(H.op.apart H.gl).1;exact ⟨P,H.hw.mod m fun ⟨i,ao,q⟩=>H.zC i ao (fj q),H.ms.mod m fun ⟨i,ao,q⟩=>cT i ao q,H.si.mod m fun ⟨i,ao,q⟩=>gP i ao q,H.op.mod m fun ⟨i,ao,q⟩=>n3 i ao q,H.d1,H.d2,H.d3,H.zC,H.l7⟩
theorem k4.U' (H:k4 h g π bR w bN iA fM dG ej md ix) {l8:List (Nat × Bool)} (P:h6 V.bool π ab ej l8) (m:Mod (fun p=>p=ej) h ab):k4 ab g π bR w bN iA fM dG ej md l8:=by obtain ⟨cT,gP⟩:=H.op.apart H.gl;exact ⟨H.gl.mod m (fun i ao q=>cT i ao q.symm) fun i b ao ae q=>gP i ao (by rw [<-show b=ej from q];exact ae),H.hw.mod m fun q=>H.op.LR H.hw q.symm,H.ms.mod m H.d2,H.si.mod m H.d3,P,H.d1,H.d2,H.d3,H.zC,H.l7⟩
end
structure r0 (g:bp) (R:Nat->Nat->Prop) (ρ:Nat->Nat) (md:List (Nat × aM)) (opens:List Nat):Prop where
 all:∀p ∈ md,p.1<g.N/\ρ p.1=p.1/\dJ g R p.1 p.2/\p.2.deep<=md.length
 nodup:(md.map Prod.fst).Nodup
 free:∀p ∈ md,p.1 ∉ opens
theorem r0.keys {g:bp} {R:Nat->Nat->Prop} {ρ:Nat->Nat} {md:List (Nat × aM)} {opens:List Nat} (H:r0 g R ρ md opens):∀j ∈ md.map Prod.fst,j<g.N:=fun j aU=>by obtain ⟨p,af,rfl⟩:=List.mem_map.1 aU;exact (H.all p af).1
theorem r0.len {g:bp} {R:Nat->Nat->Prop} {ρ:Nat->Nat} {md:List (Nat × aM)} {opens:List Nat} (H:r0 g R ρ md opens):md.length<=g.N:=by have:=zy g.N _ H.nodup H.keys;rwa [List.length_map] at this
theorem Lw {α:Type} {i:Nat} {a:α}:∀{bM:List (Nat × α)},(bM.map Prod.fst).Nodup->(i,a) ∈ bM->hL i bM=some a
 | [],_,h=>by cases h
 | (n,b)::bM,aV,h=>by
   simp only [List.map_cons,List.nodup_cons] at aV;simp only [hL];rcases List.mem_cons.1 h with h | h
   . cases h;rw [if_pos rfl]
   . rw [if_neg (fun e=>aV.1 (by rw [<-e];exact List.mem_map_of_mem h))];exact Lw aV.2 h
theorem anH {g:bp} {E:List (Nat × Nat)} {ρ:Nat->Nat} {bN:Nat->Int} {x:Nat} {aL:dw} (W:g.dX) (S:eP g ρ) (J:ev g E ρ []) (L:mg g ρ bN) (ak:ρ x=x) (e:g.nodes[x]? =some aL) {l:List aM} (aA:l.length=aL.kids.length)
 (aH:∀(i y:Nat) (t:aM),aL.kids[i]? =some y->l[i]? =some t->dJ g (cy g E) y t):∃t,dJ g (cy g E) x t/\t.size=1+cE l/\t.deep=eY l+1:=by
 cases c:aL.ch with
 | true=>exact ⟨_,.ch (.refl x) e c aA aH,by rw [aM.size],by rw [aM.deep]⟩
 | false=>
   obtain ⟨iu,_⟩:=W.var x aL e c;rw [iu] at aA;have qg:l=[]:=List.length_eq_zero_iff.1 aA;subst qg;rcases L x (hn e) ak with ⟨_,ad⟩ | ⟨_,⟨y,kd,e1,fZ,y3,y4⟩,aJ⟩
   . have:=ad x aL e ak;rw [c] at this;cases this
   . refine ⟨_,.var (b:=y) (J.done.2 (by rw [fZ,ak])) e1 y3 (fun z iO bn ob=>?_) (fun z iO bn ob=>?_),by simp [aM.size,cE],by simp [aM.deep,eY]⟩
     . cases sh:iO.ch with
       | false=>rfl
       | true=>
         obtain ⟨dL,ar,aw⟩:=S.top z iO ob sh;rw [<-J.done.1 bn,ak,e] at ar;cases ar;rw [c] at aw;cases aw
     . have sh:iO.ch=false:=by
        cases sh:iO.ch with
        | false=>rfl
        | true=>
          obtain ⟨dL,ar,aw⟩:=S.top z iO ob sh;rw [<-J.done.1 bn,ak,e] at ar;cases ar;rw [c] at aw;cases aw
       rw [y4];exact aJ z iO ob (by rw [<-J.done.1 bn,ak]) sh
theorem Uv {g:bp} {π:Nat->Nat} {bR:Nat->V} {bN:Nat->Int} {ρ:Nat->Nat} {E:List (Nat × Nat)} {iA:Nat} {fM dG ej:aQ} (W:g.dX) (wm:g.N<=1000000000) (S:eP g ρ) (J:ev g E ρ []) (L:mg g ρ bN):
 ∀(fuel:Nat) (opens:List Nat) (x:Nat) (w:Nat->Nat) (md:List (Nat × aM)) (ix:List (Nat × Bool)) (h:ah),g.N+1<=fuel+opens.length->x<g.N->k4 h g π bR w bN iA fM dG ej md ix->Way w ρ->opens.Nodup->(∀r ∈ opens,r<g.N/\ρ r=r/\Reach g (cy g E) r x)->
 r0 g (cy g E) ρ md opens->(∀i,(hL i ix).getD false=decide (i ∈ opens))->(∀j ∈ ix.map Prod.fst,j<g.N)->
 de Tryz.prog 52 [.ptr (aj iA) 0,.ptr (aj (π x)) 0] h fun v ab=>Mod (rY g π fM dG ej) h ab/\((v=.bool false/\∃z,z<g.N/\¬∃t,dJ g (cy g E) z t)\/
  (v=.bool true/\∃an kR l8 t,k4 ab g π bR an bN iA fM dG ej kR l8/\Way an ρ/\r0 g (cy g E) ρ kR opens/\(∀p ∈ md,p ∈ kR)/\(∀i,(hL i l8).getD false=decide (i ∈ opens))/\(∀j ∈ l8.map Prod.fst,j<g.N)/\(ρ x,t) ∈ kR))
 | 0,opens,x,w,md,ix,h,az,ak,H,eW,aV,hD,uf,ks,ns=>by have:=zy g.N opens aV fun r aE=>(hD r aE).1;omega
 | fuel+1,opens,x,w,md,ix,h,az,ak,H,eW,aV,hD,uf,ks,ns=>by
   have gA:=J.part;have b4:=S.lt x ak;have kX:=S.idem x;have hx:cy g E x (ρ x):=J.done.2 (by rw [kX]);refine aaZ.z rfl (dM ?_);unfold Qf;simp +contextual only [↓al,aG,simprocAttr];refine cK (Ad H.gl S eW ak) ?_;rintro bA aa ⟨rfl,b3,hk,vs,jF⟩;have H1:=H.find hk jF;generalize JT:ρ x=X at *;obtain ⟨b_,ex⟩:=hK b4;have wW:=H1.ms.look (hk.key b4 uf.keys) (.int .i64 0) true;have ajV:=H1.op.look (hk.key b4 ns) (.bool false) false;have HX:Mod (rY g π fM dG ej) h aa:=jF.mono fun b _ q=>.inl q;have wJ:=H1.hw.g;cases aC:hL X md with
   | some t=>
     rw [aC] at wW;simp only [cond_true] at wW;simp +contextual only [wJ,wW,jz,↓al,aG,simprocAttr];exact ⟨HX,.inr ⟨b3,md,ix,t,H1,vs,uf,fun p af=>af,ks,ns,Uc aC⟩⟩
   | none=>
   rw [aC] at wW;simp only [cond_true] at wW;have Ga:jq ⟨hs aa⟩ (.bool false) false aa (.map ej) (.ptr (aj (π X)) 0)=some (.bool (decide (X ∈ opens))):=by rw [ajV,<-ks X];cases hL X ix<;>rfl
   by_cases pY:X ∈ opens
   . rw [decide_eq_true pY] at Ga;simp +contextual only [wJ,wW,Ga,jz,↓al,aG,simprocAttr];refine ⟨HX,.inl ⟨X,b4,Reach.ring gA (((hD X pY).2.2).l_ gA hx)⟩⟩
   . rw [decide_eq_false pY] at Ga;obtain ⟨ad,u1,Ab,Ac,an3⟩:=H1.op.eU (hk.key b4 ns) true;have cp:=H1.U' Ab Ac;have age:=cp.hw.g;have gS:=cp.gl.has X b_ ex;have aoF:=Way.root S vs kX;have X':=cp.gl.root ex aoF;obtain ⟨kE,V',Gc⟩:=cp.gl.c0 X b_ ex;have mE:=kE.len;have kS:=kE.one;have Mw:ρ X=X:=kX;have M2:Mod (rY g π fM dG ej) h ad:=HX.trans (Ac.mono fun b _ q=>.inr (.inr (.inr q)));simp +contextual only [wJ,age,wW,Ga,u1,X',mE,kS.1,kS.2.1,jz,↓al,aG,simprocAttr];have afs:∀r ∈ X::opens,r<g.N/\ρ r=r/\Reach g (cy g E) r X\/r=X:=fun r aE=>by
      rcases List.mem_cons.1 aE with rfl | aE
      . exact .inr rfl
      . obtain ⟨b6,z2,z3⟩:=hD r aE;exact .inl ⟨b6,z2,z3.l_ gA hx⟩
     refine fa (fun r k=>r 0=.ptr (aj iA) 0/\r 1=.ptr (aj (π X)) 0/\r 37=bR X/\r 38=.int .i64 b_.kids.length/\∃(i:Nat) (an:Nat->Nat) (kR:List (Nat × aM)) (l8:List (Nat × Bool)) (l:List aM),r 39=.int .i64 i/\r 7=.int .i64 ((min (1+cE l) 4097:Nat):Int)/\r 8=.int .i64 ((eY l:Nat):Int)/\i<=b_.kids.length/\l.length=i/\
      (∀(j y:Nat) (t:aM),b_.kids[j]? =some y->l[j]? =some t->dJ g (cy g E) y t)/\eY l<=kR.length/\k4 k g π bR an bN iA fM dG ej kR l8/\Way an ρ/\r0 g (cy g E) ρ kR (X::opens)/\(∀p ∈ md,p ∈ kR)/\(∀i,(hL i l8).getD false=decide (i ∈ X::opens))/\(∀j ∈ l8.map Prod.fst,j<g.N)/\Mod (rY g π fM dG ej) h k) (fun r _=>b_.kids.length - (r 39).toN) ?_ ?_
     . refine ⟨by simp only [↓al,bs,simprocAttr],by simp only [↓al,bs,simprocAttr],by simp only [↓al,bs,simprocAttr],by simp only [↓al,bs,simprocAttr],0,b3,md,nG X true ix,[],by simp only [↓al,bs,simprocAttr]<;>rfl,by simp only [↓al,bs,simprocAttr]<;>rfl,by simp only [↓al,bs,simprocAttr]<;>rfl,Nat.zero_le _,rfl,fun j y t _ q=>(by simp at q),Nat.zero_le _,cp,vs,⟨uf.all,uf.nodup,fun p af q=>?_⟩,fun p af=>af,fun i=>?_,fun j aU=>?_,M2⟩
       . rcases List.mem_cons.1 q with q | q
         . exact Cs.1 aC (by rw [<-q];exact List.mem_map_of_mem af)
         . exact uf.free p af q
       . rw [Lx];by_cases q:i=X
         . subst q;simp
         . rw [if_neg q,ks];simp [q]
       . rcases Lj X true ix j aU with q | q
         . rw [q];exact b4
         . exact ns j q
     rintro r k ⟨bt,br,uQ,oJ,i,an,kR,l8,l,s7,eJ,dW,ao,fz,sI,apJ,hj,qM,nq,Tb,SU,KG,f'⟩;unfold Qg;have apS:=nq.len;by_cases aO:i<b_.kids.length
     . have vX:((i:Int) < (b_.kids.length:Int))=True:=eq_true (by omega);obtain ⟨tv,_,_⟩:=hj.gl.c0 X b_ ex;obtain ⟨tH,fs,ox,xM⟩:=tv.cH (k:=.i64) aO;have mD:=xM.d' (i:=i) (by rw [List.length_map];exact aO);rw [List.getElem_map,show fs+i=fs+i * 1 by omega] at mD;have aZ:b_.kids[i]? =some b_.kids[i]:=List.getElem?_eq_getElem aO;have wL:=W.qf ex (List.getElem_mem aO);have aen:b_.ch=true:=by
        cases c:b_.ch with
        | true=>rfl
        | false=>have:=(W.var X b_ ex c).1;rw [this] at aO;simp at aO
       have VT:Reach g (cy g E) X b_.kids[i]:=.c0 (.refl X) ex aen aZ (.refl _);simp +contextual only [bt,br,uQ,oJ,s7,eJ,dW,vX,ox,mD,jz,↓al,aG,simprocAttr];refine cK (Uv W wm S J L fuel (X::opens) b_.kids[i] an kR l8 k (by simp only [List.length_cons];omega) wL hj qM (List.nodup_cons.2 ⟨pY,aV⟩) (fun q oo=>?_) nq SU KG) ?_
       . rcases afs q oo with ⟨b6,z2,z3⟩ | rfl
         . exact ⟨b6,z2,z3.trans VT⟩
         . exact ⟨b4,Mw,VT⟩
       rintro v bx ⟨vl,⟨rfl,Bq⟩ | ⟨rfl,b2,Cv,L0,t,rU,k6,yT,FG,sA,sB,fy⟩⟩
       . simp +contextual only [jz,↓al,aG,simprocAttr];exact ⟨f'.trans vl,.inl Bq⟩
       . simp +contextual only [bt,br,uQ,oJ,s7,eJ,dW,jz,↓al,aG,simprocAttr];refine cK (Ad rU.gl S k6 wL) ?_;rintro v cU ⟨rfl,jy,pN,H7,k3⟩;have xP:=rU.find pN k3;have S2:=S.lt _ wL;have hF:=Lw yT.nodup fy;have ls:=xP.ms.look (pN.key S2 yT.keys) (.int .i64 0) false;have ld:=xP.si.look (pN.key S2 yT.keys) (.int .i64 0) false;rw [hF] at ls ld;simp only [cond_false] at ls ld;have agf:=xP.hw.g;obtain ⟨b6,z2,z3,z4⟩:=yT.all _ fy;have anI:dJ g (cy g E) b_.kids[i] t:=z3.l_ gA (J.done.2 (S.idem _));have apR:=yT.len;have apZ:kR.length<=Cv.length:=by
          have:(kR.map Prod.fst).length<=(Cv.map Prod.fst).length:=by
           have key:∀(a b:List Nat),a.Nodup->(∀x ∈ a,x ∈ b)->a.length<=b.length:=by
            intro a
            induction a with
            | nil=>intro b _ _;exact Nat.zero_le _
            | cons x a bq=>
              intro b aV aS;have Tk:=aS x List.mem_cons_self;have BI:=List.nodup_cons.1 aV;have:=bq (b.erase x) BI.2 fun y aZ=>by refine (List.mem_erase_of_ne (fun z=>BI.1 (by rw [<-z];exact aZ))).2 (aS y (List.mem_cons_of_mem _ aZ))
              rw [List.length_erase_of_mem Tk] at this;have:0<b.length:=List.length_pos_of_mem Tk;simp only [List.length_cons];omega
           refine key _ _ nq.nodup fun j aU=>?_;obtain ⟨p,af,rfl⟩:=List.mem_map.1 aU;exact List.mem_map_of_mem (FG p af)
          simpa using this
         have De:IntKind.i64.wrap (((min (1+cE l) 4097:Nat):Int) + ((min t.size 4097:Nat):Int))=((min (1+cE l) 4097:Nat):Int) + ((min t.size 4097:Nat):Int):=wrap_i64 (by omega) (by omega);have Nx:(if (4097:Int) < ((min (1+cE l) 4097:Nat):Int) + ((min t.size 4097:Nat):Int) then (4097:Int) else ((min (1+cE l) 4097:Nat):Int) + ((min t.size 4097:Nat):Int))=((min (1+cE (l++[t])) 4097:Nat):Int):=by
          rw [s4,cE,cE]
          split<;>omega
         have Ny:(if ((eY l:Nat):Int) < ((t.deep:Nat):Int) then ((t.deep:Nat):Int) else ((eY l:Nat):Int))=((eY (l++[t]):Nat):Int):=by rw [Gh,GI,eY,eY,Nat.max_zero]
         have dv:IntKind.i64.wrap ((i:Int)+1)=((i+1:Nat):Int):=by unfold top at Gc;rw [wrap_i64 (by omega) (by omega)];rfl
         have Yr:Mod (rY g π fM dG ej) h cU:=(f'.trans vl).trans (k3.mono fun b _ q=>.inl q);simp +contextual only [bt,br,uQ,oJ,s7,eJ,dW,agf,ls,ld,De,Nx,Ny,dv,jz,↓al,aG,simprocAttr];refine ⟨⟨i+1,jy,Cv,L0,l++[t],rfl,rfl,rfl,aO,by rw [List.length_append,fz];rfl,fun j y u aU hu=>?_,?_,xP,H7,yT,fun p af=>FG p (Tb p af),sA,sB,Yr⟩,by omega⟩
         . rcases oc hu with hu | ⟨Td,rfl⟩
           . exact sI j y u aU hu
           . rw [fz] at Td;subst Td;rw [aZ] at aU;cases aU;exact anI
         . rw [GI,eY,eY];simp only [] at z4;omega
     . have vX:((i:Int) < (b_.kids.length:Int))=False:=eq_false (by omega);have ae1:i=b_.kids.length:=by omega
       obtain ⟨t,YW,YX,OD⟩:=anH W S J L Mw ex (l:=l) (by rw [fz,ae1]) sI;obtain ⟨bx,v1,v2,v3,v4⟩:=hj.op.eU (i:=X) (hj.gl.key b4 KG) false;have jd:=hj.U' v2 v3;have agi:=hj.hw.g;have agh:=jd.hw.g;have ni:hL X kR=none:=Cs.2 fun q=>by obtain ⟨p,af,e⟩:=List.mem_map.1 q;exact nq.free p af (by rw [e];exact List.mem_cons_self)
       obtain ⟨bP,cU,dr,bZ,a2,a3,a4,a5,hl,qN⟩:=jd.ms.entry (i:=X) (jd.gl.key b4 nq.keys) ni (.int .i64 0) t;have ao1:k4 dr g π bR an bN iA fM dG ej kR (nG X false l8)->True:=fun _=>trivial;have S7:=jd.ms.apart jd.gl;have tx:e4 dr g π bR an bN:=jd.gl.mod hl (fun j aU q=>S7.1 j aU q.symm) fun j b aU ae q=>S7.2 j aU (by rw [<-show b=fM from q];exact ae);have Th:Has dr iA [.map fM,.map dG,.map ej]:=jd.hw.mod hl fun q=>jd.ms.LR jd.hw q.symm;have Ja:=jd.si.mod hl fun q=>jd.d1 q.symm;have alg:=jd.op.mod hl fun q=>jd.d2 q.symm;obtain ⟨bX,mB,mC,cb,ca,e5,ik,iW,k7,tE⟩:=Ja.entry (i:=X) (tx.key b4 nq.keys) ni (.int .i64 0) t;have St:=Ja.apart tx;have YB:e4 mC g π bR an bN:=tx.mod k7 (fun j aU q=>St.1 j aU q.symm) fun j b aU ae q=>St.2 j aU (by rw [<-show b=dG from q];exact ae);have Ya:k4 mC g π bR an bN iA fM dG ej (kR++[(X,t)]) (nG X false l8):=⟨YB,Th.mod k7 fun q=>Ja.LR Th q.symm,a3.mod k7 jd.d1,e5,alg.mod k7 fun q=>jd.d3 q.symm,jd.d1,jd.d2,jd.d3,jd.zC,jd.l7⟩;have De:IntKind.i64.wrap (((eY l:Nat):Int)+1)=((t.deep:Nat):Int):=by rw [OD,wrap_i64 (by omega) (by omega)];rfl
       have cq:(V.int .i64 ((min (1+cE l) 4097:Nat):Int))=z' t:=by unfold z';rw [YX]
       have Yt:Mod (rY g π fM dG ej) h mC:=((f'.trans (v3.mono fun b _ q=>.inr (.inr (.inr q)))).trans (hl.mono fun b _ q=>.inr (.inl q))).trans (k7.mono fun b _ q=>.inr (.inr (.inl q)));have aqv:(X::kR.map Prod.fst).Nodup:=List.nodup_cons.2 ⟨Cs.1 ni,nq.nodup⟩;simp +contextual only [bt,br,uQ,oJ,s7,eJ,dW,vX,agi,v1,agh,cq,De,bZ,a2,cb,ca,jz,↓al,aG,simprocAttr];refine ⟨Yt,.inr ⟨an,kR++[(X,t)],nG X false l8,t,Ya,qM,⟨fun p af=>?_,?_,fun p af=>?_⟩,fun p af=>List.mem_append_left _ (Tb p af),fun j=>?_,fun j aU=>?_,by simp⟩⟩
       . rw [List.length_append,List.length_singleton];rcases List.mem_append.1 af with af | af
         . obtain ⟨b6,z2,z3,z4⟩:=nq.all p af;exact ⟨b6,z2,z3,by omega⟩
         . rw [List.mem_singleton] at af;subst af;exact ⟨b4,Mw,YW,by simp only [OD];omega⟩
       . rw [List.map_append,List.nodup_append];refine ⟨nq.nodup,by simp,fun a a1 b ae e=>?_⟩;simp only [List.map_cons,List.map_nil,List.mem_singleton] at ae;subst ae;subst e;exact Cs.1 ni a1
       . rcases List.mem_append.1 af with af | af
         . exact fun q=>nq.free p af (List.mem_cons_of_mem _ q)
         . rw [List.mem_singleton] at af;subst af;exact pY
       . rw [Lx];by_cases q:j=X
         . subst q;simp [pY]
         . rw [if_neg q,SU];simp [q]
       . rcases Lj X false l8 j aU with q | q
         . rw [q];exact b4
         . exact KG j q
section
variable [Lay]
def NN (F:aQ->Prop) (h:ah):List (Int × List V)->gW->Prop
 | [],[]=>True
 | (n,cs)::bM,(m,t)::s=>n=m/\cW F h t.enc cs/\NN F h bM s
 | _,_=>False
structure ao4 (F:aQ->Prop) (h:ah) (b:aQ) (s:gW):Prop where
 ex:∃bM,je V.agg h b bM/\NN F h bM s
variable {F:aQ->Prop} {h ab:ah} {b:aQ} {s:gW} {bM:List (Int × List V)}
end
theorem W9 {g:bp} {E:List (Nat × Nat)} {ρ:Nat->Nat} {bN:Nat->Int} {x:Nat} {aL:dw} (S:eP g ρ) (J:ev g E ρ []) (L:mg g ρ bN) (ak:ρ x=x) (e:g.nodes[x]? =some aL) (c:aL.ch=false):dJ g (cy g E) x (.mk 1 (bN x) [] []):=by
 have qn:∀(z:Nat) (iO:dw),cy g E x z->g.nodes[z]? =some iO->iO.ch=false:=fun z iO bn ob=>by
  cases sh:iO.ch with
  | false=>rfl
  | true=>
    obtain ⟨dL,ar,aw⟩:=S.top z iO ob sh;rw [<-J.done.1 bn,ak,e] at ar;cases ar;rw [c] at aw;cases aw
 rcases L x (hn e) ak with ⟨_,ad⟩ | ⟨_,⟨y,kd,e1,fZ,y3,y4⟩,aJ⟩
 . have:=ad x aL e ak;rw [c] at this;cases this
 . rw [<-y4];exact .var (b:=y) (J.done.2 (by rw [fZ,ak])) e1 y3 qn (fun z iO bn ob=>by rw [y4];exact aJ z iO ob (by rw [<-J.done.1 bn,ak]) (qn z iO bn ob))
theorem Hd {g:bp} {R:Nat->Nat->Prop} (P:Part g R) {x X:Nat} {b_:dw} {t:aM} (h:dJ g R x t) (e:R x X) (hx:g.nodes[X]? =some b_) (c:b_.ch=true):∃l,t=.mk 2 0 b_.s l/\l.length=b_.kids.length/\∀(i y:Nat) (u:aM),b_.kids[i]? =some y->l[i]? =some u->dJ g R y u:=by
 cases h with
 | var h ae aD qn bC=>have:=qn _ _ e hx;rw [c] at this;cases this
 | ch h ae aD aA aH=>
   rename_i b aL l;obtain ⟨ar,aw,aK⟩:=P.closed _ _ _ _ (P.trans (P.symm h) e) ae hx aD c;refine ⟨l,by rw [ar],by omega,fun i y u aZ hu=>?_⟩;have ao:=(List.getElem?_eq_some_iff.1 aZ).1;have bz:=List.getElem?_eq_getElem (l:=aL.kids) (i:=i) (by omega);exact (aH i _ u bz hu).l_ P (aK i _ _ bz aZ)
def q1 (g:bp):Prop:=∀(i:Nat) (aL:dw),g.nodes[i]? =some aL->aL.s.length<=top
mutual
def aM.nJ:aM->Prop
 | .mk k n s l=>s.length<=top/\xr l
def xr:List aM->Prop
 | []=>True
 | t::l=>t.nJ/\xr l
end
theorem Wz:∀{l:List aM},(∀t ∈ l,t.nJ)->xr l
 | [],_=>by rw [xr];trivial
 | t::l,h=>by rw [xr];exact ⟨h t List.mem_cons_self,Wz fun u hu=>h u (List.mem_cons_of_mem _ hu)⟩
theorem Bc [Lay] {F:aQ->Prop} {h:ah}:∀(N:Nat) (t:aM) (ai:List V),t.size<=N->cW F h t.enc ai->t.nJ
 | 0,t,ai,aS,_=>by have:=qx t;omega
 | N+1,.mk k n s l,ai,aS,H=>by obtain ⟨du,rfl,L,ot⟩:=aM.open H;rw [aM.nJ];refine ⟨ot,Wz fun t av=>?_⟩;obtain ⟨i,ao,rfl⟩:=List.getElem_of_mem av;obtain ⟨b,off,wl,cH,X,mZ,ld⟩:=aM.c0 L (k:=.i64) ao;have:=px (t:=.mk k n s l) (List.getElem_mem (l:=l) ao);exact Bc N _ _ (by omega) X
mutual
theorem AR:∀(t:aM) (g:bp),t.nJ->q1 g->q1 (t.add g).1
 | .mk k n s l,g,h,G=>by
   rw [aM.nJ] at h;rw [aM.add];by_cases c:k=1
   . rw [if_pos c];unfold bp.var;cases e_ n g.vars with
     | some i=>exact G
     | none=>
       intro i aL e;rcases oc e with e | ⟨_,rfl⟩
       . exact G i aL e
       . exact Nat.zero_le _
   . rw [if_neg c];intro i aL e;rcases oc e with e | ⟨_,rfl⟩
     . exact OT l g h.2 G i aL e
     . exact h.1
theorem OT:∀(l:List aM) (g:bp),xr l->q1 g->q1 (cf l g).1
 | [],g,_,G=>G
 | t::l,g,h,G=>by rw [xr] at h;rw [cf];exact OT l _ h.2 (AR t g h.1 G)
end
theorem W' {g:bp} {π:Nat->Nat} {bR:Nat->V} {bN:Nat->Int} {ρ:Nat->Nat} {E:List (Nat × Nat)} (W:g.dX) (S:eP g ρ) (J:ev g E ρ []) (L:mg g ρ bN) (kn:q1 g):∀(N:Nat) (t:aM),t.size<=N->N<=1000000000->∀(x:Nat) (w:Nat->Nat) (h:ah),x<g.N->dJ g (cy g E) x t->e4 h g π bR w bN->Way w ρ->
 de Tryz.prog 54 [.ptr (aj (π x)) 0] h fun v ab=>∃u an,v=.agg (fT t u)/\fm ab (ew h.next ab.next) t.l u/\t.s.length<=top/\e4 ab g π bR an bN/\Way an ρ/\Mod (jG g π) h ab
 | 0,t,aS,_,_,_,_,_,_,_,_=>by have:=qx t;omega
 | N+1,t,aS,Bo,x,w,h,ak,T,P,eW=>by
   have gA:=J.part;have b4:=S.lt x ak;have kX:=S.idem x;have hx:cy g E x (ρ x):=J.done.2 (by rw [kX]);have bJ:N<=1000000000:=by omega
   refine aa1.z rfl (dM ?_);unfold Qk;obtain ⟨aa,ar,aP,oT⟩:=h7 h z4;have cT:=aP.next
   have qm:=oT.lt;simp +contextual only [ar,↓al,aG,simprocAttr];refine cK (Ad (P.ext aP) S eW ak) ?_;rintro v ad ⟨rfl,b2,fE,tB,M2⟩;have JQ:∀n,h.next<=n->¬jG g π (aj n):=fun n aV ⟨i,ao,q⟩=>by have:=P.lt ao;have:=fj q;omega
   have nZ:=oT.mod M2 (JQ _ (Nat.le_refl _));have gP:=M2.next
   obtain ⟨b_,ex⟩:=hK b4;have gS:=fE.root ex (Way.root S tB kX);have UQ:(h.next=π (ρ x))=False:=eq_false (by have:=P.lt b4;omega);have UR:(π (ρ x)=h.next)=False:=eq_false (by have:=P.lt b4;omega);have Oj:Mod (jG g π) h ad:=(aP.mod _).trans M2;cases c:b_.ch with
   | false=>
     rw [c] at gS;have No:=W9 S J L kX ex c;have hz:=T.uniq gA hx No;subst hz;simp +contextual only [nZ.g,gS,UQ,UR,if_false,↓al,aG,simprocAttr];refine ⟨.bB,b2,rfl,fm.nil _ _,by simp [aM.s],?_,tB,Oj.fresh (Nat.le_refl _) _⟩;exact fE.mod ((Mod.refl (fun b=>b=aj h.next) ad).set (fun _=>rfl) _) (fun i ao q=>by have:=P.lt ao;have:=fj q;omega) fun i b ao ae q=>by have:=P.rk ao ae;rw [show b=aj h.next from q] at this;unfold Old at this;rw [b9] at this;omega
   | true=>
     rw [c] at gS;obtain ⟨l,hz,aA,aH⟩:=Hd gA T hx ex c;subst hz;obtain ⟨kE,V',Gc⟩:=fE.c0 _ b_ ex;have mE:=kE.len;have kS:=kE.one;have cq:(aM.mk 2 0 b_.s l).size=1+cE l:=by rw [aM.size]
     have jo:=qw l;obtain ⟨aJ,aK,c4,pH⟩:=n' ad z4 (fT (.mk 2 0 b_.s l) .bB);have n3:=c4.next
     have Cm:=pH.lt;have AL:=nZ.ext c4;have ig:=fE.ext c4;have N6:=ig.root ex (Way.root S tB kX);rw [c] at N6;have al3:(ad.new (.bE z4 0 false)).set (aj ad.next) (.bE [.int .i64 2,.int .i64 0,.str b_.s,.bB] 0 false)=aJ:=aK;have Yq:Mod (jG g π) h aJ:=Oj.trans (c4.mod _);simp +contextual only [nZ.g,gS,N6,al3,UQ,UR,if_false,mE,kS.1,kS.2.1,↓al,aG,simprocAttr];refine fa (fun r k=>r 2=.ptr (aj h.next) 0/\r 3=.ptr (aj ad.next) 0/\r 26=bR (ρ x)/\r 27=.int .i64 b_.kids.length/\∃(i:Nat) (u:V) (an:Nat->Nat),r 28=.int .i64 i/\i<=b_.kids.length/\Has k ad.next (fT (.mk 2 0 b_.s l) u)/\Has k h.next z4/\fm k (ew aJ.next k.next) (l.take i) u/\e4 k g π bR an bN/\Way an ρ/\Mod (jG g π) h k/\aJ.next<=k.next) (fun r k=>b_.kids.length - (r 28).toN) ?_ ?_
     . exact ⟨by simp only [↓al,bs,simprocAttr],by simp only [↓al,bs,simprocAttr],by simp only [↓al,bs,simprocAttr],by simp only [↓al,bs,simprocAttr],0,.bB,b2,by simp only [↓al,bs,simprocAttr]<;>rfl,Nat.zero_le _,pH,AL,fm.nil _ _,ig,tB,Yq,Nat.le_refl _⟩
     rintro r k ⟨cF,cr,oI,mJ,i,u,an,s6,ao,A,R,O,gV,qM,f',apN⟩;unfold Ql;have oN:=O.one;by_cases aO:i<b_.kids.length
     . have g0:((i:Int) < (b_.kids.length:Int))=True:=eq_true (by omega);obtain ⟨tv,_,_⟩:=gV.c0 _ b_ ex;obtain ⟨tH,fs,ox,xM⟩:=tv.cH (k:=.i64) aO;have mD:=xM.d' (i:=i) (by rw [List.length_map];exact aO);rw [List.getElem_map,show fs+i=fs+i * 1 by omega] at mD;have wL:=W.qf ex (List.getElem_mem aO);have ku:=aH i _ _ (List.getElem?_eq_getElem aO) (List.getElem?_eq_getElem (l:=l) (by omega));have Fq:=px (t:=.mk 2 0 b_.s l) (List.getElem_mem (l:=l) (show i<l.length by omega));have dv:IntKind.i64.wrap ((i:Int)+1)=((i+1:Nat):Int):=by unfold top at Gc;rw [wrap_i64 (by omega) (by omega)];rfl
       simp +contextual only [cF,cr,oI,mJ,s6,g0,ox,mD,A.g,R.g,oN.1,oN.2.1,↓al,aG,simprocAttr];refine cK (W' W S J L kn N l[i] (by omega) bJ _ an k wL ku gV qM) ?_;rintro v bx ⟨z,iS,rfl,Z,uk,pN,H7,k3⟩;have n4:=k3.next
       have aje:=A.lt;have gp:=A.mod k3 (JQ _ (by omega));have YN:=R.mod k3 (JQ _ (Nat.le_refl _));have nW:fm bx (ew aJ.next k.next) (l.take i) u:=O.mod k3 fun b q ⟨j,aU,e⟩=>by unfold ew at q;have:=P.lt aU;rw [e,b9] at q;omega
       have ky:=Z.one;obtain ⟨gR,cU,bW,bV,b8,gH⟩:=nW.add (t:=l[i]) (T:=ew k.next bx.next) (u:=z) Z (fun b q z=>by unfold ew at q z;omega) (fun b q=>by unfold ew at q;unfold Old;omega) (fun b q=>by unfold ew at q;unfold Old;omega) (by rw [List.length_take];unfold top;omega) uk;have pc:∀b,u.aN b->aJ.next<=cB b:=fun b q=>by have:=O.bj _ q;unfold ew at this;omega
       have wB:∀n,n<aJ.next->¬u.aN (aj n):=fun n aV q=>by have:=pc _ q;rw [b9] at this;omega
       have NK:=gp.mod b8 (wB _ (by omega));have YO:=YN.mod b8 (wB _ (by omega));have uH:=bV.one;have nX:=pN.mod b8 (fun j aU q=>wB _ (by have:=P.lt aU;omega) q) fun j b aU ae q=>by have:=pc b q;have:=P.rk aU ae;unfold Old at this;omega
       have f1:(bx.next=ad.next)=False:=eq_false (by omega);simp +contextual only [f1,if_false,cF,cr,oI,mJ,s6,A.g,gp.g,NK.g,ky.1,ky.2.1,oN.1,oN.2.1,uH.1,uH.2.1,bW,dv,↓al,aG,simprocAttr];refine ⟨⟨i+1,gR,iS,rfl,aO,NK.put _,YO.set (by omega) _,?_,?_,H7,?_,by show aJ.next<=cU.next;omega⟩,by omega⟩
       . rw [take_one (show i<l.length by omega)];refine (bV.k1 fun b q=>?_).mod ((Mod.refl (fun x=>x=aj ad.next) cU).set (fun _=>rfl) _) fun b q z=>?_
         . unfold ew at q ⊢;have:=b8.next;omega
         . rw [show b=aj ad.next from z] at q;unfold ew at q;rw [b9] at q;omega
       . exact nX.mod ((Mod.refl (fun x=>x=aj ad.next) cU).set (fun _=>rfl) _) (fun j aU q=>by have:=P.lt aU;have:=fj q;omega) fun j b aU ae q=>by have:=P.rk aU ae;rw [show b=aj ad.next from q] at this;unfold Old at this;rw [b9] at this;omega
       . exact ((f'.trans k3).z_ b8 fun b q=>by have:=pc b q;omega).fresh (by omega) _
     . have g0:((i:Int) < (b_.kids.length:Int))=False:=eq_false (by omega);rw [List.take_of_length_le (by omega)] at O;have f1:(h.next=ad.next)=False:=eq_false (by omega);have f2:(ad.next=h.next)=False:=eq_false (by omega);simp +contextual only [cF,cr,oI,mJ,s6,g0,R.g,A.g,oN.1,oN.2.1,f1,f2,↓al,aG,simprocAttr];have Uy:Mod (fun x=>x=aj h.next) k (k.set (aj h.next) (.bE [.int .i64 2,.int .i64 0,.str b_.s,u] 0 false)):=(Mod.refl (fun x=>x=aj h.next) k).set (fun _=>rfl) _;refine ⟨u,an,rfl,(O.mod Uy fun b q z=>?_).k1 fun b q=>?_,kn _ b_ ex,gV.mod Uy (fun j aU q=>by have:=P.lt aU;have:=fj q;omega) (fun j b aU ae q=>by
        have:=P.rk aU ae;rw [show b=aj h.next from q] at this;unfold Old at this;rw [b9] at this;omega),qM,f'.fresh (Nat.le_refl _) _⟩
       . rw [show b=aj h.next from z] at q;unfold ew at q;rw [b9] at q;omega
       . unfold ew at q ⊢;exact ⟨by omega,q.2⟩
abbrev Fr (amq:Nat):aQ->Prop:=fun b=>b≠aj amq
def lI (p:Int × aM):List D:=.i .i64 p.1::p.2.enc
section
variable [Lay] {F:aQ->Prop} {h:ah}
theorem dc.ZK {size:Nat} {es:List (List D)} {v:V} (H:dc F h size es v) {k:IntKind} {i:Nat} (ao:i<es.length):
 ∃b off u,ka size v (.int k i)=some (.ptr b (off+i * size))/\cW F h es[i] u/\u.length=size/\(∀ab,Ext h ab->∀j n,j+n<=size->pk n (ab.get b) (off+i * size+j)=some (.agg ((u.drop j).take n)))/\∀ab,Ext h ab->∀j,j<size->ia (ab.get b) (off+i * size+j)=u[j]? :=by
 obtain ⟨us,aa,ad,aA,aJ⟩:=H.ex;have yP:i<us.length:=by omega
 have hu:=List.getElem?_eq_getElem yP;obtain ⟨b,off,aP,bf⟩:=aa.cH (k:=k) ao;have az:=yw us i _ aA hu;have jP:=sq us aA;have hle:i * size+size<=us.length * size:=by have:=Nat.mul_le_mul_right size (show i+1<=us.length from yP);rw [Nat.succ_mul] at this;exact this
 have bn:us[i].length=size:=aA _ (List.getElem_mem yP);refine ⟨b,off,us[i],aP,aJ i _ _ (List.getElem?_eq_getElem ao) hu,bn,fun ab e j n Fm=>?_,fun ab e j aU=>?_⟩
 . have:=(bf.ext e).iM (i:=i * size+j) (n:=n) (by rw [jP];omega);rw [Nat.add_assoc,this,<-az];congr 2;rw [List.drop_take,List.take_take,List.drop_drop,Nat.min_eq_left (by omega)]
 . have:=(bf.ext e).d' (i:=i * size+j) (by rw [jP];omega);rw [Nat.add_assoc,this,<-az,List.getElem?_take_of_lt aU,List.getElem?_drop,List.getElem?_eq_getElem]
theorem gW.c0 {s:gW} {v:V} (H:dc F h 5 (s.map lI) v) {k:IntKind} {i:Nat} (ao:i<s.length):
 ∃b off du,ka 5 v (.int k i)=some (.ptr b (off+i * 5))/\cW F h s[i].2.enc (fT s[i].2 du)/\(∀ab,Ext h ab->ia (ab.get b) (off+i * 5)=some (.int .i64 s[i].1))/\
  (∀ab,Ext h ab->pk 4 (ab.get b) (off+i * 5+1)=some (.agg (fT s[i].2 du)))/\(∀ab,Ext h ab->pk 5 (ab.get b) (off+i * 5)=some (.agg (.int .i64 s[i].1::fT s[i].2 du))):=by
 obtain ⟨b,off,u,aP,bf,c4,gj,gM⟩:=dc.ZK H (k:=k) (i:=i) (by rw [List.length_map];exact ao);rw [List.getElem_map,lI] at bf;obtain ⟨us,rfl,sj⟩:=bf.int;obtain ⟨du,rfl,L,_⟩:=aM.open sj;exact ⟨b,off,du,aP,sj,fun ab e=>by simpa using gM ab e 0 (by omega),fun ab e=>by simpa using gj ab e 1 4 (by omega),fun ab e=>by simpa using gj ab e 0 5 (by omega)⟩
end
theorem anj (s:gW) (c2 M9:V) (h:ah) (S:dc Any h 5 (s.map lI) c2) (T:dc Any h 5 (s.map lI) M9):de Tryz.prog 15 [c2,M9] h fun x ab=>x=.bool true/\Ext h ab:=by
 have aA:=S.len;have hm:=T.len;have hle:=S.le;have os:=S.one;have Vd:=T.one;rw [List.length_map] at aA hm hle;refine aaH.z rfl (dM ?_);unfold PZ;simp +contextual only [os.1,os.2.1,Vd.1,Vd.2.1,aA,hm,decide_true,decide_false,↓al,aG,simprocAttr];refine fa (fun r g=>r 0=c2/\r 1=M9/\∃i:Nat,r 5=.int .i64 i/\i<=s.length/\Ext h g) (fun r g=>s.length - (r 5).toN) ?_ ?_
 . exact ⟨by simp only [↓al,bs,simprocAttr],by simp only [↓al,bs,simprocAttr],0,by simp only [↓al,bs,simprocAttr]<;>rfl,by omega,Ext.refl h⟩
 rintro r g ⟨bt,br,i,c1,ao,E⟩;unfold P5;by_cases aO:i<s.length
 . have g0:((i:Int) < (s.length:Int))=True:=eq_true (by omega);obtain ⟨b,off,du,cH,X,zo,T2,_⟩:=gW.c0 S (k:=.i64) aO;obtain ⟨ca,U0,aqP,qc,lD,TY,T3,_⟩:=gW.c0 T (k:=.i64) aO;have d0:=zo g E;have d4:=T2 g E;have Q4:=TY g E;have d42:=T3 g E;have dv:=kB aO (by unfold top at hle;omega);simp +contextual only [bt,br,c1,aA,g0,cH,qc,d0,d4,Q4,d42,decide_true,decide_false,↓al,aG,simprocAttr];refine cK (amO s[i].2 _ _ g (X.ext E) (lD.ext E)) ?_;rintro x g2 ⟨rfl,eB⟩;have cm:=E.trans eB;have ab8:=zo g2 cm;have ab':=T2 g2 cm;have ab9:=TY g2 cm;have ab_:=T3 g2 cm;simp +contextual only [bt,br,c1,cH,qc,d0,d4,Q4,d42,ab8,ab',ab9,ab_,dv,decide_true,decide_false,↓al,aG,simprocAttr];exact ⟨⟨i+1,rfl,aO,cm⟩,by omega⟩
 . have g0:((i:Int) < (s.length:Int))=False:=eq_false (by omega);simp +contextual only [bt,br,c1,aA,g0,↓al,aG,simprocAttr];exact E
section
variable [Lay] {B:Nat} {G F:aQ->Prop} {h ab:ah} {size:Nat} {es gw:List (List D)} {v w:V}
theorem RQ {F:aQ->Prop}:∀(us:List (List V)) (es:List (List D)),us.length=es.length->(∀(i:Nat) (e:List D) (u:List V),es[i]? =some e->us[i]? =some u->cW F h e u)->eI us.flatten=true
 | [],_,_,_=>rfl
 | u::us,[],h,_=>by simp at h
 | u::us,e::es,aA,H=>by
   have aa:=(H 0 e u rfl rfl).eI;have ad:=RQ us es (by simpa using aA) fun i e u a b=>H (i+1) e u (by simpa using a) (by simpa using b);have app:∀a b:List V,eI a=true->eI b=true->eI (a++b)=true:=by
    intro a
    induction a with
    | nil=>intro b _ q;exact q
    | cons x a bq=>
      intro b ar aw;simp only [eI,Bool.and_eq_true,List.cons_append] at ar ⊢;exact ⟨ar.1,bq b ar.2 aw⟩
   rw [List.flatten_cons];exact app _ _ aa ad
theorem lC.app (H:lC B G h size es v) (L:dc F h size gw w) (od:∀b,F b->G b/\¬v.aN b) (cq:1<=size) (da:B<=h.next) (hlen:(es.length+gw.length) * size<=top):
 ∃dd ab,ij size v w h=.val dd ab/\lC B G ab size (es++gw) dd/\Mod v.aN h ab/\∀b,dd.aN b->v.aN b\/h.next<=cB b:=by
 obtain ⟨us,a,b,c,d⟩:=H.ex;obtain ⟨Xp,a2,ca,bX,d2⟩:=L.ex;obtain ⟨dd,ab,ar,aw,aK,bY⟩:=D' cq a a2 da hlen (RQ Xp gw ca d2);have hE:∀b,(G b/\¬v.aN b)->Old h b->¬v.aN b/\(G b/\¬dd.aN b):=fun b q o=>⟨q.2,q.1,fun z=>by
  rcases bY b z with z | z
  . exact q.2 z
  . unfold Old at o;omega⟩
 refine ⟨dd,ab,ar,⟨us++Xp,?_,by simp [b,ca],?_,?_⟩,aK,bY⟩
 . rw [List.length_append,List.flatten_append];exact aw
 . intro u hu;rcases List.mem_append.1 hu with hu | hu
   . exact c u hu
   . exact bX u hu
 . intro i e u aP bf;by_cases ao:i<es.length
   . rw [List.getElem?_append_left ao] at aP;rw [List.getElem?_append_left (by omega)] at bf;exact (d i e u aP bf).mod aK hE
   . rw [List.getElem?_append_right (by omega)] at aP;rw [List.getElem?_append_right (by omega),b] at bf;exact (d2 _ e u aP bf).mod aK fun b q o=>hE b (od b q) o
end
theorem V1 (z:List V):∀n,(hG z n).length=n * z.length
 | 0=>by simp [hG]
 | n+1=>by rw [hG,List.length_append,V1 z n,Nat.succ_mul,Nat.add_comm]
theorem Zu {h:ah} {n:Nat} (aW:0<n) (aV:n<=100000) {z:List V} (bn:z.length=4):x9 4 z .bB (.int .i64 (n:Int)) h=.val (.dY (aj h.next) 0 n 0) (h.new (.bE (hG z n) 4 false)):=by
 have e:((n:Nat):Int)=Int.ofNat n:=rfl;have aP:Nat.ble n 100000=true:=by rw [Nat.ble_eq];exact aV
 have bf:Nat.beq n 0=false:=by rw [<-Bool.not_eq_true,Nat.beq_eq];omega
 unfold x9;rw [e];simp only [o4,aP,Bool.and_self,cond_true,D9,vw,bf,cond_false,CA (show (hG z n).length<=top by rw [V1,bn];unfold top;omega) (show 1<=4 by omega)]
theorem am5:hg 4 .bB none (some (.int .i64 0)) none=some .bB:=by simp [hg,xq,bound,V.ep,oz]
theorem am2 {b:aQ} {n:Nat} (aW:0<n):hg 4 (.dY b 0 n 0) none (some (.int .i64 0)) none=some (.dY b 0 0 0):=by
 have e:=qP (k:=.i64) (m:=0) (d:=n) (y:=n) (Nat.zero_le _);have bf:Nat.blt 0 n=true:=by rw [Nat.blt_eq];exact aW
 simp only [hg,qB,show ((0:Int))=((0:Nat):Int) from rfl,e,sa,bf,cond_true]
theorem adR (n:Nat) (aV:n<=100000) (h:ah):de Tryz.prog 75 [.bB,.int .i64 n] h fun x ab=>cJ h.next ab 4 x 0 []/\Ext h ab:=by
 refine aa8.z rfl (dM ?_);unfold Qs;have g0:((n:Int)<0)=False:=eq_false (by omega);have ay:IntKind.i64.wrap 0=0:=wrap_i64 (by omega) (by omega);have b3:IntKind.i64.wrap ((n:Int)-0)=(n:Int):=by rw [wrap_i64 (by omega) (by omega)];omega
 have tO:se .bB=some (.int .i64 0):=rfl;by_cases c:0<n
 . have g1:((0:Int) < (n:Int))=True:=eq_true (by omega);simp +contextual only [g0,g1,ay,b3,tO,am5,Zu c aV (z:=[.int .i64 0,.int .i64 0,.str [],.bB]) rfl,am2 c,jz,↓al,aG,simprocAttr];refine ⟨⟨rfl,rfl,by rw [b9];exact Nat.le_refl _,fW (by rw [gk];omega),rfl,rfl,_,_,nd _,Nat.zero_le _,by simp⟩,(Ext.refl h).new _⟩
 . have g1:((0:Int) < (n:Int))=False:=eq_false (by omega);simp +contextual only [g0,g1,ay,b3,tO,jz,↓al,aG,simprocAttr];exact ⟨⟨rfl,rfl⟩,Ext.refl h⟩
theorem abP (a b:List aM) (a1:a.length<=1000) (ae:b.length<=1000) (n:Nat) (hh gf:V) (h:ah) (B:Has h n [hh,gf]) (kj:dc Any h 4 (a.map aM.enc) hh) (hU:dc Any h 4 (b.map aM.enc) gf):
 de Tryz.prog 47 [.slice (aj n) 0 2 2] h fun x ab=>dc Any ab 4 ((a++b).map aM.enc) x/\Ext h ab:=by
 refine aaT.z rfl (dM ?_);unfold Qa;have dZ:=kj.len;have eS:=hU.len;rw [List.length_map] at dZ eS;have db:=kj.one;have dp:=hU.one;have ls:ny (.slice (aj n) 0 2 2)=some (.int .i64 2):=rfl;have tr:dc (Old h) h 4 (a.map aM.enc) hh:=kj.rE;have rT:dc (Old h) h 4 (b.map aM.enc) gf:=hU.rE;have Tp:ka 1 (.slice (aj n) 0 2 2) (.int .i64 0)=some (.ptr (aj n) 0):=by rw [show (0:Int)=((0:Nat):Int) from rfl,zh];simp
 have ow:ka 1 (.slice (aj n) 0 2 2) (.int .i64 1)=some (.ptr (aj n) 1):=by rw [show (1:Int)=((1:Nat):Int) from rfl,zh];simp
 simp +contextual only [ls,↓al,aG,simprocAttr];refine fa (fun r g=>g=h/\r 0=.slice (aj n) 0 2 2/\r 9=.slice (aj n) 0 2 2/\r 10=.int .i64 2/\((r 11=.int .i64 0/\r 3=.int .i64 0)\/(r 11=.int .i64 1/\r 3=.int .i64 a.length)\/(r 11=.int .i64 2/\r 3=.int .i64 ((a.length+b.length:Nat):Int)))) (fun r g=>2 - (r 11).toN) ?_ ?_
 . exact ⟨rfl,by simp only [↓al,bs,simprocAttr],by simp only [↓al,bs,simprocAttr],by simp only [↓al,bs,simprocAttr],.inl ⟨by simp only [↓al,bs,simprocAttr],by simp only [↓al,bs,simprocAttr]⟩⟩
 rintro r g ⟨rfl,bt,mK,gQ,⟨ja,cr⟩ | ⟨ja,cr⟩ | ⟨ja,cr⟩⟩
 . unfold Em;have ay:IntKind.i64.wrap (0 + (a.length:Int))=(a.length:Int):=by rw [wrap_i64 (by omega) (by omega)];omega
   have b3:IntKind.i64.wrap (0+1)=1:=by rw [wrap_i64 (by omega) (by omega)];rfl
   have xH:IntKind.i64.wrap 1=1:=wrap_i64 (by omega) (by omega);have g1:((a.length:Int)<0)=False:=eq_false (by omega);simp +contextual only [bt,mK,gQ,ja,cr,Tp,B.g,dZ,ay,b3,xH,g1,db.1,db.2.1,show ((0:Int)<2)=True from eq_true (by omega),↓al,aG,simprocAttr];exact .inr (.inl trivial)
 . unfold Em;have ay:IntKind.i64.wrap ((a.length:Int) + (b.length:Int))=((a.length+b.length:Nat):Int):=by rw [wrap_i64 (by omega) (by omega)];omega
   have b3:IntKind.i64.wrap (1+1)=2:=by rw [wrap_i64 (by omega) (by omega)];rfl
   have xH:IntKind.i64.wrap 2=2:=wrap_i64 (by omega) (by omega);have g1:(((a.length+b.length:Nat):Int)<0)=False:=eq_false (by omega);simp +contextual only [bt,mK,gQ,ja,cr,ow,B.g,eS,ay,b3,xH,g1,dp.1,dp.2.1,show ((1:Int)<2)=True from eq_true (by omega),↓al,aG,simprocAttr];exact .inr (.inr trivial)
 . unfold Em;simp +contextual only [bt,mK,gQ,ja,cr,show ((2:Int)<2)=False from eq_false (by omega),↓al,aG,simprocAttr];refine cK (adR (a.length+b.length) (by omega) g) ?_;rintro x aa ⟨O,aP⟩;have oP:lC g.next (Old g) aa 4 [] x:=⟨[],O,rfl,fun u hu=>(by cases hu),fun i e u q=>(by simp at q)⟩
   simp +contextual only [bt,ls,↓al,aG,simprocAttr];have ck:∀{v:V} {k:ah} {es:List (List D)},lC g.next (Old g) k 4 es v->∀b,Old g b->Old g b/\¬v.aN b:=fun D b q=>⟨q,fun z=>by have:=D.base z;unfold Old at q;omega⟩
   have cT:=aP.next
   refine fa (fun r k=>r 25=.slice (aj n) 0 2 2/\r 26=.int .i64 2/\∃v,r 6=v/\Ext g k/\((r 27=.int .i64 0/\lC g.next (Old g) k 4 [] v)\/(r 27=.int .i64 1/\lC g.next (Old g) k 4 (a.map aM.enc) v)\/(r 27=.int .i64 2/\lC g.next (Old g) k 4 (a.map aM.enc++b.map aM.enc) v))) (fun r g=>2 - (r 27).toN) ?_ ?_
   . exact ⟨by simp only [↓al,bs,simprocAttr],by simp only [↓al,bs,simprocAttr],x,by simp only [↓al,bs,simprocAttr],aP,.inl ⟨by simp only [↓al,bs,simprocAttr],oP⟩⟩
   rintro r k ⟨Mq,oI,v,ct,e,⟨mJ,oQ⟩ | ⟨mJ,oQ⟩ | ⟨mJ,oQ⟩⟩
   . unfold En;have xH:IntKind.i64.wrap 1=1:=wrap_i64 (by omega) (by omega);have Ht:=B.ext e;have dB:=oQ.one;have gP:=e.next
     obtain ⟨dd,bg,bW,bV,b8,gH⟩:=lC.app oQ (tr.ext e) (ck oQ) (by omega) (by omega) (by simp only [List.length_map,List.length_nil];unfold top;omega);have kf:=bV.one;simp +contextual only [Mq,oI,mJ,ct,Tp,Ht.g,bW,xH,dB.1,dB.2.1,kf.1,kf.2.1,db.1,db.2.1,show ((0:Int)<2)=True from eq_true (by omega),↓al,aG,simprocAttr];exact ⟨e.h1 b8 fun b q=>oQ.base q,.inr (.inl bV)⟩
   . unfold En;have xH:IntKind.i64.wrap 2=2:=wrap_i64 (by omega) (by omega);have Ht:=B.ext e;have dB:=oQ.one;have gP:=e.next
     obtain ⟨dd,bg,bW,bV,b8,gH⟩:=lC.app oQ (rT.ext e) (ck oQ) (by omega) (by omega) (by simp only [List.length_map];unfold top;omega);have kf:=bV.one;simp +contextual only [Mq,oI,mJ,ct,ow,Ht.g,bW,xH,dB.1,dB.2.1,kf.1,kf.2.1,dp.1,dp.2.1,show ((1:Int)<2)=True from eq_true (by omega),↓al,aG,simprocAttr];exact ⟨e.h1 b8 fun b q=>oQ.base q,.inr (.inr bV)⟩
   . unfold En;have dB:=oQ.one;simp +contextual only [Mq,oI,mJ,ct,dB.1,dB.2.1,show ((2:Int)<2)=False from eq_false (by omega),↓al,aG,simprocAttr];refine ⟨?_,e⟩;rw [List.map_append];exact oQ.fY (by simp only [List.length_append,List.length_map];unfold top;omega) (fun _ _=>trivial) fun _ _=>trivial
theorem aid (v:V) (bj:v.one=true/\v.cells=[v]/\v.gd=true) (h:ah):de Tryz.prog 51 [v] h fun x ab=>∃n,x=.func 78 [.ptr (aj n) 0]/\Has ab n [v]/\Ext h ab:=by refine aaY.z rfl (dM ?_);unfold c51;obtain ⟨aa,ar,aP,c6⟩:=h7 h [v];simp +contextual only [ar,bj.1,bj.2.1,bj.2.2,↓al,aG,simprocAttr];exact ⟨_,rfl,c6,aP⟩
theorem N2 {α:Type} {e:α->V}:∀{bM:List (Int × α)} {es:List cI},qI e bM es->oy es=some (bM.map Prod.fst)
 | [],[],_=>rfl
 | [],_::_,H=>H.elim
 | _::_,[],H=>H.elim
 | (s,a)::bM,m::es,H=>by unfold oy;rw [H.1,N2 H.2.2];rfl
theorem Uw {x:Int}:∀{l:List Int},w4 x l=true↔x ∈ l
 | []=>by simp [w4]
 | y::l=>by simp only [w4,Bool.or_eq_true,Uw (l:=l),List.mem_cons,Bg,decide_eq_true_eq]
theorem UL:∀{l:List Int},l.Nodup->uE l=true
 | [],_=>rfl
 | x::l,h=>by obtain ⟨aa,ad⟩:=List.nodup_cons.1 h;simp only [uE,Bool.and_eq_true,Bool.not_eq_true',UL ad,and_true];rw [<-Bool.not_eq_true,Uw];exact aa
theorem XA:∀{l:List Int},(∀x ∈ l,0<=x/\x<=1048575)->u2 l=true
 | [],_=>rfl
 | x::l,h=>by
   have aa:=h x List.mem_cons_self;simp only [u2,Bool.and_eq_true];refine ⟨?_,XA fun y aZ=>h y (List.mem_cons_of_mem _ aZ)⟩;have aP:IntKind.i64.min=-9223372036854775808:=by decide
   have bf:IntKind.i64.max=9223372036854775807:=by decide
   simp [Lit.wf,aP,bf];omega
theorem anf {α:Type} {e:α->V} {h:ah} {n:Nat} {lF:aQ} {bM:List (Int × α)} (P:Has h n [.map lF]) (M:je e h lF bM) (aV:(bM.map Prod.fst).Nodup) (aA:bM.length<=1000000) (aS:∀s ∈ bM.map Prod.fst,0<=s/\s<=1048575):
 de Tryz.prog 50 [.func 78 [.ptr (aj n) 0]] h fun x ab=>(fG ab 1 x (e0 (bM.map Prod.fst)).length (lY (e0 (bM.map Prod.fst)))/\s9 x/\∀b,x.aN b->h.next<=cB b)/\Ext h ab:=by
 obtain ⟨es,clock,m1,m2,m3⟩:=M.ex;have aH:=N2 m2;have hlen:es.length=bM.length:=by have:=Ll aH;rw [List.length_map] at this;exact this.symm
 have gd:(uE (bM.map Prod.fst)&&hV clock 0 es&&u2 (bM.map Prod.fst)&&Nat.ble es.length 1000000)=true:=by rw [UL aV,m3,XA aS];simp only [Bool.and_self,Bool.true_and,Nat.ble_eq];omega
 have ot:(e0 (bM.map Prod.fst)).length=bM.length:=by rw [(uW _).length_eq,List.length_map]
 have run:∃v ab,(C5 78).run [.func 78 [.ptr (aj n) 0]] h=.val v ab/\(fG ab 1 v (e0 (bM.map Prod.fst)).length (lY (e0 (bM.map Prod.fst)))/\s9 v/\∀b,v.aN b->h.next<=cB b)/\Ext h ab:=by
  simp only [C5,Nat.beq_refl,cond_true,MU,P.g,cd.bE];simp only [List.length_singleton,show Nat.blt 0 1=true from rfl,cond_true];rw [show T.get V.bad (aj 0) (Go.Proofs.YthemdhlheglhoaaGreatDoor.a8.fC .e 0 [V.map lF])=V.map lF from by rw [show aj 0=aj (0+0) from rfl,EW];rfl];simp only [m1,aH,gd,cond_true];generalize e0 (bM.map Prod.fst)=l at *;cases l with
  | nil=>exact ⟨_,_,rfl,⟨⟨rfl,rfl⟩,fun b o l c e=>(by cases e),fun b q=>q.elim⟩,Ext.refl _⟩
  | cons x l=>
    have ir:(uu (x::l)).length<=top:=by unfold uu;rw [List.length_map];unfold top;omega
    simp only [CA ir (Nat.le_refl _)];have o:=cJ.grown (B:=h.next) (h:=h) (size:=1) (ai:=uu (x::l)) (n:=(x::l).length) (st:=false) (by unfold uu;rw [List.length_map,Nat.mul_one]) (Nat.le_refl _);refine ⟨_,_,rfl,⟨o.v,o.room,fun b q=>o.base q⟩,(Ext.refl h).new _⟩
 obtain ⟨v,ab,br,cF,cr⟩:=run;exact ⟨v,ab,⟨(fun e=>by cases e),.inl ⟨⟨_,Tryz.func50,by kernel_rfl⟩,fun ay E w xs ak s=>WL (by decide) Tryz.underlying3 WK br ay E w xs ak s⟩⟩,cF,cr⟩
section
variable [Lay]
abbrev Ep (p:Int × aM) (w:V):List V:=[.int .i64 p.1,.int .i64 p.2.k,.int .i64 p.2.n,.str p.2.s,w]
inductive fR (h:ah):(aQ->Prop)->gW->V->Prop
 | mk {S:aQ->Prop} {l:gW} {v:V} (us:List (List V)) (ws:Nat->V) (gX:Nat->aQ->Prop) (o:cJ 0 h 5 v l.length us.flatten) (hu:us.length=l.length) (aV:l.length<=top)
    (cells:∀(i:Nat) (t:Int × aM),l[i]? =some t->us[i]? =some (Ep t (ws i))/\t.2.s.length<=top)
    (kids:∀(i:Nat) (t:Int × aM),l[i]? =some t->fm h (gX i) t.2.l (ws i)) (bj:∀b,v.aN b->S b) (dn:∀(i:Nat) (b:aQ),i<l.length->gX i b->S b/\¬v.aN b)
    (apart:∀(i j:Nat) (b:aQ),i<l.length->j<l.length->i≠j->gX i b->¬gX j b):fR h S l v
variable {h ab:ah} {S:aQ->Prop} {l:gW} {v:V}
theorem fR.nil (h:ah) (S:aQ->Prop):fR h S [] .bB:=
 .mk [] (fun _=>.bB) (fun _ _=>False) ⟨by simp,rfl⟩ rfl (Nat.zero_le _) (fun i t q=>by simp at q) (fun i t q=>by simp at q) (fun b q=>q.elim) (fun i b q=>absurd q (Nat.not_lt_zero _)) (fun i j b q=>absurd q (Nat.not_lt_zero _))
theorem fR.mod {M:aQ->Prop} (H:fR h S l v) (m:Mod M h ab) (dz:∀b,S b->¬M b):fR ab S l v:=by
 cases H with
 | mk us ws gX o hu aV cells kids bj dn apart=>
   exact .mk us ws gX (o.mod m fun b q=>dz b (bj b q)) hu aV cells (fun i t q=>(kids i t q).mod m fun b z=>dz b (dn i b (by obtain ⟨ar,_⟩:=List.getElem?_eq_some_iff.1 q;exact ar) z).1) bj dn apart
theorem fR.ext (H:fR h S l v) (e:Ext h ab):fR ab S l v:=by
 cases H with
 | mk us ws gX o hu aV cells kids bj dn apart=>exact .mk us ws gX (o.ext e) hu aV cells (fun i t q=>(kids i t q).ext e) bj dn apart
theorem fR.k1 {gv:aQ->Prop} (H:fR h S l v) (w:∀b,S b->gv b):fR h gv l v:=by
 cases H with
 | mk us ws gX o hu aV cells kids bj dn apart=>exact .mk us ws gX o hu aV cells kids (fun b q=>w b (bj b q)) (fun i b q z=>⟨w b (dn i b q z).1,(dn i b q z).2⟩) apart
theorem fR.fY {F:aQ->Prop} (H:fR h S l v) (w:∀b,S b->F b):dc F h 5 (l.map lI) v:=by
 cases H with
 | mk us ws gX o hu aV cells kids bj dn apart=>
   refine ⟨o.room,by rw [List.length_map];exact aV,⟨us,by rw [List.length_map];exact o.v,by rw [List.length_map];exact hu,fun u q=>?_,fun i e u ar aw=>?_⟩,fun b q=>w b (bj b q)⟩
   . obtain ⟨i,ao,rfl⟩:=List.getElem_of_mem q;have:=(cells i _ (List.getElem?_eq_getElem (by omega))).1;rw [List.getElem?_eq_getElem ao] at this;rw [Option.some.inj this];rfl
   . rw [List.getElem?_map] at ar;cases av:l[i]? with
     | none=>rw [av] at ar;cases ar
     | some t=>
       rw [av] at ar;simp only [Option.map_some,Option.some.injEq] at ar;subst ar;obtain ⟨bP,bX⟩:=cells i t av;rw [bP] at aw;cases aw;rw [lI,CR];have ao:i<l.length:=(List.getElem?_eq_some_iff.1 av).1;exact .i (.i (.i (.s bX (((kids i t av).fY fun b z=>w b (dn i b ao z).1).cons .nil))))
theorem fR.one (H:fR h S l v):v.one=true/\v.cells=[v]/\v.gd=true:=by
 cases H with
 | mk us ws gX o hu aV cells kids bj dn apart=>exact o.v.one
theorem fR.bj (H:fR h S l v):∀b,v.aN b->S b:=by
 cases H with
 | mk us ws gX o hu aV cells kids bj dn apart=>exact bj
theorem fR.add {T:aQ->Prop} {t:Int × aM} {u:V} (H:fR h S l v) (E:fm h T t.2.l u) (sv:∀b,S b->¬T b) (oe:∀b,S b->Old h b) (t':∀b,T b->Old h b) (hlen:(l.length+1) * 5<=top) (aS:t.2.s.length<=top):
 ∃dd ab,ij 5 v (.slice (aj h.next) 0 1 1) (h.new (.bE (Ep t u) 0 false))=.val dd ab/\fR ab (fun b=>S b\/T b\/(h.next<=cB b/\cB b<ab.next)) (l++[t]) dd/\Mod v.aN h ab/\h.next+1<=ab.next:=by
 have rG:=E.one;cases H with
 | mk us ws gX o hu aV cells kids bj dn apart=>
   obtain ⟨dd,ab,ar,aw,aK,bY,ek⟩:=qO (cs:=Ep t u) (by omega) o (Nat.zero_le _) hlen rfl (by simp only [eI,Gy,Gz,rG.1,Bool.and_self,Bool.and_true]);have uj:∀b,dd.aN b->¬v.aN b->¬Old h b:=fun b z z2=>by
    rcases ek b z with z | z
    . exact absurd z z2
    . unfold Old;omega
   have snoc:∀(i:Nat) (s:Int × aM),(l++[t])[i]? =some s->(i<l.length/\l[i]? =some s)\/(i=l.length/\s=t):=fun i s q=>R1 q;refine ⟨dd,ab,ar,.mk (us++[Ep t u]) (fun i=>if i<l.length then ws i else u) (fun i=>if i<l.length then gX i else T) ?_ (by simp [hu]) (by rw [List.length_append,List.length_singleton];omega) (fun i s q=>?_) (fun i s q=>?_) (fun b z=>?_) (fun i b ao z=>?_) (fun i j b ao aU nj z=>?_),aK,bY⟩
   . rw [List.length_append,List.length_singleton,List.flatten_append];simpa using aw
   . rcases snoc i s q with ⟨aa,ad⟩ | ⟨aa,rfl⟩
     . rw [if_pos aa,List.getElem?_append_left (by omega)];exact cells i s ad
     . subst aa;rw [if_neg (by omega),List.getElem?_append_right (by omega),hu,Nat.sub_self];exact ⟨rfl,aS⟩
   . rcases snoc i s q with ⟨aa,ad⟩ | ⟨aa,rfl⟩
     . simp only [if_pos aa];exact (kids i s ad).mod aK fun b z=>(dn i b aa z).2
     . subst aa;simp only [Nat.lt_irrefl,if_false];exact E.mod aK fun b z z2=>sv b (bj b z2) z
   . have a6:=aw.v.bF z;rcases ek b z with z | z
     . exact .inl (bj b z)
     . exact .inr (.inr (by unfold Old at a6;omega))
   . by_cases aa:i<l.length
     . rw [if_pos aa] at z;obtain ⟨a,c⟩:=dn i b aa z;exact ⟨.inl a,fun z2=>uj b z2 c (oe b a)⟩
     . rw [if_neg aa] at z;exact ⟨.inr (.inl z),fun z2=>uj b z2 (fun z3=>sv b (bj b z3) z) (t' b z)⟩
   . rw [List.length_append,List.length_singleton] at ao aU;by_cases aa:i<l.length
     . rw [if_pos aa] at z;by_cases ad:j<l.length
       . rw [if_pos ad];exact apart i j b aa ad nj z
       . rw [if_neg ad];exact sv b (dn i b aa z).1
     . rw [if_neg aa] at z;rw [if_pos (by omega)];exact fun z2=>sv b (dn j b (by omega) z2).1 z
end
end
section
open Go a8
def mM (g:bp × List (Nat × Nat)) (p:aM × aM):bp × List (Nat × Nat):=((p.2.add (p.1.add g.1).1).1,((p.1.add g.1).2,(p.2.add (p.1.add g.1).1).2)::g.2)
theorem x5:∀(l:List (aM × aM)) (g:bp × List (Nat × Nat)),iV l g=l.foldl mM g
 | [],g=>rfl
 | p::l,g=>by rw [iV,x5 l];rfl
theorem OO (l:List (aM × aM)) (p:aM × aM) (g:bp × List (Nat × Nat)):iV (l++[p]) g=mM (iV l g) p:=by rw [x5,x5,List.foldl_append];rfl
theorem Zk (l m:List (aM × aM)) (g:bp × List (Nat × Nat)):iV (l++m) g=iV m (iV l g):=by rw [x5,x5,x5,List.foldl_append]
theorem ano (g:bp × List (Nat × Nat)) (p:aM × aM) (aa:p.1.lr=true) (ad:p.2.lr=true) (W:g.1.dX):g.1.le (mM g p).1/\(mM g p).1.dX/\(∀e ∈ g.2,e ∈ (mM g p).2):=by obtain ⟨bZ,a2,_⟩:=r5 p.1 g.1 aa W;obtain ⟨cb,ca,_⟩:=r5 p.2 _ ad a2;exact ⟨bZ.trans cb,ca,fun e he=>List.mem_cons_of_mem _ he⟩
theorem ON:∀(l:List (aM × aM)) (g:bp × List (Nat × Nat)),(∀p ∈ l,p.1.lr=true/\p.2.lr=true)->g.1.dX->g.1.le (iV l g).1/\(iV l g).1.dX/\(∀e ∈ g.2,e ∈ (iV l g).2)
 | [],g,_,W=>⟨bp.le.refl _,W,fun _ h=>h⟩
 | p::l,g,h,W=>by obtain ⟨bZ,a2,a3⟩:=ano g p (h p List.mem_cons_self).1 (h p List.mem_cons_self).2 W;obtain ⟨cb,ca,e5⟩:=ON l (mM g p) (fun q aC=>h q (List.mem_cons_of_mem _ aC)) a2;exact ⟨bZ.trans cb,ca,fun e he=>e5 e (a3 e he)⟩
mutual
theorem AS:∀(t:aM) (g:bp),g.vars.length<=g.N->(t.add g).1.vars.length<=(t.add g).1.N
 | .mk k n s l,g,h=>by
   rw [aM.add];by_cases c:k=1
   . rw [if_pos c];unfold bp.var;cases e_ n g.vars with
     | some i=>exact h
     | none=>simp only [bp.N,List.length_append,List.length_singleton] at h ⊢;omega
   . rw [if_neg c];have:=OU l g h;simp only [bp.put,bp.N,List.length_append,List.length_singleton] at this ⊢;omega
theorem OU:∀(l:List aM) (g:bp),g.vars.length<=g.N->(cf l g).1.vars.length<=(cf l g).1.N
 | [],g,h=>h
 | t::l,g,h=>by rw [cf];exact OU l _ (AS t g h)
end
theorem mg.grow {g cC:bp} {π kh:Nat->Nat} {bR lZ:Nat->V} {bN fJ:Nat->Int} {B:Nat} {ρ:Nat->Nat} (jf:pL g cC π kh bR lZ bN fJ B) (jg:cC.dX) (S:eP g ρ) (H:mg g ρ bN) (aB:g.le cC):mg cC ρ fJ:=by
 intro r aE e;by_cases c:r<g.N
 . have:=H r c e;rw [jf.bN r c];have only:∀(y:Nat) (aL:dw),cC.nodes[y]? =some aL->ρ y=r->g.nodes[y]? =some aL:=fun y aL h q=>by
    by_cases z:y<g.N
    . rw [aB.bF z] at h;exact h
    . have:=S.out y (by omega);omega
   rcases this with ⟨aa,ad⟩ | ⟨aa,⟨y,aL,ad,aJ,bG,di⟩,dD⟩
   . exact .inl ⟨aa,fun y aL ar aw=>ad y aL (only y aL ar aw) aw⟩
   . exact .inr ⟨aa,⟨y,aL,aB.get ad,aJ,bG,di⟩,fun y aL ar aw aK=>dD y aL (only y aL ar aw) aw aK⟩
 . obtain ⟨aL,dS⟩:=hK aE;have aV:=jf.new r aL (by omega) dS;have only:∀(y:Nat) (cl:dw),cC.nodes[y]? =some cl->ρ y=r->cl=aL:=fun y cl h q=>by
    by_cases z:y<g.N
    . have:=S.lt y z;omega
    . have:=S.out y (by omega);have:y=r:=by omega
      subst this;rw [dS] at h;exact (Option.some.inj h).symm
   cases bX:aL.ch with
   | true=>
     rw [bX] at aV;simp only [if_true] at aV;exact .inl ⟨by omega,fun y cl ar aw=>by rw [only y cl ar aw];exact bX⟩
   | false=>
     rw [bX] at aV;simp only [Bool.false_eq_true,if_false] at aV;have af:=(jg.var r aL dS bX).2.2.1;exact .inr ⟨by omega,⟨r,aL,dS,e,bX,aV.symm⟩,fun y cl ar aw _=>by rw [only y cl ar aw];omega⟩
section
variable {g:bp} {E:List (Nat × Nat)}
theorem WI {l:List Int} {x:Int}:x ∈ e0 l↔x ∈ l:=(uW l).mem_iff
theorem Uf {α:Type} {s:Int}:∀{k:List (Int × α)},s ∈ k.map Prod.fst->∃a,e_ s k=some a
 | [],h=>by simp at h
 | (n,b)::k,h=>by
   simp only [e_];by_cases c:s=n
   . exact ⟨b,if_pos c⟩
   . rw [if_neg c];simp only [List.map_cons,List.mem_cons] at h;exact Uf (h.resolve_left c)
theorem Li (W:g.dX) {i:Nat} (ao:i < (e0 (g.vars.map Prod.fst)).length):∃(j:Nat) (aL:dw),e_ (e0 (g.vars.map Prod.fst))[i] g.vars=some j/\g.nodes[j]? =some aL/\aL.ch=false/\aL.n=(e0 (g.vars.map Prod.fst))[i]/\(keyed g)[i]? =some ((e0 (g.vars.map Prod.fst))[i],j):=by have hm:(e0 (g.vars.map Prod.fst))[i] ∈ g.vars.map Prod.fst:=WI.1 (List.getElem_mem ao);obtain ⟨j,aU⟩:=Uf hm;obtain ⟨aL,aa,ad,aJ⟩:=W.hF _ _ aU;refine ⟨j,aL,aU,aa,ad,aJ,?_⟩;unfold keyed;rw [List.getElem?_map,List.getElem?_eq_getElem ao];simp [aU]
theorem Na {α β:Type} (f:α->Option β) {l:List α} {i:Nat} {x:α} (h:l[i]? =some x):(l.take (i+1)).filterMap f=(l.take i).filterMap f++(f x).toList:=by obtain ⟨ao,rfl⟩:=List.getElem?_eq_some_iff.1 h;rw [List.take_succ_eq_append_getElem ao,List.filterMap_append];congr 1
theorem Pk {n:Int} {j:Nat} (h:rN g E j=.mk 1 n [] []):gh g E (n,j)=none:=by unfold gh;exact if_pos h
theorem Pg {n:Int} {j:Nat} (h:rN g E j≠.mk 1 n [] []):gh g E (n,j)=some (n,rN g E j):=by unfold gh;exact if_neg h
open Classical in
theorem WB (h:mN g E):jv g E=([],290):=by unfold jv;rw [if_pos h]
open Classical in
theorem WE (aD:¬mN g E) (h:∃i,i<g.N/\¬∃t,dJ g (cy g E) i t):jv g E=([],291):=by unfold jv;rw [if_neg aD,if_pos h]
open Classical in
theorem WC (aD:¬mN g E) (h:∀i,i<g.N->∃t,dJ g (cy g E) i t) (aA:∃p ∈ (keyed g).filterMap (gh g E),¬(p.2.size<=4096/\p.2.deep<=200)):jv g E=([],3):=by unfold jv;rw [if_neg aD,if_neg (fun ⟨i,aa,ad⟩=>ad (h i aa)),if_pos aA]
open Classical in
theorem WD (aD:¬mN g E) (h:∀i,i<g.N->∃t,dJ g (cy g E) i t) (aA:∀p ∈ (keyed g).filterMap (gh g E),p.2.size<=4096/\p.2.deep<=200):jv g E=((keyed g).filterMap (gh g E),0):=by unfold jv;rw [if_neg aD,if_neg (fun ⟨i,aa,ad⟩=>ad (h i aa)),if_neg (fun ⟨p,aa,ad⟩=>ad (aA p aa))]
end
def IC:aY:=
 aY.seq (aY.aq [⟨(some 14),.b0 (.c .bB),none,[]⟩])
 (aY.seq (aY.seq (aY.aq [⟨(some 78),.b0 (.t 11),none,[11]⟩,
   ⟨(some 79),.len .slice (.t 78),none,[78]⟩,
   ⟨(some 80),.b0 (.c (.int .i64 0)),none,[]⟩])
  (aY.block 6 (aY.loop IA)))
 (aY.seq (aY.aq [⟨(some 127),.b0 (.t 14),none,[14]⟩,
   ⟨(some 4),.b0 (.t 127),none,[127]⟩,
   ⟨(some 5),.b0 (.c (.int .i64 0)),none,[]⟩])
 (aY.ret)))
def IB:aY:=
 aY.seq (aY.aq [⟨(some 57),.nC none,none,[]⟩,
  ⟨(some 58),.nC none,none,[]⟩,
  ⟨(some 59),.nC none,none,[]⟩,
  ⟨(some 60),.build [.jX,.jX,.jX] [(0,1,(.t 57)),(1,1,(.t 58)),(2,1,(.t 59))],none,[57,58,59]⟩,
  ⟨(some 61),.box (.t 60),none,[60]⟩,
  ⟨(some 10),.b0 (.t 61),none,[61]⟩])
 (aY.seq (aY.aq [⟨(some 62),.b0 (.t 8),none,[8]⟩,
   ⟨(some 63),.call 51 [(.t 62)],none,[62]⟩,
   ⟨(some 64),.call 50 [(.t 63)],none,[63]⟩,
   ⟨(some 11),.b0 (.t 64),none,[64]⟩])
 (aY.seq (aY.seq (aY.aq [⟨(some 65),.b0 (.t 11),none,[11]⟩,
   ⟨(some 66),.len .slice (.t 65),none,[65]⟩,
   ⟨(some 67),.b0 (.c (.int .i64 0)),none,[]⟩])
  (aY.block 4 (aY.loop Iz)))
 (IC)))
theorem aau:PM=
 aY.seq (aY.aq [⟨(some 4),.b0 (.c .bB),none,[]⟩,
  ⟨(some 5),.b0 (.c (.int .i64 0)),none,[]⟩])
 (aY.seq (aY.seq (aY.aq [⟨(some 18),.b0 (.t 0),none,[0]⟩,
   ⟨(some 19),.len .slice (.t 18),none,[18]⟩,
   ⟨(some 20),.b0 (.t 1),none,[1]⟩,
   ⟨(some 21),.len .slice (.t 20),none,[20]⟩,
   ⟨(some 22),.bin (.int .neq) (.t 19) (.t 21),none,[19,21]⟩])
  (aY.cond (.t 22)
   (aY.seq (aY.aq [⟨(some 4),.b0 (.c .bB),none,[]⟩,
     ⟨(some 5),.b0 (.c (.int .i64 2)),none,[]⟩])
    (aY.ret))
   (aY.skip)))
 (aY.seq (aY.seq (aY.aq [⟨(some 23),.b0 (.t 0),none,[0]⟩,
   ⟨(some 24),.b0 (.t 1),none,[1]⟩,
   ⟨(some 25),.il 2 1 [.bB] [(0,1,(.t 23)),(1,1,(.t 24))],none,[23,24]⟩,
   ⟨(some 26),.call 47 [(.t 25)],none,[25]⟩,
   ⟨(some 27),.len .slice (.t 26),none,[26]⟩,
   ⟨(some 28),.b0 (.c (.int .i64 0)),none,[]⟩])
  (aY.block 0 (aY.loop Ix)))
 (aY.seq (aY.aq [⟨(some 36),.nC none,none,[]⟩,
   ⟨(some 8),.b0 (.t 36),none,[36]⟩])
 (aY.seq (aY.seq (aY.aq [⟨(some 37),.b0 (.t 0),none,[0]⟩,
   ⟨(some 38),.len .slice (.t 37),none,[37]⟩,
   ⟨(some 39),.b0 (.c (.int .i64 0)),none,[]⟩])
  (aY.block 2 (aY.loop Iy)))
 (IB))))):=rfl
end
section
open Go a8
structure H5 (B:Nat) (h:ah) (g:bp) (E:List (Nat × Nat)) (π:Nat->Nat) (bR:Nat->V) (w:Nat->Nat) (bN:Nat->Int) (ρ:Nat->Nat) (cS:aQ):Prop where
 W:g.dX
 S:eP g ρ
 J:ev g E ρ []
 L:mg g ρ bN
 Df:Way w ρ
 nJ:q1 g
 pm:mh h g π bR w bN cS
 xb:∀i,i<g.N->B<=π i
 zu:B<=cB cS
theorem aoe {B:Nat} {aW h:ah} {g:bp} {E:List (Nat × Nat)} {π:Nat->Nat} {bR:Nat->V} {w:Nat->Nat} {bN:Nat->Int} {ρ:Nat->Nat} {cS:aQ} {iA:Nat} {fM dG ej:aQ} {md:List (Nat × aM)} {ix:List (Nat × Bool)} {r:bc} {rm:V} {Q:dm->bc->ah->Prop}
 (da:B<=aW.next) (fl:Ext aW h) (sr:B=aW.next) (wm:g.N<=1000000) (U:H5 B h g E π bR w bN ρ cS) (M:k4 h g π bR w bN iA fM dG ej md ix) (ap2:B<=iA) (oq:B<=cB fM) (apH:B<=cB dG) (ha:B<=cB ej)
 (apP:(e0 (g.vars.map Prod.fst)).length<=1000000) (K:fG h 1 rm (e0 (g.vars.map Prod.fst)).length (lY (e0 (g.vars.map Prod.fst)))) (ad6:∀b i,i<g.N->rm.aN b->b≠aj (π i)) (D:r0 g (cy g E) ρ md []) (ec:∀j,j<g.N->∃t,dJ g (cy g E) j t) (fy:∀(n:Int) (j:Nat),e_ n g.vars=some j->∃t,(ρ j,t) ∈ md)
 (dW:r 8=.map cS) (gQ:r 10=.ptr (aj iA) 0) (ja:r 11=rm)
 (cM:∀(r:bc) (k:ah) (c2:V),r 4=c2->r 5=.int .i64 (jv g E).2->fR k (ew aW.next k.next) (jv g E).1 c2->Ext aW k->Q .ret r k):bo Tryz.prog [.c IC] .normal r h Q:=by
 have iH:=K.len;have ok:=K.one;have gA:=U.J.part;have zG:∀i,i<g.N->π i<h.next:=fun i ao=>U.pm.gl.lt ao
 unfold IC;simp +contextual only [dW,gQ,ja,iH,ok.1,ok.2.1,↓al,aG,simprocAttr];refine fa (fun r k=>r 8=.map cS/\r 10=.ptr (aj iA) 0/\r 78=rm/\r 79=.int .i64 (e0 (g.vars.map Prod.fst)).length/\∃(i:Nat) (v:V) (an:Nat->Nat),r 80=.int .i64 i/\r 14=v/\i<=(e0 (g.vars.map Prod.fst)).length/\mh k g π bR an bN cS/\k4 k g π bR an bN iA fM dG ej md ix/\Way an ρ/\
  fR k (ew h.next k.next) (((keyed g).take i).filterMap (gh g E)) v/\Ext aW k/\Mod (jG g π) h k/\∀p ∈ ((keyed g).take i).filterMap (gh g E),p.2.size<=4096/\p.2.deep<=200) (fun r k=>(e0 (g.vars.map Prod.fst)).length - (r 80).toN) ?_ ?_
 . exact ⟨by simp only [dW,↓al,bs,simprocAttr],by simp only [gQ,↓al,bs,simprocAttr],by simp only [ja,↓al,bs,simprocAttr],by simp only [↓al,bs,simprocAttr],0,.bB,w,by simp only [↓al,bs,simprocAttr]<;>rfl,by simp only [↓al,bs,simprocAttr],Nat.zero_le _,U.pm,M,U.Df,fR.nil _ _,fl,Mod.refl _ _,fun p af=>(by simp at af)⟩
 clear dW gQ ja;rintro r k ⟨dW,gQ,pB,pC,i,v,an,xh,jb,ao,gV,f',qM,O,eb,xZ,gC⟩;unfold IA;have dB:=O.one;have cD:=xZ.next
 have JL:=fl.next
 have yR:(keyed g).length=(e0 (g.vars.map Prod.fst)).length:=by unfold keyed;rw [List.length_map]
 by_cases aO:i < (e0 (g.vars.map Prod.fst)).length
 . have g0:((i:Int) < ((e0 (g.vars.map Prod.fst)).length:Int))=True:=eq_true (by omega);obtain ⟨j,aL,aP,bf,c4,gj,gM⟩:=Li U.W aO;generalize aV:(e0 (g.vars.map Prod.fst))[i]=n at *;have aU:=hn bf;have tv:fG k 1 rm _ _:=K.mod xZ fun b q ⟨a,a1,z⟩=>ad6 b a a1 q z;obtain ⟨vC,iQ,K6,Hm⟩:=tv.cH (k:=.i64) aO;have Co:=Hm.d' (i:=i) (by rw [FY];exact aO);have yS:(lY (e0 (g.vars.map Prod.fst)))[i]'(by rw [FY];exact aO)=.int .i64 n:=by rw [<-aV];simp [lY]
   rw [yS,show iQ+i=iQ+i * 1 by omega] at Co;have hF:=gV.mp.look n .ee false;rw [aP] at hF;simp only [cond_false] at hF;have dv:IntKind.i64.wrap ((i:Int)+1)=((i+1:Nat):Int):=by rw [wrap_i64 (by omega) (by omega)];rfl
   simp +contextual only [dW,gQ,pB,pC,xh,jb,g0,K6,Co,hF,mV.eq,↓al,aG,simprocAttr];refine cK (Ad gV.gl U.S qM aU) ?_;rintro bA bz ⟨rfl,b3,hk,vs,jF⟩;have AI:=f'.find hk jF;have apF:∀b,B<=cB b->(∀i,i<g.N->b≠aj (π i))->¬jG g π b:=fun b _ q ⟨i,ao,z⟩=>q i ao z;have OA:mh bz g π bR b3 bN cS:=⟨hk,gV.mp.mod jF fun ⟨a,a1,z⟩=>gV.s1 a a1 z,gV.s1,gV.s2⟩;obtain ⟨t,av⟩:=fy n j aP;have EA:=D.all _ av;simp only at EA;obtain ⟨t1,t2,t3,t4⟩:=EA;have b4:=U.S.lt j aU;obtain ⟨b_,ex⟩:=hK b4;have gS:=hk.root ex (Way.root U.S vs (U.S.idem j));have anQ:dJ g (cy g E) j t:=t3.l_ gA (U.J.done.2 (U.S.idem j));have sI:rN g E j=t:=Nd gA anQ;have DS:fR bz (ew h.next k.next) _ v:=O.mod jF fun b q ⟨a,a1,z⟩=>by have:=zG a a1;unfold ew at q;rw [z,b9] at q;omega
   have cT:=jF.next
   have eu:Ext aW bz:=eb.h1 jF fun b ⟨a,a1,z⟩=>by rw [z,b9];have:=U.xb a a1;omega
   have Oq:Mod (jG g π) h bz:=xZ.trans jF;have wJ:=AI.hw.g;have ajX:=Lw D.nodup av;have ls:=AI.ms.look (hk.key b4 D.keys) (.int .i64 0) false;have ld:=AI.si.look (hk.key b4 D.keys) (.int .i64 0) false;rw [ajX] at ls ld;simp only [cond_false] at ls ld;have self:t=.mk 1 n [] []->fR bz (ew h.next bz.next) (((keyed g).take (i+1)).filterMap (gh g E)) v/\∀p ∈ ((keyed g).take (i+1)).filterMap (gh g E),p.2.size<=4096/\p.2.deep<=200:=fun q=>by rw [Na _ gM,Pk (by rw [sI];exact q)];simp only [Option.toList_none,List.append_nil];exact ⟨DS.k1 fun b z=>by unfold ew at z ⊢;omega,gC⟩
   have Bu:(b_.ch=false/\bN (ρ j)=n/\t=.mk 1 n [] [])\/(b_.ch=false/\(bN (ρ j)=n)=False/\t≠.mk 1 n [] [])\/(b_.ch=true/\True=True/\t≠.mk 1 n [] []):=by
    cases c:b_.ch with
    | false=>
      have No:=W9 U.S U.J U.L (U.S.idem j) ex c;have hz:=t3.uniq gA (.refl _) No;by_cases bX:bN (ρ j)=n
      . exact .inl ⟨rfl,bX,by rw [hz,bX]⟩
      . exact .inr (.inl ⟨rfl,eq_false bX,fun z=>by rw [hz] at z;injection z with _ z;exact bX z⟩)
    | true=>
      obtain ⟨l,hz,_⟩:=Hd gA t3 (.refl _) ex c;exact .inr (.inr ⟨rfl,rfl,fun z=>by rw [hz] at z;injection z with z _;omega⟩)
   rcases Bu with ⟨aD,pa,aS⟩ | Bu
   . rw [aD] at gS;obtain ⟨b6,z2⟩:=self aS;simp +contextual only [dW,gQ,pB,pC,xh,jb,gS,eq_true pa,dv,jz,↓al,aG,simprocAttr];exact ⟨⟨i+1,v,b3,rfl,rfl,aO,OA,AI,vs,b6,eu,Oq,z2⟩,by omega⟩
   rcases Bu with ⟨aD,pa,aS⟩ | ⟨aD,pa,aS⟩
   all_goals
    rw [aD] at gS;have ae:gh g E (n,j)=some (n,t):=by rw [Pg (by rw [sI];exact aS),sI]
    by_cases BF:t.size<=4096/\t.deep<=200
    . have s1:((4096:Int) < ((min t.size 4097:Nat):Int))=False:=eq_false (by omega);have s2:((200:Int) < ((t.deep:Nat):Int))=False:=eq_false (by omega);simp +contextual only [dW,gQ,pB,pC,xh,jb,gS,pa,wJ,ls,ld,s1,s2,dv,jz,↓al,aG,simprocAttr];refine cK (W' U.W U.S U.J U.L U.nJ t.size t (Nat.le_refl _) (by omega) (ρ j) b3 bz b4 t3 hk vs) ?_;rintro eB bx ⟨u,b2,rfl,Z,uk,fE,tB,M2⟩;have gP:=M2.next
      have ky:=Z.one;have vl:=AI.find fE M2;have YK:mh bx g π bR b2 bN cS:=⟨fE,OA.mp.mod M2 fun ⟨a,a1,z⟩=>gV.s1 a a1 z,gV.s1,gV.s2⟩;have nW:fR bx (ew h.next k.next) _ v:=DS.mod M2 fun b q ⟨a,a1,z⟩=>by have:=zG a a1;unfold ew at q;rw [z,b9] at q;omega
      have cm:Ext aW bx:=eu.h1 M2 fun b ⟨a,a1,z⟩=>by rw [z,b9];have:=U.xb a a1;omega
      have Fs:((keyed g).take i |>.filterMap (gh g E)).length<=1000000:=by have:=List.length_filterMap_le (gh g E) ((keyed g).take i);rw [List.length_take] at this;omega
      obtain ⟨dd,cU,bW,bV,b8,gH⟩:=nW.add (t:=(n,t)) (T:=ew bz.next bx.next) (u:=u) Z (fun b q z=>by unfold ew at q z;omega) (fun b q=>by unfold ew at q;unfold Old;omega) (fun b q=>by unfold ew at q;unfold Old;omega) (by unfold top;omega) uk;have kf:=bV.one;have sJ:∀b,v.aN b->h.next<=cB b:=fun b q=>by have:=O.bj _ q;unfold ew at this;omega
      have xC:∀c,cB c<h.next->¬v.aN c:=fun c aD q=>by have:=sJ c q;omega
      have af':∀a,a<g.N->¬v.aN (aj (π a)):=fun a a1=>xC _ (by rw [b9];exact zG a a1);have af9:∀a b,a<g.N->(bR a).aN b->¬v.aN b:=fun a b a1 ae=>xC _ (by have:=U.pm.gl.rk a1 ae;unfold Old at this;exact this);have ig:=fE.mod b8 af' af9;have af6:¬v.aN cS:=xC _ (by have:=U.pm.mp.bF;unfold Old at this;exact this);have FK:¬v.aN (aj iA):=xC _ (by rw [b9];exact M.hw.lt);have BY:¬v.aN fM:=xC _ (by have:=M.ms.bF;unfold Old at this;exact this);have af7:¬v.aN dG:=xC _ (by have:=M.si.bF;unfold Old at this;exact this);have af8:¬v.aN ej:=xC _ (by have:=M.op.bF;unfold Old at this;exact this);have YL:mh cU g π bR b2 bN cS:=⟨ig,YK.mp.mod b8 af6,gV.s1,gV.s2⟩;have Yu:k4 cU g π bR b2 bN iA fM dG ej md ix:=⟨ig,vl.hw.mod b8 FK,vl.ms.mod b8 BY,vl.si.mod b8 af7,vl.op.mod b8 af8,M.d1,M.d2,M.d3,M.zC,M.l7⟩;have bb:((keyed g).take (i+1)).filterMap (gh g E)=((keyed g).take i).filterMap (gh g E)++[(n,t)]:=by rw [Na _ gM,ae];rfl
      have L9:ij 5 v (.slice (aj bx.next) 0 1 1) (bx.new (.bE [.int .i64 n,.int .i64 t.k,.int .i64 t.n,.str t.s,u] 0 false))=.val dd cU:=bW;simp +contextual only [dW,gQ,pB,pC,xh,jb,ky.1,ky.2.1,dB.1,dB.2.1,kf.1,kf.2.1,L9,dv,jz,↓al,aG,simprocAttr];refine ⟨⟨i+1,dd,b2,rfl,rfl,aO,YL,Yu,tB,?_,cm.h1 b8 fun b q=>by have:=sJ b q;omega,?_,?_⟩,by omega⟩
      . rw [bb];exact bV.k1 fun b q=>by unfold ew at q ⊢;omega
      . exact ((Oq.trans M2)).z_ b8 fun b q=>sJ b q
      . rw [bb];intro p af;rcases List.mem_append.1 af with af | af
        . exact gC p af
        . rw [List.mem_singleton] at af;subst af;exact BF
    . have Fv:jv g E=([],3):=WC U.J.j5 ec ⟨(n,t),List.mem_filterMap.2 ⟨(n,j),List.mem_of_getElem? gM,ae⟩,BF⟩;by_cases y5:t.size<=4096
      . have s1:((4096:Int) < ((min t.size 4097:Nat):Int))=False:=eq_false (by omega);have s2:((200:Int) < ((t.deep:Nat):Int))=True:=eq_true (by omega);simp +contextual only [dW,gQ,pB,pC,xh,jb,gS,pa,wJ,ls,ld,s1,s2,dv,jz,↓al,aG,simprocAttr];exact cM _ _ .bB (by simp only [↓al,bs,simprocAttr]) (by simp only [Fv,↓al,bs,simprocAttr]) (by rw [Fv];exact fR.nil _ _) eu
      . have s1:((4096:Int) < ((min t.size 4097:Nat):Int))=True:=eq_true (by omega);simp +contextual only [dW,gQ,pB,pC,xh,jb,gS,pa,wJ,ls,ld,s1,dv,jz,↓al,aG,simprocAttr];exact cM _ _ .bB (by simp only [↓al,bs,simprocAttr]) (by simp only [Fv,↓al,bs,simprocAttr]) (by rw [Fv];exact fR.nil _ _) eu
 . have g0:((i:Int) < ((e0 (g.vars.map Prod.fst)).length:Int))=False:=eq_false (by omega);rw [List.take_of_length_le (by rw [yR];omega)] at O gC;have bK:=WD U.J.j5 ec gC;simp +contextual only [dW,gQ,pB,pC,xh,jb,g0,dB.1,dB.2.1,↓al,aG,simprocAttr];exact cM _ _ v (by simp only [↓al,bs,simprocAttr]) (by simp only [bK,↓al,bs,simprocAttr]) (by rw [bK];exact O.k1 fun b q=>by unfold ew at q ⊢;omega) eb
theorem aod {B:Nat} {aW h:ah} {g:bp} {E:List (Nat × Nat)} {π:Nat->Nat} {bR:Nat->V} {w:Nat->Nat} {bN:Nat->Int} {ρ:Nat->Nat} {cS:aQ} {r:bc} {Q:dm->bc->ah->Prop}
 (fl:Ext aW h) (sr:B=aW.next) (wm:g.N<=1000000) (lT:g.vars.length<=g.N) (U:H5 B h g E π bR w bN ρ cS) (dW:r 8=.map cS)
 (cM:∀(r:bc) (k:ah) (c2:V),r 4=c2->r 5=.int .i64 (jv g E).2->fR k (ew aW.next k.next) (jv g E).1 c2->Ext aW k->Q .ret r k):bo Tryz.prog [.c IB] .normal r h Q:=by
 have gA:=U.J.part;have JL:=fl.next
 have LJ:∀g:ah,sV none g=.val (.map (aj g.next)) (g.new (.mp [] 0)):=fun g=>rfl;unfold IB;have LK:∀{α:Type} (e:α->V) (k:ah),∃bg,k.new (.mp [] 0)=bg/\Ext k bg/\h6 e π bg (aj k.next) []/\bg.next=k.next+1:=fun e k=>⟨_,rfl,(Ext.refl k).new _,h6.new e π k,rfl⟩
 obtain ⟨aa,ar,bA,YS,dZ⟩:=LK z' h;obtain ⟨ad,aw,eB,hS,eS⟩:=LK Jb aa;obtain ⟨aJ,aK,nN,pM,Cl⟩:=LK V.bool ad;have mi:=YS.ext eB;have AN:=mi.ext nN;have iB:=hS.ext nN;obtain ⟨bG,bY,Dk,H6⟩:=h7 aJ [.map (aj h.next),.map (aj aa.next),.map (aj ad.next)];have n4:=Dk.next
 have lw:=H6.lt;have DW:Ext h bG:=((bA.trans eB).trans nN).trans Dk;have pN:=U.pm.ext DW;have zG:∀i,i<g.N->π i<h.next:=fun i ao=>U.pm.gl.lt ao
 have k3:k4 bG g π bR w bN aJ.next (aj h.next) (aj aa.next) (aj ad.next) [] []:=⟨pN.gl,H6,AN.ext Dk,iB.ext Dk,pM.ext Dk,fun q=>by have:=fj q;omega,fun q=>by have:=fj q;omega,fun q=>by have:=fj q;omega,fun i ao=>by have:=zG i ao;omega,fun i ao q=>by have:=U.pm.gl.rk ao q;unfold Old at this;rw [b9] at this;omega⟩
 simp +contextual only [dW,LJ,ar,aw,aK,bY,↓al,aG,simprocAttr];refine cK (aid (.map cS) ⟨rfl,rfl,rfl⟩ bG) ?_;rintro e1 di ⟨n,rfl,Yi,u3⟩;simp +contextual only [↓al,aG,simprocAttr];have fU:∀s ∈ g.vars.map Prod.fst,0<=s/\s<=1048575:=fun s aS=>by obtain ⟨p,af,rfl⟩:=List.mem_map.1 aS;obtain ⟨a,b⟩:=p;have aA:=wX U.W.keys af;obtain ⟨aL,aP,bf,c4⟩:=U.W.hF _ _ aA;have:=(U.W.var b aL aP bf).2.2.1;exact ⟨by simp only;omega,U.W.ao _ af⟩
 refine cK (anf Yi (pN.mp.ext u3) U.W.keys (by omega) fU) ?_;rintro rm dD ⟨⟨AF,Oc,Yj⟩,xK⟩;have n5:=u3.next
 have n6:=xK.next
 have iH:=AF.len;have ok:=AF.one;have ot:(e0 (g.vars.map Prod.fst)).length=g.vars.length:=by rw [(uW _).length_eq,List.length_map]
 have Y1:Ext h dD:=(DW.trans u3).trans xK;have tx:=(pN.ext u3).ext xK;have Ys:k4 dD g π bR w bN aJ.next (aj h.next) (aj aa.next) (aj ad.next) [] []:=⟨tx.gl,(H6.ext u3).ext xK,(k3.ms.ext u3).ext xK,(k3.si.ext u3).ext xK,(k3.op.ext u3).ext xK,k3.d1,k3.d2,k3.d3,k3.zC,k3.l7⟩
 simp +contextual only [iH,ok.1,ok.2.1,↓al,aG,simprocAttr];have Kx:cB cS<h.next:=by have:=U.pm.mp.bF;unfold Old at this;exact this
 refine fa (fun r k=>r 8=.map cS/\r 10=.ptr (aj aJ.next) 0/\r 11=rm/\r 65=rm/\r 66=.int .i64 (e0 (g.vars.map Prod.fst)).length/\∃(i:Nat) (an:Nat->Nat) (md:List (Nat × aM)) (ix:List (Nat × Bool)),r 67=.int .i64 i/\i<=(e0 (g.vars.map Prod.fst)).length/\mh k g π bR an bN cS/\k4 k g π bR an bN aJ.next (aj h.next) (aj aa.next) (aj ad.next) md ix/\Way an ρ/\
  r0 g (cy g E) ρ md []/\(∀i,(hL i ix).getD false=decide (i ∈ ([]:List Nat)))/\(∀j ∈ ix.map Prod.fst,j<g.N)/\(∀(a:Nat) (n:Int) (j:Nat),a<i->(keyed g)[a]? =some (n,j)->∃t,(ρ j,t) ∈ md)/\Ext aW k/\Mod (rY g π (aj h.next) (aj aa.next) (aj ad.next)) dD k) (fun r k=>(e0 (g.vars.map Prod.fst)).length - (r 67).toN) ?_ ?_
 . exact ⟨by simp only [dW,↓al,bs,simprocAttr],by simp only [↓al,bs,simprocAttr],by simp only [↓al,bs,simprocAttr],by simp only [↓al,bs,simprocAttr],by simp only [↓al,bs,simprocAttr],0,w,[],[],by simp only [↓al,bs,simprocAttr]<;>rfl,Nat.zero_le _,tx,Ys,U.Df,⟨fun p af=>(by cases af),by simp,fun p af=>(by cases af)⟩,fun i=>(by simp [hL]),fun j aU=>(by simp at aU),fun a n j a1=>by omega,fl.trans Y1,Mod.refl _ _⟩
 clear dW;rintro r k ⟨dW,gQ,ja,Ms,Mt,i,an,md,ix,Mu,ao,gV,f',qM,D,ks,ns,fy,eb,xZ⟩;have Ob:∀b,rm.aN b->¬rY g π (aj h.next) (aj aa.next) (aj ad.next) b:=fun b q z=>by
  have ae:=Yj b q;rcases z with ⟨a,a1,z⟩ | z | z | z
  . have:=zG a a1;rw [z,b9] at ae;omega
  . rw [z,b9] at ae;omega
  . rw [z,b9] at ae;omega
  . rw [z,b9] at ae;omega
 have tv:fG k 1 rm _ _:=AF.mod xZ Ob;have yR:(keyed g).length=(e0 (g.vars.map Prod.fst)).length:=by unfold keyed;rw [List.length_map]
 have Se:∀b,rY g π (aj h.next) (aj aa.next) (aj ad.next) b->aW.next<=cB b:=fun b z=>by
  rcases z with ⟨a,a1,z⟩ | z | z | z
  . have:=U.xb a a1;rw [z,b9];omega
  . rw [z,b9];omega
  . rw [z,b9];omega
  . rw [z,b9];omega
 unfold Iz;by_cases aO:i < (e0 (g.vars.map Prod.fst)).length
 . have g0:((i:Int) < ((e0 (g.vars.map Prod.fst)).length:Int))=True:=eq_true (by omega);obtain ⟨j,aL,aP,bf,c4,gj,gM⟩:=Li U.W aO;generalize aV:(e0 (g.vars.map Prod.fst))[i]=n at *;have aU:=hn bf;obtain ⟨vC,iQ,K6,Hm⟩:=tv.cH (k:=.i64) aO;have Co:=Hm.d' (i:=i) (by rw [FY];exact aO);have yS:(lY (e0 (g.vars.map Prod.fst)))[i]'(by rw [FY];exact aO)=.int .i64 n:=by rw [<-aV];simp [lY]
   rw [yS,show iQ+i=iQ+i * 1 by omega] at Co;have hF:=gV.mp.look n .ee false;rw [aP] at hF;simp only [cond_false] at hF;have dv:IntKind.i64.wrap ((i:Int)+1)=((i+1:Nat):Int):=by rw [wrap_i64 (by omega) (by omega)];rfl
   simp +contextual only [dW,gQ,Ms,Mt,Mu,ja,g0,K6,Co,hF,mV.eq,↓al,aG,simprocAttr];refine cK (Uv U.W (by omega) U.S U.J U.L (g.N+1) [] j an md ix k (by simp) aU f' qM (by simp) (fun q aC=>by cases aC) D ks ns) ?_;rintro v bx ⟨M2,⟨rfl,Bq⟩ | ⟨rfl,b2,Cv,L0,t,rU,k6,XZ,FG,sA,sB,ae2⟩⟩
   . have aE:=WE U.J.j5 Bq;simp +contextual only [↓al,aG,simprocAttr];exact cM _ _ .bB (by simp only [↓al,bs,simprocAttr]) (by simp only [aE,↓al,bs,simprocAttr]) (by rw [aE];exact fR.nil _ _) (eb.h1 M2 Se)
   . simp +contextual only [dW,gQ,Ms,Mt,Mu,ja,dv,↓al,aG,simprocAttr];refine ⟨⟨i+1,b2,Cv,L0,rfl,aO,⟨rU.gl,gV.mp.mod M2 fun z=>?_,gV.s1,gV.s2⟩,rU,k6,XZ,sA,sB,fun a m b a1 e=>?_,eb.h1 M2 Se,xZ.trans M2⟩,by omega⟩
     . rcases z with ⟨a,a1,z⟩ | z | z | z
       . exact gV.s1 a a1 z
       . rw [z,b9] at Kx;omega
       . rw [z,b9] at Kx;omega
       . rw [z,b9] at Kx;omega
     . by_cases c:a<i
       . obtain ⟨u,hu⟩:=fy a m b c e;exact ⟨u,FG _ hu⟩
       . have:a=i:=by omega
         subst this;rw [gM] at e;cases e;exact ⟨t,ae2⟩
 . have g0:((i:Int) < ((e0 (g.vars.map Prod.fst)).length:Int))=False:=eq_false (by omega);have SB:∀(n:Int) (j:Nat),e_ n g.vars=some j->∃t,(ρ j,t) ∈ md:=fun n j aA=>by
    have hm:n ∈ e0 (g.vars.map Prod.fst):=WI.2 (List.mem_map_of_mem (f:=Prod.fst) (Ud aA));obtain ⟨a,a1,e⟩:=List.getElem_of_mem hm;obtain ⟨Ce,aL,aP,bf,c4,gj,gM⟩:=Li U.W a1;rw [e] at aP gM;rw [aA] at aP;cases aP;exact fy a n j (by omega) gM
   have ec:∀j,j<g.N->∃t,dJ g (cy g E) j t:=fun j aU=>by refine dJ.all gA U.W (fun a aL e c=>?_) (j+1) j (by omega) aU;obtain ⟨t,av⟩:=SB _ _ (U.W.var a aL e c).2.2.2;have EA:=D.all _ av;exact ⟨t,EA.2.2.1.l_ gA (U.J.done.2 (U.S.idem a))⟩
   simp +contextual only [dW,gQ,Ms,Mt,Mu,ja,g0,↓al,aG,simprocAttr];exact aoe (B:=B) (aW:=aW) (by omega) eb sr wm ⟨U.W,U.S,U.J,U.L,qM,U.nJ,gV,U.xb,U.zu⟩ f' (by omega) (by rw [b9];omega) (by rw [b9];omega) (by rw [b9];omega) (by omega) tv (fun b a a1 q z=>Ob b q (.inl ⟨a,a1,z⟩)) D ec SB (by simp only [dW,↓al,bs,simprocAttr]) (by simp only [gQ,↓al,bs,simprocAttr]) (by simp only [ja,↓al,bs,simprocAttr]) cM
theorem C_ {a b:List aM} (h:¬(a.length=b.length/\(∀t ∈ a,t.check=0)/\(∀t ∈ b,t.check=0))):rP a b=([],2):=by
 unfold rP
 split
 . rename_i q;exact absurd q h
 . rfl
theorem Xl {a b:List aM} (h:a.length=b.length/\(∀t ∈ a,t.check=0)/\(∀t ∈ b,t.check=0)):rP a b=jv (iV (a.zip b) (⟨[],[]⟩,[])).1 (iV (a.zip b) (⟨[],[]⟩,[])).2:=by
 unfold rP
 split
 . rfl
 . rename_i q;exact absurd h q
theorem yd {t:aM} (h:t.check=0):t.lr=true:=Ws t (abH h).1
theorem aoc (a b:List aM) (a1:cE a<=1000) (ae:cE b<=1000) (hh gf:V) (h:ah) (kj:dc Any h 4 (a.map aM.enc) hh) (hU:dc Any h 4 (b.map aM.enc) gf):
 de Tryz.prog 13 [hh,gf] h fun x ab=>(∃c2,x=.tuple [c2,.int .i64 (rP a b).2]/\fR ab (ew h.next ab.next) (rP a b).1 c2)/\Ext h ab:=by
 have dZ:=kj.len;have eS:=hU.len;rw [List.length_map] at dZ eS;have SG:=qw a;have q_:=qw b;have db:=kj.one;have dp:=hU.one;refine aat.z rfl (dM ?_);rw [aau];by_cases aA:a.length=b.length
 rotate_left
 . have fq:((a.length:Int)=(b.length:Int))=False:=eq_false (by omega);have hu:=C_ (a:=a) (b:=b) fun q=>aA q.1;simp +contextual only [dZ,eS,fq,db.1,db.2.1,dp.1,dp.2.1,hu,↓al,aG,simprocAttr];exact ⟨⟨_,rfl,fR.nil _ _⟩,Ext.refl h⟩
 have fq:((a.length:Int)=(b.length:Int))=True:=eq_true (by omega);obtain ⟨aa,ar,aP,u_⟩:=h7 h [hh,gf];have cT:=aP.next
 simp +contextual only [dZ,eS,fq,db.1,db.2.1,db.2.2,dp.1,dp.2.1,dp.2.2,ar,↓al,aG,simprocAttr];refine cK (abP a b (by omega) (by omega) h.next hh gf aa u_ (kj.ext aP) (hU.ext aP)) ?_;rintro xs ad ⟨HU,bf⟩;have cm:=aP.trans bf;have l3:=HU.len;have fs:=HU.one;rw [List.length_map] at l3;have hlen:(a++b).length<=2000:=by rw [List.length_append];omega
 have afu:cE (a++b)<=2000:=by rw [s4];omega
 simp +contextual only [l3,fs.1,fs.2.1,↓al,aG,simprocAttr];refine fa (fun r k=>r 0=hh/\r 1=gf/\r 26=xs/\r 27=.int .i64 (a++b).length/\∃i:Nat,r 28=.int .i64 i/\i<=(a++b).length/\(∀t ∈ (a++b).take i,t.check=0)/\Ext ad k) (fun r k=>(a++b).length - (r 28).toN) ?_ ?_
 . exact ⟨by simp only [↓al,bs,simprocAttr],by simp only [↓al,bs,simprocAttr],by simp only [↓al,bs,simprocAttr],by simp only [↓al,bs,simprocAttr],0,by simp only [↓al,bs,simprocAttr]<;>rfl,Nat.zero_le _,fun t av=>(by simp at av),Ext.refl _⟩
 rintro r k ⟨bt,br,oI,mJ,i,s6,ao,gZ,eb⟩;unfold Ix;by_cases aO:i < (a++b).length
 . have g0:((i:Int) < ((a++b).length:Int))=True:=eq_true (by omega);obtain ⟨lF,off,wl,cH,X,mZ,ld⟩:=aM.c0 (HU.ext eb) (k:=.i64) aO;have A_:=ld k (Ext.refl k);have kT:=mZ.one;have cq:(a++b)[i].size<=2000:=Nat.le_trans (zP (List.getElem_mem aO)) afu;obtain ⟨bz,e1,bA,Z⟩:=n' k z4 (fT (a++b)[i] wl);have dv:IntKind.i64.wrap ((i:Int)+1)=((i+1:Nat):Int):=by rw [wrap_i64 (by omega) (by omega)];rfl
   simp +contextual only [bt,br,oI,mJ,s6,g0,cH,A_,e1,Z.g,kT.1,kT.2.1,↓al,aG,simprocAttr];refine cK (I0 (a++b)[i] (by omega) _ bz (X.ext bA)) ?_;rintro x bx ⟨rfl,eB⟩;by_cases aD:(a++b)[i].check=0
   . simp +contextual only [bt,br,oI,mJ,s6,eq_true aD,dv,↓al,aG,simprocAttr];refine ⟨⟨i+1,rfl,aO,fun t av=>?_,(eb.trans bA).trans eB⟩,by omega⟩;rw [List.take_succ_eq_append_getElem aO] at av;rcases List.mem_append.1 av with av | av
     . exact gZ t av
     . rw [List.mem_singleton] at av;rw [av];exact aD
   . have hu:=C_ (a:=a) (b:=b) fun q=>aD (by
      have:=List.getElem_mem aO;rcases List.mem_append.1 this with z | z
      . exact q.2.1 _ z
      . exact q.2.2 _ z)
     simp +contextual only [bt,br,oI,mJ,s6,eq_false aD,hu,↓al,aG,simprocAttr];exact ⟨⟨_,rfl,fR.nil _ _⟩,((cm.trans eb).trans bA).trans eB⟩
 have g0:((i:Int) < ((a++b).length:Int))=False:=eq_false (by omega);rw [List.take_of_length_le (by omega)] at gZ;have q4:∀t ∈ a,t.check=0:=fun t av=>gZ t (List.mem_append_left _ av);have q5:∀t ∈ b,t.check=0:=fun t av=>gZ t (List.mem_append_right _ av);have hu:=Xl (a:=a) (b:=b) ⟨aA,q4,q5⟩;have B7:(a.zip b).length=a.length:=by rw [List.length_zip,aA,Nat.min_self]
 have sN:∀p ∈ a.zip b,p.1.lr=true/\p.2.lr=true:=fun p af=>by obtain ⟨bW,bV⟩:=p;have:=List.of_mem_zip af;exact ⟨yd (q4 _ this.1),yd (q5 _ this.2)⟩
 have LJ:∀g:ah,sV none g=.val (.map (aj g.next)) (g.new (.mp [] 0)):=fun g=>rfl;have mO:=cm.trans eb;have l7:=mO.next
 obtain ⟨bz,cS,aw,om,c4,jF,BH,afg⟩:∃(bz:ah) (cS:aQ),k.new (.mp [] 0)=bz/\aj k.next=cS/\Ext k bz/\je (fun i=>V.ptr (aj i) 0) bz cS ([]:List (Int × Nat))/\h.next<=cB cS/\¬Old h cS:=⟨_,_,rfl,rfl,(Ext.refl k).new _,je.new _ k,by rw [b9];exact l7,Gr l7⟩
 simp +contextual only [bt,br,oI,mJ,s6,g0,LJ,aw,om,dZ,db.1,db.2.1,↓al,aG,simprocAttr];have tr:dc (Old h) h 4 (a.map aM.enc) hh:=kj.rE;have rT:dc (Old h) h 4 (b.map aM.enc) gf:=hU.rE;refine fa (fun r k=>r 0=hh/\r 1=gf/\r 8=.map cS/\r 38=.int .i64 a.length/\∃(i:Nat) (G:bp × List (Nat × Nat)) (π:Nat->Nat) (bR:Nat->V) (w:Nat->Nat) (bN:Nat->Int) (ρ:Nat->Nat),r 39=.int .i64 i/\i<=a.length/\G=iV ((a.zip b).take i) (⟨[],[]⟩,[])/\H5 h.next k G.1 G.2 π bR w bN ρ cS/\
  G.1.N<=cE (a.take i)+cE (b.take i)/\mc G.1<=cE (a.take i)+cE (b.take i)/\G.1.vars.length<=G.1.N/\Ext h k) (fun r k=>a.length - (r 39).toN) ?_ ?_
 . refine ⟨by simp only [bt,↓al,bs,simprocAttr],by simp only [br,↓al,bs,simprocAttr],by simp only [↓al,bs,simprocAttr],by simp only [↓al,bs,simprocAttr],0,(⟨[],[]⟩,[]),fun i=>i,fun _=>.bB,fun i=>i,fun _=>0,fun i=>i,by simp only [↓al,bs,simprocAttr]<;>rfl,Nat.zero_le _,rfl,⟨bp.dX.empty,⟨fun _=>rfl,fun _ h=>h,fun _ _=>rfl,fun a aL e=>(by simp at e)⟩,⟨fun a b e=>e ▸ .refl a,fun p af=>(by cases af),fun p af=>(by cases af),fun a b aL cl e aa=>(by simp at aa)⟩,fun r aE=>absurd aE (Nat.not_lt_zero _),Way.refl,fun i aL e=>(by simp at e),⟨⟨fun i aL e=>(by simp at e),fun i aL e=>(by simp at e),fun i j ao=>absurd ao (Nat.not_lt_zero _),fun i j ao=>absurd ao (Nat.not_lt_zero _)⟩,jF,fun i ao=>absurd ao (Nat.not_lt_zero _),fun i ao=>absurd ao (Nat.not_lt_zero _)⟩,fun i ao=>absurd ao (Nat.not_lt_zero _),BH⟩,?_,?_,Nat.le_refl _,mO.trans c4⟩
   . simp [bp.N]
   . simp [mc]
 clear bt br oI mJ s6 g0 aw c4 jF om eb mO l7 bz r;clear k;rintro r k ⟨bt,br,dW,oJ,i,G,π,bR,w,bN,ρ,s7,ao,kn,U,ZR,ape,AX,eb⟩;unfold Iy;by_cases aO:i<a.length
 . have g0:((i:Int) < (a.length:Int))=True:=eq_true (by omega);have nm:i<b.length:=by omega
   have wM:(a.zip b)[i]? =some (a[i],b[i]):=by rw [List.getElem?_zip_eq_some];exact ⟨List.getElem?_eq_getElem aO,List.getElem?_eq_getElem nm⟩
   have K4:(a.zip b).take (i+1)=(a.zip b).take i++[(a[i],b[i])]:=by
    have B5:i < (a.zip b).length:=by omega
    rw [List.take_succ_eq_append_getElem B5];have:=List.getElem?_eq_getElem B5;rw [this] at wM;rw [Option.some.inj wM]
   have E3:iV ((a.zip b).take (i+1)) (⟨[],[]⟩,[])=mM G (a[i],b[i]):=by rw [K4,OO,<-kn]
   have BZ:=yd (q4 _ (List.getElem_mem aO));have sJ:=yd (q5 _ (List.getElem_mem nm));have alN:=xf aO;have alO:=xf nm;have alQ:=py a (i+1);have alR:=py b (i+1);obtain ⟨Pc,U1,XC,lU,vt,DX,zp⟩:=aM.c0 tr (k:=.i64) aO;obtain ⟨lF,U2,XD,B9,vu,DY,zq⟩:=aM.c0 rT (k:=.i64) nm;have zF:=DX.one;have ej:=DY.one;have dv:IntKind.i64.wrap ((i:Int)+1)=((i+1:Nat):Int):=by rw [wrap_i64 (by omega) (by omega)];rfl
   have vI:=zp k eb;have dG:=zq k eb;simp +contextual only [bt,br,dW,oJ,s7,g0,lU,B9,vI,dG,↓al,aG,simprocAttr];have pd:∀j,j<G.1.N->w j<G.1.N:=fun j aU=>Way.lt U.S U.Df aU;have zd:∀j,G.1.N<=j->w j=j:=fun j aU=>Way.root U.S U.Df (U.S.out j aU);have cc:∀b,Old h b->H0 cS b:=fun b q z=>afg (z ▸ q);refine cK (LZ a[i].size a[i] (Nat.le_refl _) (by omega) BZ G.1 π bR w bN cS _ k U.W pd zd ((vt.ext eb).k1 cc) U.pm) ?_;rintro bA bz ⟨Dn,F4,Gp,rfl,hk,Ot,m1⟩;obtain ⟨yy,AO,XJ,adk⟩:=r5 a[i] G.1 BZ U.W;have ady:=yy.n;have eu:Ext h bz:=eb.h1 m1 fun b q=>by rw [show b=cS from q];exact BH
   have I6:=zp bz eu;have A':=zq bz eu;simp +contextual only [I6,A',↓al,aG,simprocAttr];refine cK (LZ b[i].size b[i] (Nat.le_refl _) (by omega) sJ (a[i].add G.1).1 Dn F4 w Gp cS _ bz AO (fun j aU=>?_) (fun j aU=>zd j (by omega)) ((vu.ext eu).k1 cc) hk) ?_
   . by_cases z:j<G.1.N
     . have:=pd j z;omega
     . rw [zd j (by omega)];exact aU
   rintro eB bx ⟨me,rl,CD,rfl,fE,AJ,m2⟩;obtain ⟨yz,mY,NF,JE⟩:=r5 b[i] _ sJ AO;have JH:=yz.n;have X2:Ext h bx:=eu.h1 m2 fun b q=>by rw [show b=cS from q];exact BH
   have vY:=yy.trans yz;have mi:=U.S.grow vY;have bS:=(U.J.grow U.S mY vY).push (a[i].add G.1).2 (b[i].add (a[i].add G.1).1).2;have HZ:=Ot.trans AJ m1.next yy yz
   have hU:=mg.grow HZ mY U.S U.L vY;have aoE:(a[i].add G.1).2 < (b[i].add (a[i].add G.1).1).1.N:=by omega
   have al1:Dn (a[i].add G.1).2=me (a[i].add G.1).2:=(AJ.pi _ XJ).symm;have aqK:=Ni a[i] G.1;have aqL:=Ni b[i] (a[i].add G.1).1;have v_:=aoD (g:=(b[i].add (a[i].add G.1).1).1) (ρ:=ρ);have Vf:∀j,j < (b[i].add (a[i].add G.1).1).1.N->h.next<=me j:=fun j aU=>by
    by_cases z:j<G.1.N
    . rw [HZ.pi j z];exact U.xb j z
    . have:=HZ.Bk j (by omega) aU;have:=eb.next;omega
   simp +contextual only [al1,↓al,aG,simprocAttr];refine cK (an_ mY (by omega) fE.gl mi U.Df hU bS aoE NF) ?_;rintro v cU ⟨m3,iS,akE,NJ,ig,AN,k6,ui⟩;have mO:Ext h cU:=X2.h1 m3 fun b ⟨j,aU,q⟩=>by rw [q,b9];exact Vf j aU
   have MP:a[i].nJ:=Bc _ _ _ (Nat.le_refl _) vt;have fM:b[i].nJ:=Bc _ _ _ (Nat.le_refl _) vu;rcases ui with ⟨rfl,kL⟩ | ⟨rfl,c7,HT⟩
   . have aes:jv (iV (a.zip b) (⟨[],[]⟩,[])).1 (iV (a.zip b) (⟨[],[]⟩,[])).2=([],290):=by
      refine WB ?_;have afT:iV (a.zip b) (⟨[],[]⟩,[])=iV ((a.zip b).drop (i+1)) (mM G (a[i],b[i])):=by rw [<-E3,<-Zk,List.take_append_drop]
      rw [afT];obtain ⟨b6,z2,z3⟩:=ON ((a.zip b).drop (i+1)) (mM G (a[i],b[i])) (fun p af=>sN p (List.mem_of_mem_drop af)) mY;exact kL.mono b6 z3
     simp +contextual only [bt,br,dW,oJ,s7,hu,aes,vI,dG,I6,A',↓al,aG,simprocAttr];exact ⟨⟨_,rfl,fR.nil _ _⟩,mO⟩
   . simp +contextual only [bt,br,dW,oJ,s7,dv,vI,dG,I6,A',↓al,aG,simprocAttr];have JY:(mM G (a[i],b[i])).1.N<=cE (a.take (i+1))+cE (b.take (i+1)):=by show (b[i].add (a[i].add G.1).1).1.N<=_;omega
     have aej:mc (mM G (a[i],b[i])).1<=cE (a.take (i+1))+cE (b.take (i+1)):=by show mc (b[i].add (a[i].add G.1).1).1<=_;omega
     refine ⟨⟨i+1,mM G (a[i],b[i]),me,rl,iS,akE,NJ,rfl,aO,E3.symm,⟨mY,AN,c7,HT,k6,AR _ _ fM (AR _ _ MP U.nJ),⟨ig,fE.mp.mod m3 fun ⟨j,aU,q⟩=>fE.s1 j aU q,fE.s1,fE.s2⟩,Vf,BH⟩,JY,aej,AS _ _ (AS _ _ AX),mO⟩,by omega⟩
 . have g0:((i:Int) < (a.length:Int))=False:=eq_false (by omega);rw [List.take_of_length_le (by omega)] at kn;have bW:=py a i;have bV:=py b i;simp +contextual only [bt,br,dW,oJ,s7,g0,↓al,aG,simprocAttr];refine aod (B:=h.next) eb rfl (by omega) AX U (by simp only [dW,↓al,bs,simprocAttr]) fun r k c2 gj gM O E=>?_;rw [kn] at gM O;simp only [gj,gM,hu,↓al,bs,simprocAttr];exact ⟨trivial,⟨c2,rfl,O⟩,E⟩
theorem RR {size:Nat} {y:V}:∀(us:List (List V)) (i j:Nat) (u:List V),(∀u ∈ us,u.length=size)->us[i]? =some u->j<size->us.flatten.set (i * size+j) y=(us.set i (u.set j y)).flatten
 | [],i,j,u,_,h,_=>by simp at h
 | w::us,0,j,u,aA,h,aU=>by simp only [List.getElem?_cons_zero,Option.some.injEq] at h;subst h;have:=aA w (by simp);rw [Nat.zero_mul,Nat.zero_add,List.flatten_cons,List.set_append_left _ _ (by omega),List.set_cons_zero,List.flatten_cons]
 | w::us,i+1,j,u,aA,h,aU=>by have aa:=aA w (by simp);rw [List.flatten_cons,List.set_append_right _ _ (by rw [aa,Nat.succ_mul];omega),List.set_cons_succ,List.flatten_cons];congr 1;rw [aa,show (i+1) * size+j-size=i * size+j by rw [Nat.succ_mul];omega];exact RR us i j u (fun u hu=>aA u (by simp [hu])) (by simpa using h) aU
section
variable [Lay]
abbrev mF (aL:dw) (l:V) (w:Nat):List V:=[.int .i64 (if aL.ch=true then 2 else 1),.int .i64 aL.n,.str aL.s,.bB,l,.int .i64 w]
def oH (g:bp) (bQ:Nat->V) (w:Nat->Nat):List (List V):=g.nodes.mapIdx fun i aL=>mF aL (bQ i) (w i)
def rR (l:List (Int × Nat)):List (List V):=l.map fun p=>[.int .i64 p.1,.int .i64 0,.int .i64 p.2,.str [],.bB]
theorem CE {g:bp} {bQ:Nat->V} {w:Nat->Nat} (i:Nat):(oH g bQ w)[i]? =g.nodes[i]?.map fun aL=>mF aL (bQ i) (w i):=by unfold oH;rw [List.getElem?_mapIdx]
theorem LY (g:bp) (bQ:Nat->V) (w:Nat->Nat):(oH g bQ w).length=g.N:=by unfold oH bp.N;rw [List.length_mapIdx]
theorem Gt (g:bp) (bQ:Nat->V) (w:Nat->Nat):∀u ∈ oH g bQ w,u.length=6:=fun u hu=>by
 obtain ⟨i,ao⟩:=List.getElem?_of_mem hu;rw [CE] at ao;cases h:g.nodes[i]? with
 | none=>rw [h] at ao;cases ao
 | some aL=>rw [h] at ao;cases ao;rfl
theorem Xx (l:List (Int × Nat)):∀u ∈ rR l,u.length=5:=fun u hu=>by unfold rR at hu;obtain ⟨p,_,rfl⟩:=List.mem_map.1 hu;rfl
structure eK (B:Nat) (h:ah) (bO:Nat) (g:bp) (bQ:Nat->V) (w:Nat->Nat) (bad:Bool) (b1 b':V):Prop where
 aB:Has h bO [b1,b',.bool bad]
 no:cJ B h 6 b1 g.N (oH g bQ w).flatten
 j4:cJ B h 5 b' g.vars.length (rR g.vars).flatten
 c0:∀(i:Nat) (aL:dw),g.nodes[i]? =some aL->fG h 1 (bQ i) aL.kids.length (lY (aL.kids.map fun (x:Nat)=>(x:Int)))/\s9 (bQ i)/\aL.kids.length<=top
 lk:∀(i:Nat) (b:aQ),i<g.N->(bQ i).aN b->B<=cB b/\¬b1.aN b/\¬b'.aN b/\b≠aj bO
 vW:B<=bO
 rz:¬b1.aN (aj bO)
 ti:¬b'.aN (aj bO)
 uF:∀b,b1.aN b->¬b'.aN b
variable {B:Nat} {h ab:ah} {bO:Nat} {g:bp} {bQ:Nat->V} {w:Nat->Nat} {bad:Bool} {b1 b':V}
theorem eK.mod {M:aQ->Prop} (H:eK B h bO g bQ w bad b1 b') (m:Mod M h ab) (aW:¬M (aj bO)) (aa:∀b,b1.aN b->¬M b) (ad:∀b,b'.aN b->¬M b) (aJ:∀i b,i<g.N->(bQ i).aN b->¬M b):eK B ab bO g bQ w bad b1 b':=
 ⟨H.aB.mod m aW,H.no.mod m aa,H.j4.mod m ad,fun i aL e=>⟨(H.c0 i aL e).1.mod m fun b q=>aJ i b (hn e) q,(H.c0 i aL e).2⟩,H.lk,H.vW,H.rz,H.ti,H.uF⟩
theorem eK.ext (H:eK B h bO g bQ w bad b1 b') (e:Ext h ab):eK B ab bO g bQ w bad b1 b':=H.mod (e.mod fun _=>False) (fun q=>q) (fun _ _ q=>q) (fun _ _ q=>q) fun _ _ _ _ q=>q
theorem eK.at (H:eK B h bO g bQ w bad b1 b') {a:Nat} {aL:dw} (e:g.nodes[a]? =some aL):
 ∃b off,ka 6 b1 (.int .i64 a)=some (.ptr b (off+a * 6))/\b1.at b off/\b1.aN b/\(∀ab:ah,(∀b,b1.aN b->ab.get b=h.get b)->pk 6 (ab.get b) (off+a * 6)=some (.agg (mF aL (bQ a) (w a)))/\ia (ab.get b) (off+a * 6)=some (.int .i64 (if aL.ch=true then 2 else 1))/\
  ia (ab.get b) (off+a * 6+1)=some (.int .i64 aL.n)/\ia (ab.get b) (off+a * 6+2)=some (.str aL.s)/\ia (ab.get b) (off+a * 6+4)=some (bQ a)/\ia (ab.get b) (off+a * 6+5)=some (.int .i64 (w a))):=by
 have a1:=hn e;obtain ⟨b,off,cH,A⟩:=H.no.v.cH (k:=.i64) a1;have vy:=O8 H.no.v a1 cH;have ae:b1.aN b:=by revert vy;cases b1<;>simp only [V.at,V.aN]<;>intro vy<;>first | exact vy.1 | exact vy.elim
 have hu:(oH g bQ w)[a]? =some (mF aL (bQ a) (w a)):=by rw [CE,e];rfl
 have az:=yw _ a _ (Gt g bQ w) hu;have jP:=sq _ (Gt g bQ w);rw [LY] at jP;have hle:a * 6+6<=g.N * 6:=by have:=Nat.mul_le_mul_right 6 (show a+1<=g.N from a1);rw [Nat.succ_mul] at this;exact this
 have cell:∀j,j<6->ia (h.get b) (off+a * 6+j)=(mF aL (bQ a) (w a))[j]? :=fun j aU=>A.cell az (by omega) aU;refine ⟨b,off,cH,vy,ae,fun ab bl=>?_⟩;rw [bl b ae];refine ⟨by rw [A.iM (by omega),az],?_,cell 1 (by omega),cell 2 (by omega),cell 4 (by omega),cell 5 (by omega)⟩;have:=cell 0 (by omega);simpa using this
theorem eK.put (H:eK B h bO g bQ w bad b1 b') {a:Nat} {aL:dw} (e:g.nodes[a]? =some aL) {b:aQ} {off:Nat} (aa:b1.at b off) (c:Nat):
 ∃ab,qh 1 h b (off+a * 6+5) (.int .i64 c) (h.get b)=some ab/\eK B ab bO g bQ (fun x=>if x=a then c else w x) bad b1 b'/\Mod b1.aN h ab/\ab.next=h.next:=by
 have a1:=hn e;have jP:=sq _ (Gt g bQ w);rw [LY] at jP;have hle:a * 6+6<=g.N * 6:=by have:=Nat.mul_le_mul_right 6 (show a+1<=g.N from a1);rw [Nat.succ_mul] at this;exact this
 obtain ⟨k,ar,_,aw,aK⟩:=H.no.VN aa (c:=a * 6+5) (by omega) (y:=.int .i64 c) rfl rfl;have hu:(oH g bQ w)[a]? =some (mF aL (bQ a) (w a)):=by rw [CE,e];rfl
 rw [RR _ a 5 _ (Gt g bQ w) hu (by omega)] at aw;have m:Mod b1.aN h (h.set b k):=(Mod.refl b1.aN h).set (fun _=>aK) k;have heq:(oH g bQ w).set a ((mF aL (bQ a) (w a)).set 5 (.int .i64 c))=oH g bQ (fun x=>if x=a then c else w x):=by
  refine List.ext_getElem? fun i=>?_;rw [CE,List.getElem?_set];by_cases z:a=i
  . subst z;rw [if_pos rfl,if_pos (by rw [LY];exact a1),e];simp
  . rw [if_neg z,CE,if_neg (fun q=>z q.symm)]
 rw [heq] at aw;refine ⟨h.set b k,by rw [Nat.add_assoc];exact ar,⟨H.aB.mod m H.rz,aw,H.j4.mod m fun x q z=>H.uF x z q,fun i aL e=>⟨(H.c0 i aL e).1.mod m fun x q z=>(H.lk i x (hn e) q).2.1 z,(H.c0 i aL e).2⟩,H.lk,H.vW,H.rz,H.ti,H.uF⟩,m,rfl⟩
end
theorem xl {B:Nat} {h:ah} {bO:Nat} {g:bp} {bQ:Nat->V} {w:Nat->Nat} {bad:Bool} {b1 b':V} {ρ:Nat->Nat} (H:eK B h bO g bQ w bad b1 b') (S:eP g ρ) (eW:Way w ρ) {a:Nat} (a1:a<g.N):
 de Tryz.prog 82 [.ptr (aj bO) 0,.int .i64 a] h fun x ab=>x=.int .i64 (ρ a)/\ab=h:=by
 obtain ⟨eM,R⟩:=eW;have on:=H.no.v.one;refine aba.z rfl (dM ?_);unfold Qz;simp +contextual only [↓al,aG,simprocAttr];refine fa (fun r k=>k=h/\r 0=.ptr (aj bO) 0/\∃b:Nat,b<g.N/\r 1=.int .i64 b/\ρ b=ρ a) (fun r _=>eM (r 1).toN) ?_ ?_
 . exact ⟨rfl,by simp only [↓al,bs,simprocAttr],a,a1,by simp only [↓al,bs,simprocAttr],rfl⟩
 rintro r k ⟨rfl,bt,b,ae,br,e⟩;obtain ⟨cc,EB⟩:=hK ae;obtain ⟨lF,off,cH,_,_,ld⟩:=H.at EB;obtain ⟨_,_,_,_,_,Ln⟩:=ld k fun _ _=>rfl;unfold QA;by_cases q:w b=b
 . have Jl:ρ a=b:=by rw [<-e];exact Way.end ⟨eM,R⟩ q
   rw [q] at Ln;simp +contextual only [bt,br,H.aB.g,cH,Ln,on.1,on.2.1,decide_true,↓al,aG,simprocAttr];rw [Jl]
 . have dV:((w b:Int)=(b:Int))=False:=eq_false (by omega);have hw:=Way.lt S ⟨eM,R⟩ ae;simp +contextual only [bt,br,H.aB.g,cH,Ln,dV,on.1,on.2.1,↓al,aG,simprocAttr];refine ⟨⟨w b,hw,rfl,(Way.step ⟨eM,R⟩ b).trans e⟩,?_⟩;simp only [Int.toNat_natCast];rcases R b with z | ⟨_,z,_⟩
   . exact (q z.1).elim
   . exact z
theorem akN (g:bp) (bQ:Nat->V) (w:Nat->Nat) (aL:dw) (l:V):oH ⟨g.nodes++[aL],g.vars⟩ (eU bQ g.N l) w=oH g bQ w++[mF aL l (w g.N)]:=by
 unfold oH;show (g.nodes++[aL]).mapIdx _=_;rw [List.mapIdx_append];congr 1
 . refine List.ext_getElem? fun i=>?_;rw [List.getElem?_mapIdx,List.getElem?_mapIdx];cases e:g.nodes[i]? with
   | none=>rfl
   | some x=>
     have:=(List.getElem?_eq_some_iff.1 e).1;simp only [Option.map_some];rw [eA _ _ (by unfold bp.N;omega)]
 . simp only [List.mapIdx_cons,List.mapIdx_nil,Nat.zero_add];rw [show g.nodes.length=g.N from rfl,fu]
theorem aoj (l:List (Int × Nat)) (p:Int × Nat):(rR (l++[p])).flatten=(rR l).flatten++[.int .i64 p.1,.int .i64 0,.int .i64 p.2,.str [],.bB]:=by unfold rR;simp
section
variable [Lay]
variable {B:Nat} {h ab:ah} {bO:Nat} {g:bp} {bQ:Nat->V} {w:Nat->Nat} {bad:Bool} {b1 b':V}
theorem eK.push (H:eK B h bO g bQ w bad b1 b') (da:B<=h.next) (bJ:(g.N+1) * 6<=top) (aL:dw) (l:V) (bC:l.one=true) (aH:fG h 1 l aL.kids.length (lY (aL.kids.map fun (x:Nat)=>(x:Int)))) (aE:s9 l) (aA:aL.kids.length<=top) (ae:∀b,l.aN b->B<=cB b/\¬b1.aN b/\¬b'.aN b/\b≠aj bO):
 ∃gx ab,ij 6 b1 (.slice (aj h.next) 0 1 1) (h.new (.bE (mF aL l (w g.N)) 0 false))=.val gx ab/\gx.one=true/\gx.cells=[gx]/\Has ab bO [b1,b',.bool bad]/\Mod b1.aN h ab/\h.next+1<=ab.next/\
  eK B (ab.set (aj bO) (.bE [gx,b',.bool bad] 0 false)) bO ⟨g.nodes++[aL],g.vars⟩ (eU bQ g.N l) w bad gx b'/\Mod (fun b=>b=aj bO\/b1.aN b) h (ab.set (aj bO) (.bE [gx,b',.bool bad] 0 false))/\(∀b,gx.aN b->b1.aN b\/h.next<cB b):=by
 obtain ⟨gx,ab,bW,bV,b8,gH,i_⟩:=qO (cs:=mF aL l (w g.N)) (by omega) H.no da bJ rfl (by simp only [eI,Bool.and_true,bC];rfl);have dB:=bV.v.one;have m1:Mod (fun b=>b=aj bO\/b1.aN b) h ab:=b8.mono fun b _ q=>.inr q;have m2:Mod (fun b=>b=aj bO\/b1.aN b) h (ab.set (aj bO) (.bE [gx,b',.bool bad] 0 false)):=m1.set (fun _=>.inl rfl) _;have m3:Mod (fun b=>b=aj bO) ab (ab.set (aj bO) (.bE [gx,b',.bool bad] 0 false)):=(Mod.refl (fun b=>b=aj bO) ab).set (fun _=>rfl) _;have lN:=H.aB.lt;have fresh:∀b,Old h b->¬b1.aN b->¬gx.aN b:=fun b a6 aV q=>by
  rcases i_ b q with q | q
  . exact aV q
  . unfold Old at a6;omega
 have UH:¬gx.aN (aj bO):=fresh _ (fW lN) H.rz;have Lm:∀i b,i<g.N->(bQ i).aN b->Old h b:=fun i b ao q=>by obtain ⟨x,e⟩:=hK ao;exact (H.c0 i x e).1.bF q
 refine ⟨gx,ab,bW,dB.1,dB.2.1,H.aB.mod b8 H.rz,b8,gH,⟨?_,?_,?_,?_,?_,H.vW,UH,H.ti,?_⟩,m2,i_⟩
 . exact (H.aB.mod b8 H.rz).put _
 . rw [akN,List.flatten_append,List.flatten_singleton];have:(⟨g.nodes++[aL],g.vars⟩:bp).N=g.N+1:=by simp [bp.N]
   rw [this];exact bV.mod m3 fun b q z=>UH (by rw [<-show b=aj bO from z];exact q)
 . exact H.j4.mod m2 fun b q z=>by
    rcases z with z | z
    . exact H.ti (by rw [<-z];exact q)
    . exact H.uF b z q
 . intro i x e;rcases oc e with e | ⟨c_,rfl⟩
   . rw [eA _ _ (by have:=hn e;omega)];refine ⟨(H.c0 i x e).1.mod m2 fun b q z=>?_,(H.c0 i x e).2⟩;obtain ⟨_,bx,_,dr⟩:=H.lk i b (hn e) q;rcases z with z | z
     . exact dr z
     . exact bx z
   . rw [show i=g.N from c_,fu];refine ⟨aH.mod m2 fun b q z=>?_,aE,aA⟩;obtain ⟨_,bx,_,dr⟩:=ae b q;rcases z with z | z
     . exact dr z
     . exact bx z
 . intro i b ao q;have hB:i<g.N+1:=by simpa [bp.N] using ao
   by_cases z:i=g.N
   . rw [z,fu] at q;obtain ⟨bz,bx,cU,dr⟩:=ae b q;exact ⟨bz,fresh b (aH.bF q) bx,cU,dr⟩
   . rw [eA _ _ z] at q;obtain ⟨bz,bx,cU,dr⟩:=H.lk i b (by omega) q;exact ⟨bz,fresh b (Lm i b (by omega) q) bx,cU,dr⟩
 . intro b q z;exact fresh b (H.j4.v.bF z) (fun y=>H.uF b y z) q
theorem eK.alX (H:eK B h bO g bQ w bad b1 b') (da:B<=h.next) (bJ:(g.vars.length+1) * 5<=top) (n:Int) (i:Nat):
 ∃gn ab,ij 5 b' (.slice (aj h.next) 0 1 1) (h.new (.bE [.int .i64 n,.int .i64 0,.int .i64 i,.str [],.bB] 0 false))=.val gn ab/\gn.one=true/\gn.cells=[gn]/\Has ab bO [b1,b',.bool bad]/\Mod b'.aN h ab/\h.next+1<=ab.next/\
  eK B (ab.set (aj bO) (.bE [b1,gn,.bool bad] 0 false)) bO ⟨g.nodes,g.vars++[(n,i)]⟩ bQ w bad b1 gn/\Mod (fun b=>b=aj bO\/b'.aN b) h (ab.set (aj bO) (.bE [b1,gn,.bool bad] 0 false))/\(∀b,gn.aN b->b'.aN b\/h.next<cB b):=by
 obtain ⟨gn,ab,bW,bV,b8,gH,i_⟩:=qO (cs:=[.int .i64 n,.int .i64 0,.int .i64 i,.str [],.bB]) (by omega) H.j4 da bJ rfl rfl;have dB:=bV.v.one;have m1:Mod (fun b=>b=aj bO\/b'.aN b) h ab:=b8.mono fun b _ q=>.inr q;have m2:Mod (fun b=>b=aj bO\/b'.aN b) h (ab.set (aj bO) (.bE [b1,gn,.bool bad] 0 false)):=m1.set (fun _=>.inl rfl) _;have m3:Mod (fun b=>b=aj bO) ab (ab.set (aj bO) (.bE [b1,gn,.bool bad] 0 false)):=(Mod.refl (fun b=>b=aj bO) ab).set (fun _=>rfl) _;have lN:=H.aB.lt;have fresh:∀b,Old h b->¬b'.aN b->¬gn.aN b:=fun b a6 aV q=>by
  rcases i_ b q with q | q
  . exact aV q
  . unfold Old at a6;omega
 have Xt:¬gn.aN (aj bO):=fresh _ (fW lN) H.ti;have Lm:∀i b,i<g.N->(bQ i).aN b->Old h b:=fun i b ao q=>by obtain ⟨x,e⟩:=hK ao;exact (H.c0 i x e).1.bF q
 refine ⟨gn,ab,bW,dB.1,dB.2.1,H.aB.mod b8 H.ti,b8,gH,⟨?_,?_,?_,?_,?_,H.vW,H.rz,Xt,?_⟩,m2,i_⟩
 . exact (H.aB.mod b8 H.ti).put _
 . exact H.no.mod m2 fun b q z=>by
    rcases z with z | z
    . exact H.rz (by rw [<-z];exact q)
    . exact H.uF b q z
 . rw [aoj,List.length_append];exact bV.mod m3 fun b q z=>Xt (by rw [<-show b=aj bO from z];exact q)
 . intro j x e;refine ⟨(H.c0 j x e).1.mod m2 fun b q z=>?_,(H.c0 j x e).2⟩;obtain ⟨_,_,cU,dr⟩:=H.lk j b (hn e) q;rcases z with z | z
   . exact dr z
   . exact cU z
 . intro j b ao q;obtain ⟨bz,bx,cU,dr⟩:=H.lk j b ao q;exact ⟨bz,bx,fresh b (Lm j b ao q) cU,dr⟩
 . intro b q z;exact fresh b (H.no.v.bF q) (H.uF b q) z
end
structure oS (g cC:bp) (bQ ln:Nat->V) (b1 gx b' gn:V) (B:Nat):Prop where
 bQ:∀i,i<g.N->ln i=bQ i
 so:∀(i:Nat) (b:aQ),g.N<=i->i<cC.N->(ln i).aN b->B<=cB b
 cc:∀b,gx.aN b->b1.aN b\/B<=cB b
 gf:∀b,gn.aN b->b'.aN b\/B<=cB b
theorem oS.refl (g:bp) (bQ:Nat->V) (b1 b':V) (B:Nat):oS g g bQ bQ b1 b1 b' b' B:=⟨fun _ _=>rfl,fun i b h ab=>by omega,fun _ q=>.inl q,fun _ q=>.inl q⟩
theorem oS.trans {g g1 g2:bp} {bQ Ge w1:Nat->V} {b1 Gu rB b' Hg xF:V} {B u_:Nat} (a:oS g g1 bQ Ge b1 Gu b' Hg B) (b:oS g1 g2 Ge w1 Gu rB Hg xF u_) (da:B<=u_) (aa:g.le g1):oS g g2 bQ w1 b1 rB b' xF B:=by
 have cT:=aa.n;refine ⟨fun i ao=>(b.bQ i (by omega)).trans (a.bQ i ao),fun i c ao hB q=>?_,fun c q=>?_,fun c q=>?_⟩
 . by_cases z:i<g1.N
   . rw [b.bQ i z] at q;exact a.so i c ao z q
   . have:=b.so i c (by omega) hB q;omega
 . rcases b.cc c q with q | q
   . exact a.cc c q
   . exact .inr (by omega)
 . rcases b.gf c q with q | q
   . exact a.gf c q
   . exact .inr (by omega)
theorem ajW {n:Int}:∀(l:List (Int × Nat)) (i:Nat) (p:Int × Nat),(l.map Prod.fst).Nodup->l[i]? =some p->p.1=n->e_ n l=some p.2
 | [],i,p,_,h,_=>by simp at h
 | q::l,0,p,aV,h,e=>by simp only [List.getElem?_cons_zero,Option.some.injEq] at h;subst h;obtain ⟨a,b⟩:=q;simp only [e_,show a=n from e,if_true]
 | q::l,i+1,p,aV,h,e=>wX aV (by have:p ∈ q::l:=List.mem_of_getElem? h;obtain ⟨a,b⟩:=p;cases e;exact this)
theorem Ug {n:Int}:∀(l:List (Int × Nat)),(∀(i:Nat) (p:Int × Nat),l[i]? =some p->p.1≠n)->e_ n l=none
 | [],_=>rfl
 | (a,b)::l,h=>by simp only [e_];rw [if_neg (show ¬n=a from fun q=>h 0 _ rfl q.symm)];exact Ug l fun i p e=>h (i+1) p (by simpa using e)
theorem aoi {l:List (Int × Nat)} {i:Nat} {p:Int × Nat} (e:l[i]? =some p):(rR l)[i]? =some [.int .i64 p.1,.int .i64 0,.int .i64 p.2,.str [],.bB]:=by unfold rR;rw [List.getElem?_map,e];rfl
theorem eK.Nr [Lay] {B:Nat} {h:ah} {bO:Nat} {g:bp} {bQ:Nat->V} {w:Nat->Nat} {bad:Bool} {b1 b':V} (H:eK B h bO g bQ w bad b1 b') {a:Nat} {p:Int × Nat} (e:g.vars[a]? =some p):
 ∃b off,ka 5 b' (.int .i64 a)=some (.ptr b (off+a * 5))/\b'.aN b/\(∀ab:ah,(∀b,b'.aN b->ab.get b=h.get b)->ia (ab.get b) (off+a * 5)=some (.int .i64 p.1)/\ia (ab.get b) (off+a * 5+1+1)=some (.int .i64 p.2)):=by
 have a1:=(List.getElem?_eq_some_iff.1 e).1;obtain ⟨b,off,cH,A,ae⟩:=H.j4.v.ov (k:=.i64) a1;have az:=yw _ a _ (Xx g.vars) (aoi e);have jP:=sq _ (Xx g.vars);rw [show (rR g.vars).length=g.vars.length by simp [rR]] at jP;refine ⟨b,off,cH,ae,fun ab bl=>?_⟩;rw [bl b ae];have tI:=A.cell (j:=0) az (by omega) (by omega);exact ⟨by simpa using tI,A.cell (j:=2) az (by omega) (by omega)⟩
theorem amH {B:Nat} {h:ah} {bO:Nat} {g:bp} {bQ:Nat->V} {w:Nat->Nat} {bad:Bool} {b1 b':V} (H:eK B h bO g bQ w bad b1 b') (W:g.dX) (da:B<=h.next) (bJ:g.N+1<=100000000) (E7:g.vars.length+1<=100000000) (hw:w g.N=g.N) (n:Int):
 de Tryz.prog 103 [.ptr (aj bO) 0,.int .i64 n] h fun x ab=>∃ln gx gn,x=.int .i64 (g.var n).2/\eK B ab bO (g.var n).1 ln w bad gx gn/\oS g (g.var n).1 bQ ln b1 gx b' gn h.next/\Mod (fun b=>b=aj bO\/b1.aN b\/b'.aN b) h ab:=by
 have on:=H.no.v.one;have dB:=H.j4.v.one;refine aag.z rfl (dM ?_);unfold Pv;simp +contextual only [↓al,aG,simprocAttr];refine fa (fun r k=>k=h/\r 0=.ptr (aj bO) 0/\r 1=.int .i64 n/\∃i:Nat,i<=g.vars.length/\r 5=.int .i64 i/\∀(j:Nat) (p:Int × Nat),j<i->g.vars[j]? =some p->p.1≠n) (fun r _=>g.vars.length - (r 5).toN) ?_ ?_
 . exact ⟨rfl,by simp only [↓al,bs,simprocAttr],by simp only [↓al,bs,simprocAttr],0,by omega,by simp only [↓al,bs,simprocAttr]<;>rfl,fun j p aU=>by omega⟩
 rintro r k ⟨rfl,bt,br,i,ao,c1,aU⟩;unfold Pw;have Lz:=H.j4.v.len;by_cases q:i<g.vars.length
 . have g0:((i:Int) < (g.vars.length:Int))=True:=eq_true (by omega);have e:=List.getElem?_eq_getElem (l:=g.vars) (i:=i) q;obtain ⟨b,off,cH,ae,ld⟩:=H.Nr e;obtain ⟨qg,eS⟩:=ld k fun _ _=>rfl;by_cases c:g.vars[i].1=n
   . have hF:=ajW g.vars i _ W.keys e c;have bj:g.var n=(g,g.vars[i].2):=by unfold bp.var;rw [hF]
     simp +contextual only [bt,br,c1,H.aB.g,Lz,g0,cH,qg,eS,eq_true c,dB.1,dB.2.1,↓al,aG,simprocAttr];rw [bj];exact ⟨bQ,b1,b',rfl,H,oS.refl _ _ _ _ _,Mod.refl _ _⟩
   . have dv:=kB q (by omega);simp +contextual only [bt,br,c1,H.aB.g,Lz,g0,cH,qg,eS,eq_false c,dv,dB.1,dB.2.1,↓al,aG,simprocAttr];refine ⟨⟨i+1,q,rfl,fun j p sx cX=>?_⟩,by omega⟩;by_cases z:j=i
     . subst z;rw [e] at cX;cases cX;exact c
     . exact aU j p (by omega) cX
 . have g0:((i:Int) < (g.vars.length:Int))=False:=eq_false (by omega);have hF:=Ug g.vars fun j p e=>aU j p (by have:=(List.getElem?_eq_some_iff.1 e).1;omega) e;have bj:g.var n=(⟨g.nodes++[⟨false,n,[],[]⟩],g.vars++[(n,g.nodes.length)]⟩,g.nodes.length):=by unfold bp.var;rw [hF]
   obtain ⟨gx,ad,ar,aw,GO,aK,bY,ek,hS,m2,f2⟩:=H.push da (by unfold top;omega) ⟨false,n,[],[]⟩ .bB rfl ⟨rfl,rfl⟩ (fun b o l c e=>by cases e) (Nat.zero_le _) (fun b q=>q.elim);have pa:=m2.next
   have tY:B<=(ad.set (aj bO) (.bE [gx,b',.bool bad] 0 false)).next:=by omega
   obtain ⟨gn,aJ,bW,bV,L',b8,gH,i_,iB,m3,f3⟩:=hS.alX tY (by show (g.vars.length+1) * 5<=top;unfold top;omega) n g.N;have jU:=H.no.v.len;rw [l5] at bW;rw [hw] at ar;rw [show mF ⟨false,n,[],[]⟩ .bB g.N=[.int .i64 1,.int .i64 n,.str [],.bB,.bB,.int .i64 g.N] from rfl] at ar;have wk:=hS.aB.g;simp +contextual only [bt,br,c1,H.aB.g,Lz,g0,jU,ar,aK.g,aw,GO,wk,bW,b8.g,bV,L',on.1,on.2.1,dB.1,dB.2.1,↓al,aG,simprocAttr];rw [bj];refine ⟨eU bQ g.N .bB,gx,gn,rfl,iB,⟨fun i ao=>eA _ _ (by omega),fun i b ao hB q=>?_,fun b q=>?_,fun b q=>?_⟩,?_⟩
   . have hB:i<g.N+1:=by simpa [bp.N] using hB
     rw [show i=g.N by omega,fu] at q;exact q.elim
   . rcases f2 b q with q | q
     . exact .inl q
     . exact .inr (by omega)
   . rcases f3 b q with q | q
     . exact .inl q
     . exact .inr (by omega)
   . refine (m2.mono fun b _ q=>?_).trans (m3.mono fun b _ q=>?_)
     . rcases q with q | q
       . exact .inl q
       . exact .inr (.inl q)
     . rcases q with q | q
       . exact .inl q
       . exact .inr (.inr q)
mutual
theorem OQ:∀(t:aM) (g:bp),(t.add g).1.vars.length<=g.vars.length+t.size
 | .mk k n s l,g=>by
   rw [aM.add,aM.size];by_cases c:k=1
   . rw [if_pos c];unfold bp.var;cases e_ n g.vars with
     | some i=>simp only;omega
     | none=>simp only [List.length_append,List.length_singleton];omega
   . rw [if_neg c];have:=Ia l g;simp only [bp.put];omega
theorem Ia:∀(l:List aM) (g:bp),(cf l g).1.vars.length<=g.vars.length+cE l
 | [],g=>by simp [cf,cE]
 | t::l,g=>by rw [cf,cE];have:=OQ t g;have:=Ia l (t.add g).1;simp only;omega
end
def Cb (l:List Nat):List V:=lY (l.map fun (x:Nat)=>(x:Int))
theorem agJ (l:List Nat) (x:Nat):Cb (l++[x])=Cb l++[.int .i64 x]:=by simp [Cb,lY]
theorem Mx {B bO:Nat} {w:Nat->Nat} {bad:Bool}:∀(N:Nat) (t:aM),t.size<=N->t.lr=true->∀(g:bp) (bQ:Nat->V) (b1 b':V) (ai:List V) (h:ah),g.dX->B<=h.next->g.N+N<=90000000->g.vars.length+N<=90000000->(∀i,g.N<=i->w i=i)->cW (fun b=>cB b<B) h t.enc ai->eK B h bO g bQ w bad b1 b'->
 de Tryz.prog 79 [.ptr (aj bO) 0,.agg ai] h fun x ab=>∃ln gx gn,x=.int .i64 (t.add g).2/\eK B ab bO (t.add g).1 ln w bad gx gn/\oS g (t.add g).1 bQ ln b1 gx b' gn h.next/\Mod (fun b=>b=aj bO\/b1.aN b\/b'.aN b) h ab
 | 0,t,aS,_,_,_,_,_,_,_,_,_,_,_,_,_,_=>by have:=qx t;omega
 | N+1,t,aS,bj,g,bQ,b1,b',ai,h,W,da,bJ,E7,hw,H,D=>by
   obtain ⟨du,rfl,L,ot⟩:=aM.open H;have ol:=L.one;have aA:=L.len;have hle:=L.le;rw [List.length_map] at aA hle;have cq:=size_eq t;have jo:=qw t.l;have wI:=Xw t;rw [bj] at wI;refine aa9.z rfl (dM ?_);unfold Qt;obtain ⟨aa,ar,aP,c6⟩:=h7 h (fT t du);have cT:=aP.next
   have Cm:=c6.lt;have NU:=D.ext aP;have lN:=D.aB.lt;have aeP:=D.vW;have aj6:∀b,b=aj bO\/b1.aN b\/b'.aN b->B<=cB b:=fun b q=>by
    rcases q with q | q | q
    . rw [q,b9];exact aeP
    . exact D.no.base q
    . exact D.j4.base q
   have U4:∀b,b=aj bO\/b1.aN b\/b'.aN b->Old h b:=fun b q=>by
    rcases q with q | q | q
    . rw [q];exact fW lN
    . exact D.no.v.bF q
    . exact D.j4.v.bF q
   rw [add_eq];by_cases c:t.k=1
   . simp only [if_pos c];simp +contextual only [ol.1,ol.2.1,ar,c6.g,eq_true c,↓al,aG,simprocAttr];refine cK (amH NU W (by omega) (by omega) (by omega) (hw _ (Nat.le_refl _)) t.n) ?_;rintro x ad ⟨ln,gx,gn,rfl,hS,lD,M2⟩;simp +contextual only [↓al,aG,simprocAttr];exact ⟨ln,gx,gn,hS,(oS.refl g bQ b1 b' h.next).trans lD (by omega) (bp.le.refl g),(aP.mod _).trans M2⟩
   . simp only [if_neg c];have lT:kA t.l=true:=by
      have:=wI.symm;simp only [Bool.and_eq_true] at this;exact this.2
     simp +contextual only [ol.1,ol.2.1,ar,c6.g,eq_false c,aA,↓al,aG,simprocAttr];refine fa (fun r cC=>r 0=.ptr (aj bO) 0/\r 3=.ptr (aj h.next) 0/\∃(i:Nat) (ln:Nat->V) (gx gn v:V),r 6=.int .i64 i/\r 5=v/\i<=t.l.length/\
      eK B cC bO (cf (t.l.take i) g).1 ln w bad gx gn/\oS g (cf (t.l.take i) g).1 bQ ln b1 gx b' gn aa.next/\Has cC h.next (fT t du)/\cJ aa.next cC 1 v i (Cb (cf (t.l.take i) g).2)/\Mod (fun b=>b=aj bO\/b1.aN b\/b'.aN b) aa cC/\
      (∀b,v.aN b->¬gx.aN b/\¬gn.aN b/\∀j,j < (cf (t.l.take i) g).1.N->¬(ln j).aN b)) (fun r g=>t.l.length - (r 6).toN) ?_ ?_
     . exact ⟨by simp only [↓al,bs,simprocAttr],by simp only [↓al,bs,simprocAttr],0,bQ,b1,b',.bB,by simp only [↓al,bs,simprocAttr]<;>rfl,by simp only [↓al,bs,simprocAttr],by omega,NU,oS.refl _ _ _ _ _,c6,⟨rfl,rfl⟩,Mod.refl _ _,fun b q=>q.elim⟩
     rintro r cC ⟨bt,cr,i,ln,gx,gn,v,ct,c1,ao,xN,jf,A,O,M,c2⟩;unfold Qu;have dB:=O.v.one;have KZ:kA (t.l.take i)=true:=by have:=Nv (t.l.take i) (t.l.drop i);rw [List.take_append_drop,lT] at this;have:=this.symm;simp only [Bool.and_eq_true] at this;exact this.1
     obtain ⟨vZ,jg,Cj,JD⟩:=D5 (t.l.take i) g KZ W;have adS:=Ia (t.l.take i) g;have Bm:=vZ.n;have aqh:=M.next
     by_cases aO:i<t.l.length
     . have g0:((i:Int) < (t.l.length:Int))=True:=eq_true (by omega);obtain ⟨b,off,wl,cH,H8,mZ,ld⟩:=aM.c0 ((L.ext aP).mod (fD:=fun b=>cB b<B) M fun b q _=>⟨fun z=>by have:=aj6 b z;omega,q⟩) (k:=.i64) aO;have A_:=ld cC (Ext.refl cC);have kT:=mZ.one;have dv:=kB aO (by unfold top at hle;omega);have Fq:=px (t:=t) (List.getElem_mem aO);have apQ:cE (t.l.take i)+t.l[i].size<=cE t.l:=by
        have aa:=s4 (t.l.take (i+1)) (t.l.drop (i+1));rw [List.take_append_drop] at aa;have ad:=s4 (t.l.take i) [t.l[i]];rw [<-take_one aO] at ad;simp only [cE] at ad;omega
       have B1:=Nw lT (List.getElem_mem aO);simp +contextual only [bt,cr,c1,ct,A.g,g0,aA,cH,A_,ol.1,ol.2.1,kT.1,kT.2.1,dB.1,dB.2.1,↓al,aG,simprocAttr];refine cK (Mx t.l[i].size t.l[i] (Nat.le_refl _) B1 _ ln gx gn _ cC jg (by omega) (by omega) (by omega) (fun j aU=>hw j (by omega)) H8 xN) ?_;rintro x g2 ⟨w1,rB,xF,rfl,iB,kF,m2⟩;obtain ⟨EY,mY,agU,JE⟩:=r5 t.l[i] _ B1 jg;have JH:=EY.n;have rC:=m2.next
       have w8:∀b,b=aj bO\/gx.aN b\/gn.aN b->(b=aj bO\/b1.aN b\/b'.aN b)\/aa.next<=cB b:=fun b q=>by
        rcases q with q | q | q
        . exact .inl (.inl q)
        . rcases jf.cc b q with q | q
          . exact .inl (.inr (.inl q))
          . exact .inr q
        . rcases jf.gf b q with q | q
          . exact .inl (.inr (.inr q))
          . exact .inr q
       have XS:=A.mod m2 fun q=>by
        rcases w8 _ q with q | q
        . have:=U4 _ q;unfold Old at this;rw [b9] at this;omega
        . rw [b9] at q;omega
       have M7:∀b,v.aN b->Old cC b:=fun b q=>O.v.bF q;have W4:∀b,v.aN b->b≠aj bO:=fun b q z=>by have:=O.base q;rw [z,b9] at this;omega
       have nW:cJ aa.next g2 1 v i (Cb (cf (t.l.take i) g).2):=O.mod m2 fun b q z=>by
        rcases z with z | z | z
        . exact W4 b q z
        . exact (c2 b q).1 z
        . exact (c2 b q).2.1 z
       obtain ⟨dd,g3,bW,bV,b8,gH,i_⟩:=qO (cs:=[.int .i64 (t.l[i].add (cf (t.l.take i) g).1).2]) (Nat.le_refl _) nW (by omega) (by unfold top at hle ⊢;omega) rfl rfl;have kf:=bV.v.one;have ho:cf (t.l.take (i+1)) g=((t.l[i].add (cf (t.l.take i) g).1).1,(cf (t.l.take i) g).2++[(t.l[i].add (cf (t.l.take i) g).1).2]):=by rw [take_one aO,OS]
       have G':∀b,v.aN b->¬rB.aN b/\¬xF.aN b/\∀j,j < (t.l[i].add (cf (t.l.take i) g).1).1.N->¬(w1 j).aN b:=fun b q=>by
        have:=M7 b q;unfold Old at this;refine ⟨fun z=>?_,fun z=>?_,fun j aU z=>?_⟩
        . rcases kF.cc b z with z | z
          . exact (c2 b q).1 z
          . omega
        . rcases kF.gf b z with z | z
          . exact (c2 b q).2.1 z
          . omega
        . by_cases y:j < (cf (t.l.take i) g).1.N
          . rw [kF.bQ j y] at z;exact (c2 b q).2.2 j y z
          . have:=kF.so j b (by omega) aU z;omega
       have Hv:=iB.mod b8 (fun q=>W4 _ q rfl) (fun b q z=>(G' b z).1 q) (fun b q z=>(G' b z).2.1 q) fun j b aU q z=>(G' b z).2.2 j aU q;have NM:=XS.mod b8 fun q=>by have:=O.base q;rw [b9] at this;omega
       simp +contextual only [bt,cr,c1,ct,NM.g,ol.1,ol.2.1,kT.1,kT.2.1,dB.1,dB.2.1,kf.1,kf.2.1,bW,dv,↓al,aG,simprocAttr];refine ⟨⟨i+1,w1,rB,xF,dd,rfl,rfl,aO,?_,?_,NM,?_,?_,?_⟩,by omega⟩
       . rw [ho];exact Hv
       . rw [ho];exact jf.trans kF (by omega) vZ
       . rw [ho];simp only [];rw [agJ];exact bV
       . have jF:Mod (fun b=>b=aj bO\/b1.aN b\/b'.aN b) aa g2:=⟨by omega,fun b a6 ae=>by
          rw [m2.get b (M.bF a6) fun q=>by
           rcases w8 b q with q | q
           . exact ae q
           . unfold Old at a6;omega,M.get b a6 ae]⟩
         exact jF.z_ b8 fun b q=>O.base q
       . intro b q;rw [ho];rcases i_ b q with q | q
         . exact G' b q
         . refine ⟨fun z=>?_,fun z=>?_,fun j aU z=>?_⟩
           . have:=iB.no.v.bF z;unfold Old at this;omega
           . have:=iB.j4.v.bF z;unfold Old at this;omega
           . obtain ⟨x,e⟩:=hK aU;have:=(iB.c0 j x e).1.bF z;unfold Old at this;omega
     . have g0:((i:Int) < (t.l.length:Int))=False:=eq_false (by omega);rw [List.take_of_length_le (by omega)] at xN jf O Cj vZ jg c2 Bm JD adS;have iH:(cf t.l g).2.length=i:=by rw [D4];omega
       have jU:=xN.no.v.len;have on:=xN.no.v.one;have agc:w (cf t.l g).1.N=(cf t.l g).1.N:=hw _ Bm;obtain ⟨rB,ad,bW,bV,L',b8,gH,i_,hS,m2,f2⟩:=xN.push (by omega) (by unfold top;omega) ⟨true,0,t.s,(cf t.l g).2⟩ v dB.1 (by rw [iH];exact O.v) O.room (by rw [iH];omega) (fun b q=>⟨by have:=O.base q;omega,(c2 b q).1,(c2 b q).2.1,fun z=>by have:=O.base q;rw [z,b9] at this;omega⟩);rw [agc,show mF ⟨true,0,t.s,(cf t.l g).2⟩ v (cf t.l g).1.N=[.int .i64 2,.int .i64 0,.str t.s,.bB,v,.int .i64 (cf t.l g).1.N] from rfl] at bW;have pH:=A.mod gH fun q=>by
        have:=jf.cc _ q;rcases this with z | z
        . have:=U4 _ (.inr (.inl z));unfold Old at this;rw [b9] at this;omega
        . rw [b9] at z;omega
       have f4:(cC.next=bO)=False:=eq_false (by omega);have f5:(cC.next=h.next)=False:=eq_false (by omega);simp +contextual only [f4,f5,if_false,bt,cr,c1,ct,A.g,pH.g,g0,aA,xN.aB.g,b8.g,jU,bW,bV,L',ol.1,ol.2.1,on.1,on.2.1,dB.1,dB.2.1,dB.2.2,↓al,aG,simprocAttr];refine ⟨eU ln (cf t.l g).1.N v,rB,gn,hS,⟨fun j aU=>?_,fun j b aU sx q=>?_,fun b q=>?_,fun b q=>?_⟩,?_⟩
       . rw [eA _ _ (by omega)];exact jf.bQ j aU
       . have sx:j < (cf t.l g).1.N+1:=by simpa [bp.put,bp.N] using sx
         by_cases z:j=(cf t.l g).1.N
         . rw [z,fu] at q;have:=O.base q;omega
         . rw [eA _ _ z] at q;have:=jf.so j b aU (by omega) q;omega
       . rcases f2 b q with q | q
         . rcases jf.cc b q with q | q
           . exact .inl q
           . exact .inr (by omega)
         . exact .inr (by omega)
       . rcases jf.gf b q with q | q
         . exact .inl q
         . exact .inr (by omega)
       . have jF:Mod (fun b=>b=aj bO\/b1.aN b\/b'.aN b) aa (ad.set (aj bO) (.bE [rB,gn,.bool bad] 0 false)):=⟨by have:=m2.next;omega,fun b a6 ae=>by
          rw [m2.get b (M.bF a6) fun q=>by
           rcases q with q | q
           . exact ae (.inl q)
           . rcases jf.cc b q with q | q
             . exact ae (.inr (.inl q))
             . unfold Old at a6;omega,M.get b a6 ae]⟩
         exact (aP.mod _).trans jF
end
end Go.Proofs.YthemdhlheglhoaaGreatDoor
