/- The chapter's functions, walked by the abstract machine: plain lemmas, no condition. Printed by a program from longer texts: names made short. -/
import Derived.Test.YthemdhlheglhoaaGreatDoorM12
import Derived.Test.YthemdhlheglhoaaGreatDoorM13
import Derived.Test.YthemdhlheglhoaaGreatDoorM11
import Derived.Test.YthemdhlheglhoaaGreatDoorM4
set_option linter.unusedSectionVars false
set_option linter.unusedSimpArgs false
set_option linter.unusedVariables false
set_option maxHeartbeats 64000000
noncomputable section
namespace Go.Proofs.YthemdhlheglhoaaGreatDoor
section
open Go a7
section
variable [Lay]
inductive e1 (h:ai):(aQ->Prop)->List aL->V->Prop
 | mk {S:aQ->Prop} {l:List aL} {v:V} (us:List (List V)) (ws:Nat->V) (fv:Nat->aQ->Prop) (o:cD 0 h 4 v l.length us.flatten) (hu:us.length=l.length) (aV:l.length<=top)
    (cells:∀(i:Nat) (t:aL),l[i]? =some t->us[i]? =some [.int .i64 t.k,.int .i64 t.n,.str t.s,ws i]/\t.s.length<=top)
    (kids:∀(i:Nat) (t:aL),l[i]? =some t->e1 h (fv i) t.l (ws i)) (bh:∀b,v.aM b->S b) (cU:∀(i:Nat) (b:aQ),i<l.length->fv i b->S b/\¬v.aM b)
    (apart:∀(i j:Nat) (b:aQ),i<l.length->j<l.length->i≠j->fv i b->¬fv j b):e1 h S l v
variable {h ab:ai} {S:aQ->Prop} {l:List aL} {v:V}
theorem e1.nil (h:ai) (S:aQ->Prop):e1 h S [] .bF:=
 .mk [] (fun _=>.bF) (fun _ _=>False) ⟨by simp,rfl⟩ rfl (Nat.zero_le _) (fun i t q=>by simp at q) (fun i t q=>by simp at q) (fun b q=>q.elim) (fun i b q=>absurd q (Nat.not_lt_zero _)) (fun i j b q=>absurd q (Nat.not_lt_zero _))
theorem e1.mod {M:aQ->Prop} (H:e1 h S l v) (m:Mod M h ab) (dE:∀b,S b->¬M b):e1 ab S l v:=by
 induction H with
 | mk us ws fv o hu aV cells kids bh cU apart br=>
   exact .mk us ws fv (o.mod m fun b q=>dE b (bh b q)) hu aV cells (fun i t q=>br i t q fun b z=>dE b (cU i b (by obtain ⟨ar,_⟩:=List.getElem?_eq_some_iff.1 q;exact ar) z).1) bh cU apart
theorem e1.ext (H:e1 h S l v) (e:Ext h ab):e1 ab S l v:=by
 induction H with
 | mk us ws fv o hu aV cells kids bh cU apart br=>exact .mk us ws fv (o.ext e) hu aV cells br bh cU apart
theorem e1.jG {gw:aQ->Prop} (H:e1 h S l v) (w:∀b,S b->gw b):e1 h gw l v:=by
 cases H with
 | mk us ws fv o hu aV cells kids bh cU apart=>exact .mk us ws fv o hu aV cells kids (fun b q=>w b (bh b q)) (fun i b q z=>⟨w b (cU i b q z).1,(cU i b q z).2⟩) apart
theorem e1.fU {F:aQ->Prop} (H:e1 h S l v) (w:∀b,S b->F b):cJ F h 4 (l.map aL.enc) v:=by
 induction H with
 | mk us ws fv o hu aV cells kids bh cU apart br=>
   refine ⟨o.room,by rw [List.length_map];exact aV,⟨us,by rw [List.length_map];exact o.v,by rw [List.length_map];exact hu,fun u q=>?_,fun i e u ar av=>?_⟩,fun b q=>w b (bh b q)⟩
   . obtain ⟨i,an,rfl⟩:=List.getElem_of_mem q;have:=(cells i _ (List.getElem?_eq_getElem (by omega))).1;rw [List.getElem?_eq_getElem an] at this;rw [Option.some.inj this];rfl
   . rw [List.getElem?_map] at ar;cases aw:(_:List aL)[i]? with
     | none=>rw [aw] at ar;cases ar
     | some t=>
       rw [aw] at ar;simp only [Option.map_some,Option.some.injEq] at ar;subst ar;obtain ⟨bP,bY⟩:=cells i t aw;rw [bP] at av;cases av;rw [CP];have an:i<_:=(List.getElem?_eq_some_iff.1 aw).1;exact .i (.i (.s bY ((br i t aw fun b z=>w b (cU i b an z).1).cons .nil)))
theorem e1.one (H:e1 h S l v):v.one=true/\v.cells=[v]/\v.fY=true:=by
 cases H with
 | mk us ws fv o hu aV cells kids bh cU apart=>exact o.v.one
theorem e1.len (H:e1 h S l v):lA v=some (.int .i64 l.length):=by
 cases H with
 | mk us ws fv o hu aV cells kids bh cU apart=>exact o.v.len
theorem e1.bh (H:e1 h S l v):∀b,v.aM b->S b:=by
 cases H with
 | mk us ws fv o hu aV cells kids bh cU apart=>exact bh
theorem e1.add {T:aQ->Prop} {t:aL} {u:V} (H:e1 h S l v) (E:e1 h T t.l u) (sy:∀b,S b->¬T b) (og:∀b,S b->Old h b) (t':∀b,T b->Old h b) (hlen:(l.length+1) * 4<=top) (aR:t.s.length<=top):
 ∃c9 ab,iK 4 v (.slice (aj h.next) 0 1 1) (h.new (.bC [.int .i64 t.k,.int .i64 t.n,.str t.s,u] 0 false))=.val c9 ab/\e1 ab (fun b=>S b\/T b\/(h.next<=cI b/\cI b<ab.next)) (l++[t]) c9/\Mod v.aM h ab/\h.next+1<=ab.next:=by
 have rI:=E.one;cases H with
 | mk us ws fv o hu aV cells kids bh cU apart=>
   obtain ⟨c9,ab,ar,av,aK,bU,dV⟩:=pS (cs:=[.int .i64 t.k,.int .i64 t.n,.str t.s,u]) (by omega) o (Nat.zero_le _) hlen rfl (by simp only [ev,Gv,Gw,rI.1,Bool.and_self,Bool.and_true]);have uj:∀b,c9.aM b->¬v.aM b->¬Old h b:=fun b z z2=>by
    rcases dV b z with z | z
    . exact absurd z z2
    . unfold Old;omega
   have snoc:∀(i:Nat) (s:aL),(l++[t])[i]? =some s->(i<l.length/\l[i]? =some s)\/(i=l.length/\s=t):=fun i s q=>Bk q;refine ⟨c9,ab,ar,.mk (us++[[.int .i64 t.k,.int .i64 t.n,.str t.s,u]]) (fun i=>if i<l.length then ws i else u) (fun i=>if i<l.length then fv i else T) ?_ (by simp [hu]) (by rw [List.length_append,List.length_singleton];omega) (fun i s q=>?_) (fun i s q=>?_) (fun b z=>?_) (fun i b an z=>?_) (fun i j b an aU np z=>?_),aK,bU⟩
   . rw [List.length_append,List.length_singleton,List.flatten_append];simpa using av
   . rcases snoc i s q with ⟨aa,ad⟩ | ⟨aa,rfl⟩
     . rw [if_pos aa,List.getElem?_append_left (by omega)];exact cells i s ad
     . subst aa;rw [if_neg (by omega),List.getElem?_append_right (by omega),hu,Nat.sub_self];exact ⟨rfl,aR⟩
   . rcases snoc i s q with ⟨aa,ad⟩ | ⟨aa,rfl⟩
     . simp only [if_pos aa];exact (kids i s ad).mod aK fun b z=>(cU i b aa z).2
     . subst aa;simp only [Nat.lt_irrefl,if_false];exact E.mod aK fun b z z2=>sy b (bh b z2) z
   . have a6:=av.v.bG z;rcases dV b z with z | z
     . exact .inl (bh b z)
     . exact .inr (.inr (by unfold Old at a6;omega))
   . by_cases aa:i<l.length
     . rw [if_pos aa] at z;obtain ⟨a,c⟩:=cU i b aa z;exact ⟨.inl a,fun z2=>uj b z2 c (og b a)⟩
     . rw [if_neg aa] at z;exact ⟨.inr (.inl z),fun z2=>uj b z2 (fun z3=>sy b (bh b z3) z) (t' b z)⟩
   . rw [List.length_append,List.length_singleton] at an aU;by_cases aa:i<l.length
     . rw [if_pos aa] at z;by_cases ad:j<l.length
       . rw [if_pos ad];exact apart i j b aa ad np z
       . rw [if_neg ad];exact sy b (cU i b aa z).1
     . rw [if_neg aa] at z;rw [if_pos (by omega)];exact fun z2=>sy b (cU j b (by omega) z2).1 z
end
def eB (a b:Nat) (p:aQ):Prop:=a<=cI p/\cI p<b
theorem R7 {size:Nat} (us:List (List V)) (i:Nat) (u:List V) (an:i<us.length) (hu:u.length=size) (h:∀w ∈ us,w.length=size):h9 us.flatten (i * size) u=(us.set i u).flatten:=by unfold h9;rw [List.set_eq_take_append_cons_drop,if_pos an,List.flatten_append,List.flatten_cons,Bg _ _ h,R4 _ _ h,hu,List.append_assoc,show (i+1) * size=i * size+size from Nat.succ_mul _ _]
abbrev L_:aL:=.mk 77 0 [] []
abbrev yg:List V:=[.int .i64 77,.int .i64 0,.str [],.bF]
section
variable [Lay]
theorem e1.over {h:ai} {S:aQ->Prop} {l:List aL} {v:V} (H:e1 h S l v) {i:Nat} (an:i<l.length):
 ∃(T:aQ->Prop) (w:V) (b:aQ) (off:Nat),e1 h T l[i].l w/\(∀x,T x->S x)/\iT 4 v (.int .i64 i)=some (.ptr b (off+i * 4))/\hd (h.get b) (off+i * 4+3)=some w/\
  ∀aa,Mod T h aa->∃ad,pI 4 aa (.ptr b (off+i * 4)) (.agg yg)=some ad/\e1 ad S (l.set i L_) v/\Mod v.aM aa ad:=by
 cases H with
 | mk us ws fv o hu aV cells kids bh cU apart=>
   obtain ⟨bP,bY⟩:=cells i l[i] (List.getElem?_eq_getElem an);have bn:∀u ∈ us,u.length=4:=fun u q=>by obtain ⟨j,aU,rfl⟩:=List.getElem_of_mem q;have:=(cells j l[j] (List.getElem?_eq_getElem (by omega))).1;rw [List.getElem?_eq_getElem aU] at this;rw [Option.some.inj this];rfl
   have jd:=q2 us bn;obtain ⟨b,off,aP,a'⟩:=o.v.ct (k:=.i64) an;have o_:i<us.length:=by omega
   refine ⟨fv i,ws i,b,off,kids i _ (List.getElem?_eq_getElem an),fun x q=>(cU i x an q).1,aP,?_,fun aa m=>?_⟩
   . have:=a'.d_ (i:=i * 4+3) (by rw [jd];omega);rw [Nat.add_assoc,this];have aA:=tU us i _ bn bP;have:us.flatten[i * 4+3]? =(((us.flatten.drop (i * 4)).take 4)[3]?):=by rw [List.getElem?_take_of_lt (by omega),List.getElem?_drop]
     rw [<-List.getElem?_eq_getElem,this,aA];rfl
   . have c7:cD 0 aa 4 v l.length us.flatten:=o.mod m fun x q z=>(cU i x an z).2 q;obtain ⟨bL,j8,ad,f1,f2,f3,f4,f5⟩:=c7.put (i:=i) an (k:=.i64) (y:=.agg yg) rfl rfl;have ae:V.ptr b (off+i * 4)=.ptr bL (j8+i * 4):=Option.some.inj (aP.symm.trans f1);refine ⟨ad,by rw [ae];exact f3,?_,f5⟩;have sp:h9 us.flatten (i * 4) (V.agg yg).cells=(us.set i yg).flatten:=R7 us i yg o_ rfl bn;rw [sp] at f4;refine .mk (us.set i yg) (fun j=>if j=i then .bF else ws j) fv (by rw [List.length_set];exact f4) (by rw [List.length_set,List.length_set];exact hu) (by rw [List.length_set];exact aV) (fun j t q=>?_) (fun j t q=>?_) bh (fun j x q=>cU j x (by rw [List.length_set] at q;exact q)) (fun j k x ar av=>apart j k x (by rw [List.length_set] at ar;exact ar) (by rw [List.length_set] at av;exact av))
     . by_cases jY:j=i
       . subst jY;rw [List.getElem?_set_self an] at q;cases q;rw [if_pos rfl,List.getElem?_set_self o_];exact ⟨rfl,Nat.zero_le _⟩
       . rw [List.getElem?_set_ne (fun z=>jY z.symm)] at q ⊢;rw [if_neg jY];exact cells j t q
     . by_cases jY:j=i
       . subst jY;rw [List.getElem?_set_self an] at q;cases q;rw [if_pos rfl];exact e1.nil _ _
       . rw [List.getElem?_set_ne (fun z=>jY z.symm)] at q;rw [if_neg jY];have aU:j<l.length:=(List.getElem?_eq_some_iff.1 q).1;exact ((kids j t q).mod m fun x z z2=>apart j i x aU an jY z z2).mod f5 fun x z z2=>(cU j x aU z).2 z2
end
theorem VT:∀(l:List aL) (i:Nat),ca (l.set i L_)<=ca l
 | [],_=>by simp
 | t::l,0=>by rw [List.set_cons_zero,ca,ca];have:=pA t;simp only [aL.size,ca];omega
 | t::l,i+1=>by rw [List.set_cons_succ,ca,ca];have:=VT l i;omega
theorem Vv:∀(N:Nat) (l:List aL),ca l<=N->∀(S:aQ->Prop) (v:V) (h:ai),e1 h S l v->db Tryz.prog 26 [v] h fun x ab=>Mod S h ab
 | N,l,aR,S,v,h,H=>by
   have hle:l.length<=top:=by cases H;assumption
   refine aa6.z rfl (dB ?_);unfold Qj;simp +contextual only [↓al,aE,simprocAttr];refine eY (fun r g=>r 0=v/\∃(i:Nat) (dT:List aL),r 2=.int .i64 i/\i<=l.length/\dT.length=l.length/\ca dT<=N/\e1 g S dT v/\Mod S h g) (fun r g=>l.length - (r 2).toN) ?_ ?_
   . exact ⟨by simp only [↓al,bs,simprocAttr],0,l,by simp only [↓al,bs,simprocAttr]<;>rfl,by omega,rfl,aR,H,Mod.refl _ _⟩
   rintro r g ⟨bq,i,dT,cw,an,eP,hH,W,E⟩;unfold Qk;have ay:=W.len;rw [eP] at ay;by_cases aO:i<l.length
   . have g0:((i:Int) < (l.length:Int))=True:=eq_true (by omega);have iA:i<dT.length:=by omega
     obtain ⟨T,w,b,off,K,dz,ct,ld,st⟩:=W.over iA;have dk:=jj aO (by unfold top at hle;omega);have bn:=Mo iA;simp +contextual only [bq,cw,ay,g0,ct,ld,↓al,aE,simprocAttr]
     match N,hH with
     | 0,hH=>omega
     | N+1,hH=>
     refine cz (Vv N dT[i].l (by omega) T w g K) ?_;rintro x g2 m;obtain ⟨g3,s1,s2,kM⟩:=st g2 m;have MS:oz 4 g2 b (off+i * 4) (.agg [.int .i64 77,.int .i64 0,.str [],.bF]) (g2.get b)=some g3:=s1;simp +contextual only [bq,cw,ct,MS,dk,↓al,aE,simprocAttr];refine ⟨⟨i+1,dT.set i L_,rfl,aO,by rw [List.length_set];exact eP,Nat.le_trans (VT dT i) hH,s2,?_⟩,by omega⟩;exact E.trans ((m.mono fun x _ q=>dz x q).trans (kM.mono fun x _ q=>s2.bh x q))
   . have g0:((i:Int) < (l.length:Int))=False:=eq_false (by omega);simp +contextual only [bq,cw,ay,g0,↓al,aE,simprocAttr];exact E
theorem ao5 {P:Program} {cY:List V} {b:aQ} {d:Option Nat} {os:List bH} {D:Option i_} {aI:List ia} {r:bd} {h:ai} {Q:dm->bd->ai->Prop} {K:V->ai->Prop}
 (c:DY P cY b h K) (H:∀v ab,K v ab->bo P (.os (jB D r h v) os::aI) .normal (r.set d v) ab Q):Di P (cY++[.ptr b 0]) d D os aI r h Q:=by
 obtain ⟨v,ab,q,k⟩:=c;exact ⟨cY,b,rfl,v,ab,q,H v ab k⟩
abbrev Grow (X iu:aQ->Prop) (h:ai):Prop:=∀b,iu b->X b\/h.next<=cI b
theorem EX {X iu:aQ->Prop} {h:ai} {n:Nat} (b5:Grow X iu h) (aV:n<h.next) (aX:¬X (aj n)):¬iu (aj n):=fun q=>by
 rcases b5 _ q with q | q
 . exact aX q
 . rw [cc] at q;omega
theorem aku {X iu:aQ->Prop} {h ab mu:ai} (a:Mod X h ab) (c:Mod iu ab mu) (g:Grow X iu h):Mod X h mu:=
 ⟨Nat.le_trans a.next c.next,fun b ae q=>(c.get b (a.bG ae) fun z=>by
   rcases g b z with z | z
   . exact q z
   . unfold Old at ae;omega).trans (a.get b ae q)⟩
abbrev Inv:=List (Nat × aL)->(aQ->Prop)->ai->Prop
structure Hv (lJ:Nat) (qm:aQ) (I J:Inv):Prop where
 ext:∀{d:List (Nat × aL)} {X:aQ->Prop} {h ab:ai},I d X h->Ext h ab->I d X ab
 RD:∀{d:List (Nat × aL)} {X:aQ->Prop} {h:ai} (k:Nat) (p:aL) {ah:List V},I d X h->d.length+1<=1000000000->k<=1000000000->p.size<=1000000000->cW (fun b=>cI b<lJ) h p.enc ah->
  DY Tryz.prog [.int .i64 k,.agg ah] qm h fun x ab=>∃iu,Mod X h ab/\Grow X iu h/\(x=.bool true/\I (d++[(k,p)]) iu ab\/x=.bool false/\J (d++[(k,p)]) iu ab)
 bG:∀{d:List (Nat × aL)} {X:aQ->Prop} {h:ai},I d X h->∀b,X b->Old h b
 bB:∀{d:List (Nat × aL)} {X:aQ->Prop} {h:ai},I d X h->∀b,X b->lJ<=cI b
def Left (I J:Inv) (d:List (Nat × aL)) (X:aQ->Prop) (h:ai) (x:V) (ab:ai):Prop:=
 ∃iu,Mod X h ab/\Grow X iu h/\(x=.bool true/\I d iu ab\/x=.bool false/\∃jq,jq <+:d/\J jq iu ab)
theorem Mi (d:List (Nat × aL)) (k:Nat) (p:aL):d++p.pred k=d++[(k,p)]++i' (k+1) p.l:=by rw [alR];simp
theorem TP {lJ:Nat} {qm:aQ} {I J:Inv} (E:Hv lJ qm I J) {u9 um:Nat}:∀(N:Nat) (p:aL),p.size<=N->∀(k:Nat) (d:List (Nat × aL)) (X:aQ->Prop) (ah:List V) (h:ai),d.length+p.size<=1000000000->k+p.size<=1000000000->¬X (aj u9)->¬X (aj um)->cW (fun b=>cI b<lJ) h p.enc ah->
 Has h u9 [.func 4294967296 [.ptr qm 0]]->Has h um [.func 87 [.ptr (aj u9) 0,.ptr (aj um) 0]]->I d X h->db Tryz.prog 87 [.int .i64 k,.agg ah,.ptr (aj u9) 0,.ptr (aj um) 0] h (Left I J (d++p.pred k) X h)
 | 0,p,aR,_,_,_,_,_,_,_,_,_,_,_,_,_=>by have:=pA p;omega
 | N+1,p,aR,k,d,X,ah,h,apk,aqp,aZ,an,H,Y,B,K=>by
   have apm:=size_eq p;obtain ⟨dw,rfl,L,_⟩:=aL.open H;have ol:=L.one;have ay:=L.len;have hle:=L.le;rw [List.length_map] at ay hle;refine abA.z rfl (dB ?_);unfold QW;obtain ⟨aa,ar,aP,da⟩:=ic h (gG p dw);have cw:¬X (aj h.next):=fun q=>Gn (Nat.le_refl _) (E.bG K _ q);have CD:=aP.next
   have Da:=Y.ext aP;simp +contextual only [ol.1,ol.2.1,ar,da.g,Da.g,I2,List.cons_append,List.nil_append,if_true,↓al,aE,simprocAttr];refine ao5 (cY:=[_,_]) (E.RD k p (E.ext K aP) (by omega) (by omega) (by omega) (H.ext aP)) ?_;rintro x ad ⟨lN,m2,s2,ak⟩;have fJ:=EX s2 Da.lt aZ;have i2:=EX s2 (B.ext aP).lt an;have OA:Grow X lN h:=fun b q=>by
    rcases s2 b q with q | q
    . exact .inl q
    . exact .inr (by omega)
   have gq:=da.mod m2 cw;have YV:=Da.mod m2 aZ;have iH:=(B.ext aP).mod m2 an;have Ov:Mod X h ad:=(aP.mod X).trans m2;rcases ak with ⟨rfl,Ho⟩ | ⟨rfl,Ho⟩
   rotate_left
   . simp +contextual only [↓al,aE,simprocAttr];exact ⟨lN,Ov,OA,.inr ⟨rfl,d++[(k,p)],by rw [Mi];exact List.prefix_append _ _,Ho⟩⟩
   simp +contextual only [gq.g,ay,↓al,aE,simprocAttr];refine eY (fun r g=>r 0=.int .i64 k/\r 2=.ptr (aj u9) 0/\r 3=.ptr (aj um) 0/\r 15=dw/\r 16=.int .i64 p.l.length/\∃i:Nat,r 17=.int .i64 i/\i<=p.l.length/\Has g u9 [.func 4294967296 [.ptr qm 0]]/\Has g um [.func 87 [.ptr (aj u9) 0,.ptr (aj um) 0]]/\
    ∃iu,I (d++[(k,p)]++i' (k+1) (p.l.take i)) iu g/\Mod X h g/\Grow X iu h/\¬iu (aj u9)/\¬iu (aj um)) (fun r g=>p.l.length - (r 17).toN) ?_ ?_
   . exact ⟨by simp only [↓al,bs,simprocAttr],by simp only [↓al,bs,simprocAttr],by simp only [↓al,bs,simprocAttr],by simp only [↓al,bs,simprocAttr],by simp only [↓al,bs,simprocAttr],0,by simp only [↓al,bs,simprocAttr]<;>rfl,by omega,YV,iH,lN,by rw [List.take_zero,i',List.append_nil];exact Ho,Ov,OA,fJ,i2⟩
   rintro r g ⟨bq,cw,cn,FY,r16,i,Dm,apt,YW,YN,iu,Hq,Dn,HB,HC,Hy⟩;unfold QX;have AB:=L.mod (fq:=fun b=>cI b<lJ) Dn fun b q _=>⟨fun z=>by have:=E.bB K b z;omega,q⟩;by_cases aO:i<p.l.length
   . have g0:((i:Int) < (p.l.length:Int))=True:=eq_true (by omega);obtain ⟨b,off,wl,ct,YU,ky,ld⟩:=aL.c6 AB (k:=.i64) aO;have uy:=ld g (Ext.refl g);have k5:=ky.one;have dk:=jj aO (by unfold top at hle;omega);have ZC:IntKind.i64.wrap ((k:Int)+1)=((k+1:Nat):Int):=by rw [wrap_i64 (by omega) (by omega)];rfl
     have cr:=py (t:=p) (List.getElem_mem aO);obtain ⟨g1,e7,bz,Z⟩:=o1 g z4 (gG p.l[i] wl);have Hj:=YN.ext bz;have Hr:=YW.ext bz;simp +contextual only [bq,cw,cn,FY,r16,Dm,g0,ct,uy,e7,Z.g,Hj.g,k5.1,k5.2.1,ZC,I2,List.cons_append,List.nil_append,show (87=4294967296)=False from by simp,if_false,↓al,aE,simprocAttr];have apu:=uO (l:=p.l) aO;have apo:=nK p.l (i+1);refine cz (TP E N p.l[i] (by omega) (k+1) _ iu _ g1 (by rw [List.length_append,List.length_append,List.length_singleton,alT];omega) (by omega) HC Hy (YU.ext bz) Hr Hj (E.ext Hq bz)) ?_;rintro x g2 ⟨C_,m3,kM,ak⟩;have rE:=bz.next
     have Gs:=Dn.next
     have OB:Grow X C_ h:=fun b q=>by
      rcases kM b q with q | q
      . exact HB b q
      . exact .inr (by omega)
     have Ow:=aku Dn ((bz.mod iu).trans m3) HB;have j1:d++[(k,p)]++i' (k+1) (p.l.take i)++p.l[i].pred (k+1)=d++[(k,p)]++i' (k+1) (p.l.take (i+1)):=by rw [take_one aO,Mj,alU,<-List.append_assoc]
     rcases ak with ⟨rfl,Hp⟩ | ⟨rfl,jq,E_,Hp⟩
     . simp +contextual only [bq,cw,cn,FY,r16,Dm,dk,↓al,aE,simprocAttr];exact ⟨⟨i+1,rfl,aO,Hr.mod m3 HC,Hj.mod m3 Hy,C_,by rw [<-j1];exact Hp,Ow,OB,EX kM Hr.lt HC,EX kM Hj.lt Hy⟩,by omega⟩
     . simp +contextual only [bq,cw,cn,FY,r16,Dm,dk,↓al,aE,simprocAttr];refine ⟨C_,Ow,OB,.inr ⟨rfl,jq,?_,Hp⟩⟩;rw [j1] at E_;refine E_.trans ?_;rw [Mi];refine (List.prefix_append_right_inj _).2 ?_
       conv=>rhs;rw [<-List.take_append_drop (i+1) p.l,Mj]
       exact List.prefix_append _ _
   . have g0:((i:Int) < (p.l.length:Int))=False:=eq_false (by omega);rw [List.take_of_length_le (by omega)] at Hq;simp +contextual only [bq,cw,cn,FY,r16,Dm,g0,↓al,aE,simprocAttr];exact ⟨iu,Dn,HB,.inl ⟨rfl,by rw [Mi];exact Hq⟩⟩
theorem aoC (ah:List V) (h:ai) (a6:ev ah=true) (ay:ah.length<=top):db Tryz.prog 56 [.agg ah] h fun x ab=>∃n,x=.func 86 [.ptr (aj n) 0]/\Has ab n ah/\Ext h ab:=by refine abm.z rfl (dB ?_);unfold QA;obtain ⟨aa,ar,aP,da⟩:=ic h ah;have eP:(ah.length<=17179869184)=True:=eq_true ay;simp +contextual only [ar,a6,eP,↓al,aE,simprocAttr];exact ⟨_,rfl,da,aP⟩
theorem aoB {lJ:Nat} {qm:aQ} {I J:Inv} (E:Hv lJ qm I J) {xg:Nat} (p:aL) (ag:p.size<=900000000) (X:aQ->Prop) (ah:List V) (h:ai) (H:cW (fun b=>cI b<lJ) h p.enc ah) (YO:Has h xg ah) (K:I [] X h):
 db Tryz.prog 86 [.func 4294967296 [.ptr qm 0],.ptr (aj xg) 0] h fun _ ab=>∃x,Left I J (p.pred 1) X h x ab:=by
 obtain ⟨dw,rfl,L,_⟩:=aL.open H;refine abz.z rfl (dB ?_);unfold QV;obtain ⟨aa,ar,aP,Da⟩:=ic h [.func 4294967296 [.ptr qm 0]];obtain ⟨ad,av,a',iH⟩:=o1 aa [.mN] [.func 87 [.ptr (aj h.next) 0,.ptr (aj aa.next) 0]];have yt:=aP.trans a';have YR:=YO.ext yt;have cS:¬X (aj h.next):=fun q=>Gn (Nat.le_refl _) (E.bG K _ q);have fP:¬X (aj aa.next):=fun q=>Gn (Nat.le_refl _) (E.bG (E.ext K aP) _ q);have ol:=L.one;have apd:=av;simp +contextual only [ar,av,iH.g,YR.g,ol.1,ol.2.1,I2,List.cons_append,List.nil_append,show (87=4294967296)=False from by simp,if_false,↓al,aE,simprocAttr];refine cz (TP E p.size p (Nat.le_refl _) 1 [] X _ ad (by simp;omega) (by omega) cS fP (H.ext yt) (Da.ext a') iH (E.ext K yt)) ?_;rintro x aJ ⟨C_,m3,kM,ak⟩;have apb:=yt.next
 simp +contextual only [↓al,aE,simprocAttr];exact ⟨x,C_,(yt.mod X).trans m3,fun b q=>by
  rcases kM b q with q | q
  . exact .inl q
  . exact .inr (by omega),ak⟩
theorem MN {a b:Nat} (v w:V) (r:bd) {j:Nat} (aa:j≠a) (ad:j≠b) (aJ:j≠eS):oM [a,b] [v,w] r j=r j:=by simp [oM,bd.uJ,bd.set,aa,ad,aJ]
theorem amE {a b:Nat} (v w:V) (r:bd) (aa:a≠b) (aJ:a≠eS):oM [a,b] [v,w] r a=v:=by simp [oM,bd.uJ,bd.set,aa,aJ]
theorem amF {a b:Nat} (v w:V) (r:bd) (aJ:b≠eS):oM [a,b] [v,w] r b=w:=by simp [oM,bd.uJ,bd.set,aJ]
theorem aki {l:lM} (aX:l.st=0) (ag:l.ew=none):l.go 0 none=l:=by obtain ⟨st,ew,_,_,_,_,_,_⟩:=l;simp only at aX ag;subst aX ag;rfl
structure NZ (cd cX kL dL m:Nat) (l:lM) (d:List (Nat × aL)) (X:aQ->Prop) (h:ai):Prop where
 fn:Has h cd [.int .i64 (d.length:Nat)]
 yu:Has h cX [.int .i64 (maxD d:Nat)]
 vW:Has h kL [.int .i64 0]
 bB:m<h.next
 tS:h.get (aj m)=.dF l
 tO:dL<h.next
 fd:h.get (aj dL)=.gd
 JA:∀x ∈ d,x.2.own=true
 ei:maxD d<=1000000000
 p1:∀p,X p↔p=aj cd\/p=aj cX\/p=aj kL\/p=aj m
structure Yc (cd cX kL dL m:Nat) (l:lM) (d:List (Nat × aL)) (X:aQ->Prop) (h:ai):Prop where
 vW:Has h kL [.int .i64 2]
 bB:m<h.next
 tS:h.get (aj m)=.dF (l.go 2 (some .ret))
 tO:dL<h.next
 fd:h.get (aj dL)=.gd
 bad:∃x ∈ d,x.2.own=false
theorem ab5 {lJ cd cX kL dL m:Nat} {l:lM} {r:bd} (q4:lJ<=cd) (tY:lJ<=cX) (apV:lJ<=kL) (apW:lJ<=m) (cS:cd≠cX) (fP:cd≠kL) (n3:cd≠m) (n4:cd≠dL) (n5:cX≠kL) (n6:cX≠m) (n7:cX≠dL) (n8:kL≠m) (n9:kL≠dL) (n10:m≠dL)
 (F:DM Tryz.prog l 25 r [9,10] II IJ) (aX:l.st=0) (ag:l.ew=none) (cw:r 2=.ptr (aj kL) 0) (cn:r 3=.ptr (aj cd) 0) (fo:r 4=.ptr (aj cX) 0):
 Hv lJ (aj m) (fun d X h=>NZ cd cX kL dL m l d X h) (fun d X h=>Yc cd cX kL dL m l d X h) where
 ext:=fun {d X h ab} K e=>⟨K.fn.ext e,K.yu.ext e,K.vW.ext e,Nat.lt_of_lt_of_le K.bB e.next,(e.get _ (gi K.bB)).trans K.tS,Nat.lt_of_lt_of_le K.tO e.next,(e.get _ (gi K.tO)).trans K.fd,K.JA,K.ei,K.p1⟩
 bG:=fun {d X h} K b ae=>by
  rcases (K.p1 b).1 ae with rfl | rfl | rfl | rfl
  . exact gi K.fn.lt
  . exact gi K.yu.lt
  . exact gi K.vW.lt
  . exact gi K.bB
 bB:=fun {d X h} K b ae=>by rcases (K.p1 b).1 ae with rfl | rfl | rfl | rfl<;>rw [cc]<;>assumption
 RD:=fun {d X h} k p ah K bc aH BL H=>by
  have vd:=H;obtain ⟨dw,rfl,L,ny⟩:=aL.open H;have ol:=L.one;have hm:=aki aX ag;refine ao6 (by decide) follows Cw F K.tS aX rfl ?_;obtain ⟨aa,ar,aP,da⟩:=o1 h z4 (gG p dw);have bt:aa.get (aj m)=.dF l:=(aP.get _ (gi K.bB)).trans K.tS;have bB:=K.bB;have tO:=K.tO;have CD:=aP.next
  have g9:=amE (a:=9) (b:=10) (.int .i64 k) (.agg (gG p dw)) r (by decide) (by decide);have g10:=amF (a:=9) (b:=10) (.int .i64 k) (.agg (gG p dw)) r (by decide);have g2:=MN (a:=9) (b:=10) (.int .i64 k) (.agg (gG p dw)) r (j:=2) (by decide) (by decide) (by decide);have g3:=MN (a:=9) (b:=10) (.int .i64 k) (.agg (gG p dw)) r (j:=3) (by decide) (by decide) (by decide);have g4:=MN (a:=9) (b:=10) (.int .i64 k) (.agg (gG p dw)) r (j:=4) (by decide) (by decide) (by decide);rw [cw] at g2;rw [cn] at g3;rw [fo] at g4;generalize oM [9,10] [V.int .i64 k,.agg (gG p dw)] r=bq at *;refine dB ?_;unfold II;simp +contextual only [g9,g10,ar,ol.1,ol.2.1,↓al,aE,simprocAttr];refine ⟨bt,dB ?_⟩;have gq:=da.set (m:=m) (by omega) (.dF (l.go 1 l.ew));have AF:=(K.fn.ext aP).set (m:=m) n3 (.dF (l.go 1 l.ew));have iH:=(K.yu.ext aP).set (m:=m) n6 (.dF (l.go 1 l.ew));have n2:=(K.vW.ext aP).set (m:=m) n8 (.dF (l.go 1 l.ew));have adT:(aa.set (aj m) (.dF (l.go 1 l.ew))).get (aj m)=.dF (l.go 1 l.ew):=by rw [dy,if_pos rfl]
  have JH:(aa.set (aj m) (.dF (l.go 1 l.ew))).get (aj dL)=.gd:=by rw [dy,if_neg (fun q=>n10 (fu q))];exact (aP.get _ (gi tO)).trans K.fd
  have M2:Mod X h (aa.set (aj m) (.dF (l.go 1 l.ew))):=(aP.mod X).set (fun _=>(K.p1 _).2 (.inr (.inr (.inr rfl)))) _;have cu:cW Any (aa.set (aj m) (.dF (l.go 1 l.ew))) p.enc (gG p dw):=(vd.ext aP).mod (M:=fun b=>b=aj m) (((Mod.refl (fun b=>b=aj m) aa).set (fun _=>rfl) _)) fun b q _=>⟨fun z=>by rw [show b=aj m from z,cc] at q;omega,trivial⟩;have pb:(aa.set (aj m) (.dF (l.go 1 l.ew))).next=aa.next:=rfl
  generalize aa.set (aj m) (.dF (l.go 1 l.ew))=ad at *;unfold IJ;simp +contextual only [gq.g,↓al,aE,simprocAttr];refine cz (alC p _ ad cu) ?_;rintro x aJ ⟨rfl,cM⟩;have pL:=gq.ext cM;have kR:=AF.ext cM;have Ag:=iH.ext cM;have AH:=n2.ext cM;have Gs:=cM.next
  have Si:aJ.get (aj m)=.dF (l.go 1 l.ew):=(cM.get _ (gi (by omega))).trans adT;have Se:aJ.get (aj dL)=.gd:=(cM.get _ (gi (by omega))).trans JH;have vm:=M2.trans (cM.mod X);cases c:p.own with
  | false=>
    simp +contextual only [g2,AH.g,↓al,aE,simprocAttr];refine ⟨by rw [if_neg n8];exact Si,X,(vm.set (fun _=>(K.p1 _).2 (.inr (.inr (.inl rfl)))) _).set (fun _=>(K.p1 _).2 (.inr (.inr (.inr rfl)))) _,fun b q=>.inl q,.inr ⟨(AH.put _).set n8 _,?_,?_,?_,?_,(k,p),by simp,c⟩⟩
    . show m<aJ.next;omega
    . rw [dy,if_pos rfl]
    . show dL<aJ.next;omega
    . rw [dy,if_neg (fun q=>n10 (fu q)),dy,if_neg (fun q=>n9 (fu q))];exact Se
  | true=>
    have b2:IntKind.i64.wrap ((d.length:Int)+1)=((d.length+1:Nat):Int):=by rw [wrap_i64 (by omega) (by omega)];rfl
    simp +contextual only [g2,g3,g4,kR.g,Ag.g,pL.g,b2,eq_false cS,if_false,Ge,↓al,aE,simprocAttr];have j0:maxD (d++[(k,p)])=max (maxD d) k:=by rw [LJ,UJ];unfold maxD;simp
    refine ⟨by rw [if_neg n6,if_neg n3];exact Si,X,((vm.set (fun _=>(K.p1 _).2 (.inl rfl)) _).set (fun _=>(K.p1 _).2 (.inr (.inl rfl))) _).set (fun _=>(K.p1 _).2 (.inr (.inr (.inr rfl)))) _,fun b q=>.inl q,.inl ⟨?_,?_,?_,?_,?_,?_,?_,?_,?_,K.p1⟩⟩
    . rw [List.length_append,List.length_singleton];exact ((kR.put _).set cS _).set n3 _
    . rw [j0];exact ((Ag.set (m:=cd) (fun q=>cS q.symm) _).put _).set n6 _
    . exact ((AH.set (m:=cd) (fun q=>fP q.symm) _).set (m:=cX) (fun q=>n5 q.symm) _).set n8 _
    . show m<aJ.next;omega
    . rw [dy,if_pos rfl,hm]
    . show dL<aJ.next;omega
    . rw [dy,if_neg (fun q=>n10 (fu q)),dy,if_neg (fun q=>n7 (fu q)),dy,if_neg (fun q=>n4 (fu q))];exact Se
    . intro x ak;rcases List.mem_append.1 ak with ak | ak
      . exact K.JA x ak
      . rw [List.mem_singleton] at ak;subst ak;exact c
    . rw [j0];have:=K.ei;omega
theorem alQ {α:Type} {a b:List α} {P:α->Bool} (h:a <+:b) (q:∃x ∈ a,P x=false):b.all P=false:=by obtain ⟨x,ak,ag⟩:=q;rw [List.all_eq_false];exact ⟨x,h.subset ak,by simp [ag]⟩
theorem ab3 (p:aL) (aR:p.size<=900000000) (ah:List V) (h:ai) (H:cW Any h p.enc ah):db Tryz.prog 19 [.agg ah] h fun x ab=>x=.int .i64 p.check/\Ext h ab:=by
 have vd:=H.rG;have a6:=H.ev;obtain ⟨dw,c0,L,_⟩:=aL.open H;have l2:ah.length<=top:=by rw [c0];simp [top]
 have dn:ah.length=4:=by rw [c0];rfl
 have ags:(ah.length<=17179869184)=True:=eq_true l2;refine aa0 rfl (dB ?_);unfold IH;obtain ⟨aa,ar,aP,da⟩:=ic h ah;obtain ⟨ad,av,a',n2⟩:=ic aa [.int .i64 0];obtain ⟨aJ,aK,cM,kR⟩:=ic ad [.int .i64 0];obtain ⟨bE,bU,fM,Hn⟩:=ic aJ [.int .i64 0];have Dl:=((da.ext a').ext cM).ext fM;have Oz:=kR.ext fM;have DP:=(n2.ext cM).ext fM;have cS:=aP.next
 have fP:=a'.next
 have n3:=cM.next
 have n4:=fM.next
 have d':=da.lt;have eK:=n2.lt;have Cj:=kR.lt;have wX:=Hn.lt;have g4:oA 4 (cf.bC ah 0 false) 0=some (.agg ah):=by rw [Lv,if_pos (by omega),List.drop_zero,List.take_of_length_le (by omega)]
 have f1:(ad.next=aJ.next)=False:=eq_false (by omega);have f2:(aJ.next=ad.next)=False:=eq_false (by omega);have f3:(aJ.next=h.next)=False:=eq_false (by omega);have f4:(ad.next=h.next)=False:=eq_false (by omega);simp +contextual only [ar,av,aK,bU,a6,ags,Dl.g,Oz.g,Hn.g,DP.g,g4,f1,f2,f3,f4,if_false,↓al,aE,simprocAttr];have oS:Ext h bE:=((aP.trans a').trans cM).trans fM;have Hu:Ext h ((bE.set (aj ad.next) (cf.bC [V.int .i64 0] 0 false)).set (aj aJ.next) (cf.bC [V.int .i64 0] 0 false)):=(oS.set (by omega) _).set (by omega) _;have YK:=(Oz.put [V.int .i64 0]).set (m:=aJ.next) (by omega) (cf.bC [V.int .i64 0] 0 false);have X_:=(Hn.set (m:=ad.next) (by omega) (cf.bC [V.int .i64 0] 0 false)).put [V.int .i64 0];have Y5:=(DP.set (m:=ad.next) (by omega) (cf.bC [V.int .i64 0] 0 false)).set (m:=aJ.next) (by omega) (cf.bC [V.int .i64 0] 0 false);have U4:((bE.set (aj ad.next) (cf.bC [V.int .i64 0] 0 false)).set (aj aJ.next) (cf.bC [V.int .i64 0] 0 false)).next=bE.next:=rfl
 generalize (bE.set (aj ad.next) (cf.bC [V.int .i64 0] 0 false)).set (aj aJ.next) (cf.bC [V.int .i64 0] 0 false)=dn at *;refine cz (aoC ah dn a6 l2) ?_;rintro x dH ⟨n,rfl,tz,pW⟩;simp +contextual only [↓al,aE,simprocAttr];refine amp (g:=86) (cs:=[.ptr (aj n) 0]) (by simp only [↓al,bs,simprocAttr]) (by decide) ⟨_,Tryz.func86,by kernel_rfl⟩ ?_;intro l F aX ag;have n6:=pW.next
 have A':Ext dH ((dH.new .gd).new (.dF l)):=((Ext.refl dH).new _).new _;have Ak:=(Hu.trans pW).trans A';have YL:=(YK.ext pW).ext A';have Ya:=(X_.ext pW).ext A';have Y6:=(Y5.ext pW).ext A';have E:=ab5 (lJ:=h.next) (cd:=ad.next) (cX:=aJ.next) (kL:=aa.next) (dL:=dH.next) (m:=dH.next+1) (l:=l) (by omega) (by omega) (by omega) (by omega) (by omega) (by omega) (by omega) (by omega) (by omega) (by omega) (by omega) (by omega) (by omega) (by omega) F aX ag (by simp only [↓al,bs,simprocAttr]) (by simp only [↓al,bs,simprocAttr]) (by simp only [↓al,bs,simprocAttr]);have Yw:NZ ad.next aJ.next aa.next dH.next (dH.next+1) l [] (fun b=>b=aj ad.next\/b=aj aJ.next\/b=aj aa.next\/b=aj (dH.next+1)) ((dH.new .gd).new (.dF l)):=by refine ⟨YL,Ya,Y6,by rw [gN,gN];omega,ni _,by rw [gN,gN];omega,?_,(fun x ak=>by cases ak),Nat.zero_le _,fun p=>Iff.rfl⟩;rw [iM,if_neg (fun q=>by have:=fu q;rw [gN] at this;omega),ni]
 refine (aoB E p aR _ ah _ (vd.ext Ak) (tz.ext A') Yw).mono ?_;rintro _ p2 ⟨x,apl,m8,aqZ,ak⟩;have FD:p.shape=(p.pred 1).all fun x=>x.2.own:=by rw [WL,<-Mh 1 p,List.all_map];rfl
 have N7:Ext h p2:=Ak.hJ m8 fun b ae=>by rcases ae with rfl | rfl | rfl | rfl<;>rw [cc]<;>omega
 rcases ak with ⟨rfl,nX⟩ | ⟨rfl,jq,E_,nX⟩
 . refine ⟨l,nX.tS,by rw [aX];decide,?_⟩;rw [ag];have eD:=nX.bB;have DN:=nX.fn.set (m:=dH.next+1) (by omega) .dead;have Dq:=nX.yu.set (m:=dH.next+1) (by omega) .dead;have AI:=nX.vW.set (m:=dH.next+1) (by omega) .dead;have Al:Ext h (p2.set (aj (dH.next+1)) .dead):=N7.set (by omega) _;have Bj:(p2.set (aj (dH.next+1)) .dead).get (aj dH.next)=.gd:=by rw [dy,if_neg (fun q=>by have:=fu q;omega)];exact nX.fd
   generalize p2.set (aj (dH.next+1)) .dead=E0 at *;have qA:p.shape=true:=by rw [FD,List.all_eq_true];exact nX.JA
   have jw:(p.pred 1).length=p.size:=alS 1 p;have Ta:maxD (p.pred 1)=p.deep:=by have:=VP 1 p;omega
   rw [jw] at DN;rw [Ta] at Dq;have ap0:=Rl p;have f6:(dH.next=aa.next)=False:=eq_false (by omega);have f7:(aa.next=dH.next)=False:=eq_false (by omega);rw [Q6,if_pos qA];by_cases bP:p.size<=4096
   . have f8:((4096:Int) < (p.size:Int))=False:=eq_false (by omega);by_cases bY:p.deep<=200
     . have f9:((200:Int) < (p.deep:Int))=False:=eq_false (by omega);simp +contextual only [Option.getD_none,DN.g,Dq.g,AI.g,f6,f7,f8,f9,eq_true bP,eq_true bY,if_false,if_true,decide_true,decide_false,eS,V.list,bd.bC,qn,Bj,↓al,aE,simprocAttr];exact (Al.set (by omega) _).set (by omega) _
     . have f9:((200:Int) < (p.deep:Int))=True:=eq_true (by omega);simp +contextual only [Option.getD_none,DN.g,Dq.g,AI.g,f6,f7,f8,f9,eq_true bP,eq_false bY,if_false,if_true,decide_true,decide_false,eS,V.list,bd.bC,qn,Bj,↓al,aE,simprocAttr];exact (Al.set (by omega) _).set (by omega) _
   . have f8:((4096:Int) < (p.size:Int))=True:=eq_true (by omega);simp +contextual only [Option.getD_none,DN.g,Dq.g,AI.g,f6,f7,f8,eq_false bP,if_false,if_true,decide_true,decide_false,eS,V.list,bd.bC,qn,Bj,↓al,aE,simprocAttr];exact (Al.set (by omega) _).set (by omega) _
 . refine ⟨l.go 2 (some .ret),nX.tS,(by show (2:Nat)≠1;decide),?_⟩;have qA:p.shape=false:=by rw [FD];exact alQ (P:=fun x:Nat × aL=>x.2.own) E_ nX.bad
   have aD:p.check=2:=by unfold aL.check;rw [qA];rfl
   rw [aD];have eD:=nX.bB;have AI:=nX.vW.set (m:=dH.next+1) (by omega) .dead;have Al:Ext h (p2.set (aj (dH.next+1)) .dead):=N7.set (by omega) _;have Bj:(p2.set (aj (dH.next+1)) .dead).get (aj dH.next)=.gd:=by rw [dy,if_neg (fun q=>by have:=fu q;omega)];exact nX.fd
   generalize p2.set (aj (dH.next+1)) .dead=E0 at *;have f6:(dH.next=aa.next)=False:=eq_false (by omega);simp +contextual only [lM.go,Option.getD_some,AI.g,f6,if_false,eS,V.list,bd.bC,qn,Bj,↓al,aE,simprocAttr];exact Al.set (by omega) _
structure ao' (cd dL m:Nat) (l:lM) (d:List (Nat × aL)) (X:aQ->Prop) (h:ai):Prop where
 fn:Has h cd [.int .i64 (d.length:Nat)]
 bB:m<h.next
 tS:h.get (aj m)=.dF l
 tO:dL<h.next
 fd:h.get (aj dL)=.gd
 p1:∀p,X p↔p=aj cd\/p=aj m
abbrev Yu [Lay] (B:Nat) (h:ai) (l:List Int) (v:V):Prop:=cD B h 1 v l.length (l7 l)
section
variable [Lay] {B:Nat} {h ab:ai} {l:List Int} {v:V}
end
structure apj (B cd fT dL m:Nat) (sm:aQ) (l:lM) (d:List (Nat × aL)) (X:aQ->Prop) (h:ai):Prop where
 ex:∃v,Has h cd [v]/\Yu B h ((d.map Prod.snd).foldl OW []) v/\(∀b,X b↔b=aj cd\/b=aj m\/b=sm\/v.aM b)
 mp:∃bM:List (Int × Bool),jm V.bool h sm bM/\(∀n,ff n bM=if n ∈ (d.map Prod.snd).foldl OW [] then some true else none)
 fT:Has h fT [.map sm]
 bB:m<h.next
 tS:h.get (aj m)=.dF l
 tO:dL<h.next
 fd:h.get (aj dL)=.gd
 yt:B<=h.next
section
variable [Lay]
def toV (π w:Nat->Nat) (i:Nat):V:=if w i=i then .ej else .ptr (aj (π (w i))) 0
abbrev rK (π:Nat->Nat) (aI:List Nat):List V:=aI.map fun k=>.ptr (aj (π k)) 0
abbrev mM (π w:Nat->Nat) (bR:Nat->V) (bN:Nat->Int) (aN:dx) (i:Nat):List V:=[toV π w i,.bool aN.cj,.str aN.s,bR i,.int .i64 (bN i)]
structure e' (h:ai) (g:bp) (π:Nat->Nat) (bR:Nat->V) (w:Nat->Nat) (bN:Nat->Int):Prop where
 has:∀(i:Nat) (aN:dx),g.nodes[i]? =some aN->Has h (π i) (mM π w bR bN aN i)
 c6:∀(i:Nat) (aN:dx),g.nodes[i]? =some aN->fC h 1 (bR i) aN.kids.length (rK π aN.kids)/\rN (bR i)/\aN.kids.length<=top
 inj:∀i j,i<g.N->j<g.N->π i=π j->i=j
 sep:∀i j,i<g.N->j<g.N->¬(bR i).aM (aj (π j))
def jM (g:bp) (π:Nat->Nat) (b:aQ):Prop:=∃i,i<g.N/\b=aj (π i)
theorem hT {g:bp} {i:Nat} (an:i<g.N):∃aN,g.nodes[i]? =some aN:=⟨_,List.getElem?_eq_getElem an⟩
theorem hl {g:bp} {i:Nat} {aN:dx} (h:g.nodes[i]? =some aN):i<g.N:=(List.getElem?_eq_some_iff.1 h).1
variable {h ab:ai} {g:bp} {π:Nat->Nat} {bR:Nat->V} {w:Nat->Nat} {bN:Nat->Int}
theorem e'.mod {M:aQ->Prop} (H:e' h g π bR w bN) (m:Mod M h ab) (aa:∀i,i<g.N->¬M (aj (π i))) (ad:∀i b,i<g.N->(bR i).aM b->¬M b):e' ab g π bR w bN:=
 ⟨fun i aN e=>(H.has i aN e).mod m (aa i (hl e)),fun i aN e=>⟨(H.c6 i aN e).1.mod m fun b q=>ad i b (hl e) q,(H.c6 i aN e).2⟩,H.inj,H.sep⟩
theorem e'.ext (H:e' h g π bR w bN) (e:Ext h ab):e' ab g π bR w bN:=H.mod (M:=fun _=>False) (e.mod _) (fun _ _ q=>q) fun _ _ _ _ q=>q
theorem e'.lt (H:e' h g π bR w bN) {i:Nat} (an:i<g.N):π i<h.next:=by obtain ⟨aN,e⟩:=hT an;exact (H.has i aN e).lt
theorem e'.rn (H:e' h g π bR w bN) {i:Nat} (an:i<g.N) {b:aQ} (ae:(bR i).aM b):Old h b:=by obtain ⟨aN,e⟩:=hT an;exact (H.c6 i aN e).1.bG ae
theorem e'.put (H:e' h g π bR w bN) {b:Nat} {aN:dx} (ae:g.nodes[b]? =some aN) {ao:Nat->Nat} {fQ:Nat->Int} (hw:∀x,x≠b->ao x=w x) (aV:∀x,x≠b->fQ x=bN x):e' (h.set (aj (π b)) (.bC (mM π ao bR fQ aN b) 0 false)) g π bR ao fQ:=by
 have m:Mod (fun x=>x=aj (π b)) h (h.set (aj (π b)) (.bC (mM π ao bR fQ aN b) 0 false)):=(Mod.refl (fun x=>x=aj (π b)) h).set (fun _=>rfl) _;refine ⟨fun i cm e=>?_,fun i cm e=>⟨(H.c6 i cm e).1.mod m fun x q z=>?_,(H.c6 i cm e).2⟩,H.inj,H.sep⟩
 . by_cases q:i=b
   . subst q;obtain rfl:cm=aN:=by rw [e] at ae;exact Option.some.inj ae
     exact (H.has i cm e).put _
   . have aa:=H.has i cm e;rw [show mM π ao bR fQ cm i=mM π w bR bN cm i from by unfold mM toV;rw [hw i q,aV i q]];exact aa.set (fun z=>q (H.inj i b (hl e) (hl ae) z)) _
 . rw [show x=aj (π b) from z] at q;exact H.sep i b (hl e) (hl ae) q
theorem e'.root (H:e' h g π bR w bN) {b:Nat} {aN:dx} (ae:g.nodes[b]? =some aN) (hw:w b=b):h.get (aj (π b))=.bC [.ej,.bool aN.cj,.str aN.s,bR b,.int .i64 (bN b)] 0 false:=by have:=(H.has b aN ae).g;unfold mM toV at this;rw [if_pos hw] at this;exact this
theorem e'.step (H:e' h g π bR w bN) {b:Nat} {aN:dx} (ae:g.nodes[b]? =some aN) (hw:w b≠b):h.get (aj (π b))=.bC [.ptr (aj (π (w b))) 0,.bool aN.cj,.str aN.s,bR b,.int .i64 (bN b)] 0 false:=by have:=(H.has b aN ae).g;unfold mM toV at this;rw [if_neg hw] at this;exact this
open Classical in
def idx (g:bp) (π:Nat->Nat) (v:V):Nat:=if h:∃i,i<g.N/\v=.ptr (aj (π i)) 0 then h.choose else 0
theorem e'.idx (H:e' h g π bR w bN) {i:Nat} (an:i<g.N):Go.Proofs.YthemdhlheglhoaaGreatDoor.idx g π (.ptr (aj (π i)) 0)=i:=by
 unfold Go.Proofs.YthemdhlheglhoaaGreatDoor.idx;have ak:∃j,j<g.N/\V.ptr (aj (π i)) 0=.ptr (aj (π j)) 0:=⟨i,an,rfl⟩;rw [dif_pos ak];obtain ⟨aa,ad⟩:=Exists.choose_spec ak;injection ad with ad _
 exact (H.inj _ _ an aa (fu ad)).symm
end
theorem RQ {P:Program} (b:aQ) (o:Nat):(eG.jT true 1).run P (.ptr b o) .ej=some (.bool true):=by rfl
theorem RP {P:Program}:(eG.jT true 1).run P .ej .ej=some (.bool false):=by rfl
theorem z' {g:bp} {π:Nat->Nat} {bR:Nat->V} {w:Nat->Nat} {bN:Nat->Int} {ρ:Nat->Nat} {h:ai} (H:e' h g π bR w bN) (S:eU g ρ) (e2:Way w ρ) {a:Nat} (a1:a<g.N):
 db Tryz.prog 53 [.ptr (aj (π a)) 0] h fun x ab=>x=.ptr (aj (π (ρ a))) 0/\∃ao,e' ab g π bR ao bN/\Way ao ρ/\Mod (jM g π) h ab:=by
 obtain ⟨eR,R⟩:=e2;refine abi.z rfl (dB ?_);unfold Qu;simp +contextual only [↓al,aE,simprocAttr];refine eY (fun r aX=>aX=h/\r 0=.ptr (aj (π a)) 0/\∃b,b<g.N/\r 3=.ptr (aj (π b)) 0/\ρ b=ρ a) (fun r _=>eR (idx g π (r 3))) ?_ ?_
 . exact ⟨rfl,by simp only [↓al,bs,simprocAttr],a,a1,by simp only [↓al,bs,simprocAttr],rfl⟩
 rintro r aX ⟨rfl,bq,b,ae,cn,e⟩;obtain ⟨cd,EA⟩:=hT ae;unfold Qv;by_cases q:w b=b
 . have G:=H.root EA q;have Jo:ρ a=b:=by rw [<-e];exact Way.end ⟨eR,R⟩ q
   subst Jo;simp +contextual only [bq,cn,G,RP,↓al,aE,simprocAttr];refine eY (fun r aa=>r 3=.ptr (aj (π (ρ a))) 0/\∃b ao,b<g.N/\r 0=.ptr (aj (π b)) 0/\ρ b=ρ a/\e' aa g π bR ao bN/\vu eR ao ρ/\Mod (jM g π) aX aa) (fun r _=>eR (idx g π (r 0))) ?_ ?_
   . exact ⟨by simp only [cn,↓al,bs,simprocAttr],a,w,a1,by simp only [bq,↓al,bs,simprocAttr],rfl,H,R,Mod.refl _ _⟩
   rintro r aa ⟨cn,c,ao,aD,bq,RE,H1,oV,jL⟩;obtain ⟨qq,enc⟩:=hT aD;unfold Qw;by_cases CV:ao c=c
   . have G:=H1.root enc CV;simp +contextual only [bq,cn,G,RP,↓al,aE,simprocAttr];exact ⟨ao,H1,⟨eR,oV⟩,jL⟩
   . have G:=H1.step enc CV;have hw:=Way.lt S ⟨eR,oV⟩ aD;simp +contextual only [bq,cn,G,RQ,H1.idx aD,H1.idx hw,↓al,aE,simprocAttr];have n2:=oV.short S CV;have cl:ρ c≠c:=fun z=>CV (Way.root S ⟨eR,oV⟩ z);have fK:=H1.put enc (ao:=fun x=>if x=c then ρ c else ao x) (fQ:=bN) (fun x ak=>if_neg ak) (fun _ _=>rfl);unfold mM toV at fK;simp only [if_true,if_neg cl] at fK;rw [RE] at fK n2;refine ⟨⟨ao c,_,hw,rfl,(Way.step ⟨eR,oV⟩ c).trans RE,fK,n2,jL.set (fun _=>⟨c,aD,rfl⟩) _⟩,?_⟩;rcases oV c with z | ⟨_,z,_⟩
     . exact (CV z.1).elim
     . exact z
 . have G:=H.step EA q;have hw:=Way.lt S ⟨eR,R⟩ ae;simp +contextual only [bq,cn,G,RQ,H.idx ae,H.idx hw,↓al,aE,simprocAttr];refine ⟨⟨w b,hw,rfl,(Way.step ⟨eR,R⟩ b).trans e⟩,?_⟩;rcases R b with z | ⟨_,z,_⟩
   . exact (q z.1).elim
   . exact z
def e0 {α:Type} (f:Nat->α) (n:Nat) (x:α):Nat->α:=fun i=>if i=n then x else f i
theorem fz {α:Type} (f:Nat->α) (n:Nat) (x:α):e0 f n x n=x:=if_pos rfl
theorem eF {α:Type} (f:Nat->α) {n i:Nat} (x:α) (h:i≠n):e0 f n x i=f i:=if_neg h
section
variable [Lay]
theorem N8 {α:Type} {e cZ:α->V}:∀{bM:List (Int × α)} {es:List cL},(∀p ∈ bM,e p.2=cZ p.2)->qJ e bM es->qJ cZ bM es
 | [],[],_,H=>H
 | [],_::_,_,H=>H.elim
 | _::_,[],_,H=>H.elim
 | (s,a)::bM,m::es,h,H=>⟨H.1,H.2.1.trans (h (s,a) List.mem_cons_self),N8 (fun p ag=>h p (List.mem_cons_of_mem _ ag)) H.2.2⟩
theorem Ou {α:Type} {e cZ:α->V} {h:ai} {b:aQ} {bM:List (Int × α)} (M:jm e h b bM) (he:∀p ∈ bM,e p.2=cZ p.2):jm cZ h b bM:=by obtain ⟨es,clock,ar,av,aK⟩:=M.ex;exact ⟨⟨es,clock,ar,N8 he av,aK⟩,M.bG⟩
theorem VU {α:Type} {s:Int} {x:α}:∀{bM:List (Int × α)},ff s bM=none->zL s x bM=bM++[(s,x)]
 | [],_=>rfl
 | (n,a)::bM,h=>by
   simp only [ff] at h;simp only [zL,List.cons_append]
   split at h
   . cases h
   . rename_i q;rw [if_neg q,VU h]
structure mo (h:ai) (g:bp) (π:Nat->Nat) (bR:Nat->V) (w:Nat->Nat) (bN:Nat->Int) (cX:aQ):Prop where
 gn:e' h g π bR w bN
 mp:jm (fun i=>V.ptr (aj (π i)) 0) h cX g.vars
 s1:∀i,i<g.N->cX≠aj (π i)
 s2:∀i,i<g.N->¬(bR i).aM cX
variable {h ab:ai} {g:bp} {π:Nat->Nat} {bR:Nat->V} {w:Nat->Nat} {bN:Nat->Int} {cX:aQ}
theorem mo.mod {M:aQ->Prop} (H:mo h g π bR w bN cX) (m:Mod M h ab) (aX:¬M cX) (aa:∀i,i<g.N->¬M (aj (π i))) (ad:∀i b,i<g.N->(bR i).aM b->¬M b):mo ab g π bR w bN cX:=⟨H.gn.mod m aa ad,H.mp.mod m aX,H.s1,H.s2⟩
theorem mo.ext (H:mo h g π bR w bN cX) (e:Ext h ab):mo ab g π bR w bN cX:=⟨H.gn.ext e,H.mp.ext e,H.s1,H.s2⟩
theorem e'.add (H:e' h g π bR w bN) (W:g.ee) (pf:∀i,i<g.N->w i<g.N) (hw:w g.N=g.N) {aN:dx} {n:Nat} {v:V} {m:Int} {cH:bp} (aB:cH.nodes=g.nodes++[aN]) (B:Has h n [.ej,.bool aN.cj,.str aN.s,v,.int .i64 m])
 (K:fC h 1 v aN.kids.length (rK π aN.kids)) (aF:rN v) (ay:aN.kids.length<=top) (aH:∀x ∈ aN.kids,x<g.N) (d1:∀i,i<g.N->n≠π i) (d2:∀i,i<g.N->¬(bR i).aM (aj n)) (d3:∀i,i<g.N->¬v.aM (aj (π i))) (d4:¬v.aM (aj n)):
 e' h cH (e0 π g.N n) (e0 bR g.N v) w (e0 bN g.N m):=by
 have bJ:cH.N=g.N+1:=by unfold bp.N;rw [aB,List.length_append];rfl
 have zx:∀{aI:List Nat},(∀x ∈ aI,x<g.N)->rK (e0 π g.N n) aI=rK π aI:=fun {aI} h=>List.map_congr_left fun x ak=>by rw [eF _ _ (by have:=h x ak;omega)]
 have split:∀{i:Nat} {cm:dx},cH.nodes[i]? =some cm->(i<g.N/\g.nodes[i]? =some cm)\/(i=g.N/\cm=aN):=fun {i cm} e=>by
  rw [aB] at e;rcases oe e with e | e
  . exact .inl ⟨hl e,e⟩
  . exact .inr e
 refine ⟨fun i cm e=>?_,fun i cm e=>?_,fun i j an aU e=>?_,fun i j an aU=>?_⟩
 . rcases split e with ⟨an,e⟩ | ⟨rfl,rfl⟩
   . have:=H.has i cm e;have aa:=pf i an;rw [eF _ _ (by omega)];rw [show mM (e0 π g.N n) w (e0 bR g.N v) (e0 bN g.N m) cm i=mM π w bR bN cm i from by
      unfold mM toV;rw [eF _ _ (by omega),eF _ _ (by omega),eF _ _ (by omega)]]
     exact this
   . rw [fz];rw [show mM (e0 π g.N n) w (e0 bR g.N v) (e0 bN g.N m) cm g.N=[.ej,.bool cm.cj,.str cm.s,v,.int .i64 m] from by
      unfold mM toV;rw [if_pos hw,fz,fz]]
     exact B
 . rcases split e with ⟨an,e⟩ | ⟨rfl,rfl⟩
   . rw [eF _ _ (by omega),zx fun x ak=>W.qj e ak];exact H.c6 i cm e
   . rw [fz,zx aH];exact ⟨K,aF,ay⟩
 . rw [bJ] at an aU;by_cases ci:i=g.N<;>by_cases si:j=g.N
   . rw [ci,si]
   . rw [ci,fz,eF _ _ si] at e;exact (d1 j (by omega) e).elim
   . rw [si,fz,eF _ _ ci] at e;exact (d1 i (by omega) e.symm).elim
   . rw [eF _ _ ci,eF _ _ si] at e;exact H.inj i j (by omega) (by omega) e
 . rw [bJ] at an aU;by_cases ci:i=g.N<;>by_cases si:j=g.N
   . rw [ci,si,fz,fz];exact d4
   . rw [ci,fz,eF _ _ si];exact d3 j (by omega)
   . rw [si,fz,eF _ _ ci];exact d2 i (by omega)
   . rw [eF _ _ ci,eF _ _ si];exact H.sep i j (by omega) (by omega)
end
structure pP (g cH:bp) (π kr:Nat->Nat) (bR l8:Nat->V) (bN fQ:Nat->Int) (B:Nat):Prop where
 pi:∀i,i<g.N->kr i=π i
 bR:∀i,i<g.N->l8 i=bR i
 bN:∀i,i<g.N->fQ i=bN i
 new:∀(i:Nat) (aN:dx),g.N<=i->cH.nodes[i]? =some aN->fQ i=if aN.cj=true then -1 else aN.n
 Bi:∀i,g.N<=i->i<cH.N->B<=kr i
 ss:∀(i:Nat) (b:aQ),g.N<=i->i<cH.N->(l8 i).aM b->B<=cI b
theorem pP.refl (g:bp) (π:Nat->Nat) (bR:Nat->V) (bN:Nat->Int) (B:Nat):pP g g π π bR bR bN bN B:=
 ⟨fun _ _=>rfl,fun _ _=>rfl,fun _ _=>rfl,fun i aN h e=>(by have:=hl e;omega),fun i h ab=>by omega,fun i b h ab=>by omega⟩
theorem pP.trans {g g1 g2:bp} {π Dk mj:Nat->Nat} {bR FZ rp:Nat->V} {bN Gl CB:Nat->Int} {B va:Nat} (a:pP g g1 π Dk bR FZ bN Gl B) (b:pP g1 g2 Dk mj FZ rp Gl CB va) (c_:B<=va) (aa:g.le g1) (ad:g1.le g2):pP g g2 π mj bR rp bN CB B:=by
 have cS:=aa.n;refine ⟨fun i an=>(b.pi i (by omega)).trans (a.pi i an),fun i an=>(b.bR i (by omega)).trans (a.bR i an),fun i an=>(b.bN i (by omega)).trans (a.bN i an),fun i aN an e=>?_,fun i an hE=>?_,fun i c an hE q=>?_⟩
 . by_cases q:i<g1.N
   . rw [b.bN i q];rw [ad.bG q] at e;exact a.new i aN an e
   . exact b.new i aN (by omega) e
 . by_cases q:i<g1.N
   . rw [b.pi i q];exact a.Bi i an q
   . have:=b.Bi i (by omega) hE;omega
 . by_cases z:i<g1.N
   . rw [b.bR i z] at q;exact a.ss i c an z q
   . have:=b.ss i c (by omega) hE q;omega
abbrev H0 (cX:aQ):aQ->Prop:=fun b=>b≠cX
theorem ZB (t:aL) (g:bp):cg [t] g=((t.add g).1,[(t.add g).2]):=by simp [cg]
theorem OZ (l:List aL) (t:aL) (g:bp):cg (l++[t]) g=((t.add (cg l g).1).1,(cg l g).2++[(t.add (cg l g).1).2]):=by rw [OY,ZB]
theorem L0:∀(N:Nat) (t:aL),t.size<=N->N<=900000000->t.lF=true->∀(g:bp) (π:Nat->Nat) (bR:Nat->V) (w:Nat->Nat) (bN:Nat->Int) (cX:aQ) (ah:List V) (h:ai),g.ee->(∀i,i<g.N->w i<g.N)->(∀i,g.N<=i->w i=i)->cW (H0 cX) h t.enc ah->mo h g π bR w bN cX->
 db Tryz.prog 49 [.map cX,.agg ah] h fun x ab=>∃kr l8 fQ,x=.ptr (aj (kr (t.add g).2)) 0/\mo ab (t.add g).1 kr l8 w fQ cX/\pP g (t.add g).1 π kr bR l8 bN fQ h.next/\Mod (fun b=>b=cX) h ab
 | 0,t,aR,_,_,_,_,_,_,_,_,_,_,_,_,_,_,_=>by have:=pA t;omega
 | N+1,t,aR,Bn,bh,g,π,bR,w,bN,cX,ah,h,W,pf,hw,H,P=>by
   obtain ⟨dw,rfl,L,ny⟩:=aL.open H;have bJ:N<=900000000:=by omega
   have ol:=L.one;have ay:=L.len;have hle:=L.le;rw [List.length_map] at ay hle;have cr:=size_eq t;have jw:=pz t.l;have wJ:=XP t;rw [bh] at wJ;refine abd.z rfl (dB ?_);unfold c49;obtain ⟨aa,ar,aP,da⟩:=ic h (gG t dw);have cS:=aP.next
   have Ck:=da.lt;have hk:=P.ext aP;have hI:=hk.mp.look t.n .ej true;rw [add_eq];by_cases c:t.k=1
   . simp only [if_pos c];unfold bp.var;cases aC:ff t.n g.vars with
     | some i=>
       rw [aC] at hI;simp only [cond_true] at hI;simp +contextual only [ol.1,ol.2.1,ar,da.g,eq_true c,m'.eq,hI,↓al,aE,simprocAttr];exact ⟨π,bR,bN,rfl,hk,pP.refl _ _ _ _ _,aP.mod _⟩
     | none=>
       rw [aC] at hI;simp only [cond_true] at hI;have aV:0<=t.n:=by simp only [c,ne_eq,not_true_eq_false,decide_false,Bool.false_or] at wJ;have:=wJ.symm;simp only [Bool.and_eq_true,decide_eq_true_eq] at this;exact this.1.1
       obtain ⟨ad,av,a',iH⟩:=ic aa [.ej,.bool false,.str [],.bF,.int .i64 t.n];have fP:=a'.next
       have qm:=iH.lt;have fK:=hk.ext a';have gq:=da.ext a';have afF:∀i,i<g.N->aa.next≠π i:=fun i an=>by have:=hk.gn.lt an;omega
       have afq:∀i,i<g.N->¬(bR i).aM (aj aa.next):=fun i an q=>by have:=hk.gn.rn an q;unfold Old at this;rw [cc] at this;omega
       have oo:Old aa cX:=hk.mp.bG;have S1:cX≠aj aa.next:=fun q=>by rw [q] at oo;unfold Old at oo;rw [cc] at oo;omega
       have YS:=fK.gn.add W pf (hw _ (Nat.le_refl _)) (aN:=⟨false,t.n,[],[]⟩) (n:=aa.next) (v:=.bF) (m:=t.n) (cH:=⟨g.nodes++[⟨false,t.n,[],[]⟩],g.vars++[(t.n,g.nodes.length)]⟩) rfl iH ⟨rfl,rfl⟩ (fun b o l c e=>(by cases e)) (Nat.zero_le _) (fun x ak=>by cases ak) afF afq (fun i an q=>q) (fun q=>q);have M2:jm (fun i=>V.ptr (aj (e0 π g.N aa.next i)) 0) ad cX g.vars:=Ou fK.mp fun p ag=>by have gL:=w0 W.keys (show (p.1,p.2) ∈ g.vars from ag);obtain ⟨aN,e,_⟩:=W.hI _ _ gL;have:=hl e;simp only [eF _ _ (show p.2≠g.N by omega)]
       obtain ⟨aJ,u3,z7,z8,aoc⟩:=M2.e0 t.n g.N;rw [VU aC] at z7;have pL:=gq.mod z8 fun q=>by have:=P.mp.bG;rw [<-q] at this;unfold Old at this;rw [cc] at this;omega
       simp only [fz] at u3;simp +contextual only [ol.1,ol.2.1,ar,av,da.g,gq.g,eq_true c,m'.eq,hI,u3,↓al,aE,simprocAttr];refine ⟨e0 π g.N aa.next,e0 bR g.N .bF,e0 bN g.N t.n,?_,⟨YS.mod z8 (fun i an q=>?_) (fun i b an ae q=>?_),z7,fun i an=>?_,fun i an=>?_⟩,⟨fun i an=>eF _ _ (by omega),fun i an=>eF _ _ (by omega),fun i an=>eF _ _ (by omega),fun i aN an e=>?_,fun i an hE=>?_,fun i b an hE q=>?_⟩,((aP.trans a').mod _).trans z8⟩
       . show V.ptr (aj aa.next) 0=.ptr (aj (e0 π g.N aa.next g.N)) 0;rw [fz]
       . have hE:i<g.N+1:=by simpa [bp.N] using an
         by_cases z:i=g.N
         . rw [z,fz] at q;exact S1 q.symm
         . rw [eF _ _ z] at q;exact P.s1 i (by omega) q.symm
       . have hE:i<g.N+1:=by simpa [bp.N] using an
         rw [show b=cX from q] at ae;by_cases z:i=g.N
         . rw [z,fz] at ae;exact ae
         . rw [eF _ _ z] at ae;exact P.s2 i (by omega) ae
       . have hE:i<g.N+1:=by simpa [bp.N] using an
         by_cases z:i=g.N
         . rw [z,fz];exact S1
         . rw [eF _ _ z];exact P.s1 i (by omega)
       . have hE:i<g.N+1:=by simpa [bp.N] using an
         by_cases z:i=g.N
         . rw [z,fz];exact fun q=>q
         . rw [eF _ _ z];exact P.s2 i (by omega)
       . rcases oe e with e | ⟨c0,rfl⟩
         . have:=hl e;omega
         . rw [show i=g.N from c0,fz];rfl
       . have hE:i<g.N+1:=by simpa [bp.N] using hE
         rw [show i=g.N by omega,fz];omega
       . have hE:i<g.N+1:=by simpa [bp.N] using hE
         rw [show i=g.N by omega,fz] at q;exact q.elim
   . simp only [if_neg c];obtain ⟨ad,av,a',lN⟩:=ic aa [.ej,.bool true,.str t.s,.bF,.int .i64 (-1)];have fP:=a'.next
     have l_:=lN.lt;have fK:=hk.ext a';have gq:=da.ext a';have l2:kN t.l=true:=by have:=wJ.symm;simp only [Bool.and_eq_true] at this;exact this.2
     have oo:Old aa cX:=hk.mp.bG;have KA:cX≠aj aa.next:=fun q=>by rw [q] at oo;unfold Old at oo;rw [cc] at oo;omega
     simp +contextual only [ol.1,ol.2.1,ar,av,da.g,gq.g,eq_false c,ay,↓al,aE,simprocAttr];refine eY (fun r cH=>r 0=.map cX/\r 7=.ptr (aj aa.next) 0/\r 36=dw/\r 37=.int .i64 t.l.length/\∃(i:Nat) (kr:Nat->Nat) (l8:Nat->V) (fQ:Nat->Int) (v:V),r 38=.int .i64 i/\i<=t.l.length/\
      mo cH (cg (t.l.take i) g).1 kr l8 w fQ cX/\pP g (cg (t.l.take i) g).1 π kr bR l8 bN fQ h.next/\Has cH aa.next [.ej,.bool true,.str t.s,v,.int .i64 (-1)]/\cD h.next cH 1 v i (rK kr (cg (t.l.take i) g).2)/\Mod (fun b=>b=cX) h cH/\ad.next<=cH.next/\
      (∀b,v.aM b->b≠cX/\b≠aj aa.next/\∀j,j < (cg (t.l.take i) g).1.N->b≠aj (kr j)/\¬(l8 j).aM b)/\∀j,j < (cg (t.l.take i) g).1.N->aa.next≠kr j/\¬(l8 j).aM (aj aa.next)) (fun r g=>t.l.length - (r 38).toN) ?_ ?_
     . refine ⟨by simp only [↓al,bs,simprocAttr],by simp only [↓al,bs,simprocAttr],by simp only [↓al,bs,simprocAttr],by simp only [↓al,bs,simprocAttr],0,π,bR,bN,.bF,by simp only [↓al,bs,simprocAttr]<;>rfl,by omega,fK,pP.refl _ _ _ _ _,lN,⟨rfl,rfl⟩,(aP.trans a').mod _,Nat.le_refl _,fun b q=>q.elim,fun j aU=>⟨?_,fun q=>?_⟩⟩
       . have:=hk.gn.lt aU;omega
       . have:=hk.gn.rn aU q;unfold Old at this;rw [cc] at this;omega
     rintro r cH ⟨bq,fg,Mu,uS,i,kr,l8,fQ,v,oL,an,PP,jn,X,O,M,aB,c8,G'⟩;unfold Qr;have dG:=O.v.one;have K3:kN (t.l.take i)=true:=by have:=Nz (t.l.take i) (t.l.drop i);rw [List.take_append_drop,l2] at this;have:=this.symm;simp only [Bool.and_eq_true] at this;exact this.1
     obtain ⟨v7,kv,Ch,JF⟩:=D1 (t.l.take i) g K3 W;have Bl:=v7.n;by_cases aO:i<t.l.length
     . have g0:((i:Int) < (t.l.length:Int))=True:=eq_true (by omega);obtain ⟨b,off,wl,ct,H9,ky,ld⟩:=aL.c6 (L.mod (fq:=H0 cX) M fun b q _=>⟨q,q⟩) (k:=.i64) aO;have A8:=ld cH (Ext.refl cH);have k5:=ky.one;have dk:=jj aO (by unfold top at hle;omega);have Fm:=py (t:=t) (List.getElem_mem aO);have BZ:=NA l2 (List.getElem_mem aO);obtain ⟨g1,e7,bz,Z⟩:=o1 cH z4 (gG t.l[i] wl);have H':=X.ext bz;have CD:=bz.next
       simp +contextual only [bq,fg,Mu,uS,oL,g0,ct,A8,e7,Z.g,X.g,H'.g,k5.1,k5.2.1,dG.1,dG.2.1,↓al,aE,simprocAttr];refine cz (L0 N t.l[i] (by omega) bJ BZ _ kr l8 w fQ cX _ g1 kv (fun j aU=>?_) (fun j aU=>hw j (by omega)) (H9.ext bz) (PP.ext bz)) ?_
       . by_cases z:j<g.N
         . have:=pf j z;omega
         . rw [hw j (by omega)];exact aU
       rintro x g2 ⟨mj,rp,CB,rfl,ir,kR,m2⟩;obtain ⟨EW,nb,ag_,JG⟩:=r8 t.l[i] _ BZ kv;have JJ:=EW.n;have rE:=m2.next
       have ao8:=Z.lt;have OO:=H'.mod m2 fun q=>KA q.symm;have Zh:=Z.mod m2 fun q=>by have:=PP.mp.bG;rw [<-q] at this;unfold Old at this;rw [cc] at this;omega
       have Na:∀b,v.aM b->Old cH b:=fun b q=>O.v.bG q;have nZ:cD h.next g2 1 v i (rK kr (cg (t.l.take i) g).2):=(O.ext bz).mod m2 fun b q z=>(c8 b q).1 z
       have h6:rK mj (cg (t.l.take i) g).2=rK kr (cg (t.l.take i) g).2:=List.map_congr_left fun x ak=>by rw [kR.pi x (Ch x ak)]
       obtain ⟨c9,g3,bZ,bX,b_,gV,jg⟩:=pS (cs:=[.ptr (aj (mj (t.l[i].add (cg (t.l.take i) g).1).2)) 0]) (Nat.le_refl _) nZ (by omega) (by unfold top at hle ⊢;omega) rfl rfl;have kp:=bX.v.one;have hn:cg (t.l.take (i+1)) g=((t.l[i].add (cg (t.l.take i) g).1).1,(cg (t.l.take i) g).2++[(t.l[i].add (cg (t.l.take i) g).1).2]):=by rw [take_one aO,OZ]
       have OP:=OO.mod b_ fun q=>(c8 _ q).2.1 rfl;have UU:∀j,j < (t.l[i].add (cg (t.l.take i) g).1).1.N->(j < (cg (t.l.take i) g).1.N/\mj j=kr j/\rp j=l8 j)\/(g1.next<=mj j/\∀b,(rp j).aM b->g1.next<=cI b):=fun j aU=>by
        by_cases z:j < (cg (t.l.take i) g).1.N
        . exact .inl ⟨z,kR.pi j z,kR.bR j z⟩
        . exact .inr ⟨kR.Bi j (by omega) aU,fun b q=>kR.ss j b (by omega) aU q⟩
       have Nb:∀b,v.aM b->∀j,j < (t.l[i].add (cg (t.l.take i) g).1).1.N->b≠aj (mj j)/\¬(rp j).aM b:=fun b q j aU=>by
        rcases UU j aU with ⟨b6,z2,z3⟩ | ⟨b6,z2⟩
        . rw [z2,z3];exact (c8 b q).2.2 j b6
        . have:=Na b q;unfold Old at this;exact ⟨fun z=>by rw [z,cc] at this;omega,fun z=>by have:=z2 b z;omega⟩
       have pR:=ir.mod b_ (fun q=>(c8 _ q).1 rfl) (fun j aU q=>(Nb _ q j aU).1 rfl) fun j b aU ae q=>(Nb _ q j aU).2 ae;have Nd:∀j,j < (t.l[i].add (cg (t.l.take i) g).1).1.N->aa.next≠mj j/\¬(rp j).aM (aj aa.next):=fun j aU=>by
        rcases UU j aU with ⟨b6,z2,z3⟩ | ⟨b6,z2⟩
        . rw [z2,z3];exact G' j b6
        . exact ⟨by omega,fun z=>by have:=z2 _ z;rw [cc] at this;omega⟩
       have m5:Mod (fun b=>b=aj aa.next) g3 (g3.set (aj aa.next) (.bC [.ej,.bool true,.str t.s,c9,.int .i64 (-1)] 0 false)):=(Mod.refl (fun b=>b=aj aa.next) g3).set (fun _=>rfl) _;have n0:=pR.mod m5 (fun q=>KA q) (fun j aU q=>(Nd j aU).1 (fu q).symm) fun j b aU ae q=>(Nd j aU).2 (by rw [<-show b=aj aa.next from q];exact ae);have Tt:∀b,c9.aM b->b≠aj aa.next:=fun b q z=>by
        rcases jg b q with q | q
        . exact (c8 b q).2.1 z
        . rw [z,cc] at q;omega
       have YM:=bX.mod m5 fun b q z=>Tt b q z;have f4:(g2.next=aa.next)=False:=eq_false (by omega);have f5:(g2.next=cH.next)=False:=eq_false (by omega);simp +contextual only [f4,f5,if_false,bq,fg,Mu,uS,oL,Z.g,Zh.g,X.g,H'.g,OO.g,OP.g,k5.1,k5.2.1,dG.1,dG.2.1,kp.1,kp.2.1,bZ,dk,↓al,aE,simprocAttr];refine ⟨⟨i+1,mj,rp,CB,c9,rfl,aO,?_,?_,OP.put _,?_,?_,?_,?_,?_⟩,by omega⟩
       . rw [hn];exact n0
       . rw [hn];exact jn.trans kR (by have:=M.next;omega) v7 EW
       . rw [hn];simp only [rK,List.map_append,List.map_cons,List.map_nil];rw [show (cg (t.l.take i) g).2.map (fun k=>V.ptr (aj (mj k)) 0)=rK mj (cg (t.l.take i) g).2 from rfl,h6];exact YM
       . have jL:Mod (fun b=>b=cX) h g2:=(M.trans (bz.mod _)).trans m2;exact (jL.z1 b_ fun b q=>O.base q).fresh (show h.next<=aa.next by omega) _
       . show ad.next<=g3.next;omega
       . intro b q;refine ⟨fun z=>?_,Tt b q,fun j aU=>?_⟩
         . rcases jg b q with q | q
           . exact (c8 b q).1 z
           . have:=ir.mp.bG;rw [<-z] at this;unfold Old at this;omega
         . rw [hn] at aU;rcases jg b q with q | q
           . exact Nb b q j aU
           . refine ⟨fun z=>?_,fun z=>?_⟩
             . have:=ir.gn.lt aU;rw [z,cc] at q;omega
             . have:=ir.gn.rn aU z;unfold Old at this;omega
       . rw [hn];exact Nd
     . have g0:((i:Int) < (t.l.length:Int))=False:=eq_false (by omega);rw [List.take_of_length_le (by omega)] at PP jn O Ch v7 kv c8 G' Bl JF;simp +contextual only [bq,fg,Mu,uS,oL,g0,↓al,aE,simprocAttr];have iQ:(cg t.l g).2.length=i:=by rw [D0];omega
       have E4:((cg t.l g).1.put t.s (cg t.l g).2).N=(cg t.l g).1.N+1:=by simp [bp.put,bp.N]
       have YT:=PP.gn.add kv (fun j aU=>by
        by_cases z:j<g.N
        . have:=pf j z;omega
        . rw [hw j (by omega)];exact aU) (hw _ (by omega)) (aN:=⟨true,0,t.s,(cg t.l g).2⟩) (n:=aa.next) (v:=v) (m:=-1) (cH:=(cg t.l g).1.put t.s (cg t.l g).2) rfl X (by rw [iQ];exact O.v) O.room (by rw [iQ];omega) Ch (fun j aU=>(G' j aU).1) (fun j aU=>(G' j aU).2) (fun j aU q=>((c8 _ q).2.2 j aU).1 rfl) (fun q=>(c8 _ q).2.1 rfl)
       refine ⟨e0 kr (cg t.l g).1.N aa.next,e0 l8 (cg t.l g).1.N v,e0 fQ (cg t.l g).1.N (-1),by rw [fz],⟨YT,Ou PP.mp fun p ag=>?_,fun j aU=>?_,fun j aU=>?_⟩,⟨fun j aU=>?_,fun j aU=>?_,fun j aU=>?_,fun j aN aU e=>?_,fun j aU sA=>?_,fun j b aU sA q=>?_⟩,M⟩
       . have gL:=w0 kv.keys (show (p.1,p.2) ∈ (cg t.l g).1.vars from ag);obtain ⟨aN,e,_⟩:=kv.hI _ _ gL;have:=hl e;simp only [eF _ _ (show p.2≠(cg t.l g).1.N by omega)]
       . rw [E4] at aU;by_cases z:j=(cg t.l g).1.N
         . rw [z,fz];exact KA
         . rw [eF _ _ z];exact PP.s1 j (by omega)
       . rw [E4] at aU;by_cases z:j=(cg t.l g).1.N
         . rw [z,fz];exact fun q=>(c8 _ q).1 rfl
         . rw [eF _ _ z];exact PP.s2 j (by omega)
       . rw [eF _ _ (by omega)];exact jn.pi j aU
       . rw [eF _ _ (by omega)];exact jn.bR j aU
       . rw [eF _ _ (by omega)];exact jn.bN j aU
       . rcases oe e with e | ⟨c0,rfl⟩
         . have:=hl e;rw [eF _ _ (by omega)];exact jn.new j aN aU e
         . rw [show j=(cg t.l g).1.N from c0,fz];rfl
       . rw [E4] at sA;by_cases z:j=(cg t.l g).1.N
         . rw [z,fz];omega
         . rw [eF _ _ z];exact jn.Bi j aU (by omega)
       . rw [E4] at sA;by_cases z:j=(cg t.l g).1.N
         . rw [z,fz] at q;exact O.base q
         . rw [eF _ _ z] at q;exact jn.ss j b aU (by omega) q
end
section
open Go a7
theorem ajN {p:Nat->Prop}:∀(n:Nat),p n->∃m,p m/\∀k,k<m->¬p k:=by
 intro n
 induction n using Nat.strongRecOn with
 | _ n br=>
   intro h;by_cases q:∃k,k<n/\p k
   . obtain ⟨k,aa,ad⟩:=q;exact br k aa ad
   . exact ⟨n,h,fun k aH z=>q ⟨k,aH,z⟩⟩
open Classical in
def leastOf (p:Nat->Prop):Nat:=if h:∃m,p m/\∀k,k<m->¬p k then h.choose else 0
theorem leastOf_spec {p:Nat->Prop} {n:Nat} (h:p n):p (leastOf p)/\leastOf p<=n:=by
 unfold leastOf;have ak:=ajN n h;rw [dif_pos ak];obtain ⟨aa,ad⟩:=Exists.choose_spec ak;exact ⟨aa,by
  by_cases q:Exists.choose ak<=n
  . exact q
  . exact (ad n (by omega) h).elim⟩
theorem akg [Lay] {P:Program} {b:aW} {aI:List ia} {r:bd} {h:ai} {Q:dm->bd->ai->Prop} (I:bd->ai->Nat->Prop) {cC:Nat} (aX:I r h cC)
 (step:∀(J:bd->ai->Prop) (r:bd) (h:ai) (n:Nat),(∀bD ab hK,hK<n->I bD ab hK->J bD ab)->I r h n->bo P [.c b] .normal r h fun e bD ab=>e.andThen (J bD ab) (bo P aI e bD ab Q)):zq P b aI r h Q:=
 eY (fun r h=>∃n,I r h n) (fun r h=>leastOf (I r h)) ⟨cC,aX⟩ fun r h ⟨n,aV⟩=>by obtain ⟨aa,_⟩:=leastOf_spec aV;exact step _ r h _ (fun bD ab hK ay an=>⟨⟨hK,an⟩,Nat.lt_of_le_of_lt (leastOf_spec an).2 ay⟩) aa
def w2 (a b:Int):Int:=if b<0\/(0<=a/\a<b) then a else b
def HV (g:bp) (ρ:Nat->Nat) (m:Int) (r:Nat):Prop:=
 (m<0/\∀(y:Nat) (aN:dx),g.nodes[y]? =some aN->ρ y=r->aN.cj=true)\/
 (0<=m/\(∃(y:Nat) (aN:dx),g.nodes[y]? =some aN/\ρ y=r/\aN.cj=false/\aN.n=m)/\∀(y:Nat) (aN:dx),g.nodes[y]? =some aN->ρ y=r->aN.cj=false->m<=aN.n)
def mn (g:bp) (ρ:Nat->Nat) (bN:Nat->Int):Prop:=∀r,r<g.N->ρ r=r->HV g ρ (bN r) r
theorem mn.one {g:bp} {ρ:Nat->Nat} {bN:Nat->Int} {r s:Nat} (H:mn g ρ bN) (aF:ρ r=r) (aR:ρ s=s) (cl:r≠s) (qp:r<g.N) (ls:s<g.N):mn g (eg ρ r s) (e0 bN s (w2 (bN r) (bN s))):=by
 have cs:∀y,eg ρ r s y=s↔ρ y=r\/ρ y=s:=fun y=>by
  unfold eg
  split
  . rename_i q;exact ⟨fun _=>.inl q,fun _=>rfl⟩
  . rename_i q;exact ⟨.inr,fun z=>z.resolve_left q⟩
 intro t aw e;by_cases c:t=s
 . subst c;rw [fz];have cN:=H r qp aF;have cU:=H t ls aR;unfold HV at *;simp only [cs];unfold w2;rcases cN with ⟨bW,a2⟩ | ⟨bW,⟨y,aN,e7,fJ,y3,y4⟩,a3⟩<;>rcases cU with ⟨cb,b9⟩ | ⟨cb,⟨z,iX,b6,z2,z3,z4⟩,e3⟩
   . rw [if_pos (.inl cb)];exact .inl ⟨bW,fun y aN h q=>q.elim (a2 y aN h) (b9 y aN h)⟩
   . rw [if_neg (by omega)];refine .inr ⟨cb,⟨z,iX,b6,.inr z2,z3,z4⟩,fun y aN h q c=>?_⟩;rcases q with q | q
     . rw [a2 y aN h q] at c;cases c
     . exact e3 y aN h q c
   . rw [if_pos (.inl cb)];refine .inr ⟨bW,⟨y,aN,e7,.inl fJ,y3,y4⟩,fun x f_ h q c=>?_⟩;rcases q with q | q
     . exact a3 x f_ h q c
     . rw [b9 x f_ h q] at c;cases c
   . by_cases l:bN r<bN t
     . rw [if_pos (.inr ⟨bW,l⟩)];refine .inr ⟨bW,⟨y,aN,e7,.inl fJ,y3,y4⟩,fun x f_ h q c=>?_⟩;rcases q with q | q
       . exact a3 x f_ h q c
       . have:=e3 x f_ h q c;omega
     . rw [if_neg (by omega)];refine .inr ⟨cb,⟨z,iX,b6,.inr z2,z3,z4⟩,fun x f_ h q c=>?_⟩;rcases q with q | q
       . have:=a3 x f_ h q c;omega
       . exact e3 x f_ h q c
 . rw [eF _ _ c];have acq:∀y,eg ρ r s y=t↔ρ y=t:=fun y=>by
    unfold eg
    split
    . rename_i q;refine ⟨fun z=>(c z.symm).elim,fun z=>?_⟩;rw [q] at z;subst z;unfold eg at e;rw [if_pos aF] at e;exact e
    . exact Iff.rfl
   have hD:ρ t=t:=by
    unfold eg at e
    split at e
    . exact (c e.symm).elim
    . exact e
   have:=H t aw hD;unfold HV at *;simp only [acq];exact this
theorem OF {p q:aQ}:aQ.gS p q=decide (p=q):=by
 by_cases h:p=q
 . subst h;rw [aQ.yn,decide_eq_true rfl]
 . rw [decide_eq_false h,<-Bool.not_eq_true];exact fun z=>h (aQ.ln z)
theorem al6 {h:ai} {i j:Nat} {a b:List V} (g1:h.get (aj i)=.bC a 0 false) (g2:h.get (aj j)=.bC b 0 false) (neg:Bool):uP neg h (.ptr (aj i) 0) (.ptr (aj j) 0)=some (.bool (bif neg then !decide (i=j) else decide (i=j))):=by
 unfold uP ht;simp only [OF,g1,g2,cf.bC,cf.zJ,Bool.not_false,Bool.and_self,cond_true];by_cases c:i=j
 . subst c;simp
 . rw [decide_eq_false (fun z=>c (fu z)),decide_eq_false c];simp
theorem ZJ (b:aQ) (o:Nat):(sU 2 1).run (.ptr b o) (.int .i64 0)=some (.ptr b o):=rfl
theorem ZK (b:aQ) (o:Nat):(sU 2 1).run (.ptr b o) (.int .i64 1)=some (.ptr b (o+1)):=rfl
def IN:aW:=
 aW.seq (aW.aq [⟨(some 104),.b1 (.t 8),none,[8]⟩,
  ⟨(some 105),.h8 (.t 104),none,[104]⟩,
  ⟨(some 106),.eJ 4 (.t 105),none,[105]⟩,
  ⟨(some 107),.d_ (.t 106),none,[106]⟩,
  ⟨(some 10),.b1 (.t 107),none,[107]⟩])
  (aW.seq (aW.seq (aW.aq [⟨(some 108),.b1 (.t 10),none,[10]⟩,
    ⟨(some 109),.bin (.int .lss) (.t 108) (.c (.int .i64 0)),none,[108]⟩,
    ⟨(some 110),.b1 (.t 109),none,[109]⟩,
    ⟨(some 111),.b1 (.t 7),(some (110,false)),[7,110]⟩,
    ⟨(some 112),.h8 (.t 111),(some (110,false)),[111,110]⟩,
    ⟨(some 113),.eJ 4 (.t 112),(some (110,false)),[112,110]⟩,
    ⟨(some 114),.d_ (.t 113),(some (110,false)),[113,110]⟩,
    ⟨(some 115),.bin (.int .geq) (.t 114) (.c (.int .i64 0)),(some (110,false)),[114,110]⟩,
    ⟨(some 116),.b1 (.t 115),(some (110,false)),[115,110]⟩,
    ⟨(some 117),.b1 (.t 7),(some (116,true)),[7,116]⟩,
    ⟨(some 118),.h8 (.t 117),(some (116,true)),[117,116]⟩,
    ⟨(some 119),.eJ 4 (.t 118),(some (116,true)),[118,116]⟩,
    ⟨(some 120),.d_ (.t 119),(some (116,true)),[119,116]⟩,
    ⟨(some 121),.b1 (.t 10),(some (116,true)),[10,116]⟩,
    ⟨(some 122),.bin (.int .lss) (.t 120) (.t 121),(some (116,true)),[120,121,116]⟩,
    ⟨(some 123),.pick (.t 116) (.t 122) (.c (.bool false)),(some (110,false)),[116,122,110]⟩,
    ⟨(some 124),.pick (.t 110) (.c (.bool true)) (.t 123),none,[110,123]⟩])
   (aW.cond (.t 124)
    (aW.aq [⟨(some 125),.b1 (.t 7),none,[7]⟩,
      ⟨(some 126),.h8 (.t 125),none,[125]⟩,
      ⟨(some 127),.eJ 4 (.t 126),none,[126]⟩,
      ⟨(some 128),.d_ (.t 127),none,[127]⟩,
      ⟨(some 10),.b1 (.t 128),none,[128]⟩])
    (aW.skip)))
  (aW.aq [⟨(some 129),.b1 (.t 7),none,[7]⟩,
    ⟨(some 130),.b1 (.t 8),none,[8]⟩,
    ⟨(some 131),.b1 (.t 8),none,[8]⟩,
    ⟨(some 132),.b1 (.t 10),none,[10]⟩,
    ⟨(some 133),.h8 (.t 129),none,[129]⟩,
    ⟨(some 134),.eJ 0 (.t 133),none,[133]⟩,
    ⟨none,.st 1 (.t 134) (.t 131),none,[134,131]⟩,
    ⟨(some 135),.h8 (.t 130),none,[130]⟩,
    ⟨(some 136),.eJ 4 (.t 135),none,[135]⟩,
    ⟨none,.st 1 (.t 136) (.t 132),none,[136,132]⟩]))
theorem abc:IM=
 aW.seq (aW.seq (aW.aq [⟨(some 15),.b1 (.t 5),none,[5]⟩,
  ⟨(some 16),.len .slice (.t 15),none,[15]⟩,
  ⟨(some 17),.bin (.int .gtr) (.t 16) (.c (.int .i64 0)),none,[16]⟩])
 (aW.cond (.t 17)
  (aW.skip)
  (aW.exit 0)))
 (aW.block 1 (aW.seq (aW.aq [⟨(some 18),.b1 (.t 5),none,[5]⟩,
   ⟨(some 19),.b1 (.t 5),none,[5]⟩,
   ⟨(some 20),.len .slice (.t 19),none,[19]⟩,
   ⟨(some 21),.bin (.int .sub) (.t 20) (.c (.int .i64 1)),none,[20]⟩,
   ⟨(some 22),.ct 2 (.t 18) (.t 21),none,[18,21]⟩,
   ⟨(some 23),.iV 2 (.t 22),none,[22]⟩,
   ⟨(some 6),.new [.ej,.ej],none,[]⟩,
   ⟨none,.st 2 (.t 6) (.t 23),none,[6,23]⟩])
  (aW.seq (aW.aq [⟨(some 24),.b1 (.t 5),none,[5]⟩,
    ⟨(some 25),.b1 (.t 5),none,[5]⟩,
    ⟨(some 26),.len .slice (.t 25),none,[25]⟩,
    ⟨(some 27),.bin (.int .sub) (.t 26) (.c (.int .i64 1)),none,[26]⟩,
    ⟨(some 28),.fU 2 (.t 24) none (some (.t 27)) none,none,[24,27]⟩,
    ⟨(some 5),.b1 (.t 28),none,[28]⟩])
  (aW.seq (aW.draw [⟨(some 29),.l3 2 1 (.t 6) (.c (.int .i64 0)),none,[6]⟩,
    ⟨(some 30),.d_ (.t 29),none,[29]⟩,
    ⟨(some 32),.l3 2 1 (.t 6) (.c (.int .i64 1)),none,[6]⟩,
    ⟨(some 33),.d_ (.t 32),none,[32]⟩,
    ⟨(some 31),.call 53 [(.t 30)],none,[30]⟩,
    ⟨(some 34),.call 53 [(.t 33)],none,[33]⟩,
    ⟨(some 7),.b1 (.t 31),none,[31]⟩,
    ⟨(some 8),.b1 (.t 34),none,[34]⟩] [(1,[4]),(3,[4,5])])
  (aW.seq (aW.seq (aW.aq [⟨(some 35),.b1 (.t 7),none,[7]⟩,
    ⟨(some 36),.b1 (.t 8),none,[8]⟩,
    ⟨(some 37),.peq false (.t 35) (.t 36),none,[35,36]⟩])
   (aW.cond (.t 37)
    (aW.exit 1)
    (aW.skip)))
  (aW.seq (aW.seq (aW.aq [⟨(some 38),.b1 (.t 7),none,[7]⟩,
    ⟨(some 39),.h8 (.t 38),none,[38]⟩,
    ⟨(some 40),.eJ 1 (.t 39),none,[39]⟩,
    ⟨(some 41),.d_ (.t 40),none,[40]⟩,
    ⟨(some 42),.b1 (.t 41),none,[41]⟩,
    ⟨(some 43),.b1 (.t 8),(some (42,true)),[8,42]⟩,
    ⟨(some 44),.h8 (.t 43),(some (42,true)),[43,42]⟩,
    ⟨(some 45),.eJ 1 (.t 44),(some (42,true)),[44,42]⟩,
    ⟨(some 46),.d_ (.t 45),(some (42,true)),[45,42]⟩,
    ⟨(some 47),.pick (.t 42) (.t 46) (.c (.bool false)),none,[42,46]⟩])
   (aW.cond (.t 47)
    (aW.seq (aW.seq (aW.draw [⟨(some 48),.b1 (.t 7),none,[7]⟩,
      ⟨(some 49),.h8 (.t 48),none,[48]⟩,
      ⟨(some 50),.eJ 2 (.t 49),none,[49]⟩,
      ⟨(some 51),.d_ (.t 50),none,[50]⟩,
      ⟨(some 52),.b1 (.t 8),none,[8]⟩,
      ⟨(some 53),.h8 (.t 52),none,[52]⟩,
      ⟨(some 54),.eJ 2 (.t 53),none,[53]⟩,
      ⟨(some 55),.d_ (.t 54),none,[54]⟩,
      ⟨(some 56),.bin (.str .neq) (.t 51) (.t 55),none,[51,55]⟩,
      ⟨(some 57),.b1 (.t 56),none,[56]⟩,
      ⟨(some 58),.b1 (.t 7),(some (57,false)),[7,57]⟩,
      ⟨(some 59),.h8 (.t 58),(some (57,false)),[58,57]⟩,
      ⟨(some 60),.eJ 3 (.t 59),(some (57,false)),[59,57]⟩,
      ⟨(some 61),.d_ (.t 60),(some (57,false)),[60,57]⟩,
      ⟨(some 62),.len .slice (.t 61),(some (57,false)),[61,57]⟩,
      ⟨(some 63),.b1 (.t 8),(some (57,false)),[8,57]⟩,
      ⟨(some 64),.h8 (.t 63),(some (57,false)),[63,57]⟩,
      ⟨(some 65),.eJ 3 (.t 64),(some (57,false)),[64,57]⟩,
      ⟨(some 66),.d_ (.t 65),(some (57,false)),[65,57]⟩,
      ⟨(some 67),.len .slice (.t 66),(some (57,false)),[66,57]⟩,
      ⟨(some 68),.bin (.int .neq) (.t 62) (.t 67),(some (57,false)),[62,67,57]⟩,
      ⟨(some 69),.pick (.t 57) (.c (.bool true)) (.t 68),none,[57,68]⟩] [])
      (aW.cond (.t 69)
       (aW.seq (aW.aq [⟨(some 4),.b1 (.c (.bool false)),none,[]⟩])
        (aW.ret))
       (aW.skip)))
     (aW.seq (aW.aq [⟨(some 70),.b1 (.t 7),none,[7]⟩,
       ⟨(some 71),.h8 (.t 70),none,[70]⟩,
       ⟨(some 72),.eJ 3 (.t 71),none,[71]⟩,
       ⟨(some 73),.d_ (.t 72),none,[72]⟩,
       ⟨(some 74),.len .slice (.t 73),none,[73]⟩,
       ⟨(some 75),.b1 (.c (.int .i64 0)),none,[]⟩])
     (aW.block 2 (aW.loop IL))))
    (aW.skip)))
  (aW.seq (aW.seq (aW.aq [⟨(some 97),.b1 (.t 8),none,[8]⟩,
    ⟨(some 98),.h8 (.t 97),none,[97]⟩,
    ⟨(some 99),.eJ 1 (.t 98),none,[98]⟩,
    ⟨(some 100),.d_ (.t 99),none,[99]⟩,
    ⟨(some 101),.un .not (.t 100),none,[100]⟩])
   (aW.cond (.t 101)
    (aW.aq [⟨(some 102),.b1 (.t 8),none,[8]⟩,
      ⟨(some 103),.b1 (.t 7),none,[7]⟩,
      ⟨(some 7),.b1 (.t 102),none,[102]⟩,
      ⟨(some 8),.b1 (.t 103),none,[103]⟩])
    (aW.skip)))
  (IN)))))))):=rfl
theorem G_ {r s:Nat} {g:bp} {π:Nat->Nat} {bR:Nat->V} {w:Nat->Nat} {bN:Nat->Int} {h:ai} {aI:List ia} {Q:dm->bd->ai->Prop} {aq:bd} (H:e' h g π bR w bN) (aF:r<g.N) (aR:s<g.N) (cl:r≠s) (wr:w r=r) (ws:w s=s) (fg:aq 7=.ptr (aj (π r)) 0) (ed:aq 8=.ptr (aj (π s)) 0)
 (K:∀rL ab,rL 5=aq 5->e' ab g π bR (fun a=>if a=r then s else w a) (e0 bN s (w2 (bN r) (bN s)))->Mod (jM g π) h ab->ab.next=h.next->bo Tryz.prog aI .normal rL ab Q):bo Tryz.prog (.c IN::aI) .normal aq h Q:=by
 obtain ⟨dP,jU⟩:=hT aF;obtain ⟨ef,es⟩:=hT aR;have mV:=H.root jU wr;have hy:=H.root es ws;have hk:=H.put jU (ao:=fun a=>if a=r then s else w a) (fQ:=bN) (fun x ak=>if_neg ak) (fun _ _=>rfl);have fK:=hk.put es (ao:=fun a=>if a=r then s else w a) (fQ:=e0 bN s (w2 (bN r) (bN s))) (fun _ _=>rfl) (fun x ak=>eF _ _ ak);have FK:(π r=π s)=False:=eq_false fun z=>cl (H.inj _ _ aF aR z);have FL:(π s=π r)=False:=eq_false fun z=>cl (H.inj _ _ aF aR z.symm);unfold mM toV at hk fK;simp only [if_true,if_neg cl.symm,if_neg cl,ws,fz] at hk fK;have M2:=((Mod.refl (jM g π) h).set (fun _=>⟨r,aF,rfl⟩) (.bC [.ptr (aj (π s)) 0,.bool dP.cj,.str dP.s,bR r,.int .i64 (bN r)] 0 false)).set (b:=aj (π s)) (fun _=>⟨s,aR,rfl⟩) (.bC [.ej,.bool ef.cj,.str ef.s,bR s,.int .i64 (w2 (bN r) (bN s))] 0 false);unfold IN;unfold w2 at K fK M2;by_cases bP:bN s<0
 . rw [if_pos (.inl bP)] at K fK M2;simp +contextual only [fg,ed,mV,hy,FK,FL,eq_true bP,if_false,↓al,aE,simprocAttr];exact K _ _ (by simp only [↓al,bs,simprocAttr]) fK M2 rfl
 . by_cases bY:0<=bN r
   . by_cases c3:bN r<bN s
     . rw [if_pos (.inr ⟨bY,c3⟩)] at K fK M2;simp +contextual only [fg,ed,mV,hy,FK,FL,eq_false bP,eq_true bY,eq_true c3,if_false,↓al,aE,simprocAttr];exact K _ _ (by simp only [↓al,bs,simprocAttr]) fK M2 rfl
     . rw [if_neg (by omega)] at K fK M2;simp +contextual only [fg,ed,mV,hy,FK,FL,eq_false bP,eq_true bY,eq_false c3,if_false,↓al,aE,simprocAttr];exact K _ _ (by simp only [↓al,bs,simprocAttr]) fK M2 rfl
   . rw [if_neg (by omega)] at K fK M2;simp +contextual only [fg,ed,mV,hy,FK,FL,eq_false bP,eq_false bY,if_false,↓al,aE,simprocAttr];exact K _ _ (by simp only [↓al,bs,simprocAttr]) fK M2 rfl
end
section
open Go a7
def qy (π:Nat->Nat) (T:List (Nat × Nat)):List V:=T.flatMap fun p=>[.ptr (aj (π p.1)) 0,.ptr (aj (π p.2)) 0]
theorem VS (π:Nat->Nat) (T:List (Nat × Nat)):qy π T=(T.map fun p=>[V.ptr (aj (π p.1)) 0,.ptr (aj (π p.2)) 0]).flatten:=by unfold qy;rw [List.flatMap_def]
theorem Mn (π:Nat->Nat) (T:List (Nat × Nat)):(qy π T).length=T.length * 2:=by rw [VS,q2 _ (size:=2) (fun u hu=>by obtain ⟨p,_,rfl⟩:=List.mem_map.1 hu;rfl),List.length_map]
theorem alY (π:Nat->Nat) {T:List (Nat × Nat)} {i:Nat} {p:Nat × Nat} (h:T[i]? =some p):((qy π T).drop (i * 2)).take 2=[V.ptr (aj (π p.1)) 0,.ptr (aj (π p.2)) 0]:=by rw [VS];exact tU _ i _ (fun u hu=>by obtain ⟨p,_,rfl⟩:=List.mem_map.1 hu;rfl) (by rw [List.getElem?_map,h];rfl)
theorem VR (π:Nat->Nat) (T U:List (Nat × Nat)):qy π (T++U)=qy π T++qy π U:=by unfold qy;rw [List.flatMap_append]
theorem aok {g:bp} {π:Nat->Nat} {bR:Nat->V} {w:Nat->Nat} {bN:Nat->Int} {ρ:Nat->Nat} {E:List (Nat × Nat)} {a b:Nat} {h:ai} (W:g.ee) (cr:1+kx g ρ<=1000000000) (H:e' h g π bR w bN) (S:eU g ρ) (e2:Way w ρ) (L:mn g ρ bN) (J:eA g E ρ [(a,b)]) (a1:a<g.N) (ae:b<g.N):
 db Tryz.prog 48 [.ptr (aj (π a)) 0,.ptr (aj (π b)) 0] h fun x ab=>Mod (jM g π) h ab/\∃ao fQ dJ,e' ab g π bR ao fQ/\eU g dJ/\Way ao dJ/\((x=.bool false/\mU g E)\/(x=.bool true/\eA g E dJ []/\mn g dJ fQ)):=by
 have L2:∀i,i<g.N->π i<h.next:=fun i an=>H.lt an
 have ak6:∀i b,i<g.N->(bR i).aM b->cI b<h.next:=fun i b an q=>H.rn an q
 refine abb.z rfl (dB ?_);unfold Qq;obtain ⟨aa,ar,aP,DO⟩:=aj7 h 2 1 [.ptr (aj (π a)) 0,.ptr (aj (π b)) 0] rfl (by unfold top;omega);simp +contextual only [ar,↓al,aE,simprocAttr];refine akg (fun r cH n=>∃v T ao fQ dJ,r 5=v/\cD h.next cH 2 v T.length (qy π T)/\e' cH g π bR ao fQ/\eU g dJ/\Way ao dJ/\mn g dJ fQ/\eA g E dJ T/\(∀p ∈ T,p.1<g.N/\p.2<g.N)/\n=T.length+kx g dJ/\n<=1+kx g ρ/\Mod (jM g π) h cH/\aa.next<=cH.next) (cC:=1+kx g ρ) ?_ ?_
 . refine ⟨_,[(a,b)],w,bN,ρ,by simp only [↓al,bs,simprocAttr],DO,H.ext aP,S,e2,L,J,fun p ag=>?_,rfl,Nat.le_refl _,aP.mod _,Nat.le_refl _⟩;rw [List.mem_singleton] at ag;subst ag;exact ⟨a1,ae⟩
 rintro Yv r cH n JO ⟨v,T,ao,fQ,dJ,dv,O,P,gw,ON,DK,Oe,dz,aV,pb,M,aB⟩;have cS:=aP.next
 have dG:=O.v.one;have j2:=O.v.len;unfold Go.Proofs.YthemdhlheglhoaaGreatDoor.IM;rw [show (aW.seq _ _:aW)=_ from abc];rcases List.eq_nil_or_concat T with rfl | ⟨ch,⟨x,y⟩,rfl⟩
 . simp +contextual only [dv,j2,List.length_nil,show ((0:Int) < ((0:Nat):Int))=False from by simp,↓al,aE,simprocAttr];exact ⟨M,ao,fQ,dJ,P,gw,ON,.inr ⟨Oe,DK⟩⟩
 have hlen:(ch.concat (x,y)).length=ch.length+1:=by simp
 rw [List.concat_eq_append] at *;have ak:x<g.N/\y<g.N:=dz (x,y) (by simp);have JU:∀p ∈ ch,p.1<g.N/\p.2<g.N:=fun p ag=>dz p (by simp [ag]);have b2:IntKind.i64.wrap (((ch.length+1:Nat):Int)-1)=((ch.length:Nat):Int):=by rw [wrap_i64 (by omega) (by omega)];omega
 have g0:((0:Int) < ((ch.length+1:Nat):Int))=True:=eq_true (by omega);rw [hlen] at O j2;obtain ⟨lO,off,ct,X9⟩:=O.v.ct (k:=.i64) (i:=ch.length) (by omega);have ld:=X9.iV (i:=ch.length * 2) (n:=2) (by rw [Mn,List.length_append,List.length_singleton];omega);rw [alY π (T:=ch++[(x,y)]) (i:=ch.length) (p:=(x,y)) (by simp)] at ld;obtain ⟨c9,cut,vp,sub⟩:=O.cut (k:=.i64) (m:=ch.length) (by omega) (by omega);rw [VR,List.take_append_of_le_length (by rw [Mn];exact Nat.le_refl _),List.take_of_length_le (by rw [Mn];exact Nat.le_refl _)] at vp;obtain ⟨g1,av,a',Z⟩:=o1 cH [.ej,.ej] [.ptr (aj (π x)) 0,.ptr (aj (π y)) 0];have kp:=vp.v.one;have ao8:=Z.lt;have fP:=a'.next
 have Az:eA g E dJ ((x,y)::ch):=Oe.perm fun p=>by simp [or_comm]
 simp +contextual only [dv,j2,g0,b2,ct,ld,av,Z.g,cut,dG.1,dG.2.1,kp.1,kp.2.1,ZJ,ZK,↓al,aE,simprocAttr];have hk:=P.ext a';refine cz (z' hk gw ON ak.1) ?_;rintro bz g2 ⟨rfl,b0,fK,tC,M2⟩;have Sv:¬jM g π (aj cH.next):=fun ⟨i,an,q⟩=>by have:=L2 i an;have:=fu q;omega
 have ke:=Z.mod M2 Sv;simp +contextual only [Z.g,ke.g,↓al,aE,simprocAttr];refine cz (z' fK gw tC ak.2) ?_;rintro ek g3 ⟨rfl,im,ir,lj,vm⟩;have mq:=ke.mod vm Sv;have n3:=M2.next
 have n4:=vm.next
 have w_:∀{k bj:ai},Mod (jM g π) k bj->∀{u:V} {n:Nat} {cs:List V},cD h.next k 2 u n cs->cD h.next bj 2 u n cs:=fun {k bj} m {u n cs} O=>O.mod m fun c q ⟨i,an,z⟩=>by have:=O.base q;have:=L2 i an;rw [z,cc] at *;omega
 have pQ:=w_ vm (w_ M2 (vp.ext a'));have AD:Mod (jM g π) h g3:=((M.trans (a'.mod _)).trans M2).trans vm;obtain ⟨f_,ex⟩:=hT (gw.lt x ak.1);obtain ⟨kn,jV⟩:=hT (gw.lt y ak.2);have rx:=gw.idem x;have uW:=gw.idem y;have mV:=ir.root ex (Way.root gw lj rx);have hy:=ir.root jV (Way.root gw lj uW);have uM:=al6 mV hy false;simp only [cond_false] at uM;by_cases c:dJ x=dJ y
 . simp +contextual only [Z.g,ke.g,mq.g,uM,decide_eq_true (congrArg π c),jF,↓al,aE,simprocAttr];refine JO _ _ (ch.length+kx g dJ) (by rw [aV,hlen];omega) ⟨c9,ch,im,fQ,dJ,by simp only [↓al,bs,simprocAttr],pQ,ir,gw,lj,DK,Az.skip c,JU,rfl,by omega,AD,by omega⟩
 have yh:¬π (dJ x)=π (dJ y):=fun z=>c (ir.inj _ _ (gw.lt x ak.1) (gw.lt y ak.2) z);have l_:=gw.lt x ak.1;have rA:=gw.lt y ak.2;have xL:=Way.root gw lj rx;have De:=Way.root gw lj uW;have fin:∀(R s:Nat) (IY:∀aN:dx,g.nodes[R]? =some aN->aN.cj=false),((R=dJ x/\s=dJ y)\/(R=dJ y/\s=dJ x))->∀(rL:bd) (ab:ai),rL 5=c9->e' ab g π bR (fun a=>if a=R then s else im a) (e0 fQ s (w2 (fQ R) (fQ s)))->Mod (jM g π) g3 ab->ab.next=g3.next->Yv rL ab:=by
  intro R s IY Sw rL ab gf n0 pO n5;have cN:dJ R=R/\dJ s=s/\R≠s/\R<g.N/\s<g.N:=by
   rcases Sw with ⟨rfl,rfl⟩ | ⟨rfl,rfl⟩
   . exact ⟨rx,uW,c,l_,rA⟩
   . exact ⟨uW,rx,fun z=>c z.symm,rA,l_⟩
  obtain ⟨b6,z2,z3,z4,z5⟩:=cN;have hw:=Hh b6 z2 z3 z4;refine JO _ _ (ch.length+kx g (eg dJ R s)) (by rw [aV,hlen];omega) ⟨c9,ch,_,_,eg dJ R s,gf,w_ pO pQ,n0,gw.one b6 z2 z3 z4 z5 (fun aN ar av=>by rw [IY aN ar] at av;cases av),lj.one gw b6 z2 z3,DK.one b6 z2 z3 z4 z5,Az.XE gw (by
   rcases Sw with ⟨rfl,rfl⟩ | ⟨rfl,rfl⟩
   . exact .inl ⟨rfl,rfl⟩
   . exact .inr ⟨rfl,rfl⟩) b6 z2 IY,JU,rfl,by rw [aV,hlen] at pb;omega,AD.trans pO,by omega⟩
 cases wh:f_.cj with
 | false=>
   rw [wh] at mV;cases o8:kn.cj with
   | false=>
     rw [o8] at hy;simp +contextual only [Z.g,ke.g,mq.g,uM,decide_eq_false yh,mV,hy,jF,↓al,aE,simprocAttr];refine G_ ir rA l_ (fun z=>c z.symm) De xL (by simp only [↓al,bs,simprocAttr]) (by simp only [↓al,bs,simprocAttr]) fun rL ab gf n0 pO n5=>?_;simp only [↓al,aE,simprocAttr];exact fin _ _ (fun aN q=>by rw [jV] at q;cases q;exact o8) (.inr ⟨rfl,rfl⟩) _ _ (by rw [gf];simp only [↓al,bs,simprocAttr]) n0 pO n5
   | true=>
     rw [o8] at hy;simp +contextual only [Z.g,ke.g,mq.g,uM,decide_eq_false yh,mV,hy,jF,↓al,aE,simprocAttr];refine G_ ir l_ rA c xL De (by simp only [↓al,bs,simprocAttr]) (by simp only [↓al,bs,simprocAttr]) fun rL ab gf n0 pO n5=>?_;simp only [↓al,aE,simprocAttr];exact fin _ _ (fun aN q=>by rw [ex] at q;cases q;exact wh) (.inl ⟨rfl,rfl⟩) _ _ (by rw [gf];simp only [↓al,bs,simprocAttr]) n0 pO n5
 | true=>
   rw [wh] at mV;cases o8:kn.cj with
   | false=>
     rw [o8] at hy;simp +contextual only [Z.g,ke.g,mq.g,uM,decide_eq_false yh,mV,hy,jF,↓al,aE,simprocAttr];refine G_ ir rA l_ (fun z=>c z.symm) De xL (by simp only [↓al,bs,simprocAttr]) (by simp only [↓al,bs,simprocAttr]) fun rL ab gf n0 pO n5=>?_;simp only [↓al,aE,simprocAttr];exact fin _ _ (fun aN q=>by rw [jV] at q;cases q;exact o8) (.inr ⟨rfl,rfl⟩) _ _ (by rw [gf];simp only [↓al,bs,simprocAttr]) n0 pO n5
   | true=>
     rw [o8] at hy;obtain ⟨kQ,Wr,F9⟩:=ir.c6 _ _ ex;obtain ⟨Yz,aqY,aqs⟩:=ir.c6 _ _ jV;have mK:=kQ.len;have Un:=Yz.len;by_cases cs:f_.s=kn.s
     . by_cases tL:f_.kids.length=kn.kids.length
       . simp +contextual only [Z.g,ke.g,mq.g,uM,decide_eq_false yh,mV,hy,eq_true cs,mK,Un,tL,eq_self,G0,jF,↓al,aE,simprocAttr];have bn:(f_.kids.zip kn.kids).length=f_.kids.length:=by rw [List.length_zip,tL];omega
         have iQ:sX g (dJ x)=f_.kids.length:=by unfold sX;rw [ex]
         have hw:=Hh rx uW c l_;rw [iQ] at hw;rw [hlen] at aV;refine eY (fun r k=>r 7=.ptr (aj (π (dJ x))) 0/\r 8=.ptr (aj (π (dJ y))) 0/\r 74=.int .i64 f_.kids.length/\∃(i:Nat) (u:V),r 75=.int .i64 i/\r 5=u/\i<=f_.kids.length/\cD h.next k 2 u (ch.length+i) (qy π (ch++(f_.kids.zip kn.kids).take i))/\e' k g π bR im fQ/\Mod (jM g π) h k/\g3.next<=k.next) (fun r k=>f_.kids.length - (r 75).toN) ?_ ?_
         . exact ⟨by simp only [↓al,bs,simprocAttr],by simp only [↓al,bs,simprocAttr],by simp only [tL,↓al,bs,simprocAttr],0,c9,by simp only [↓al,bs,simprocAttr]<;>rfl,by simp only [↓al,bs,simprocAttr],Nat.zero_le _,by simpa using pQ,ir,AD,Nat.le_refl _⟩
         rintro r k ⟨fg,ed,V8,i,u,V9,dv,an,AG,gY,gb,aH⟩;have rI:=AG.v.one;have Hz:=gY.root ex xL;have HA:=gY.root jV De;rw [wh] at Hz;rw [o8] at HA;unfold IL;by_cases aO:i<f_.kids.length
         . have vY:((i:Int) < (f_.kids.length:Int))=True:=eq_true (by omega);obtain ⟨Ol,_,_⟩:=gY.c6 _ _ ex;obtain ⟨Om,_,_⟩:=gY.c6 _ _ jV;have k4:=Ol.one;have Vf:=Om.one;obtain ⟨tG,fx,ox,xO⟩:=Ol.ct (k:=.i64) aO;obtain ⟨Z6,hs,agL,NS⟩:=Om.ct (k:=.i64) (i:=i) (by omega);have mJ:=xO.d_ (i:=i) (by rw [List.length_map];exact aO);have Lx:=NS.d_ (i:=i) (by rw [List.length_map];omega);rw [List.getElem_map] at mJ Lx;rw [show fx+i=fx+i * 1 by omega] at mJ;rw [show hs+i=hs+i * 1 by omega] at Lx;have d1:(k.next=π (dJ x))=False:=eq_false (by have:=gY.lt l_;omega);have d2:(k.next=π (dJ y))=False:=eq_false (by have:=gY.lt rA;omega);have d3:(aj k.next=tG)=False:=CG xO.1 (Nat.le_refl _);have d4:(aj k.next=Z6)=False:=CG NS.1 (Nat.le_refl _);obtain ⟨gW,bj,bZ,bX,b_,gV,jg⟩:=pS (cs:=[.ptr (aj (π f_.kids[i])) 0,.ptr (aj (π kn.kids[i])) 0]) (by omega) AG (by omega) (by unfold top;omega) rfl rfl;have uI:=bX.v.one;have dk:IntKind.i64.wrap ((i:Int)+1)=((i+1:Nat):Int):=by rw [wrap_i64 (by omega) (by omega)];rfl
           simp +contextual only [fg,ed,V8,V9,dv,vY,Hz,HA,k4.1,k4.2.1,Vf.1,Vf.2.1,ox,agL,mJ,Lx,d1,d2,d3,d4,if_false,bZ,dk,rI.1,rI.2.1,uI.1,uI.2.1,↓al,aE,simprocAttr];have pe:∀b,u.aM b->h.next<=cI b:=fun b q=>AG.base q
           refine ⟨⟨i+1,gW,rfl,by simp only [↓al,bs,simprocAttr],aO,?_,gY.mod b_ (fun j aU q=>?_) (fun j b aU ae q=>?_),gb.z1 b_ pe,by omega⟩,by omega⟩
           . rw [show ch.length + (i+1)=ch.length+i+1 by omega,List.take_succ_eq_append_getElem (by rw [bn];exact aO),<-List.append_assoc,VR];simpa [qy] using bX
           . have:=pe _ q;rw [cc] at this;have:=L2 j aU;omega
           . have:=pe _ q;have:=ak6 j b aU ae;omega
         . have vY:((i:Int) < (f_.kids.length:Int))=False:=eq_false (by omega);rw [List.take_of_length_le (by rw [bn];omega)] at AG;simp +contextual only [fg,ed,V8,V9,dv,vY,Hz,HA,↓al,aE,simprocAttr];refine G_ gY l_ rA c xL De (by simp only [fg,↓al,bs,simprocAttr]) (by simp only [ed,↓al,bs,simprocAttr]) fun rL ab gf n0 pO n5=>?_;simp only [↓al,aE,simprocAttr];have hE:i=f_.kids.length:=by omega
           refine JO _ _ (ch.length+f_.kids.length+kx g (eg dJ (dJ x) (dJ y))) (by omega) ⟨u,ch++f_.kids.zip kn.kids,_,_,eg dJ (dJ x) (dJ y),by rw [gf];simp only [dv,↓al,bs,simprocAttr],?_,n0,gw.one rx uW c l_ rA (fun aN ar av=>⟨kn,jV,o8⟩),lj.one gw rx uW c,DK.one rx uW c l_ rA,(Az.XD gw rfl rfl ex jV wh o8 cs tL).perm fun p=>by simp [or_comm],fun p ag=>?_,by rw [List.length_append,bn],by omega,gb.trans pO,by omega⟩
           . rw [List.length_append,bn,<-hE];exact w_ pO AG
           . rcases List.mem_append.1 ag with ag | ag
             . exact JU p ag
             . obtain ⟨bZ,bX⟩:=p;have:=List.of_mem_zip ag;exact ⟨W.qj ex this.1,W.qj jV this.2⟩
       . have ab7:¬((f_.kids.length:Int)=(kn.kids.length:Int)):=by omega
         simp +contextual only [Z.g,ke.g,mq.g,uM,decide_eq_false yh,mV,hy,eq_true cs,mK,Un,eq_false ab7,G0,jF,↓al,aE,simprocAttr];exact ⟨AD,im,fQ,dJ,ir,gw,lj,.inl (Az.Er gw rfl rfl ex jV wh o8 (.inr tL))⟩
     . simp +contextual only [Z.g,ke.g,mq.g,uM,decide_eq_false yh,mV,hy,eq_false cs,G0,jF,↓al,aE,simprocAttr];exact ⟨AD,im,fQ,dJ,ir,gw,lj,.inl (Az.Er gw rfl rfl ex jV wh o8 (.inl cs))⟩
section
variable {α:Type}
def hU (i:Nat):List (Nat × α)->Option α
 | []=>none
 | (n,a)::bM=>if i=n then some a else hU i bM
def nL (i:Nat) (x:α):List (Nat × α)->List (Nat × α)
 | []=>[(i,x)]
 | (n,a)::bM=>if i=n then (i,x)::bM else (n,a)::nL i x bM
theorem LB (i:Nat) (x:α) (j:Nat):∀bM:List (Nat × α),hU j (nL i x bM)=if j=i then some x else hU j bM
 | []=>by simp only [nL,hU]
 | (n,a)::bM=>by
   simp only [nL];by_cases q:i=n
   . subst q;simp only [if_true,hU]
     split<;>rfl
   . rw [if_neg q];simp only [hU,LB i x j bM];by_cases r:j=n
     . rw [if_pos r,if_neg (fun z=>q (z.symm.trans r)),if_pos r]
     . rw [if_neg r,if_neg r]
theorem Lo (i:Nat) (x:α):∀bM:List (Nat × α),∀j,j ∈ (nL i x bM).map Prod.fst->j=i\/j ∈ bM.map Prod.fst
 | [],j,h=>by simp [nL] at h;exact .inl h
 | (n,a)::bM,j,h=>by
   simp only [nL] at h
   split at h
   . simp only [List.map_cons,List.mem_cons] at h ⊢;rcases h with h | h
     . exact .inl h
     . exact .inr (.inr h)
   . simp only [List.map_cons,List.mem_cons] at h ⊢;rcases h with h | h
     . exact .inr (.inl h)
     . rcases Lo i x bM j h with h | h
       . exact .inl h
       . exact .inr (.inr h)
theorem Us {i:Nat} {a:α}:∀{bM:List (Nat × α)},hU i bM=some a->(i,a) ∈ bM
 | [],h=>by cases h
 | (n,b)::bM,h=>by
   simp only [hU] at h
   split at h
   . rename_i q;cases h;subst q;exact List.mem_cons_self
   . exact List.mem_cons_of_mem _ (Us h)
theorem Cq {i:Nat}:∀{bM:List (Nat × α)},hU i bM=none↔i ∉ bM.map Prod.fst
 | []=>by simp [hU]
 | (n,b)::bM=>by
   simp only [hU,List.map_cons,List.mem_cons,not_or];by_cases q:i=n
   . simp [q]
   . rw [if_neg q,Cq (bM:=bM)];simp [q]
def oT (e:α->V) (π:Nat->Nat):List (Nat × α)->List cL->Prop
 | [],[]=>True
 | (n,a)::bM,m::es=>m.k=.ptr (aj (π n)) 0/\m.v=e a/\oT e π bM es
 | _,_=>False
structure ib (e:α->V) (π:Nat->Nat) (h:ai) (b:aQ) (bM:List (Nat × α)):Prop where
 ex:∃es clock,h.get b=.mp es clock/\oT e π bM es/\h2 clock 0 es=true
 bG:Old h b
variable {e:α->V} {π:Nat->Nat} {h ab:ai} {b:aQ} {bM:List (Nat × α)} {es:List cL} {i:Nat}
abbrev vk (h:ai) (π:Nat->Nat) (i:Nat) (aI:List Nat):Prop:=∀j,j ∈ aI->ht h (.ptr (aj (π i)) 0) (.ptr (aj (π j)) 0)=some (decide (i=j))
theorem oT.find (H:oT e π bM es) (K:vk h π i (bM.map Prod.fst)):nh ⟨ht h⟩ (.ptr (aj (π i)) 0) es=some ((hU i bM).map e):=by
 induction bM generalizing es with
 | nil=>
   cases es with
   | nil=>rfl
   | cons m es=>exact H.elim
 | cons p bM br=>
   obtain ⟨n,a⟩:=p;cases es with
   | nil=>exact H.elim
   | cons m es=>
     obtain ⟨aa,ad,aJ⟩:=H;have iB:=K n (by simp);simp only [nh,aa,iB,hU];by_cases q:i=n
     . subst q;simp [ad]
     . simp only [q,decide_false,cond_false,if_false];exact br aJ fun j aU=>K j (by simp only [List.map_cons,List.mem_cons];exact .inr aU)
theorem oT.q1 (H:oT e π bM es) (K:vk h π i (bM.map Prod.fst)) (aV:hU i bM=none):a7.q1 ⟨ht h⟩ (.ptr (aj (π i)) 0) es=some none:=by
 induction bM generalizing es with
 | nil=>
   cases es with
   | nil=>rfl
   | cons m es=>exact H.elim
 | cons p bM br=>
   obtain ⟨n,a⟩:=p;cases es with
   | nil=>exact H.elim
   | cons m es=>
     obtain ⟨aa,ad,aJ⟩:=H;have iB:=K n (by simp);simp only [hU] at aV
     split at aV
     . cases aV
     . rename_i q;simp only [a7.q1,aa,iB,q,decide_false,cond_false];exact br aJ (fun j aU=>K j (by simp only [List.map_cons,List.mem_cons];exact .inr aU)) aV
theorem oT.put (H:oT e π bM es) (K:vk h π i (bM.map Prod.fst)) (x:α) (clock:Nat) (bB:Nat) (eD:bB<=clock) (B:h2 clock bB es=true):
 ∃gy f,k8 ⟨ht h⟩ (.ptr (aj (π i)) 0) (e x) clock es=some (gy,f)/\oT e π (nL i x bM) gy/\h2 (bif f then clock+1 else clock) bB gy=true:=by
 induction bM generalizing es bB with
 | nil=>
   cases es with
   | nil=>
     refine ⟨_,true,rfl,⟨rfl,rfl,trivial⟩,?_⟩;simp only [h2,cond_true,Bool.and_true,Bool.and_eq_true,Nat.ble_eq,Nat.blt_eq];omega
   | cons m es=>exact H.elim
 | cons p bM br=>
   obtain ⟨n,a⟩:=p;cases es with
   | nil=>exact H.elim
   | cons m es=>
     obtain ⟨aa,ad,aJ⟩:=H;simp only [h2,Bool.and_eq_true,Nat.ble_eq,Nat.blt_eq] at B;obtain ⟨⟨cb,b9⟩,e3⟩:=B;have iB:=K n (by simp);simp only [k8,aa,iB,nL];by_cases q:i=n
     . subst q;refine ⟨⟨.ptr (aj (π i)) 0,e x,m.born⟩::es,false,by simp only [decide_true,cond_true],?_,?_⟩
       . rw [if_pos rfl];exact ⟨rfl,rfl,aJ⟩
       . simp only [cond_false,h2,e3,Bool.and_true,Bool.and_eq_true,Nat.ble_eq,Nat.blt_eq];exact ⟨cb,b9⟩
     . obtain ⟨gy,f,ar,av,aK⟩:=br (bB:=m.born+1) aJ (fun j aU=>K j (by simp only [List.map_cons,List.mem_cons];exact .inr aU)) (by omega) e3;refine ⟨m::gy,f,by simp only [q,decide_false,cond_false,ar],by rw [if_neg q];exact ⟨aa,ad,av⟩,?_⟩;simp only [h2,aK,Bool.and_true,Bool.and_eq_true,Nat.ble_eq,Nat.blt_eq];refine ⟨cb,?_⟩;cases f<;>simp only [cond_true,cond_false]<;>omega
theorem oT.snoc (H:oT e π bM es) (x:α) (c:Nat):oT e π (bM++[(i,x)]) (es++[⟨.ptr (aj (π i)) 0,e x,c⟩]):=by
 induction bM generalizing es with
 | nil=>
   cases es with
   | nil=>exact ⟨rfl,rfl,trivial⟩
   | cons m es=>exact H.elim
 | cons p bM br=>
   cases es with
   | nil=>exact H.elim
   | cons m es=>exact ⟨H.1,H.2.1,br H.2.2⟩
theorem Px {c:Nat} {k v:V}:∀{es:List cL} {bB:Nat},bB<=c->h2 c bB es=true->h2 (c+1) bB (es++[⟨k,v,c⟩])=true
 | [],bB,h,_=>by simp only [List.nil_append,h2,Bool.and_true,Bool.and_eq_true,Nat.ble_eq,Nat.blt_eq];omega
 | m::es,bB,h,B=>by simp only [h2,Bool.and_eq_true,Nat.ble_eq,Nat.blt_eq] at B;simp only [List.cons_append,h2,Bool.and_eq_true,Nat.ble_eq,Nat.blt_eq];exact ⟨⟨B.1.1,by omega⟩,Px (by omega) B.2⟩
theorem RX {c:Nat} {k v x:V}:∀{es:List cL} {bB:Nat},h2 c bB es=true->sq c x (es++[⟨k,v,c⟩])=some (es++[⟨k,x,c⟩])
 | [],bB,_=>by simp [sq]
 | m::es,bB,B=>by
   simp only [h2,Bool.and_eq_true,Nat.ble_eq,Nat.blt_eq] at B;have:Nat.beq m.born c=false:=by rw [<-Bool.not_eq_true,Nat.beq_eq];omega
   simp only [List.cons_append,sq,this,cond_false,RX B.2]
theorem ib.ext (H:ib e π h b bM) (x:Ext h ab):ib e π ab b bM:=by obtain ⟨es,clock,ar,av,aK⟩:=H.ex;exact ⟨⟨es,clock,by rw [x.get b H.bG];exact ar,av,aK⟩,x.bG H.bG⟩
theorem ib.mod {M:aQ->Prop} (H:ib e π h b bM) (m:Mod M h ab) (ae:¬M b):ib e π ab b bM:=by obtain ⟨es,clock,ar,av,aK⟩:=H.ex;exact ⟨⟨es,clock,by rw [m.get b H.bG ae];exact ar,av,aK⟩,m.bG H.bG⟩
theorem ib.look (H:ib e π h b bM) (K:vk h π i (bM.map Prod.fst)) (z:V) (ok:Bool):jx ⟨ht h⟩ z ok h (.map b) (.ptr (aj (π i)) 0)=some (match hU i bM with
 | some a=>(bif ok then .tuple [e a,.bool true] else e a)
 | none=>(bif ok then .tuple [z,.bool false] else z)):=by
 obtain ⟨es,clock,ar,av,aK⟩:=H.ex;simp only [jx,s3,ar,cf.j9,av.find K];cases hU i bM<;>rfl
theorem ib.e0 (H:ib e π h b bM) (K:vk h π i (bM.map Prod.fst)) (x:α):∃ab,k_ ⟨ht h⟩ h (.map b) (.ptr (aj (π i)) 0) (e x)=some ab/\ib e π ab b (nL i x bM)/\Mod (fun p=>p=b) h ab/\ab.next=h.next:=by obtain ⟨es,clock,ar,av,aK⟩:=H.ex;obtain ⟨gy,f,bw,cw,cn⟩:=av.put K x clock 0 (Nat.zero_le _) aK;refine ⟨h.set b (.mp gy (bif f then clock+1 else clock)),by simp only [k_,ar,cf.j9,bw],⟨⟨gy,_,by rw [dy,if_pos rfl],cw,cn⟩,?_⟩,(Mod.refl (fun p=>p=b) h).set (fun _=>rfl) _,rfl⟩;exact ((Mod.refl (fun p=>p=b) h).set (fun _=>rfl) _).bG H.bG
theorem ib.entry (H:ib e π h b bM) (K:vk h π i (bM.map Prod.fst)) (aV:hU i bM=none) (z:V) (x:α):∃(c:Nat) (aa ad:ai),ym z (.map b) (.ptr (aj (π i)) 0) h=.val (.tuple [z,.int .i64 c]) aa/\tQ aa (.map b) (.int .i64 c) (e x)=some ad/\
 ib e π ad b (bM++[(i,x)])/\Mod (fun p=>p=b) h aa/\aa.next=h.next/\Mod (fun p=>p=b) h ad/\ad.next=h.next:=by
 obtain ⟨es,clock,ar,av,aK⟩:=H.ex;have m1:∀k,Mod (fun p=>p=b) h (h.set b k):=fun k=>(Mod.refl (fun p=>p=b) h).set (fun _=>rfl) _;refine ⟨clock,h.set b (.mp (es++[⟨.ptr (aj (π i)) 0,z,clock⟩]) (clock+1)),(h.set b (.mp (es++[⟨.ptr (aj (π i)) 0,z,clock⟩]) (clock+1))).set b (.mp (es++[⟨.ptr (aj (π i)) 0,e x,clock⟩]) (clock+1)),?_,?_,⟨⟨_,_,by rw [dy,if_pos rfl],av.snoc x clock,Px (Nat.zero_le _) aK⟩,(((m1 _).set (fun _=>rfl) _).bG H.bG)⟩,m1 _,rfl,(m1 _).set (fun _=>rfl) _,rfl⟩
 . simp only [ym,w6,ar,cf.j9,av.q1 K aV]
 . have:((clock:Nat):Int)=Int.ofNat clock:=rfl;simp only [tQ,this,dy,if_true,cf.j9,RX aK]
theorem ib.new (e:α->V) (π:Nat->Nat) (h:ai):ib e π (h.new (.mp [] 0)) (aj h.next) []:=
 ⟨⟨[],0,ni _,trivial,rfl⟩,gi (by rw [gN];omega)⟩
end
theorem e'.key {h:ai} {g:bp} {π:Nat->Nat} {bR:Nat->V} {w:Nat->Nat} {bN:Nat->Int} (H:e' h g π bR w bN) {i:Nat} (an:i<g.N) {aI:List Nat} (aH:∀j ∈ aI,j<g.N):vk h π i aI:=fun j aU=>by
 obtain ⟨akK,bb⟩:=hT an;obtain ⟨akM,acU⟩:=hT (aH j aU);have g1:=(H.has i akK bb).g;have g2:=(H.has j akM acU).g;unfold ht;simp only [OF,g1,g2,cf.bC,cf.zJ,Bool.not_false,Bool.and_self,cond_true];by_cases c:i=j
 . subst c;simp
 . rw [decide_eq_false (fun z=>c (H.inj i j an (aH j aU) (fu z))),decide_eq_false c];simp
theorem zv:∀(n:Nat) (l:List Nat),l.Nodup->(∀x ∈ l,x<n)->l.length<=n
 | 0,l,_,h=>by
   cases l with
   | nil=>exact Nat.le_refl _
   | cons x l=>have:=h x List.mem_cons_self;omega
 | n+1,l,aV,h=>by
   by_cases q:n ∈ l
   . have:=zv n (l.erase n) (aV.erase n) fun x ak=>by
      have aa:=h x (List.mem_of_mem_erase ak);have ad:=(aV.mem_erase_iff.1 ak).1;omega
     rw [List.length_erase_of_mem q] at this;omega
   . have:=zv n l aV fun x ak=>by
      have aa:=h x ak;have ad:x≠n:=fun z=>q (z ▸ ak);omega
     omega
theorem ani [Lay] {h:ai} {size:Nat} {v:V} {n:Nat} {ah:List V} (H:fC h size v n ah) {b:aQ} (ae:v.aM b):∃us,Rd h b us:=by
 have cu:=H.2;cases v<;>simp only [V.aM] at ae<;>simp only at cu
 all_goals
  subst ae;obtain ⟨_,_,us,aa,_⟩:=cu;exact ⟨us,aa⟩
theorem LN {h:ai} {b bL:aQ} {es:List cL} {c:Nat} {us:List V} (aa:h.get b=.mp es c) (ad:Rd h bL us):b≠bL:=fun q=>by subst q;rcases ad with ad | ⟨_,_,ad⟩<;>rw [aa] at ad<;>cases ad
abbrev zZ (t:aL):V:=.int .i64 ((min t.size 4097:Nat):Int)
abbrev Je (t:aL):V:=.int .i64 ((t.deep:Nat):Int)
structure lf (h:ai) (g:bp) (π:Nat->Nat) (bR:Nat->V) (w:Nat->Nat) (bN:Nat->Int) (iG:Nat) (fT dL dr:aQ) (md:List (Nat × aL)) (iD:List (Nat × Bool)):Prop where
 gn:e' h g π bR w bN
 hw:Has h iG [.map fT,.map dL,.map dr]
 ms:ib zZ π h fT md
 sl:ib Je π h dL md
 op:ib V.bool π h dr iD
 d1:fT≠dL
 d2:fT≠dr
 d3:dL≠dr
 zz:∀i,i<g.N->iG≠π i
 mO:∀i,i<g.N->¬(bR i).aM (aj iG)
def r1 (g:bp) (π:Nat->Nat) (fT dL dr:aQ) (b:aQ):Prop:=jM g π b\/b=fT\/b=dL\/b=dr
section
variable {h ab:ai} {g:bp} {π:Nat->Nat} {bR:Nat->V} {w:Nat->Nat} {bN:Nat->Int} {iG:Nat} {fT dL dr:aQ} {md:List (Nat × aL)} {iD:List (Nat × Bool)}
theorem ib.apart {α:Type} {e:α->V} {b:aQ} {bM:List (Nat × α)} (M:ib e π h b bM) (P:e' h g π bR w bN):(∀i,i<g.N->b≠aj (π i))/\∀i,i<g.N->¬(bR i).aM b:=by
 obtain ⟨es,c,q,_⟩:=M.ex;refine ⟨fun i an=>?_,fun i an z=>?_⟩
 . obtain ⟨aN,e⟩:=hT an;exact LN q (.inr ⟨_,_,(P.has i aN e).g⟩)
 . obtain ⟨aN,e⟩:=hT an;obtain ⟨us,r⟩:=ani (P.c6 i aN e).1 z;exact LN q r rfl
theorem ib.LS {α:Type} {e:α->V} {b:aQ} {bM:List (Nat × α)} (M:ib e π h b bM) {n:Nat} {l:List V} (P:Has h n l):b≠aj n:=by obtain ⟨es,c,q,_⟩:=M.ex;exact LN q (.inr ⟨_,_,P.g⟩)
theorem lf.find (H:lf h g π bR w bN iG fT dL dr md iD) {ao:Nat->Nat} (P:e' ab g π bR ao bN) (m:Mod (jM g π) h ab):lf ab g π bR ao bN iG fT dL dr md iD:=by have cS:=(H.ms.apart H.gn).1;have fP:=(H.sl.apart H.gn).1;have n3:=(H.op.apart H.gn).1;exact ⟨P,H.hw.mod m fun ⟨i,an,q⟩=>H.zz i an (fu q),H.ms.mod m fun ⟨i,an,q⟩=>cS i an q,H.sl.mod m fun ⟨i,an,q⟩=>fP i an q,H.op.mod m fun ⟨i,an,q⟩=>n3 i an q,H.d1,H.d2,H.d3,H.zz,H.mO⟩
theorem lf.Vm (H:lf h g π bR w bN iG fT dL dr md iD) {mc:List (Nat × Bool)} (P:ib V.bool π ab dr mc) (m:Mod (fun p=>p=dr) h ab):lf ab g π bR w bN iG fT dL dr md mc:=by obtain ⟨cS,fP⟩:=H.op.apart H.gn;exact ⟨H.gn.mod m (fun i an q=>cS i an q.symm) fun i b an ae q=>fP i an (by rw [<-show b=dr from q];exact ae),H.hw.mod m fun q=>H.op.LS H.hw q.symm,H.ms.mod m H.d2,H.sl.mod m H.d3,P,H.d1,H.d2,H.d3,H.zz,H.mO⟩
end
structure r3 (g:bp) (R:Nat->Nat->Prop) (ρ:Nat->Nat) (md:List (Nat × aL)) (opens:List Nat):Prop where
 all:∀p ∈ md,p.1<g.N/\ρ p.1=p.1/\dO g R p.1 p.2/\p.2.deep<=md.length
 nodup:(md.map Prod.fst).Nodup
 free:∀p ∈ md,p.1 ∉ opens
theorem r3.keys {g:bp} {R:Nat->Nat->Prop} {ρ:Nat->Nat} {md:List (Nat × aL)} {opens:List Nat} (H:r3 g R ρ md opens):∀j ∈ md.map Prod.fst,j<g.N:=fun j aU=>by obtain ⟨p,ag,rfl⟩:=List.mem_map.1 aU;exact (H.all p ag).1
theorem r3.len {g:bp} {R:Nat->Nat->Prop} {ρ:Nat->Nat} {md:List (Nat × aL)} {opens:List Nat} (H:r3 g R ρ md opens):md.length<=g.N:=by have:=zv g.N _ H.nodup H.keys;rwa [List.length_map] at this
theorem LA {α:Type} {i:Nat} {a:α}:∀{bM:List (Nat × α)},(bM.map Prod.fst).Nodup->(i,a) ∈ bM->hU i bM=some a
 | [],_,h=>by cases h
 | (n,b)::bM,aV,h=>by
   simp only [List.map_cons,List.nodup_cons] at aV;simp only [hU];rcases List.mem_cons.1 h with h | h
   . cases h;rw [if_pos rfl]
   . rw [if_neg (fun e=>aV.1 (by rw [<-e];exact List.mem_map_of_mem h))];exact LA aV.2 h
theorem anS {g:bp} {E:List (Nat × Nat)} {ρ:Nat->Nat} {bN:Nat->Int} {x:Nat} {aN:dx} (W:g.ee) (S:eU g ρ) (J:eA g E ρ []) (L:mn g ρ bN) (ak:ρ x=x) (e:g.nodes[x]? =some aN) {l:List aL} (ay:l.length=aN.kids.length)
 (aH:∀(i y:Nat) (t:aL),aN.kids[i]? =some y->l[i]? =some t->dO g (cB g E) y t):∃t,dO g (cB g E) x t/\t.size=1+ca l/\t.deep=fm l+1:=by
 cases c:aN.cj with
 | true=>exact ⟨_,.cj (.refl x) e c ay aH,by rw [aL.size],by rw [aL.deep]⟩
 | false=>
   obtain ⟨iB,_⟩:=W.var x aN e c;rw [iB] at ay;have qk:l=[]:=List.length_eq_zero_iff.1 ay;subst qk;rcases L x (hl e) ak with ⟨_,ad⟩ | ⟨_,⟨y,kn,e7,fJ,y3,y4⟩,aJ⟩
   . have:=ad x aN e ak;rw [c] at this;cases this
   . refine ⟨_,.var (b:=y) (J.done.2 (by rw [fJ,ak])) e7 y3 (fun z iX bn od=>?_) (fun z iX bn od=>?_),by simp [aL.size,ca],by simp [aL.deep,fm]⟩
     . cases sk:iX.cj with
       | false=>rfl
       | true=>
         obtain ⟨dP,ar,av⟩:=S.top z iX od sk;rw [<-J.done.1 bn,ak,e] at ar;cases ar;rw [c] at av;cases av
     . have sk:iX.cj=false:=by
        cases sk:iX.cj with
        | false=>rfl
        | true=>
          obtain ⟨dP,ar,av⟩:=S.top z iX od sk;rw [<-J.done.1 bn,ak,e] at ar;cases ar;rw [c] at av;cases av
       rw [y4];exact aJ z iX od (by rw [<-J.done.1 bn,ak]) sk
theorem UL {g:bp} {π:Nat->Nat} {bR:Nat->V} {bN:Nat->Int} {ρ:Nat->Nat} {E:List (Nat × Nat)} {iG:Nat} {fT dL dr:aQ} (W:g.ee) (wo:g.N<=1000000000) (S:eU g ρ) (J:eA g E ρ []) (L:mn g ρ bN):
 ∀(fuel:Nat) (opens:List Nat) (x:Nat) (w:Nat->Nat) (md:List (Nat × aL)) (iD:List (Nat × Bool)) (h:ai),g.N+1<=fuel+opens.length->x<g.N->lf h g π bR w bN iG fT dL dr md iD->Way w ρ->opens.Nodup->(∀r ∈ opens,r<g.N/\ρ r=r/\Reach g (cB g E) r x)->
 r3 g (cB g E) ρ md opens->(∀i,(hU i iD).getD false=decide (i ∈ opens))->(∀j ∈ iD.map Prod.fst,j<g.N)->
 db Tryz.prog 52 [.ptr (aj iG) 0,.ptr (aj (π x)) 0] h fun v ab=>Mod (r1 g π fT dL dr) h ab/\((v=.bool false/\∃z,z<g.N/\¬∃t,dO g (cB g E) z t)\/
  (v=.bool true/\∃ao k3 mc t,lf ab g π bR ao bN iG fT dL dr k3 mc/\Way ao ρ/\r3 g (cB g E) ρ k3 opens/\(∀p ∈ md,p ∈ k3)/\(∀i,(hU i mc).getD false=decide (i ∈ opens))/\(∀j ∈ mc.map Prod.fst,j<g.N)/\(ρ x,t) ∈ k3))
 | 0,opens,x,w,md,iD,h,aA,ak,H,e2,aV,hG,uf,kG,nw=>by have:=zv g.N opens aV fun r aF=>(hG r aF).1;omega
 | fuel+1,opens,x,w,md,iD,h,aA,ak,H,e2,aV,hG,uf,kG,nw=>by
   have gF:=J.part;have b5:=S.lt x ak;have k9:=S.idem x;have hB:cB g E x (ρ x):=J.done.2 (by rw [k9]);refine abh.z rfl (dB ?_);unfold Qs;simp +contextual only [↓al,aE,simprocAttr];refine cz (z' H.gn S e2 ak) ?_;rintro bz aa ⟨rfl,b2,hk,vv,jL⟩;have H1:=H.find hk jL;generalize JV:ρ x=X at *;obtain ⟨b',ex⟩:=hT b5;have wZ:=H1.ms.look (hk.key b5 uf.keys) (.int .i64 0) true;have aj9:=H1.op.look (hk.key b5 nw) (.bool false) false;have HX:Mod (r1 g π fT dL dr) h aa:=jL.mono fun b _ q=>.inl q;have wK:=H1.hw.g;cases aC:hU X md with
   | some t=>
     rw [aC] at wZ;simp only [cond_true] at wZ;simp +contextual only [wK,wZ,jF,↓al,aE,simprocAttr];exact ⟨HX,.inr ⟨b2,md,iD,t,H1,vv,uf,fun p ag=>ag,kG,nw,Us aC⟩⟩
   | none=>
   rw [aC] at wZ;simp only [cond_true] at wZ;have F7:jx ⟨ht aa⟩ (.bool false) false aa (.map dr) (.ptr (aj (π X)) 0)=some (.bool (decide (X ∈ opens))):=by rw [aj9,<-kG X];cases hU X iD<;>rfl
   by_cases p4:X ∈ opens
   . rw [decide_eq_true p4] at F7;simp +contextual only [wK,wZ,F7,jF,↓al,aE,simprocAttr];refine ⟨HX,.inl ⟨X,b5,Reach.ring gF (((hG X p4).2.2).mg gF hB)⟩⟩
   . rw [decide_eq_false p4] at F7;obtain ⟨ad,u3,z7,z8,aoc⟩:=H1.op.e0 (hk.key b5 nw) true;have cu:=H1.Vm z7 z8;have agw:=cu.hw.g;have hy:=cu.gn.has X b' ex;have aoT:=Way.root S vv k9;have Yn:=cu.gn.root ex aoT;obtain ⟨kQ,Wr,F9⟩:=cu.gn.c6 X b' ex;have mK:=kQ.len;have k4:=kQ.one;have MA:ρ X=X:=k9;have M2:Mod (r1 g π fT dL dr) h ad:=HX.trans (z8.mono fun b _ q=>.inr (.inr (.inr q)));simp +contextual only [wK,agw,wZ,F7,u3,Yn,mK,k4.1,k4.2.1,jF,↓al,aE,simprocAttr];have afL:∀r ∈ X::opens,r<g.N/\ρ r=r/\Reach g (cB g E) r X\/r=X:=fun r aF=>by
      rcases List.mem_cons.1 aF with rfl | aF
      . exact .inr rfl
      . obtain ⟨b6,z2,z3⟩:=hG r aF;exact .inl ⟨b6,z2,z3.mg gF hB⟩
     refine eY (fun r k=>r 0=.ptr (aj iG) 0/\r 1=.ptr (aj (π X)) 0/\r 37=bR X/\r 38=.int .i64 b'.kids.length/\∃(i:Nat) (ao:Nat->Nat) (k3:List (Nat × aL)) (mc:List (Nat × Bool)) (l:List aL),r 39=.int .i64 i/\r 7=.int .i64 ((min (1+ca l) 4097:Nat):Int)/\r 8=.int .i64 ((fm l:Nat):Int)/\i<=b'.kids.length/\l.length=i/\
      (∀(j y:Nat) (t:aL),b'.kids[j]? =some y->l[j]? =some t->dO g (cB g E) y t)/\fm l<=k3.length/\lf k g π bR ao bN iG fT dL dr k3 mc/\Way ao ρ/\r3 g (cB g E) ρ k3 (X::opens)/\(∀p ∈ md,p ∈ k3)/\(∀i,(hU i mc).getD false=decide (i ∈ X::opens))/\(∀j ∈ mc.map Prod.fst,j<g.N)/\Mod (r1 g π fT dL dr) h k) (fun r _=>b'.kids.length - (r 39).toN) ?_ ?_
     . refine ⟨by simp only [↓al,bs,simprocAttr],by simp only [↓al,bs,simprocAttr],by simp only [↓al,bs,simprocAttr],by simp only [↓al,bs,simprocAttr],0,b2,md,nL X true iD,[],by simp only [↓al,bs,simprocAttr]<;>rfl,by simp only [↓al,bs,simprocAttr]<;>rfl,by simp only [↓al,bs,simprocAttr]<;>rfl,Nat.zero_le _,rfl,fun j y t _ q=>(by simp at q),Nat.zero_le _,cu,vv,⟨uf.all,uf.nodup,fun p ag q=>?_⟩,fun p ag=>ag,fun i=>?_,fun j aU=>?_,M2⟩
       . rcases List.mem_cons.1 q with q | q
         . exact Cq.1 aC (by rw [<-q];exact List.mem_map_of_mem ag)
         . exact uf.free p ag q
       . rw [LB];by_cases q:i=X
         . subst q;simp
         . rw [if_neg q,kG];simp [q]
       . rcases Lo X true iD j aU with q | q
         . rw [q];exact b5
         . exact nw j q
     rintro r k ⟨bq,bw,uS,oL,i,ao,k3,mc,l,s',fg,ed,an,fF,sM,ap1,hj,qO,nu,Tp,S8,KI,gb⟩;unfold Qt;have ap':=nu.len;by_cases aO:i<b'.kids.length
     . have vY:((i:Int) < (b'.kids.length:Int))=True:=eq_true (by omega);obtain ⟨tw,_,_⟩:=hj.gn.c6 X b' ex;obtain ⟨tG,fx,ox,xO⟩:=tw.ct (k:=.i64) aO;have mJ:=xO.d_ (i:=i) (by rw [List.length_map];exact aO);rw [List.getElem_map,show fx+i=fx+i * 1 by omega] at mJ;have aZ:b'.kids[i]? =some b'.kids[i]:=List.getElem?_eq_getElem aO;have wM:=W.qj ex (List.getElem_mem aO);have aeI:b'.cj=true:=by
        cases c:b'.cj with
        | true=>rfl
        | false=>have:=(W.var X b' ex c).1;rw [this] at aO;simp at aO
       have V_:Reach g (cB g E) X b'.kids[i]:=.c6 (.refl X) ex aeI aZ (.refl _);simp +contextual only [bq,bw,uS,oL,s',fg,ed,vY,ox,mJ,jF,↓al,aE,simprocAttr];refine cz (UL W wo S J L fuel (X::opens) b'.kids[i] ao k3 mc k (by simp only [List.length_cons];omega) wM hj qO (List.nodup_cons.2 ⟨p4,aV⟩) (fun q oq=>?_) nu S8 KI) ?_
       . rcases afL q oq with ⟨b6,z2,z3⟩ | rfl
         . exact ⟨b6,z2,z3.trans V_⟩
         . exact ⟨b5,MA,V_⟩
       rintro v bx ⟨vn,⟨rfl,Bp⟩ | ⟨rfl,b0,Ct,L1,t,rX,lj,yS,FC,sE,sF,fZ⟩⟩
       . simp +contextual only [jF,↓al,aE,simprocAttr];exact ⟨gb.trans vn,.inl Bp⟩
       . simp +contextual only [bq,bw,uS,oL,s',fg,ed,jF,↓al,aE,simprocAttr];refine cz (z' rX.gn S lj wM) ?_;rintro v c4 ⟨rfl,iF,pR,H8,lb⟩;have xR:=rX.find pR lb;have Te:=S.lt _ wM;have hI:=LA yS.nodup fZ;have ls:=xR.ms.look (pR.key Te yS.keys) (.int .i64 0) false;have ld:=xR.sl.look (pR.key Te yS.keys) (.int .i64 0) false;rw [hI] at ls ld;simp only [cond_false] at ls ld;have agx:=xR.hw.g;obtain ⟨b6,z2,z3,z4⟩:=yS.all _ fZ;have anT:dO g (cB g E) b'.kids[i] t:=z3.mg gF (J.done.2 (S.idem _));have ap9:=yS.len;have aqf:k3.length<=Ct.length:=by
          have:(k3.map Prod.fst).length<=(Ct.map Prod.fst).length:=by
           have key:∀(a b:List Nat),a.Nodup->(∀x ∈ a,x ∈ b)->a.length<=b.length:=by
            intro a
            induction a with
            | nil=>intro b _ _;exact Nat.zero_le _
            | cons x a br=>
              intro b aV aR;have Ty:=aR x List.mem_cons_self;have sD:=List.nodup_cons.1 aV;have:=br (b.erase x) sD.2 fun y aZ=>by refine (List.mem_erase_of_ne (fun z=>sD.1 (by rw [<-z];exact aZ))).2 (aR y (List.mem_cons_of_mem _ aZ))
              rw [List.length_erase_of_mem Ty] at this;have:0<b.length:=List.length_pos_of_mem Ty;simp only [List.length_cons];omega
           refine key _ _ nu.nodup fun j aU=>?_;obtain ⟨p,ag,rfl⟩:=List.mem_map.1 aU;exact List.mem_map_of_mem (FC p ag)
          simpa using this
         have Db:IntKind.i64.wrap (((min (1+ca l) 4097:Nat):Int) + ((min t.size 4097:Nat):Int))=((min (1+ca l) 4097:Nat):Int) + ((min t.size 4097:Nat):Int):=wrap_i64 (by omega) (by omega);have NB:(if (4097:Int) < ((min (1+ca l) 4097:Nat):Int) + ((min t.size 4097:Nat):Int) then (4097:Int) else ((min (1+ca l) 4097:Nat):Int) + ((min t.size 4097:Nat):Int))=((min (1+ca (l++[t])) 4097:Nat):Int):=by
          rw [xj,ca,ca]
          split<;>omega
         have NC:(if ((fm l:Nat):Int) < ((t.deep:Nat):Int) then ((t.deep:Nat):Int) else ((fm l:Nat):Int))=((fm (l++[t]):Nat):Int):=by rw [Ge,GG,fm,fm,Nat.max_zero]
         have dk:IntKind.i64.wrap ((i:Int)+1)=((i+1:Nat):Int):=by unfold top at F9;rw [wrap_i64 (by omega) (by omega)];rfl
         have YG:Mod (r1 g π fT dL dr) h c4:=(gb.trans vn).trans (lb.mono fun b _ q=>.inl q);simp +contextual only [bq,bw,uS,oL,s',fg,ed,agx,ls,ld,Db,NB,NC,dk,jF,↓al,aE,simprocAttr];refine ⟨⟨i+1,iF,Ct,L1,l++[t],rfl,rfl,rfl,aO,by rw [List.length_append,fF];rfl,fun j y u aU hu=>?_,?_,xR,H8,yS,fun p ag=>FC p (Tp p ag),sE,sF,YG⟩,by omega⟩
         . rcases oe hu with hu | ⟨Tr,rfl⟩
           . exact sM j y u aU hu
           . rw [fF] at Tr;subst Tr;rw [aZ] at aU;cases aU;exact anT
         . rw [GG,fm,fm];simp only [] at z4;omega
     . have vY:((i:Int) < (b'.kids.length:Int))=False:=eq_false (by omega);have afj:i=b'.kids.length:=by omega
       obtain ⟨t,Y',Y_,OK⟩:=anS W S J L MA ex (l:=l) (by rw [fF,afj]) sM;obtain ⟨bx,v1,v2,v3,v4⟩:=hj.op.e0 (i:=X) (hj.gn.key b5 KI) false;have jl:=hj.Vm v2 v3;have agz:=hj.hw.g;have agy:=jl.hw.g;have nn:hU X k3=none:=Cq.2 fun q=>by obtain ⟨p,ag,e⟩:=List.mem_map.1 q;exact nu.free p ag (by rw [e];exact List.mem_cons_self)
       obtain ⟨bP,c4,dp,bW,a2,a3,a4,a5,gx,qP⟩:=jl.ms.entry (i:=X) (jl.gn.key b5 nu.keys) nn (.int .i64 0) t;have apf:lf dp g π bR ao bN iG fT dL dr k3 (nL X false mc)->True:=fun _=>trivial;have Tj:=jl.ms.apart jl.gn;have tz:e' dp g π bR ao bN:=jl.gn.mod gx (fun j aU q=>Tj.1 j aU q.symm) fun j b aU ae q=>Tj.2 j aU (by rw [<-show b=fT from q];exact ae);have Tv:Has dp iG [.map fT,.map dL,.map dr]:=jl.hw.mod gx fun q=>jl.ms.LS jl.hw q.symm;have Jd:=jl.sl.mod gx fun q=>jl.d1 q.symm;have alr:=jl.op.mod gx fun q=>jl.d2 q.symm;obtain ⟨bY,lx,mI,cb,b9,e3,iv,jb,lk,tD⟩:=Jd.entry (i:=X) (tz.key b5 nu.keys) nn (.int .i64 0) t;have SI:=Jd.apart tz;have YQ:e' mI g π bR ao bN:=tz.mod lk (fun j aU q=>SI.1 j aU q.symm) fun j b aU ae q=>SI.2 j aU (by rw [<-show b=dL from q];exact ae);have Yp:lf mI g π bR ao bN iG fT dL dr (k3++[(X,t)]) (nL X false mc):=⟨YQ,Tv.mod lk fun q=>Jd.LS Tv q.symm,a3.mod lk jl.d1,e3,alr.mod lk fun q=>jl.d3 q.symm,jl.d1,jl.d2,jl.d3,jl.zz,jl.mO⟩;have Db:IntKind.i64.wrap (((fm l:Nat):Int)+1)=((t.deep:Nat):Int):=by rw [OK,wrap_i64 (by omega) (by omega)];rfl
       have cr:(V.int .i64 ((min (1+ca l) 4097:Nat):Int))=zZ t:=by unfold zZ;rw [Y_]
       have YI:Mod (r1 g π fT dL dr) h mI:=((gb.trans (v3.mono fun b _ q=>.inr (.inr (.inr q)))).trans (gx.mono fun b _ q=>.inr (.inl q))).trans (lk.mono fun b _ q=>.inr (.inr (.inl q)));have aqP:(X::k3.map Prod.fst).Nodup:=List.nodup_cons.2 ⟨Cq.1 nn,nu.nodup⟩;simp +contextual only [bq,bw,uS,oL,s',fg,ed,vY,agz,v1,agy,cr,Db,bW,a2,cb,b9,jF,↓al,aE,simprocAttr];refine ⟨YI,.inr ⟨ao,k3++[(X,t)],nL X false mc,t,Yp,qO,⟨fun p ag=>?_,?_,fun p ag=>?_⟩,fun p ag=>List.mem_append_left _ (Tp p ag),fun j=>?_,fun j aU=>?_,by simp⟩⟩
       . rw [List.length_append,List.length_singleton];rcases List.mem_append.1 ag with ag | ag
         . obtain ⟨b6,z2,z3,z4⟩:=nu.all p ag;exact ⟨b6,z2,z3,by omega⟩
         . rw [List.mem_singleton] at ag;subst ag;exact ⟨b5,MA,Y',by simp only [OK];omega⟩
       . rw [List.map_append,List.nodup_append];refine ⟨nu.nodup,by simp,fun a a1 b ae e=>?_⟩;simp only [List.map_cons,List.map_nil,List.mem_singleton] at ae;subst ae;subst e;exact Cq.1 nn a1
       . rcases List.mem_append.1 ag with ag | ag
         . exact fun q=>nu.free p ag (List.mem_cons_of_mem _ q)
         . rw [List.mem_singleton] at ag;subst ag;exact p4
       . rw [LB];by_cases q:j=X
         . subst q;simp [p4]
         . rw [if_neg q,S8];simp [q]
       . rcases Lo X false mc j aU with q | q
         . rw [q];exact b5
         . exact KI j q
section
variable [Lay]
def NR (F:aQ->Prop) (h:ai):List (Int × List V)->hS->Prop
 | [],[]=>True
 | (n,cs)::bM,(m,t)::s=>n=m/\cW F h t.enc cs/\NR F h bM s
 | _,_=>False
structure api (F:aQ->Prop) (h:ai) (b:aQ) (s:hS):Prop where
 ex:∃bM,jm V.agg h b bM/\NR F h bM s
variable {F:aQ->Prop} {h ab:ai} {b:aQ} {s:hS} {bM:List (Int × List V)}
end
theorem Xr {g:bp} {E:List (Nat × Nat)} {ρ:Nat->Nat} {bN:Nat->Int} {x:Nat} {aN:dx} (S:eU g ρ) (J:eA g E ρ []) (L:mn g ρ bN) (ak:ρ x=x) (e:g.nodes[x]? =some aN) (c:aN.cj=false):dO g (cB g E) x (.mk 1 (bN x) [] []):=by
 have qq:∀(z:Nat) (iX:dx),cB g E x z->g.nodes[z]? =some iX->iX.cj=false:=fun z iX bn od=>by
  cases sk:iX.cj with
  | false=>rfl
  | true=>
    obtain ⟨dP,ar,av⟩:=S.top z iX od sk;rw [<-J.done.1 bn,ak,e] at ar;cases ar;rw [c] at av;cases av
 rcases L x (hl e) ak with ⟨_,ad⟩ | ⟨_,⟨y,kn,e7,fJ,y3,y4⟩,aJ⟩
 . have:=ad x aN e ak;rw [c] at this;cases this
 . rw [<-y4];exact .var (b:=y) (J.done.2 (by rw [fJ,ak])) e7 y3 qq (fun z iX bn od=>by rw [y4];exact aJ z iX od (by rw [<-J.done.1 bn,ak]) (qq z iX bn od))
theorem Hc {g:bp} {R:Nat->Nat->Prop} (P:Part g R) {x X:Nat} {b':dx} {t:aL} (h:dO g R x t) (e:R x X) (hB:g.nodes[X]? =some b') (c:b'.cj=true):∃l,t=.mk 2 0 b'.s l/\l.length=b'.kids.length/\∀(i y:Nat) (u:aL),b'.kids[i]? =some y->l[i]? =some u->dO g R y u:=by
 cases h with
 | var h ae aD qq bB=>have:=qq _ _ e hB;rw [c] at this;cases this
 | cj h ae aD ay aH=>
   rename_i b aN l;obtain ⟨ar,av,aK⟩:=P.closed _ _ _ _ (P.trans (P.symm h) e) ae hB aD c;refine ⟨l,by rw [ar],by omega,fun i y u aZ hu=>?_⟩;have an:=(List.getElem?_eq_some_iff.1 aZ).1;have bA:=List.getElem?_eq_getElem (l:=aN.kids) (i:=i) (by omega);exact (aH i _ u bA hu).mg P (aK i _ _ bA aZ)
def q3 (g:bp):Prop:=∀(i:Nat) (aN:dx),g.nodes[i]? =some aN->aN.s.length<=top
mutual
def aL.nO:aL->Prop
 | .mk k n s l=>s.length<=top/\xw l
def xw:List aL->Prop
 | []=>True
 | t::l=>t.nO/\xw l
end
theorem WU:∀{l:List aL},(∀t ∈ l,t.nO)->xw l
 | [],_=>by rw [xw];trivial
 | t::l,h=>by rw [xw];exact ⟨h t List.mem_cons_self,WU fun u hu=>h u (List.mem_cons_of_mem _ hu)⟩
theorem A_ [Lay] {F:aQ->Prop} {h:ai}:∀(N:Nat) (t:aL) (ah:List V),t.size<=N->cW F h t.enc ah->t.nO
 | 0,t,ah,aR,_=>by have:=pA t;omega
 | N+1,.mk k n s l,ah,aR,H=>by obtain ⟨dw,rfl,L,ny⟩:=aL.open H;rw [aL.nO];refine ⟨ny,WU fun t aw=>?_⟩;obtain ⟨i,an,rfl⟩:=List.getElem_of_mem aw;obtain ⟨b,off,wl,ct,X,ky,ld⟩:=aL.c6 L (k:=.i64) an;have:=py (t:=.mk k n s l) (List.getElem_mem (l:=l) an);exact A_ N _ _ (by omega) X
mutual
theorem AN:∀(t:aL) (g:bp),t.nO->q3 g->q3 (t.add g).1
 | .mk k n s l,g,h,G=>by
   rw [aL.nO] at h;rw [aL.add];by_cases c:k=1
   . rw [if_pos c];unfold bp.var;cases ff n g.vars with
     | some i=>exact G
     | none=>
       intro i aN e;rcases oe e with e | ⟨_,rfl⟩
       . exact G i aN e
       . exact Nat.zero_le _
   . rw [if_neg c];intro i aN e;rcases oe e with e | ⟨_,rfl⟩
     . exact O0 l g h.2 G i aN e
     . exact h.1
theorem O0:∀(l:List aL) (g:bp),xw l->q3 g->q3 (cg l g).1
 | [],g,_,G=>G
 | t::l,g,h,G=>by rw [xw] at h;rw [cg];exact O0 l _ h.2 (AN t g h.1 G)
end
theorem Xs {g:bp} {π:Nat->Nat} {bR:Nat->V} {bN:Nat->Int} {ρ:Nat->Nat} {E:List (Nat × Nat)} (W:g.ee) (S:eU g ρ) (J:eA g E ρ []) (L:mn g ρ bN) (kA:q3 g):∀(N:Nat) (t:aL),t.size<=N->N<=1000000000->∀(x:Nat) (w:Nat->Nat) (h:ai),x<g.N->dO g (cB g E) x t->e' h g π bR w bN->Way w ρ->
 db Tryz.prog 54 [.ptr (aj (π x)) 0] h fun v ab=>∃u ao,v=.agg (gG t u)/\e1 ab (eB h.next ab.next) t.l u/\t.s.length<=top/\e' ab g π bR ao bN/\Way ao ρ/\Mod (jM g π) h ab
 | 0,t,aR,_,_,_,_,_,_,_,_=>by have:=pA t;omega
 | N+1,t,aR,Bn,x,w,h,ak,T,P,e2=>by
   have gF:=J.part;have b5:=S.lt x ak;have k9:=S.idem x;have hB:cB g E x (ρ x):=J.done.2 (by rw [k9]);have bJ:N<=1000000000:=by omega
   refine abj.z rfl (dB ?_);unfold Qx;obtain ⟨aa,ar,aP,oV⟩:=ic h z4;have cS:=aP.next
   have qp:=oV.lt;simp +contextual only [ar,↓al,aE,simprocAttr];refine cz (z' (P.ext aP) S e2 ak) ?_;rintro v ad ⟨rfl,b0,fK,tC,M2⟩;have JS:∀n,h.next<=n->¬jM g π (aj n):=fun n aV ⟨i,an,q⟩=>by have:=P.lt an;have:=fu q;omega
   have n2:=oV.mod M2 (JS _ (Nat.le_refl _));have fP:=M2.next
   obtain ⟨b',ex⟩:=hT b5;have hy:=fK.root ex (Way.root S tC k9);have U5:(h.next=π (ρ x))=False:=eq_false (by have:=P.lt b5;omega);have U6:(π (ρ x)=h.next)=False:=eq_false (by have:=P.lt b5;omega);have Oq:Mod (jM g π) h ad:=(aP.mod _).trans M2;cases c:b'.cj with
   | false=>
     rw [c] at hy;have Nt:=Xr S J L k9 ex c;have hD:=T.uniq gF hB Nt;subst hD;simp +contextual only [n2.g,hy,U5,U6,if_false,↓al,aE,simprocAttr];refine ⟨.bF,b0,rfl,e1.nil _ _,by simp [aL.s],?_,tC,Oq.fresh (Nat.le_refl _) _⟩;exact fK.mod ((Mod.refl (fun b=>b=aj h.next) ad).set (fun _=>rfl) _) (fun i an q=>by have:=P.lt an;have:=fu q;omega) fun i b an ae q=>by have:=P.rn an ae;rw [show b=aj h.next from q] at this;unfold Old at this;rw [cc] at this;omega
   | true=>
     rw [c] at hy;obtain ⟨l,hD,ay,aH⟩:=Hc gF T hB ex c;subst hD;obtain ⟨kQ,Wr,F9⟩:=fK.c6 _ b' ex;have mK:=kQ.len;have k4:=kQ.one;have cr:(aL.mk 2 0 b'.s l).size=1+ca l:=by rw [aL.size]
     have jw:=pz l;obtain ⟨aJ,aK,cM,pL⟩:=o1 ad z4 (gG (.mk 2 0 b'.s l) .bF);have n3:=cM.next
     have Ck:=pL.lt;have AH:=n2.ext cM;have ir:=fK.ext cM;have Ob:=ir.root ex (Way.root S tC k9);rw [c] at Ob;have amd:(ad.new (.bC z4 0 false)).set (aj ad.next) (.bC [.int .i64 2,.int .i64 0,.str b'.s,.bF] 0 false)=aJ:=aK;have YF:Mod (jM g π) h aJ:=Oq.trans (cM.mod _);simp +contextual only [n2.g,hy,Ob,amd,U5,U6,if_false,mK,k4.1,k4.2.1,↓al,aE,simprocAttr];refine eY (fun r k=>r 2=.ptr (aj h.next) 0/\r 3=.ptr (aj ad.next) 0/\r 26=bR (ρ x)/\r 27=.int .i64 b'.kids.length/\∃(i:Nat) (u:V) (ao:Nat->Nat),r 28=.int .i64 i/\i<=b'.kids.length/\Has k ad.next (gG (.mk 2 0 b'.s l) u)/\Has k h.next z4/\e1 k (eB aJ.next k.next) (l.take i) u/\e' k g π bR ao bN/\Way ao ρ/\Mod (jM g π) h k/\aJ.next<=k.next) (fun r k=>b'.kids.length - (r 28).toN) ?_ ?_
     . exact ⟨by simp only [↓al,bs,simprocAttr],by simp only [↓al,bs,simprocAttr],by simp only [↓al,bs,simprocAttr],by simp only [↓al,bs,simprocAttr],0,.bF,b0,by simp only [↓al,bs,simprocAttr]<;>rfl,Nat.zero_le _,pL,AH,e1.nil _ _,ir,tC,YF,Nat.le_refl _⟩
     rintro r k ⟨cw,cn,oK,mQ,i,u,ao,s9,an,A,R,O,gY,qO,gb,ap4⟩;unfold Qy;have oO:=O.one;by_cases aO:i<b'.kids.length
     . have g0:((i:Int) < (b'.kids.length:Int))=True:=eq_true (by omega);obtain ⟨tw,_,_⟩:=gY.c6 _ b' ex;obtain ⟨tG,fx,ox,xO⟩:=tw.ct (k:=.i64) aO;have mJ:=xO.d_ (i:=i) (by rw [List.length_map];exact aO);rw [List.getElem_map,show fx+i=fx+i * 1 by omega] at mJ;have wM:=W.qj ex (List.getElem_mem aO);have kk:=aH i _ _ (List.getElem?_eq_getElem aO) (List.getElem?_eq_getElem (l:=l) (by omega));have Fm:=py (t:=.mk 2 0 b'.s l) (List.getElem_mem (l:=l) (show i<l.length by omega));have dk:IntKind.i64.wrap ((i:Int)+1)=((i+1:Nat):Int):=by unfold top at F9;rw [wrap_i64 (by omega) (by omega)];rfl
       simp +contextual only [cw,cn,oK,mQ,s9,g0,ox,mJ,A.g,R.g,oO.1,oO.2.1,↓al,aE,simprocAttr];refine cz (Xs W S J L kA N l[i] (by omega) bJ _ ao k wM kk gY qO) ?_;rintro v bx ⟨z,im,rfl,Z,uk,pR,H8,lb⟩;have n4:=lb.next
       have aju:=A.lt;have gq:=A.mod lb (JS _ (by omega));have Y2:=R.mod lb (JS _ (Nat.le_refl _));have nZ:e1 bx (eB aJ.next k.next) (l.take i) u:=O.mod lb fun b q ⟨j,aU,e⟩=>by unfold eB at q;have:=P.lt aU;rw [e,cc] at q;omega
       have kK:=Z.one;obtain ⟨gW,c4,bZ,bX,b_,gV⟩:=nZ.add (t:=l[i]) (T:=eB k.next bx.next) (u:=z) Z (fun b q z=>by unfold eB at q z;omega) (fun b q=>by unfold eB at q;unfold Old;omega) (fun b q=>by unfold eB at q;unfold Old;omega) (by rw [List.length_take];unfold top;omega) uk;have pe:∀b,u.aM b->aJ.next<=cI b:=fun b q=>by have:=O.bh _ q;unfold eB at this;omega
       have wC:∀n,n<aJ.next->¬u.aM (aj n):=fun n aV q=>by have:=pe _ q;rw [cc] at this;omega
       have NO:=gq.mod b_ (wC _ (by omega));have Y3:=Y2.mod b_ (wC _ (by omega));have uI:=bX.one;have n0:=pR.mod b_ (fun j aU q=>wC _ (by have:=P.lt aU;omega) q) fun j b aU ae q=>by have:=pe b q;have:=P.rn aU ae;unfold Old at this;omega
       have f1:(bx.next=ad.next)=False:=eq_false (by omega);simp +contextual only [f1,if_false,cw,cn,oK,mQ,s9,A.g,gq.g,NO.g,kK.1,kK.2.1,oO.1,oO.2.1,uI.1,uI.2.1,bZ,dk,↓al,aE,simprocAttr];refine ⟨⟨i+1,gW,im,rfl,aO,NO.put _,Y3.set (by omega) _,?_,?_,H8,?_,by show aJ.next<=c4.next;omega⟩,by omega⟩
       . rw [take_one (show i<l.length by omega)];refine (bX.jG fun b q=>?_).mod ((Mod.refl (fun x=>x=aj ad.next) c4).set (fun _=>rfl) _) fun b q z=>?_
         . unfold eB at q ⊢;have:=b_.next;omega
         . rw [show b=aj ad.next from z] at q;unfold eB at q;rw [cc] at q;omega
       . exact n0.mod ((Mod.refl (fun x=>x=aj ad.next) c4).set (fun _=>rfl) _) (fun j aU q=>by have:=P.lt aU;have:=fu q;omega) fun j b aU ae q=>by have:=P.rn aU ae;rw [show b=aj ad.next from q] at this;unfold Old at this;rw [cc] at this;omega
       . exact ((gb.trans lb).z1 b_ fun b q=>by have:=pe b q;omega).fresh (by omega) _
     . have g0:((i:Int) < (b'.kids.length:Int))=False:=eq_false (by omega);rw [List.take_of_length_le (by omega)] at O;have f1:(h.next=ad.next)=False:=eq_false (by omega);have f2:(ad.next=h.next)=False:=eq_false (by omega);simp +contextual only [cw,cn,oK,mQ,s9,g0,R.g,A.g,oO.1,oO.2.1,f1,f2,↓al,aE,simprocAttr];have UO:Mod (fun x=>x=aj h.next) k (k.set (aj h.next) (.bC [.int .i64 2,.int .i64 0,.str b'.s,u] 0 false)):=(Mod.refl (fun x=>x=aj h.next) k).set (fun _=>rfl) _;refine ⟨u,ao,rfl,(O.mod UO fun b q z=>?_).jG fun b q=>?_,kA _ b' ex,gY.mod UO (fun j aU q=>by have:=P.lt aU;have:=fu q;omega) (fun j b aU ae q=>by
        have:=P.rn aU ae;rw [show b=aj h.next from q] at this;unfold Old at this;rw [cc] at this;omega),qO,gb.fresh (Nat.le_refl _) _⟩
       . rw [show b=aj h.next from z] at q;unfold eB at q;rw [cc] at q;omega
       . unfold eB at q ⊢;exact ⟨by omega,q.2⟩
abbrev Fr (amD:Nat):aQ->Prop:=fun b=>b≠aj amD
def lR (p:Int × aL):List D:=.i .i64 p.1::p.2.enc
section
variable [Lay] {F:aQ->Prop} {h:ai}
theorem cJ.ZY {size:Nat} {es:List (List D)} {v:V} (H:cJ F h size es v) {k:IntKind} {i:Nat} (an:i<es.length):
 ∃b off u,iT size v (.int k i)=some (.ptr b (off+i * size))/\cW F h es[i] u/\u.length=size/\(∀ab,Ext h ab->∀j n,j+n<=size->oA n (ab.get b) (off+i * size+j)=some (.agg ((u.drop j).take n)))/\∀ab,Ext h ab->∀j,j<size->hd (ab.get b) (off+i * size+j)=u[j]? :=by
 obtain ⟨us,aa,ad,ay,aJ⟩:=H.ex;have o_:i<us.length:=by omega
 have hu:=List.getElem?_eq_getElem o_;obtain ⟨b,off,aP,a'⟩:=aa.ct (k:=k) an;have aA:=tU us i _ ay hu;have jd:=q2 us ay;have hle:i * size+size<=us.length * size:=by have:=Nat.mul_le_mul_right size (show i+1<=us.length from o_);rw [Nat.succ_mul] at this;exact this
 have bn:us[i].length=size:=ay _ (List.getElem_mem o_);refine ⟨b,off,us[i],aP,aJ i _ _ (List.getElem?_eq_getElem an) hu,bn,fun ab e j n Fj=>?_,fun ab e j aU=>?_⟩
 . have:=(a'.ext e).iV (i:=i * size+j) (n:=n) (by rw [jd];omega);rw [Nat.add_assoc,this,<-aA];congr 2;rw [List.drop_take,List.take_take,List.drop_drop,Nat.min_eq_left (by omega)]
 . have:=(a'.ext e).d_ (i:=i * size+j) (by rw [jd];omega);rw [Nat.add_assoc,this,<-aA,List.getElem?_take_of_lt aU,List.getElem?_drop,List.getElem?_eq_getElem]
theorem hS.c6 {s:hS} {v:V} (H:cJ F h 5 (s.map lR) v) {k:IntKind} {i:Nat} (an:i<s.length):
 ∃b off dw,iT 5 v (.int k i)=some (.ptr b (off+i * 5))/\cW F h s[i].2.enc (gG s[i].2 dw)/\(∀ab,Ext h ab->hd (ab.get b) (off+i * 5)=some (.int .i64 s[i].1))/\
  (∀ab,Ext h ab->oA 4 (ab.get b) (off+i * 5+1)=some (.agg (gG s[i].2 dw)))/\(∀ab,Ext h ab->oA 5 (ab.get b) (off+i * 5)=some (.agg (.int .i64 s[i].1::gG s[i].2 dw))):=by
 obtain ⟨b,off,u,aP,a',cM,fM,gf⟩:=cJ.ZY H (k:=k) (i:=i) (by rw [List.length_map];exact an);rw [List.getElem_map,lR] at a';obtain ⟨us,rfl,sn⟩:=a'.int;obtain ⟨dw,rfl,L,_⟩:=aL.open sn;exact ⟨b,off,dw,aP,sn,fun ab e=>by simpa using gf ab e 0 (by omega),fun ab e=>by simpa using fM ab e 1 4 (by omega),fun ab e=>by simpa using fM ab e 0 5 (by omega)⟩
end
theorem anu (s:hS) (c8 Nc:V) (h:ai) (S:cJ Any h 5 (s.map lR) c8) (T:cJ Any h 5 (s.map lR) Nc):db Tryz.prog 15 [c8,Nc] h fun x ab=>x=.bool true/\Ext h ab:=by
 have ay:=S.len;have hm:=T.len;have hle:=S.le;have os:=S.one;have Vu:=T.one;rw [List.length_map] at ay hm hle;refine aaX.z rfl (dB ?_);unfold P9;simp +contextual only [os.1,os.2.1,Vu.1,Vu.2.1,ay,hm,decide_true,decide_false,↓al,aE,simprocAttr];refine eY (fun r g=>r 0=c8/\r 1=Nc/\∃i:Nat,r 5=.int .i64 i/\i<=s.length/\Ext h g) (fun r g=>s.length - (r 5).toN) ?_ ?_
 . exact ⟨by simp only [↓al,bs,simprocAttr],by simp only [↓al,bs,simprocAttr],0,by simp only [↓al,bs,simprocAttr]<;>rfl,by omega,Ext.refl h⟩
 rintro r g ⟨bq,bw,i,dv,an,E⟩;unfold Qd;by_cases aO:i<s.length
 . have g0:((i:Int) < (s.length:Int))=True:=eq_true (by omega);obtain ⟨b,off,dw,ct,X,uy,zl,_⟩:=hS.c6 S (k:=.i64) aO;obtain ⟨b9,Vc,aq9,qg,lN,Uc,Uh,_⟩:=hS.c6 T (k:=.i64) aO;have d0:=uy g E;have d4:=zl g E;have Ri:=Uc g E;have d42:=Uh g E;have dk:=jj aO (by unfold top at hle;omega);simp +contextual only [bq,bw,dv,ay,g0,ct,qg,d0,d4,Ri,d42,decide_true,decide_false,↓al,aE,simprocAttr];refine cz (amZ s[i].2 _ _ g (X.ext E) (lN.ext E)) ?_;rintro x g2 ⟨rfl,ek⟩;have cp:=E.trans ek;have acv:=uy g2 cp;have acx:=zl g2 cp;have acw:=Uc g2 cp;have acy:=Uh g2 cp;simp +contextual only [bq,bw,dv,ct,qg,d0,d4,Ri,d42,acv,acx,acw,acy,dk,decide_true,decide_false,↓al,aE,simprocAttr];exact ⟨⟨i+1,rfl,aO,cp⟩,by omega⟩
 . have g0:((i:Int) < (s.length:Int))=False:=eq_false (by omega);simp +contextual only [bq,bw,dv,ay,g0,↓al,aE,simprocAttr];exact E
section
variable [Lay] {B:Nat} {G F:aQ->Prop} {h ab:ai} {size:Nat} {es gy:List (List D)} {v w:V}
theorem R5 {F:aQ->Prop}:∀(us:List (List V)) (es:List (List D)),us.length=es.length->(∀(i:Nat) (e:List D) (u:List V),es[i]? =some e->us[i]? =some u->cW F h e u)->ev us.flatten=true
 | [],_,_,_=>rfl
 | u::us,[],h,_=>by simp at h
 | u::us,e::es,ay,H=>by
   have aa:=(H 0 e u rfl rfl).ev;have ad:=R5 us es (by simpa using ay) fun i e u a b=>H (i+1) e u (by simpa using a) (by simpa using b);have app:∀a b:List V,ev a=true->ev b=true->ev (a++b)=true:=by
    intro a
    induction a with
    | nil=>intro b _ q;exact q
    | cons x a br=>
      intro b ar av;simp only [ev,Bool.and_eq_true,List.cons_append] at ar ⊢;exact ⟨ar.1,br b ar.2 av⟩
   rw [List.flatten_cons];exact app _ _ aa ad
theorem hR.app (H:hR B G h size es v) (L:cJ F h size gy w) (sw:∀b,F b->G b/\¬v.aM b) (cr:1<=size) (c_:B<=h.next) (hlen:(es.length+gy.length) * size<=top):
 ∃c9 ab,iK size v w h=.val c9 ab/\hR B G ab size (es++gy) c9/\Mod v.aM h ab/\∀b,c9.aM b->v.aM b\/h.next<=cI b:=by
 obtain ⟨us,a,b,c,d⟩:=H.ex;obtain ⟨XJ,a2,b9,bY,d2⟩:=L.ex;obtain ⟨c9,ab,ar,av,aK,bU⟩:=D6 cr a a2 c_ hlen (R5 XJ gy b9 d2);have gT:∀b,(G b/\¬v.aM b)->Old h b->¬v.aM b/\(G b/\¬c9.aM b):=fun b q o=>⟨q.2,q.1,fun z=>by
  rcases bU b z with z | z
  . exact q.2 z
  . unfold Old at o;omega⟩
 refine ⟨c9,ab,ar,⟨us++XJ,?_,by simp [b,b9],?_,?_⟩,aK,bU⟩
 . rw [List.length_append,List.flatten_append];exact av
 . intro u hu;rcases List.mem_append.1 hu with hu | hu
   . exact c u hu
   . exact bY u hu
 . intro i e u aP a';by_cases an:i<es.length
   . rw [List.getElem?_append_left an] at aP;rw [List.getElem?_append_left (by omega)] at a';exact (d i e u aP a').mod aK gT
   . rw [List.getElem?_append_right (by omega)] at aP;rw [List.getElem?_append_right (by omega),b] at a';exact (d2 _ e u aP a').mod aK fun b q o=>gT b (sw b q) o
end
theorem VA:∀(N:Nat) (l:List aL),ca l<N->N<=3000000->∀(m:Int),-200000000<=m->m<=1000000->∀(v:V) (h:ai),cJ Any h 4 (l.map aL.enc) v->db Tryz.prog 46 [v,.int .i64 m] h fun x ab=>(∃n:Int,x=.int .i64 n/\0<=n/\n<=ca l * 171798693/\(n<=m->ca l<=n))/\ab=h
 | 0,l,aR,_,_,_,_,_,_,_=>by omega
 | N+1,l,aR,bJ,m,Kx,ap8,v,h,L=>by
   have ay:=L.len;have hle:=L.le;rw [List.length_map] at ay hle;refine aa_.z rfl (dB ?_);unfold Qn;simp +contextual only [↓al,aE,simprocAttr];refine eY (fun r g=>r 0=v/\r 1=.int .i64 m/\g=h/\∃(i:Nat) (n:Int),r 5=.int .i64 n/\r 6=.int .i64 i/\i<=l.length/\0<=n/\n<=ca (l.take i) * 171798693/\(n<=m->ca (l.take i)<=n)) (fun r g=>l.length - (r 6).toN) ?_ ?_
   . exact ⟨by simp only [↓al,bs,simprocAttr],by simp only [↓al,bs,simprocAttr],rfl,0,0,by simp only [↓al,bs,simprocAttr],by simp only [↓al,bs,simprocAttr]<;>rfl,by omega,by omega,by simp [ca],fun _=>by simp [ca]⟩
   rintro r g ⟨bq,bw,rfl,i,n,dv,cP,an,cC,cS,fP⟩;unfold Qo;have kk:=nK l i;by_cases aO:i<l.length
   . have g0:((i:Int) < (l.length:Int))=True:=eq_true (by omega);have pd:=uO aO;have cr:=size_eq l[i];have aqi:=nK l (i+1);by_cases aV:n<=m
     . have sD:=eq_true aV;obtain ⟨b,off,wl,ct,X,ky,ld,uy,Ug,zl⟩:=aL.T4 L (k:=.i64) aO;have d3:=Ug g (Ext.refl g);have d4:=zl g (Ext.refl g);have dk:=jj aO (by unfold top at hle;omega);have fU:l[i].s.length<=top:=by obtain ⟨_,_,_,q⟩:=aL.open X;exact q
       unfold top at fU;have amg:=amh (P:=Tryz.prog) (n:=l[i].s.length) (by omega);have bc:l[i].s.length / 100<=171798691:=by omega
       have b2:IntKind.i64.wrap (n+1)=n+1:=wrap_i64 (by omega) (by omega);have b0:IntKind.i64.wrap (n+1 + ((l[i].s.length / 100:Nat):Int))=n+1 + ((l[i].s.length / 100:Nat):Int):=wrap_i64 (by omega) (by omega);have im:IntKind.i64.wrap (m - (n+1 + ((l[i].s.length / 100:Nat):Int)))=m - (n+1 + ((l[i].s.length / 100:Nat):Int)):=wrap_i64 (by omega) (by omega);simp +contextual only [bq,bw,dv,cP,ay,g0,sD,ct,d3,d4,amg,b2,b0,im,↓al,aE,simprocAttr];refine cz (VA N l[i].l (by have:=Mo aO;omega) (by omega) _ (by omega) (by omega) wl g ky) ?_;rintro x g2 ⟨⟨y,rfl,ao2,e7,fJ⟩,rfl⟩;have iF:IntKind.i64.wrap (n+1 + ((l[i].s.length / 100:Nat):Int)+y)=n+1 + ((l[i].s.length / 100:Nat):Int)+y:=wrap_i64 (by omega) (by omega);simp +contextual only [bq,bw,dv,cP,dk,iF,↓al,aE,simprocAttr];refine ⟨⟨i+1,_,rfl,rfl,aO,by omega,by omega,fun q=>?_⟩,by omega⟩;have:=fP aV;have:=fJ (by omega);omega
     . have sD:=eq_false aV;simp +contextual only [bq,bw,dv,cP,ay,g0,sD,↓al,aE,simprocAttr];exact ⟨n,rfl,cC,by omega,fun q=>(aV q).elim⟩
   . have g0:((i:Int) < (l.length:Int))=False:=eq_false (by omega);rw [List.take_of_length_le (by omega)] at cS fP;simp +contextual only [bq,bw,dv,cP,ay,g0,↓al,aE,simprocAttr];exact ⟨n,rfl,cC,cS,fP⟩
theorem T7 (l:List aL) (aR:ca l<=2000000) (m:Nat) (hm:m<=1000000) (v:V) (h:ai) (L:cJ Any h 4 (l.map aL.enc) v):db Tryz.prog 10 [v,.int .i64 m] h fun x ab=>(∃b,x=.bool b/\(b=false->ca l<=m))/\ab=h:=by
 refine aaA.z rfl (dB ?_);unfold PC;simp +contextual only [↓al,aE,simprocAttr];refine cz (VA _ l (Nat.lt_succ_self _) (by omega) m (by omega) (by omega) v h L) ?_;rintro x g2 ⟨⟨y,rfl,ao2,e7,fJ⟩,rfl⟩;simp +contextual only [↓al,aE,simprocAttr];exact fun q=>by
  have aa:y<=m:=by simpa using q
  have:=fJ aa;omega
theorem Wi (z:List V):∀n,(hM z n).length=n * z.length
 | 0=>by simp [hM]
 | n+1=>by rw [hM,List.length_append,Wi z n,Nat.succ_mul,Nat.add_comm]
theorem ZI {h:ai} {n:Nat} (aX:0<n) (aV:n<=100000) {z:List V} (bn:z.length=4):x7 4 z .bF (.int .i64 (n:Int)) h=.val (.dY (aj h.next) 0 n 0) (h.new (.bC (hM z n) 4 false)):=by
 have e:((n:Nat):Int)=Int.ofNat n:=rfl;have aP:Nat.ble n 100000=true:=by rw [Nat.ble_eq];exact aV
 have a':Nat.beq n 0=false:=by rw [<-Bool.not_eq_true,Nat.beq_eq];omega
 unfold x7;rw [e];simp only [pY,aP,Bool.and_self,cond_true,D5,vz,a',cond_false,Cy (show (hM z n).length<=top by rw [Wi,bn];unfold top;omega) (show 1<=4 by omega)]
theorem anf:hh 4 .bF none (some (.int .i64 0)) none=some .bF:=by simp [hh,xv,bound,V.eu,oB]
theorem anb {b:aQ} {n:Nat} (aX:0<n):hh 4 (.dY b 0 n 0) none (some (.int .i64 0)) none=some (.dY b 0 0 0):=by
 have e:=qQ (k:=.i64) (m:=0) (d:=n) (y:=n) (Nat.zero_le _);have a':Nat.blt 0 n=true:=by rw [Nat.blt_eq];exact aX
 simp only [hh,qB,show ((0:Int))=((0:Nat):Int) from rfl,e,sd,a',cond_true]
theorem aeb (n:Nat) (aV:n<=100000) (h:ai):db Tryz.prog 75 [.bF,.int .i64 n] h fun x ab=>cD h.next ab 4 x 0 []/\Ext h ab:=by
 refine abq.z rfl (dB ?_);unfold QF;have g0:((n:Int)<0)=False:=eq_false (by omega);have az:IntKind.i64.wrap 0=0:=wrap_i64 (by omega) (by omega);have b2:IntKind.i64.wrap ((n:Int)-0)=(n:Int):=by rw [wrap_i64 (by omega) (by omega)];omega
 have tN:sh .bF=some (.int .i64 0):=rfl;by_cases c:0<n
 . have g1:((0:Int) < (n:Int))=True:=eq_true (by omega);simp +contextual only [g0,g1,az,b2,tN,anf,ZI c aV (z:=[.int .i64 0,.int .i64 0,.str [],.bF]) rfl,anb c,jF,↓al,aE,simprocAttr];refine ⟨⟨rfl,rfl,by rw [cc];exact Nat.le_refl _,gi (by rw [gN];omega),rfl,rfl,_,_,ni _,Nat.zero_le _,by simp⟩,(Ext.refl h).new _⟩
 . have g1:((0:Int) < (n:Int))=False:=eq_false (by omega);simp +contextual only [g0,g1,az,b2,tN,jF,↓al,aE,simprocAttr];exact ⟨⟨rfl,rfl⟩,Ext.refl h⟩
theorem aca (a b:List aL) (a1:a.length<=1000) (ae:b.length<=1000) (n:Nat) (hZ gB:V) (h:ai) (B:Has h n [hZ,gB]) (kt:cJ Any h 4 (a.map aL.enc) hZ) (hA:cJ Any h 4 (b.map aL.enc) gB):
 db Tryz.prog 47 [.slice (aj n) 0 2 2] h fun x ab=>cJ Any ab 4 ((a++b).map aL.enc) x/\Ext h ab:=by
 refine aba.z rfl (dB ?_);unfold Qp;have d':=kt.len;have eK:=hA.len;rw [List.length_map] at d' eK;have c7:=kt.one;have dq:=hA.one;have ls:lA (.slice (aj n) 0 2 2)=some (.int .i64 2):=rfl;have ts:cJ (Old h) h 4 (a.map aL.enc) hZ:=kt.rG;have rW:cJ (Old h) h 4 (b.map aL.enc) gB:=hA.rG;have TD:iT 1 (.slice (aj n) 0 2 2) (.int .i64 0)=some (.ptr (aj n) 0):=by rw [show (0:Int)=((0:Nat):Int) from rfl,wO];simp
 have ow:iT 1 (.slice (aj n) 0 2 2) (.int .i64 1)=some (.ptr (aj n) 1):=by rw [show (1:Int)=((1:Nat):Int) from rfl,wO];simp
 simp +contextual only [ls,↓al,aE,simprocAttr];refine eY (fun r g=>g=h/\r 0=.slice (aj n) 0 2 2/\r 9=.slice (aj n) 0 2 2/\r 10=.int .i64 2/\((r 11=.int .i64 0/\r 3=.int .i64 0)\/(r 11=.int .i64 1/\r 3=.int .i64 a.length)\/(r 11=.int .i64 2/\r 3=.int .i64 ((a.length+b.length:Nat):Int)))) (fun r g=>2 - (r 11).toN) ?_ ?_
 . exact ⟨rfl,by simp only [↓al,bs,simprocAttr],by simp only [↓al,bs,simprocAttr],by simp only [↓al,bs,simprocAttr],.inl ⟨by simp only [↓al,bs,simprocAttr],by simp only [↓al,bs,simprocAttr]⟩⟩
 rintro r g ⟨rfl,bq,My,hL,⟨jh,cn⟩ | ⟨jh,cn⟩ | ⟨jh,cn⟩⟩
 . unfold El;have az:IntKind.i64.wrap (0 + (a.length:Int))=(a.length:Int):=by rw [wrap_i64 (by omega) (by omega)];omega
   have b2:IntKind.i64.wrap (0+1)=1:=by rw [wrap_i64 (by omega) (by omega)];rfl
   have xJ:IntKind.i64.wrap 1=1:=wrap_i64 (by omega) (by omega);have g1:((a.length:Int)<0)=False:=eq_false (by omega);simp +contextual only [bq,My,hL,jh,cn,TD,B.g,d',az,b2,xJ,g1,c7.1,c7.2.1,show ((0:Int)<2)=True from eq_true (by omega),↓al,aE,simprocAttr];exact .inr (.inl trivial)
 . unfold El;have az:IntKind.i64.wrap ((a.length:Int) + (b.length:Int))=((a.length+b.length:Nat):Int):=by rw [wrap_i64 (by omega) (by omega)];omega
   have b2:IntKind.i64.wrap (1+1)=2:=by rw [wrap_i64 (by omega) (by omega)];rfl
   have xJ:IntKind.i64.wrap 2=2:=wrap_i64 (by omega) (by omega);have g1:(((a.length+b.length:Nat):Int)<0)=False:=eq_false (by omega);simp +contextual only [bq,My,hL,jh,cn,ow,B.g,eK,az,b2,xJ,g1,dq.1,dq.2.1,show ((1:Int)<2)=True from eq_true (by omega),↓al,aE,simprocAttr];exact .inr (.inr trivial)
 . unfold El;simp +contextual only [bq,My,hL,jh,cn,show ((2:Int)<2)=False from eq_false (by omega),↓al,aE,simprocAttr];refine cz (aeb (a.length+b.length) (by omega) g) ?_;rintro x aa ⟨O,aP⟩;have oQ:hR g.next (Old g) aa 4 [] x:=⟨[],O,rfl,fun u hu=>(by cases hu),fun i e u q=>(by simp at q)⟩
   simp +contextual only [bq,ls,↓al,aE,simprocAttr];have cl:∀{v:V} {k:ai} {es:List (List D)},hR g.next (Old g) k 4 es v->∀b,Old g b->Old g b/\¬v.aM b:=fun D b q=>⟨q,fun z=>by have:=D.base z;unfold Old at q;omega⟩
   have cS:=aP.next
   refine eY (fun r k=>r 25=.slice (aj n) 0 2 2/\r 26=.int .i64 2/\∃v,r 6=v/\Ext g k/\((r 27=.int .i64 0/\hR g.next (Old g) k 4 [] v)\/(r 27=.int .i64 1/\hR g.next (Old g) k 4 (a.map aL.enc) v)\/(r 27=.int .i64 2/\hR g.next (Old g) k 4 (a.map aL.enc++b.map aL.enc) v))) (fun r g=>2 - (r 27).toN) ?_ ?_
   . exact ⟨by simp only [↓al,bs,simprocAttr],by simp only [↓al,bs,simprocAttr],x,by simp only [↓al,bs,simprocAttr],aP,.inl ⟨by simp only [↓al,bs,simprocAttr],oQ⟩⟩
   rintro r k ⟨Mt,oK,v,cP,e,⟨mQ,oR⟩ | ⟨mQ,oR⟩ | ⟨mQ,oR⟩⟩
   . unfold Em;have xJ:IntKind.i64.wrap 1=1:=wrap_i64 (by omega) (by omega);have Hs:=B.ext e;have dG:=oR.one;have fP:=e.next
     obtain ⟨c9,bj,bZ,bX,b_,gV⟩:=hR.app oR (ts.ext e) (cl oR) (by omega) (by omega) (by simp only [List.length_map,List.length_nil];unfold top;omega);have kp:=bX.one;simp +contextual only [Mt,oK,mQ,cP,TD,Hs.g,bZ,xJ,dG.1,dG.2.1,kp.1,kp.2.1,c7.1,c7.2.1,show ((0:Int)<2)=True from eq_true (by omega),↓al,aE,simprocAttr];exact ⟨e.hJ b_ fun b q=>oR.base q,.inr (.inl bX)⟩
   . unfold Em;have xJ:IntKind.i64.wrap 2=2:=wrap_i64 (by omega) (by omega);have Hs:=B.ext e;have dG:=oR.one;have fP:=e.next
     obtain ⟨c9,bj,bZ,bX,b_,gV⟩:=hR.app oR (rW.ext e) (cl oR) (by omega) (by omega) (by simp only [List.length_map];unfold top;omega);have kp:=bX.one;simp +contextual only [Mt,oK,mQ,cP,ow,Hs.g,bZ,xJ,dG.1,dG.2.1,kp.1,kp.2.1,dq.1,dq.2.1,show ((1:Int)<2)=True from eq_true (by omega),↓al,aE,simprocAttr];exact ⟨e.hJ b_ fun b q=>oR.base q,.inr (.inr bX)⟩
   . unfold Em;have dG:=oR.one;simp +contextual only [Mt,oK,mQ,cP,dG.1,dG.2.1,show ((2:Int)<2)=False from eq_false (by omega),↓al,aE,simprocAttr];refine ⟨?_,e⟩;rw [List.map_append];exact oR.fU (by simp only [List.length_append,List.length_map];unfold top;omega) (fun _ _=>trivial) fun _ _=>trivial
theorem aiu (v:V) (bh:v.one=true/\v.cells=[v]/\v.fY=true) (h:ai):db Tryz.prog 51 [v] h fun x ab=>∃n,x=.func 78 [.ptr (aj n) 0]/\Has ab n [v]/\Ext h ab:=by refine abg.z rfl (dB ?_);unfold c51;obtain ⟨aa,ar,aP,da⟩:=ic h [v];simp +contextual only [ar,bh.1,bh.2.1,bh.2.2,↓al,aE,simprocAttr];exact ⟨_,rfl,da,aP⟩
theorem N9 {α:Type} {e:α->V}:∀{bM:List (Int × α)} {es:List cL},qJ e bM es->oy es=some (bM.map Prod.fst)
 | [],[],_=>rfl
 | [],_::_,H=>H.elim
 | _::_,[],H=>H.elim
 | (s,a)::bM,m::es,H=>by unfold oy;rw [H.1,N9 H.2.2];rfl
theorem UM {x:Int}:∀{l:List Int},w7 x l=true↔x ∈ l
 | []=>by simp [w7]
 | y::l=>by simp only [w7,Bool.or_eq_true,UM (l:=l),List.mem_cons,EC,decide_eq_true_eq]
theorem U0:∀{l:List Int},l.Nodup->uF l=true
 | [],_=>rfl
 | x::l,h=>by obtain ⟨aa,ad⟩:=List.nodup_cons.1 h;simp only [uF,Bool.and_eq_true,Bool.not_eq_true',U0 ad,and_true];rw [<-Bool.not_eq_true,UM];exact aa
theorem XT:∀{l:List Int},(∀x ∈ l,0<=x/\x<=1048575)->u5 l=true
 | [],_=>rfl
 | x::l,h=>by
   have aa:=h x List.mem_cons_self;simp only [u5,Bool.and_eq_true];refine ⟨?_,XT fun y aZ=>h y (List.mem_cons_of_mem _ aZ)⟩;have aP:IntKind.i64.min=-9223372036854775808:=by decide
   have a':IntKind.i64.max=9223372036854775807:=by decide
   simp [Lit.wf,aP,a'];omega
theorem anq {α:Type} {e:α->V} {h:ai} {n:Nat} {lO:aQ} {bM:List (Int × α)} (P:Has h n [.map lO]) (M:jm e h lO bM) (aV:(bM.map Prod.fst).Nodup) (ay:bM.length<=1000000) (aR:∀s ∈ bM.map Prod.fst,0<=s/\s<=1048575):
 db Tryz.prog 50 [.func 78 [.ptr (aj n) 0]] h fun x ab=>(fC ab 1 x (e6 (bM.map Prod.fst)).length (l7 (e6 (bM.map Prod.fst)))/\rN x/\∀b,x.aM b->h.next<=cI b)/\Ext h ab:=by
 obtain ⟨es,clock,m1,m2,m3⟩:=M.ex;have aH:=N9 m2;have hlen:es.length=bM.length:=by have:=Lq aH;rw [List.length_map] at this;exact this.symm
 have fY:(uF (bM.map Prod.fst)&&h2 clock 0 es&&u5 (bM.map Prod.fst)&&Nat.ble es.length 1000000)=true:=by rw [U0 aV,m3,XT aR];simp only [Bool.and_self,Bool.true_and,Nat.ble_eq];omega
 have ny:(e6 (bM.map Prod.fst)).length=bM.length:=by rw [(uY _).length_eq,List.length_map]
 have run:∃v ab,(C3 78).run [.func 78 [.ptr (aj n) 0]] h=.val v ab/\(fC ab 1 v (e6 (bM.map Prod.fst)).length (l7 (e6 (bM.map Prod.fst)))/\rN v/\∀b,v.aM b->h.next<=cI b)/\Ext h ab:=by
  simp only [C3,Nat.beq_refl,cond_true,MZ,P.g,cf.bC];simp only [List.length_singleton,show Nat.blt 0 1=true from rfl,cond_true];rw [show T.get V.bad (aj 0) (Go.Proofs.YthemdhlheglhoaaGreatDoor.a7.fI .e 0 [V.map lO])=V.map lO from by rw [show aj 0=aj (0+0) from rfl,EU];rfl];simp only [m1,aH,fY,cond_true];generalize e6 (bM.map Prod.fst)=l at *;cases l with
  | nil=>exact ⟨_,_,rfl,⟨⟨rfl,rfl⟩,fun b o l c e=>(by cases e),fun b q=>q.elim⟩,Ext.refl _⟩
  | cons x l=>
    have iz:(uu (x::l)).length<=top:=by unfold uu;rw [List.length_map];unfold top;omega
    simp only [Cy iz (Nat.le_refl _)];have o:=cD.grown (B:=h.next) (h:=h) (size:=1) (ah:=uu (x::l)) (n:=(x::l).length) (st:=false) (by unfold uu;rw [List.length_map,Nat.mul_one]) (Nat.le_refl _);refine ⟨_,_,rfl,⟨o.v,o.room,fun b q=>o.base q⟩,(Ext.refl h).new _⟩
 obtain ⟨v,ab,bw,cw,cn⟩:=run;exact ⟨v,ab,⟨(fun e=>by cases e),.inl ⟨⟨_,Tryz.func50,by kernel_rfl⟩,fun az E w xs ak s=>W5 (by decide) Tryz.underlying3 W4 bw az E w xs ak s⟩⟩,cw,cn⟩
section
variable [Lay]
abbrev Eo (p:Int × aL) (w:V):List V:=[.int .i64 p.1,.int .i64 p.2.k,.int .i64 p.2.n,.str p.2.s,w]
inductive eN (h:ai):(aQ->Prop)->hS->V->Prop
 | mk {S:aQ->Prop} {l:hS} {v:V} (us:List (List V)) (ws:Nat->V) (fv:Nat->aQ->Prop) (o:cD 0 h 5 v l.length us.flatten) (hu:us.length=l.length) (aV:l.length<=top)
    (cells:∀(i:Nat) (t:Int × aL),l[i]? =some t->us[i]? =some (Eo t (ws i))/\t.2.s.length<=top)
    (kids:∀(i:Nat) (t:Int × aL),l[i]? =some t->e1 h (fv i) t.2.l (ws i)) (bh:∀b,v.aM b->S b) (cU:∀(i:Nat) (b:aQ),i<l.length->fv i b->S b/\¬v.aM b)
    (apart:∀(i j:Nat) (b:aQ),i<l.length->j<l.length->i≠j->fv i b->¬fv j b):eN h S l v
variable {h ab:ai} {S:aQ->Prop} {l:hS} {v:V}
theorem eN.nil (h:ai) (S:aQ->Prop):eN h S [] .bF:=
 .mk [] (fun _=>.bF) (fun _ _=>False) ⟨by simp,rfl⟩ rfl (Nat.zero_le _) (fun i t q=>by simp at q) (fun i t q=>by simp at q) (fun b q=>q.elim) (fun i b q=>absurd q (Nat.not_lt_zero _)) (fun i j b q=>absurd q (Nat.not_lt_zero _))
theorem eN.mod {M:aQ->Prop} (H:eN h S l v) (m:Mod M h ab) (dE:∀b,S b->¬M b):eN ab S l v:=by
 cases H with
 | mk us ws fv o hu aV cells kids bh cU apart=>
   exact .mk us ws fv (o.mod m fun b q=>dE b (bh b q)) hu aV cells (fun i t q=>(kids i t q).mod m fun b z=>dE b (cU i b (by obtain ⟨ar,_⟩:=List.getElem?_eq_some_iff.1 q;exact ar) z).1) bh cU apart
theorem eN.ext (H:eN h S l v) (e:Ext h ab):eN ab S l v:=by
 cases H with
 | mk us ws fv o hu aV cells kids bh cU apart=>exact .mk us ws fv (o.ext e) hu aV cells (fun i t q=>(kids i t q).ext e) bh cU apart
theorem eN.jG {gw:aQ->Prop} (H:eN h S l v) (w:∀b,S b->gw b):eN h gw l v:=by
 cases H with
 | mk us ws fv o hu aV cells kids bh cU apart=>exact .mk us ws fv o hu aV cells kids (fun b q=>w b (bh b q)) (fun i b q z=>⟨w b (cU i b q z).1,(cU i b q z).2⟩) apart
theorem eN.fU {F:aQ->Prop} (H:eN h S l v) (w:∀b,S b->F b):cJ F h 5 (l.map lR) v:=by
 cases H with
 | mk us ws fv o hu aV cells kids bh cU apart=>
   refine ⟨o.room,by rw [List.length_map];exact aV,⟨us,by rw [List.length_map];exact o.v,by rw [List.length_map];exact hu,fun u q=>?_,fun i e u ar av=>?_⟩,fun b q=>w b (bh b q)⟩
   . obtain ⟨i,an,rfl⟩:=List.getElem_of_mem q;have:=(cells i _ (List.getElem?_eq_getElem (by omega))).1;rw [List.getElem?_eq_getElem an] at this;rw [Option.some.inj this];rfl
   . rw [List.getElem?_map] at ar;cases aw:l[i]? with
     | none=>rw [aw] at ar;cases ar
     | some t=>
       rw [aw] at ar;simp only [Option.map_some,Option.some.injEq] at ar;subst ar;obtain ⟨bP,bY⟩:=cells i t aw;rw [bP] at av;cases av;rw [lR,CP];have an:i<l.length:=(List.getElem?_eq_some_iff.1 aw).1;exact .i (.i (.i (.s bY (((kids i t aw).fU fun b z=>w b (cU i b an z).1).cons .nil))))
theorem eN.one (H:eN h S l v):v.one=true/\v.cells=[v]/\v.fY=true:=by
 cases H with
 | mk us ws fv o hu aV cells kids bh cU apart=>exact o.v.one
theorem eN.len (H:eN h S l v):lA v=some (.int .i64 l.length):=by
 cases H with
 | mk us ws fv o hu aV cells kids bh cU apart=>exact o.v.len
theorem eN.bh (H:eN h S l v):∀b,v.aM b->S b:=by
 cases H with
 | mk us ws fv o hu aV cells kids bh cU apart=>exact bh
theorem eN.le (H:eN h S l v):l.length<=top:=by
 cases H with
 | mk us ws fv o hu aV cells kids bh cU apart=>exact aV
theorem eN.add {T:aQ->Prop} {t:Int × aL} {u:V} (H:eN h S l v) (E:e1 h T t.2.l u) (sy:∀b,S b->¬T b) (og:∀b,S b->Old h b) (t':∀b,T b->Old h b) (hlen:(l.length+1) * 5<=top) (aR:t.2.s.length<=top):
 ∃c9 ab,iK 5 v (.slice (aj h.next) 0 1 1) (h.new (.bC (Eo t u) 0 false))=.val c9 ab/\eN ab (fun b=>S b\/T b\/(h.next<=cI b/\cI b<ab.next)) (l++[t]) c9/\Mod v.aM h ab/\h.next+1<=ab.next:=by
 have rI:=E.one;cases H with
 | mk us ws fv o hu aV cells kids bh cU apart=>
   obtain ⟨c9,ab,ar,av,aK,bU,dV⟩:=pS (cs:=Eo t u) (by omega) o (Nat.zero_le _) hlen rfl (by simp only [ev,Gv,Gw,rI.1,Bool.and_self,Bool.and_true]);have uj:∀b,c9.aM b->¬v.aM b->¬Old h b:=fun b z z2=>by
    rcases dV b z with z | z
    . exact absurd z z2
    . unfold Old;omega
   have snoc:∀(i:Nat) (s:Int × aL),(l++[t])[i]? =some s->(i<l.length/\l[i]? =some s)\/(i=l.length/\s=t):=fun i s q=>Bk q;refine ⟨c9,ab,ar,.mk (us++[Eo t u]) (fun i=>if i<l.length then ws i else u) (fun i=>if i<l.length then fv i else T) ?_ (by simp [hu]) (by rw [List.length_append,List.length_singleton];omega) (fun i s q=>?_) (fun i s q=>?_) (fun b z=>?_) (fun i b an z=>?_) (fun i j b an aU np z=>?_),aK,bU⟩
   . rw [List.length_append,List.length_singleton,List.flatten_append];simpa using av
   . rcases snoc i s q with ⟨aa,ad⟩ | ⟨aa,rfl⟩
     . rw [if_pos aa,List.getElem?_append_left (by omega)];exact cells i s ad
     . subst aa;rw [if_neg (by omega),List.getElem?_append_right (by omega),hu,Nat.sub_self];exact ⟨rfl,aR⟩
   . rcases snoc i s q with ⟨aa,ad⟩ | ⟨aa,rfl⟩
     . simp only [if_pos aa];exact (kids i s ad).mod aK fun b z=>(cU i b aa z).2
     . subst aa;simp only [Nat.lt_irrefl,if_false];exact E.mod aK fun b z z2=>sy b (bh b z2) z
   . have a6:=av.v.bG z;rcases dV b z with z | z
     . exact .inl (bh b z)
     . exact .inr (.inr (by unfold Old at a6;omega))
   . by_cases aa:i<l.length
     . rw [if_pos aa] at z;obtain ⟨a,c⟩:=cU i b aa z;exact ⟨.inl a,fun z2=>uj b z2 c (og b a)⟩
     . rw [if_neg aa] at z;exact ⟨.inr (.inl z),fun z2=>uj b z2 (fun z3=>sy b (bh b z3) z) (t' b z)⟩
   . rw [List.length_append,List.length_singleton] at an aU;by_cases aa:i<l.length
     . rw [if_pos aa] at z;by_cases ad:j<l.length
       . rw [if_pos ad];exact apart i j b aa ad np z
       . rw [if_neg ad];exact sy b (cU i b aa z).1
     . rw [if_neg aa] at z;rw [if_pos (by omega)];exact fun z2=>sy b (cU j b (by omega) z2).1 z
abbrev Ph:Int × aL:=(-77,.mk 0 0 [] [])
abbrev yb:List V:=[.int .i64 (-77),.int .i64 0,.int .i64 0,.str [],.bF]
theorem eN.over {h:ai} {S:aQ->Prop} {l:hS} {v:V} (H:eN h S l v) {i:Nat} (an:i<l.length):
 ∃(T:aQ->Prop) (w:V) (b:aQ) (off:Nat),e1 h T l[i].2.l w/\(∀x,T x->S x)/\iT 5 v (.int .i64 i)=some (.ptr b (off+i * 5))/\hd (h.get b) (off+i * 5+1+3)=some w/\
  ∀aa,Mod T h aa->∃ad,pI 5 aa (.ptr b (off+i * 5)) (.agg yb)=some ad/\eN ad S (l.set i Ph) v/\Mod v.aM aa ad:=by
 cases H with
 | mk us ws fv o hu aV cells kids bh cU apart=>
   obtain ⟨bP,bY⟩:=cells i l[i] (List.getElem?_eq_getElem an);have bn:∀u ∈ us,u.length=5:=fun u q=>by obtain ⟨j,aU,rfl⟩:=List.getElem_of_mem q;have:=(cells j l[j] (List.getElem?_eq_getElem (by omega))).1;rw [List.getElem?_eq_getElem aU] at this;rw [Option.some.inj this];rfl
   have jd:=q2 us bn;obtain ⟨b,off,aP,a'⟩:=o.v.ct (k:=.i64) an;have o_:i<us.length:=by omega
   refine ⟨fv i,ws i,b,off,kids i _ (List.getElem?_eq_getElem an),fun x q=>(cU i x an q).1,aP,?_,fun aa m=>?_⟩
   . have:=a'.d_ (i:=i * 5+4) (by rw [jd];omega);rw [show off+i * 5+1+3=off + (i * 5+4) by omega,this];have aA:=tU us i _ bn bP;have:us.flatten[i * 5+4]? =(((us.flatten.drop (i * 5)).take 5)[4]?):=by rw [List.getElem?_take_of_lt (by omega),List.getElem?_drop]
     rw [<-List.getElem?_eq_getElem,this,aA];rfl
   . have c7:cD 0 aa 5 v l.length us.flatten:=o.mod m fun x q z=>(cU i x an z).2 q;obtain ⟨bL,j8,ad,f1,f2,f3,f4,f5⟩:=c7.put (i:=i) an (k:=.i64) (y:=.agg yb) rfl rfl;have ae:V.ptr b (off+i * 5)=.ptr bL (j8+i * 5):=Option.some.inj (aP.symm.trans f1);refine ⟨ad,by rw [ae];exact f3,?_,f5⟩;have sp:h9 us.flatten (i * 5) (V.agg yb).cells=(us.set i yb).flatten:=R7 us i yb o_ rfl bn;rw [sp] at f4;refine .mk (us.set i yb) (fun j=>if j=i then .bF else ws j) fv (by rw [List.length_set];exact f4) (by rw [List.length_set,List.length_set];exact hu) (by rw [List.length_set];exact aV) (fun j t q=>?_) (fun j t q=>?_) bh (fun j x q=>cU j x (by rw [List.length_set] at q;exact q)) (fun j k x ar av=>apart j k x (by rw [List.length_set] at ar;exact ar) (by rw [List.length_set] at av;exact av))
     . by_cases jY:j=i
       . subst jY;rw [List.getElem?_set_self an] at q;cases q;rw [if_pos rfl,List.getElem?_set_self o_];exact ⟨rfl,Nat.zero_le _⟩
       . rw [List.getElem?_set_ne (fun z=>jY z.symm)] at q ⊢;rw [if_neg jY];exact cells j t q
     . by_cases jY:j=i
       . subst jY;rw [List.getElem?_set_self an] at q;cases q;rw [if_pos rfl];exact e1.nil _ _
       . rw [List.getElem?_set_ne (fun z=>jY z.symm)] at q;rw [if_neg jY];have aU:j<l.length:=(List.getElem?_eq_some_iff.1 q).1;exact ((kids j t q).mod m fun x z z2=>apart j i x aU an jY z z2).mod f5 fun x z z2=>(cU j x aU z).2 z2
end
theorem alB (l:hS) (S:aQ->Prop) (v:V) (h:ai) (H:eN h S l v):db Tryz.prog 16 [v] h fun x ab=>Mod S h ab:=by
 have hle:=H.le;refine aaY.z rfl (dB ?_);unfold Qe;simp +contextual only [↓al,aE,simprocAttr];refine eY (fun r g=>r 0=v/\∃(i:Nat) (dT:hS),r 2=.int .i64 i/\i<=l.length/\dT.length=l.length/\eN g S dT v/\Mod S h g) (fun r g=>l.length - (r 2).toN) ?_ ?_
 . exact ⟨by simp only [↓al,bs,simprocAttr],0,l,by simp only [↓al,bs,simprocAttr]<;>rfl,by omega,rfl,H,Mod.refl _ _⟩
 rintro r g ⟨bq,i,dT,cw,an,eP,W,E⟩;unfold Qf;have ay:=W.len;rw [eP] at ay;by_cases aO:i<l.length
 . have g0:((i:Int) < (l.length:Int))=True:=eq_true (by omega);have iA:i<dT.length:=by omega
   obtain ⟨T,w,b,off,K,dz,ct,ld,st⟩:=W.over iA;have dk:=jj aO (by unfold top at hle;omega);simp +contextual only [bq,cw,ay,g0,ct,ld,↓al,aE,simprocAttr];refine cz (Vv _ dT[i].2.l (Nat.le_refl _) T w g K) ?_;rintro x g2 m;obtain ⟨g3,s1,s2,kM⟩:=st g2 m;have MS:oz 5 g2 b (off+i * 5) (.agg [.int .i64 (-77),.int .i64 0,.int .i64 0,.str [],.bF]) (g2.get b)=some g3:=s1;simp +contextual only [bq,cw,ct,MS,dk,↓al,aE,simprocAttr];refine ⟨⟨i+1,dT.set i Ph,rfl,aO,by rw [List.length_set];exact eP,s2,?_⟩,by omega⟩;exact E.trans ((m.mono fun x _ q=>dz x q).trans (kM.mono fun x _ q=>s2.bh x q))
 . have g0:((i:Int) < (l.length:Int))=False:=eq_false (by omega);simp +contextual only [bq,cw,ay,g0,↓al,aE,simprocAttr];exact E
end
section
open Go a7
def mT (g:bp × List (Nat × Nat)) (p:aL × aL):bp × List (Nat × Nat):=((p.2.add (p.1.add g.1).1).1,((p.1.add g.1).2,(p.2.add (p.1.add g.1).1).2)::g.2)
theorem x3:∀(l:List (aL × aL)) (g:bp × List (Nat × Nat)),ja l g=l.foldl mT g
 | [],g=>rfl
 | p::l,g=>by rw [ja,x3 l];rfl
theorem OV (l:List (aL × aL)) (p:aL × aL) (g:bp × List (Nat × Nat)):ja (l++[p]) g=mT (ja l g) p:=by rw [x3,x3,List.foldl_append];rfl
theorem Zy (l m:List (aL × aL)) (g:bp × List (Nat × Nat)):ja (l++m) g=ja m (ja l g):=by rw [x3,x3,x3,List.foldl_append]
theorem anA (g:bp × List (Nat × Nat)) (p:aL × aL) (aa:p.1.lF=true) (ad:p.2.lF=true) (W:g.1.ee):g.1.le (mT g p).1/\(mT g p).1.ee/\(∀e ∈ g.2,e ∈ (mT g p).2):=by obtain ⟨bW,a2,_⟩:=r8 p.1 g.1 aa W;obtain ⟨cb,b9,_⟩:=r8 p.2 _ ad a2;exact ⟨bW.trans cb,b9,fun e he=>List.mem_cons_of_mem _ he⟩
theorem OU:∀(l:List (aL × aL)) (g:bp × List (Nat × Nat)),(∀p ∈ l,p.1.lF=true/\p.2.lF=true)->g.1.ee->g.1.le (ja l g).1/\(ja l g).1.ee/\(∀e ∈ g.2,e ∈ (ja l g).2)
 | [],g,_,W=>⟨bp.le.refl _,W,fun _ h=>h⟩
 | p::l,g,h,W=>by obtain ⟨bW,a2,a3⟩:=anA g p (h p List.mem_cons_self).1 (h p List.mem_cons_self).2 W;obtain ⟨cb,b9,e3⟩:=OU l (mT g p) (fun q aC=>h q (List.mem_cons_of_mem _ aC)) a2;exact ⟨bW.trans cb,b9,fun e he=>e3 e (a3 e he)⟩
mutual
theorem AO:∀(t:aL) (g:bp),g.vars.length<=g.N->(t.add g).1.vars.length<=(t.add g).1.N
 | .mk k n s l,g,h=>by
   rw [aL.add];by_cases c:k=1
   . rw [if_pos c];unfold bp.var;cases ff n g.vars with
     | some i=>exact h
     | none=>simp only [bp.N,List.length_append,List.length_singleton] at h ⊢;omega
   . rw [if_neg c];have:=O1 l g h;simp only [bp.put,bp.N,List.length_append,List.length_singleton] at this ⊢;omega
theorem O1:∀(l:List aL) (g:bp),g.vars.length<=g.N->(cg l g).1.vars.length<=(cg l g).1.N
 | [],g,h=>h
 | t::l,g,h=>by rw [cg];exact O1 l _ (AO t g h)
end
theorem mn.grow {g cH:bp} {π kr:Nat->Nat} {bR l8:Nat->V} {bN fQ:Nat->Int} {B:Nat} {ρ:Nat->Nat} (jn:pP g cH π kr bR l8 bN fQ B) (kv:cH.ee) (S:eU g ρ) (H:mn g ρ bN) (aB:g.le cH):mn cH ρ fQ:=by
 intro r aF e;by_cases c:r<g.N
 . have:=H r c e;rw [jn.bN r c];have only:∀(y:Nat) (aN:dx),cH.nodes[y]? =some aN->ρ y=r->g.nodes[y]? =some aN:=fun y aN h q=>by
    by_cases z:y<g.N
    . rw [aB.bG z] at h;exact h
    . have:=S.out y (by omega);omega
   rcases this with ⟨aa,ad⟩ | ⟨aa,⟨y,aN,ad,aJ,bE,dn⟩,dH⟩
   . exact .inl ⟨aa,fun y aN ar av=>ad y aN (only y aN ar av) av⟩
   . exact .inr ⟨aa,⟨y,aN,aB.get ad,aJ,bE,dn⟩,fun y aN ar av aK=>dH y aN (only y aN ar av) av aK⟩
 . obtain ⟨aN,dX⟩:=hT aF;have aV:=jn.new r aN (by omega) dX;have only:∀(y:Nat) (cm:dx),cH.nodes[y]? =some cm->ρ y=r->cm=aN:=fun y cm h q=>by
    by_cases z:y<g.N
    . have:=S.lt y z;omega
    . have:=S.out y (by omega);have:y=r:=by omega
      subst this;rw [dX] at h;exact (Option.some.inj h).symm
   cases bY:aN.cj with
   | true=>
     rw [bY] at aV;simp only [if_true] at aV;exact .inl ⟨by omega,fun y cm ar av=>by rw [only y cm ar av];exact bY⟩
   | false=>
     rw [bY] at aV;simp only [Bool.false_eq_true,if_false] at aV;have ag:=(kv.var r aN dX bY).2.2.1;exact .inr ⟨by omega,⟨r,aN,dX,e,bY,aV.symm⟩,fun y cm ar av _=>by rw [only y cm ar av];omega⟩
section
variable {g:bp} {E:List (Nat × Nat)}
theorem W2 {l:List Int} {x:Int}:x ∈ e6 l↔x ∈ l:=(uY l).mem_iff
theorem Uv {α:Type} {s:Int}:∀{k:List (Int × α)},s ∈ k.map Prod.fst->∃a,ff s k=some a
 | [],h=>by simp at h
 | (n,b)::k,h=>by
   simp only [ff];by_cases c:s=n
   . exact ⟨b,if_pos c⟩
   . rw [if_neg c];simp only [List.map_cons,List.mem_cons] at h;exact Uv (h.resolve_left c)
theorem Ln (W:g.ee) {i:Nat} (an:i < (e6 (g.vars.map Prod.fst)).length):∃(j:Nat) (aN:dx),ff (e6 (g.vars.map Prod.fst))[i] g.vars=some j/\g.nodes[j]? =some aN/\aN.cj=false/\aN.n=(e6 (g.vars.map Prod.fst))[i]/\(keyed g)[i]? =some ((e6 (g.vars.map Prod.fst))[i],j):=by have hm:(e6 (g.vars.map Prod.fst))[i] ∈ g.vars.map Prod.fst:=W2.1 (List.getElem_mem an);obtain ⟨j,aU⟩:=Uv hm;obtain ⟨aN,aa,ad,aJ⟩:=W.hI _ _ aU;refine ⟨j,aN,aU,aa,ad,aJ,?_⟩;unfold keyed;rw [List.getElem?_map,List.getElem?_eq_getElem an];simp [aU]
theorem Ng {α β:Type} (f:α->Option β) {l:List α} {i:Nat} {x:α} (h:l[i]? =some x):(l.take (i+1)).filterMap f=(l.take i).filterMap f++(f x).toList:=by obtain ⟨an,rfl⟩:=List.getElem?_eq_some_iff.1 h;rw [List.take_succ_eq_append_getElem an,List.filterMap_append];congr 1
theorem Pr {n:Int} {j:Nat} (h:rR g E j=.mk 1 n [] []):gk g E (n,j)=none:=by unfold gk;exact if_pos h
theorem Po {n:Int} {j:Nat} (h:rR g E j≠.mk 1 n [] []):gk g E (n,j)=some (n,rR g E j):=by unfold gk;exact if_neg h
open Classical in
theorem WW (h:mU g E):jD g E=([],290):=by unfold jD;rw [if_pos h]
open Classical in
theorem WZ (aD:¬mU g E) (h:∃i,i<g.N/\¬∃t,dO g (cB g E) i t):jD g E=([],291):=by unfold jD;rw [if_neg aD,if_pos h]
open Classical in
theorem WX (aD:¬mU g E) (h:∀i,i<g.N->∃t,dO g (cB g E) i t) (ay:∃p ∈ (keyed g).filterMap (gk g E),¬(p.2.size<=4096/\p.2.deep<=200)):jD g E=([],3):=by unfold jD;rw [if_neg aD,if_neg (fun ⟨i,aa,ad⟩=>ad (h i aa)),if_pos ay]
open Classical in
theorem WY (aD:¬mU g E) (h:∀i,i<g.N->∃t,dO g (cB g E) i t) (ay:∀p ∈ (keyed g).filterMap (gk g E),p.2.size<=4096/\p.2.deep<=200):jD g E=((keyed g).filterMap (gk g E),0):=by unfold jD;rw [if_neg aD,if_neg (fun ⟨i,aa,ad⟩=>ad (h i aa)),if_neg (fun ⟨p,aa,ad⟩=>ad (ay p aa))]
end
def IG:aW:=
 aW.seq (aW.aq [⟨(some 14),.b1 (.c .bF),none,[]⟩])
 (aW.seq (aW.seq (aW.aq [⟨(some 78),.b1 (.t 11),none,[11]⟩,
   ⟨(some 79),.len .slice (.t 78),none,[78]⟩,
   ⟨(some 80),.b1 (.c (.int .i64 0)),none,[]⟩])
  (aW.block 6 (aW.loop IE)))
 (aW.seq (aW.aq [⟨(some 127),.b1 (.t 14),none,[14]⟩,
   ⟨(some 4),.b1 (.t 127),none,[127]⟩,
   ⟨(some 5),.b1 (.c (.int .i64 0)),none,[]⟩])
 (aW.ret)))
def IF:aW:=
 aW.seq (aW.aq [⟨(some 57),.nG none,none,[]⟩,
  ⟨(some 58),.nG none,none,[]⟩,
  ⟨(some 59),.nG none,none,[]⟩,
  ⟨(some 60),.build [.j6,.j6,.j6] [(0,1,(.t 57)),(1,1,(.t 58)),(2,1,(.t 59))],none,[57,58,59]⟩,
  ⟨(some 61),.box (.t 60),none,[60]⟩,
  ⟨(some 10),.b1 (.t 61),none,[61]⟩])
 (aW.seq (aW.aq [⟨(some 62),.b1 (.t 8),none,[8]⟩,
   ⟨(some 63),.call 51 [(.t 62)],none,[62]⟩,
   ⟨(some 64),.call 50 [(.t 63)],none,[63]⟩,
   ⟨(some 11),.b1 (.t 64),none,[64]⟩])
 (aW.seq (aW.seq (aW.aq [⟨(some 65),.b1 (.t 11),none,[11]⟩,
   ⟨(some 66),.len .slice (.t 65),none,[65]⟩,
   ⟨(some 67),.b1 (.c (.int .i64 0)),none,[]⟩])
  (aW.block 4 (aW.loop ID)))
 (IG)))
theorem aaK:PX=
 aW.seq (aW.aq [⟨(some 4),.b1 (.c .bF),none,[]⟩,
  ⟨(some 5),.b1 (.c (.int .i64 0)),none,[]⟩])
 (aW.seq (aW.seq (aW.aq [⟨(some 18),.b1 (.t 0),none,[0]⟩,
   ⟨(some 19),.len .slice (.t 18),none,[18]⟩,
   ⟨(some 20),.b1 (.t 1),none,[1]⟩,
   ⟨(some 21),.len .slice (.t 20),none,[20]⟩,
   ⟨(some 22),.bin (.int .neq) (.t 19) (.t 21),none,[19,21]⟩])
  (aW.cond (.t 22)
   (aW.seq (aW.aq [⟨(some 4),.b1 (.c .bF),none,[]⟩,
     ⟨(some 5),.b1 (.c (.int .i64 2)),none,[]⟩])
    (aW.ret))
   (aW.skip)))
 (aW.seq (aW.seq (aW.aq [⟨(some 23),.b1 (.t 0),none,[0]⟩,
   ⟨(some 24),.b1 (.t 1),none,[1]⟩,
   ⟨(some 25),.iw 2 1 [.bF] [(0,1,(.t 23)),(1,1,(.t 24))],none,[23,24]⟩,
   ⟨(some 26),.call 47 [(.t 25)],none,[25]⟩,
   ⟨(some 27),.len .slice (.t 26),none,[26]⟩,
   ⟨(some 28),.b1 (.c (.int .i64 0)),none,[]⟩])
  (aW.block 0 (aW.loop IB)))
 (aW.seq (aW.aq [⟨(some 36),.nG none,none,[]⟩,
   ⟨(some 8),.b1 (.t 36),none,[36]⟩])
 (aW.seq (aW.seq (aW.aq [⟨(some 37),.b1 (.t 0),none,[0]⟩,
   ⟨(some 38),.len .slice (.t 37),none,[37]⟩,
   ⟨(some 39),.b1 (.c (.int .i64 0)),none,[]⟩])
  (aW.block 2 (aW.loop IC)))
 (IF))))):=rfl
end
section
open Go a7
structure H6 (B:Nat) (h:ai) (g:bp) (E:List (Nat × Nat)) (π:Nat->Nat) (bR:Nat->V) (w:Nat->Nat) (bN:Nat->Int) (ρ:Nat->Nat) (cX:aQ):Prop where
 W:g.ee
 S:eU g ρ
 J:eA g E ρ []
 L:mn g ρ bN
 Dc:Way w ρ
 nO:q3 g
 pm:mo h g π bR w bN cX
 xe:∀i,i<g.N->B<=π i
 zr:B<=cI cX
theorem aoq {B:Nat} {aX h:ai} {g:bp} {E:List (Nat × Nat)} {π:Nat->Nat} {bR:Nat->V} {w:Nat->Nat} {bN:Nat->Int} {ρ:Nat->Nat} {cX:aQ} {iG:Nat} {fT dL dr:aQ} {md:List (Nat × aL)} {iD:List (Nat × Bool)} {r:bd} {rq:V} {Q:dm->bd->ai->Prop}
 (c_:B<=aX.next) (fp:Ext aX h) (su:B=aX.next) (wo:g.N<=1000000) (U:H6 B h g E π bR w bN ρ cX) (M:lf h g π bR w bN iG fT dL dr md iD) (aqk:B<=iG) (ot:B<=cI fT) (apZ:B<=cI dL) (g_:B<=cI dr)
 (ap6:(e6 (g.vars.map Prod.fst)).length<=1000000) (K:fC h 1 rq (e6 (g.vars.map Prod.fst)).length (l7 (e6 (g.vars.map Prod.fst)))) (aep:∀b i,i<g.N->rq.aM b->b≠aj (π i)) (D:r3 g (cB g E) ρ md []) (eh:∀j,j<g.N->∃t,dO g (cB g E) j t) (fZ:∀(n:Int) (j:Nat),ff n g.vars=some j->∃t,(ρ j,t) ∈ md)
 (ed:r 8=.map cX) (hL:r 10=.ptr (aj iG) 0) (jh:r 11=rq)
 (cO:∀(r:bd) (k:ai) (c8:V),r 4=c8->r 5=.int .i64 (jD g E).2->eN k (eB aX.next k.next) (jD g E).1 c8->Ext aX k->Q .ret r k):bo Tryz.prog [.c IG] .normal r h Q:=by
 have iQ:=K.len;have ok:=K.one;have gF:=U.J.part;have zC:∀i,i<g.N->π i<h.next:=fun i an=>U.pm.gn.lt an
 unfold IG;simp +contextual only [ed,hL,jh,iQ,ok.1,ok.2.1,↓al,aE,simprocAttr];refine eY (fun r k=>r 8=.map cX/\r 10=.ptr (aj iG) 0/\r 78=rq/\r 79=.int .i64 (e6 (g.vars.map Prod.fst)).length/\∃(i:Nat) (v:V) (ao:Nat->Nat),r 80=.int .i64 i/\r 14=v/\i<=(e6 (g.vars.map Prod.fst)).length/\mo k g π bR ao bN cX/\lf k g π bR ao bN iG fT dL dr md iD/\Way ao ρ/\
  eN k (eB h.next k.next) (((keyed g).take i).filterMap (gk g E)) v/\Ext aX k/\Mod (jM g π) h k/\∀p ∈ ((keyed g).take i).filterMap (gk g E),p.2.size<=4096/\p.2.deep<=200) (fun r k=>(e6 (g.vars.map Prod.fst)).length - (r 80).toN) ?_ ?_
 . exact ⟨by simp only [ed,↓al,bs,simprocAttr],by simp only [hL,↓al,bs,simprocAttr],by simp only [jh,↓al,bs,simprocAttr],by simp only [↓al,bs,simprocAttr],0,.bF,w,by simp only [↓al,bs,simprocAttr]<;>rfl,by simp only [↓al,bs,simprocAttr],Nat.zero_le _,U.pm,M,U.Dc,eN.nil _ _,fp,Mod.refl _ _,fun p ag=>(by simp at ag)⟩
 clear ed hL jh;rintro r k ⟨ed,hL,pD,pE,i,v,ao,xm,ji,an,gY,gb,qO,O,eL,xZ,gI⟩;unfold IE;have dG:=O.one;have cC:=xZ.next
 have JN:=fp.next
 have yQ:(keyed g).length=(e6 (g.vars.map Prod.fst)).length:=by unfold keyed;rw [List.length_map]
 by_cases aO:i < (e6 (g.vars.map Prod.fst)).length
 . have g0:((i:Int) < ((e6 (g.vars.map Prod.fst)).length:Int))=True:=eq_true (by omega);obtain ⟨j,aN,aP,a',cM,fM,gf⟩:=Ln U.W aO;generalize aV:(e6 (g.vars.map Prod.fst))[i]=n at *;have aU:=hl a';have tw:fC k 1 rq _ _:=K.mod xZ fun b q ⟨a,a1,z⟩=>aep b a a1 q z;obtain ⟨vF,iZ,K_,Hl⟩:=tw.ct (k:=.i64) aO;have Cm:=Hl.d_ (i:=i) (by rw [FT];exact aO);have yR:(l7 (e6 (g.vars.map Prod.fst)))[i]'(by rw [FT];exact aO)=.int .i64 n:=by rw [<-aV];simp [l7]
   rw [yR,show iZ+i=iZ+i * 1 by omega] at Cm;have hI:=gY.mp.look n .ej false;rw [aP] at hI;simp only [cond_false] at hI;have dk:IntKind.i64.wrap ((i:Int)+1)=((i+1:Nat):Int):=by rw [wrap_i64 (by omega) (by omega)];rfl
   simp +contextual only [ed,hL,pD,pE,xm,ji,g0,K_,Cm,hI,m'.eq,↓al,aE,simprocAttr];refine cz (z' gY.gn U.S qO aU) ?_;rintro bz bA ⟨rfl,b2,hk,vv,jL⟩;have AE:=gb.find hk jL;have apX:∀b,B<=cI b->(∀i,i<g.N->b≠aj (π i))->¬jM g π b:=fun b _ q ⟨i,an,z⟩=>q i an z;have OG:mo bA g π bR b2 bN cX:=⟨hk,gY.mp.mod jL fun ⟨a,a1,z⟩=>gY.s1 a a1 z,gY.s1,gY.s2⟩;obtain ⟨t,aw⟩:=fZ n j aP;have Ez:=D.all _ aw;simp only at Ez;obtain ⟨t1,t2,t3,t4⟩:=Ez;have b5:=U.S.lt j aU;obtain ⟨b',ex⟩:=hT b5;have hy:=hk.root ex (Way.root U.S vv (U.S.idem j));have an1:dO g (cB g E) j t:=t3.mg gF (U.J.done.2 (U.S.idem j));have sM:rR g E j=t:=Nj gF an1;have DO:eN bA (eB h.next k.next) _ v:=O.mod jL fun b q ⟨a,a1,z⟩=>by have:=zC a a1;unfold eB at q;rw [z,cc] at q;omega
   have cS:=jL.next
   have ez:Ext aX bA:=eL.hJ jL fun b ⟨a,a1,z⟩=>by rw [z,cc];have:=U.xe a a1;omega
   have Ox:Mod (jM g π) h bA:=xZ.trans jL;have wK:=AE.hw.g;have aj_:=LA D.nodup aw;have ls:=AE.ms.look (hk.key b5 D.keys) (.int .i64 0) false;have ld:=AE.sl.look (hk.key b5 D.keys) (.int .i64 0) false;rw [aj_] at ls ld;simp only [cond_false] at ls ld;have self:t=.mk 1 n [] []->eN bA (eB h.next bA.next) (((keyed g).take (i+1)).filterMap (gk g E)) v/\∀p ∈ ((keyed g).take (i+1)).filterMap (gk g E),p.2.size<=4096/\p.2.deep<=200:=fun q=>by rw [Ng _ gf,Pr (by rw [sM];exact q)];simp only [Option.toList_none,List.append_nil];exact ⟨DO.jG fun b z=>by unfold eB at z ⊢;omega,gI⟩
   have Bt:(b'.cj=false/\bN (ρ j)=n/\t=.mk 1 n [] [])\/(b'.cj=false/\(bN (ρ j)=n)=False/\t≠.mk 1 n [] [])\/(b'.cj=true/\True=True/\t≠.mk 1 n [] []):=by
    cases c:b'.cj with
    | false=>
      have Nt:=Xr U.S U.J U.L (U.S.idem j) ex c;have hD:=t3.uniq gF (.refl _) Nt;by_cases bY:bN (ρ j)=n
      . exact .inl ⟨rfl,bY,by rw [hD,bY]⟩
      . exact .inr (.inl ⟨rfl,eq_false bY,fun z=>by rw [hD] at z;injection z with _ z;exact bY z⟩)
    | true=>
      obtain ⟨l,hD,_⟩:=Hc gF t3 (.refl _) ex c;exact .inr (.inr ⟨rfl,rfl,fun z=>by rw [hD] at z;injection z with z _;omega⟩)
   rcases Bt with ⟨aD,pb,aR⟩ | Bt
   . rw [aD] at hy;obtain ⟨b6,z2⟩:=self aR;simp +contextual only [ed,hL,pD,pE,xm,ji,hy,eq_true pb,dk,jF,↓al,aE,simprocAttr];exact ⟨⟨i+1,v,b2,rfl,rfl,aO,OG,AE,vv,b6,ez,Ox,z2⟩,by omega⟩
   rcases Bt with ⟨aD,pb,aR⟩ | ⟨aD,pb,aR⟩
   all_goals
    rw [aD] at hy;have ae:gk g E (n,j)=some (n,t):=by rw [Po (by rw [sM];exact aR),sM]
    by_cases BE:t.size<=4096/\t.deep<=200
    . have s1:((4096:Int) < ((min t.size 4097:Nat):Int))=False:=eq_false (by omega);have s2:((200:Int) < ((t.deep:Nat):Int))=False:=eq_false (by omega);simp +contextual only [ed,hL,pD,pE,xm,ji,hy,pb,wK,ls,ld,s1,s2,dk,jF,↓al,aE,simprocAttr];refine cz (Xs U.W U.S U.J U.L U.nO t.size t (Nat.le_refl _) (by omega) (ρ j) b2 bA b5 t3 hk vv) ?_;rintro ek bx ⟨u,b0,rfl,Z,uk,fK,tC,M2⟩;have fP:=M2.next
      have kK:=Z.one;have vn:=AE.find fK M2;have YZ:mo bx g π bR b0 bN cX:=⟨fK,OG.mp.mod M2 fun ⟨a,a1,z⟩=>gY.s1 a a1 z,gY.s1,gY.s2⟩;have nZ:eN bx (eB h.next k.next) _ v:=DO.mod M2 fun b q ⟨a,a1,z⟩=>by have:=zC a a1;unfold eB at q;rw [z,cc] at q;omega
      have cp:Ext aX bx:=ez.hJ M2 fun b ⟨a,a1,z⟩=>by rw [z,cc];have:=U.xe a a1;omega
      have Fo:((keyed g).take i |>.filterMap (gk g E)).length<=1000000:=by have:=List.length_filterMap_le (gk g E) ((keyed g).take i);rw [List.length_take] at this;omega
      obtain ⟨c9,c4,bZ,bX,b_,gV⟩:=nZ.add (t:=(n,t)) (T:=eB bA.next bx.next) (u:=u) Z (fun b q z=>by unfold eB at q z;omega) (fun b q=>by unfold eB at q;unfold Old;omega) (fun b q=>by unfold eB at q;unfold Old;omega) (by unfold top;omega) uk;have kp:=bX.one;have sN:∀b,v.aM b->h.next<=cI b:=fun b q=>by have:=O.bh _ q;unfold eB at this;omega
      have xE:∀c,cI c<h.next->¬v.aM c:=fun c aD q=>by have:=sN c q;omega
      have agq:∀a,a<g.N->¬v.aM (aj (π a)):=fun a a1=>xE _ (by rw [cc];exact zC a a1);have agp:∀a b,a<g.N->(bR a).aM b->¬v.aM b:=fun a b a1 ae=>xE _ (by have:=U.pm.gn.rn a1 ae;unfold Old at this;exact this);have ir:=fK.mod b_ agq agp;have agm:¬v.aM cX:=xE _ (by have:=U.pm.mp.bG;unfold Old at this;exact this);have FG:¬v.aM (aj iG):=xE _ (by rw [cc];exact M.hw.lt);have BX:¬v.aM fT:=xE _ (by have:=M.ms.bG;unfold Old at this;exact this);have agn:¬v.aM dL:=xE _ (by have:=M.sl.bG;unfold Old at this;exact this);have ago:¬v.aM dr:=xE _ (by have:=M.op.bG;unfold Old at this;exact this);have Y0:mo c4 g π bR b0 bN cX:=⟨ir,YZ.mp.mod b_ agm,gY.s1,gY.s2⟩;have YJ:lf c4 g π bR b0 bN iG fT dL dr md iD:=⟨ir,vn.hw.mod b_ FG,vn.ms.mod b_ BX,vn.sl.mod b_ agn,vn.op.mod b_ ago,M.d1,M.d2,M.d3,M.zz,M.mO⟩;have bc:((keyed g).take (i+1)).filterMap (gk g E)=((keyed g).take i).filterMap (gk g E)++[(n,t)]:=by rw [Ng _ gf,ae];rfl
      have alF:iK 5 v (.slice (aj bx.next) 0 1 1) (bx.new (.bC [.int .i64 n,.int .i64 t.k,.int .i64 t.n,.str t.s,u] 0 false))=.val c9 c4:=bZ;simp +contextual only [ed,hL,pD,pE,xm,ji,kK.1,kK.2.1,dG.1,dG.2.1,kp.1,kp.2.1,alF,dk,jF,↓al,aE,simprocAttr];refine ⟨⟨i+1,c9,b0,rfl,rfl,aO,Y0,YJ,tC,?_,cp.hJ b_ fun b q=>by have:=sN b q;omega,?_,?_⟩,by omega⟩
      . rw [bc];exact bX.jG fun b q=>by unfold eB at q ⊢;omega
      . exact ((Ox.trans M2)).z1 b_ fun b q=>sN b q
      . rw [bc];intro p ag;rcases List.mem_append.1 ag with ag | ag
        . exact gI p ag
        . rw [List.mem_singleton] at ag;subst ag;exact BE
    . have Fs:jD g E=([],3):=WX U.J.kf eh ⟨(n,t),List.mem_filterMap.2 ⟨(n,j),List.mem_of_getElem? gf,ae⟩,BE⟩;by_cases y2:t.size<=4096
      . have s1:((4096:Int) < ((min t.size 4097:Nat):Int))=False:=eq_false (by omega);have s2:((200:Int) < ((t.deep:Nat):Int))=True:=eq_true (by omega);simp +contextual only [ed,hL,pD,pE,xm,ji,hy,pb,wK,ls,ld,s1,s2,dk,jF,↓al,aE,simprocAttr];exact cO _ _ .bF (by simp only [↓al,bs,simprocAttr]) (by simp only [Fs,↓al,bs,simprocAttr]) (by rw [Fs];exact eN.nil _ _) ez
      . have s1:((4096:Int) < ((min t.size 4097:Nat):Int))=True:=eq_true (by omega);simp +contextual only [ed,hL,pD,pE,xm,ji,hy,pb,wK,ls,ld,s1,dk,jF,↓al,aE,simprocAttr];exact cO _ _ .bF (by simp only [↓al,bs,simprocAttr]) (by simp only [Fs,↓al,bs,simprocAttr]) (by rw [Fs];exact eN.nil _ _) ez
 . have g0:((i:Int) < ((e6 (g.vars.map Prod.fst)).length:Int))=False:=eq_false (by omega);rw [List.take_of_length_le (by rw [yQ];omega)] at O gI;have bK:=WY U.J.kf eh gI;simp +contextual only [ed,hL,pD,pE,xm,ji,g0,dG.1,dG.2.1,↓al,aE,simprocAttr];exact cO _ _ v (by simp only [↓al,bs,simprocAttr]) (by simp only [bK,↓al,bs,simprocAttr]) (by rw [bK];exact O.jG fun b q=>by unfold eB at q ⊢;omega) eL
theorem aop {B:Nat} {aX h:ai} {g:bp} {E:List (Nat × Nat)} {π:Nat->Nat} {bR:Nat->V} {w:Nat->Nat} {bN:Nat->Int} {ρ:Nat->Nat} {cX:aQ} {r:bd} {Q:dm->bd->ai->Prop}
 (fp:Ext aX h) (su:B=aX.next) (wo:g.N<=1000000) (l2:g.vars.length<=g.N) (U:H6 B h g E π bR w bN ρ cX) (ed:r 8=.map cX)
 (cO:∀(r:bd) (k:ai) (c8:V),r 4=c8->r 5=.int .i64 (jD g E).2->eN k (eB aX.next k.next) (jD g E).1 c8->Ext aX k->Q .ret r k):bo Tryz.prog [.c IF] .normal r h Q:=by
 have gF:=U.J.part;have JN:=fp.next
 have LL:∀g:ai,sZ none g=.val (.map (aj g.next)) (g.new (.mp [] 0)):=fun g=>rfl;unfold IF;have LM:∀{α:Type} (e:α->V) (k:ai),∃bj,k.new (.mp [] 0)=bj/\Ext k bj/\ib e π bj (aj k.next) []/\bj.next=k.next+1:=fun e k=>⟨_,rfl,(Ext.refl k).new _,ib.new e π k,rfl⟩
 obtain ⟨aa,ar,bz,H5,d'⟩:=LM zZ h;obtain ⟨ad,av,ek,h1,eK⟩:=LM Je aa;obtain ⟨aJ,aK,pK,pQ,Cj⟩:=LM V.bool ad;have lg:=H5.ext ek;have AJ:=lg.ext pK;have iI:=h1.ext pK;obtain ⟨bE,bU,Dh,H7⟩:=ic aJ [.map (aj h.next),.map (aj aa.next),.map (aj ad.next)];have n4:=Dh.next
 have lw:=H7.lt;have DT:Ext h bE:=((bz.trans ek).trans pK).trans Dh;have pR:=U.pm.ext DT;have zC:∀i,i<g.N->π i<h.next:=fun i an=>U.pm.gn.lt an
 have lb:lf bE g π bR w bN aJ.next (aj h.next) (aj aa.next) (aj ad.next) [] []:=⟨pR.gn,H7,AJ.ext Dh,iI.ext Dh,pQ.ext Dh,fun q=>by have:=fu q;omega,fun q=>by have:=fu q;omega,fun q=>by have:=fu q;omega,fun i an=>by have:=zC i an;omega,fun i an q=>by have:=U.pm.gn.rn an q;unfold Old at this;rw [cc] at this;omega⟩
 simp +contextual only [ed,LL,ar,av,aK,bU,↓al,aE,simprocAttr];refine cz (aiu (.map cX) ⟨rfl,rfl,rfl⟩ bE) ?_;rintro e7 dn ⟨n,rfl,Yx,u6⟩;simp +contextual only [↓al,aE,simprocAttr];have f':∀s ∈ g.vars.map Prod.fst,0<=s/\s<=1048575:=fun s aR=>by obtain ⟨p,ag,rfl⟩:=List.mem_map.1 aR;obtain ⟨a,b⟩:=p;have ay:=w0 U.W.keys ag;obtain ⟨aN,aP,a',cM⟩:=U.W.hI _ _ ay;have:=(U.W.var b aN aP a').2.2.1;exact ⟨by simp only;omega,U.W.an _ ag⟩
 refine cz (anq Yx (pR.mp.ext u6) U.W.keys (by omega) f') ?_;rintro rq dH ⟨⟨AA,Oj,Yy⟩,xM⟩;have n5:=u6.next
 have n6:=xM.next
 have iQ:=AA.len;have ok:=AA.one;have ny:(e6 (g.vars.map Prod.fst)).length=g.vars.length:=by rw [(uY _).length_eq,List.length_map]
 have Ze:Ext h dH:=(DT.trans u6).trans xM;have tz:=(pR.ext u6).ext xM;have YH:lf dH g π bR w bN aJ.next (aj h.next) (aj aa.next) (aj ad.next) [] []:=⟨tz.gn,(H7.ext u6).ext xM,(lb.ms.ext u6).ext xM,(lb.sl.ext u6).ext xM,(lb.op.ext u6).ext xM,lb.d1,lb.d2,lb.d3,lb.zz,lb.mO⟩
 simp +contextual only [iQ,ok.1,ok.2.1,↓al,aE,simprocAttr];have Kz:cI cX<h.next:=by have:=U.pm.mp.bG;unfold Old at this;exact this
 refine eY (fun r k=>r 8=.map cX/\r 10=.ptr (aj aJ.next) 0/\r 11=rq/\r 65=rq/\r 66=.int .i64 (e6 (g.vars.map Prod.fst)).length/\∃(i:Nat) (ao:Nat->Nat) (md:List (Nat × aL)) (iD:List (Nat × Bool)),r 67=.int .i64 i/\i<=(e6 (g.vars.map Prod.fst)).length/\mo k g π bR ao bN cX/\lf k g π bR ao bN aJ.next (aj h.next) (aj aa.next) (aj ad.next) md iD/\Way ao ρ/\
  r3 g (cB g E) ρ md []/\(∀i,(hU i iD).getD false=decide (i ∈ ([]:List Nat)))/\(∀j ∈ iD.map Prod.fst,j<g.N)/\(∀(a:Nat) (n:Int) (j:Nat),a<i->(keyed g)[a]? =some (n,j)->∃t,(ρ j,t) ∈ md)/\Ext aX k/\Mod (r1 g π (aj h.next) (aj aa.next) (aj ad.next)) dH k) (fun r k=>(e6 (g.vars.map Prod.fst)).length - (r 67).toN) ?_ ?_
 . exact ⟨by simp only [ed,↓al,bs,simprocAttr],by simp only [↓al,bs,simprocAttr],by simp only [↓al,bs,simprocAttr],by simp only [↓al,bs,simprocAttr],by simp only [↓al,bs,simprocAttr],0,w,[],[],by simp only [↓al,bs,simprocAttr]<;>rfl,Nat.zero_le _,tz,YH,U.Dc,⟨fun p ag=>(by cases ag),by simp,fun p ag=>(by cases ag)⟩,fun i=>(by simp [hU]),fun j aU=>(by simp at aU),fun a n j a1=>by omega,fp.trans Ze,Mod.refl _ _⟩
 clear ed;rintro r k ⟨ed,hL,jh,Mv,Mw,i,ao,md,iD,Mx,an,gY,gb,qO,D,kG,nw,fZ,eL,xZ⟩;have Oi:∀b,rq.aM b->¬r1 g π (aj h.next) (aj aa.next) (aj ad.next) b:=fun b q z=>by
  have ae:=Yy b q;rcases z with ⟨a,a1,z⟩ | z | z | z
  . have:=zC a a1;rw [z,cc] at ae;omega
  . rw [z,cc] at ae;omega
  . rw [z,cc] at ae;omega
  . rw [z,cc] at ae;omega
 have tw:fC k 1 rq _ _:=AA.mod xZ Oi;have yQ:(keyed g).length=(e6 (g.vars.map Prod.fst)).length:=by unfold keyed;rw [List.length_map]
 have Su:∀b,r1 g π (aj h.next) (aj aa.next) (aj ad.next) b->aX.next<=cI b:=fun b z=>by
  rcases z with ⟨a,a1,z⟩ | z | z | z
  . have:=U.xe a a1;rw [z,cc];omega
  . rw [z,cc];omega
  . rw [z,cc];omega
  . rw [z,cc];omega
 unfold ID;by_cases aO:i < (e6 (g.vars.map Prod.fst)).length
 . have g0:((i:Int) < ((e6 (g.vars.map Prod.fst)).length:Int))=True:=eq_true (by omega);obtain ⟨j,aN,aP,a',cM,fM,gf⟩:=Ln U.W aO;generalize aV:(e6 (g.vars.map Prod.fst))[i]=n at *;have aU:=hl a';obtain ⟨vF,iZ,K_,Hl⟩:=tw.ct (k:=.i64) aO;have Cm:=Hl.d_ (i:=i) (by rw [FT];exact aO);have yR:(l7 (e6 (g.vars.map Prod.fst)))[i]'(by rw [FT];exact aO)=.int .i64 n:=by rw [<-aV];simp [l7]
   rw [yR,show iZ+i=iZ+i * 1 by omega] at Cm;have hI:=gY.mp.look n .ej false;rw [aP] at hI;simp only [cond_false] at hI;have dk:IntKind.i64.wrap ((i:Int)+1)=((i+1:Nat):Int):=by rw [wrap_i64 (by omega) (by omega)];rfl
   simp +contextual only [ed,hL,Mv,Mw,Mx,jh,g0,K_,Cm,hI,m'.eq,↓al,aE,simprocAttr];refine cz (UL U.W (by omega) U.S U.J U.L (g.N+1) [] j ao md iD k (by simp) aU gb qO (by simp) (fun q aC=>by cases aC) D kG nw) ?_;rintro v bx ⟨M2,⟨rfl,Bp⟩ | ⟨rfl,b0,Ct,L1,t,rX,lj,Yd,FC,sE,sF,afk⟩⟩
   . have aF:=WZ U.J.kf Bp;simp +contextual only [↓al,aE,simprocAttr];exact cO _ _ .bF (by simp only [↓al,bs,simprocAttr]) (by simp only [aF,↓al,bs,simprocAttr]) (by rw [aF];exact eN.nil _ _) (eL.hJ M2 Su)
   . simp +contextual only [ed,hL,Mv,Mw,Mx,jh,dk,↓al,aE,simprocAttr];refine ⟨⟨i+1,b0,Ct,L1,rfl,aO,⟨rX.gn,gY.mp.mod M2 fun z=>?_,gY.s1,gY.s2⟩,rX,lj,Yd,sE,sF,fun a m b a1 e=>?_,eL.hJ M2 Su,xZ.trans M2⟩,by omega⟩
     . rcases z with ⟨a,a1,z⟩ | z | z | z
       . exact gY.s1 a a1 z
       . rw [z,cc] at Kz;omega
       . rw [z,cc] at Kz;omega
       . rw [z,cc] at Kz;omega
     . by_cases c:a<i
       . obtain ⟨u,hu⟩:=fZ a m b c e;exact ⟨u,FC _ hu⟩
       . have:a=i:=by omega
         subst this;rw [gf] at e;cases e;exact ⟨t,afk⟩
 . have g0:((i:Int) < ((e6 (g.vars.map Prod.fst)).length:Int))=False:=eq_false (by omega);have SQ:∀(n:Int) (j:Nat),ff n g.vars=some j->∃t,(ρ j,t) ∈ md:=fun n j ay=>by
    have hm:n ∈ e6 (g.vars.map Prod.fst):=W2.2 (List.mem_map_of_mem (f:=Prod.fst) (Ut ay));obtain ⟨a,a1,e⟩:=List.getElem_of_mem hm;obtain ⟨Cc,aN,aP,a',cM,fM,gf⟩:=Ln U.W a1;rw [e] at aP gf;rw [ay] at aP;cases aP;exact fZ a n j (by omega) gf
   have eh:∀j,j<g.N->∃t,dO g (cB g E) j t:=fun j aU=>by refine dO.all gF U.W (fun a aN e c=>?_) (j+1) j (by omega) aU;obtain ⟨t,aw⟩:=SQ _ _ (U.W.var a aN e c).2.2.2;have Ez:=D.all _ aw;exact ⟨t,Ez.2.2.1.mg gF (U.J.done.2 (U.S.idem a))⟩
   simp +contextual only [ed,hL,Mv,Mw,Mx,jh,g0,↓al,aE,simprocAttr];exact aoq (B:=B) (aX:=aX) (by omega) eL su wo ⟨U.W,U.S,U.J,U.L,qO,U.nO,gY,U.xe,U.zr⟩ gb (by omega) (by rw [cc];omega) (by rw [cc];omega) (by rw [cc];omega) (by omega) tw (fun b a a1 q z=>Oi b q (.inl ⟨a,a1,z⟩)) D eh SQ (by simp only [ed,↓al,bs,simprocAttr]) (by simp only [hL,↓al,bs,simprocAttr]) (by simp only [jh,↓al,bs,simprocAttr]) cO
theorem C9 {a b:List aL} (h:¬(a.length=b.length/\(∀t ∈ a,t.check=0)/\(∀t ∈ b,t.check=0))):qD a b=([],2):=by
 unfold qD
 split
 . rename_i q;exact absurd q h
 . rfl
theorem XF {a b:List aL} (h:a.length=b.length/\(∀t ∈ a,t.check=0)/\(∀t ∈ b,t.check=0)):qD a b=jD (ja (a.zip b) (⟨[],[]⟩,[])).1 (ja (a.zip b) (⟨[],[]⟩,[])).2:=by
 unfold qD
 split
 . rfl
 . rename_i q;exact absurd h q
theorem yc {t:aL} (h:t.check=0):t.lF=true:=WM t (ab4 h).1
theorem aoo (a b:List aL) (a1:ca a<=1000) (ae:ca b<=1000) (hZ gB:V) (h:ai) (kt:cJ Any h 4 (a.map aL.enc) hZ) (hA:cJ Any h 4 (b.map aL.enc) gB):
 db Tryz.prog 13 [hZ,gB] h fun x ab=>(∃c8,x=.tuple [c8,.int .i64 (qD a b).2]/\eN ab (eB h.next ab.next) (qD a b).1 c8)/\Ext h ab:=by
 have d':=kt.len;have eK:=hA.len;rw [List.length_map] at d' eK;have SW:=pz a;have rb:=pz b;have c7:=kt.one;have dq:=hA.one;refine aaJ.z rfl (dB ?_);rw [aaK];by_cases ay:a.length=b.length
 rotate_left
 . have eP:((a.length:Int)=(b.length:Int))=False:=eq_false (by omega);have hu:=C9 (a:=a) (b:=b) fun q=>ay q.1;simp +contextual only [d',eK,eP,c7.1,c7.2.1,dq.1,dq.2.1,hu,↓al,aE,simprocAttr];exact ⟨⟨_,rfl,eN.nil _ _⟩,Ext.refl h⟩
 have eP:((a.length:Int)=(b.length:Int))=True:=eq_true (by omega);obtain ⟨aa,ar,aP,va⟩:=ic h [hZ,gB];have cS:=aP.next
 simp +contextual only [d',eK,eP,c7.1,c7.2.1,c7.2.2,dq.1,dq.2.1,dq.2.2,ar,↓al,aE,simprocAttr];refine cz (aca a b (by omega) (by omega) h.next hZ gB aa va (kt.ext aP) (hA.ext aP)) ?_;rintro xs ad ⟨HU,a'⟩;have cp:=aP.trans a';have l_:=HU.len;have fx:=HU.one;rw [List.length_map] at l_;have hlen:(a++b).length<=2000:=by rw [List.length_append];omega
 have afN:ca (a++b)<=2000:=by rw [xj];omega
 simp +contextual only [l_,fx.1,fx.2.1,↓al,aE,simprocAttr];refine eY (fun r k=>r 0=hZ/\r 1=gB/\r 26=xs/\r 27=.int .i64 (a++b).length/\∃i:Nat,r 28=.int .i64 i/\i<=(a++b).length/\(∀t ∈ (a++b).take i,t.check=0)/\Ext ad k) (fun r k=>(a++b).length - (r 28).toN) ?_ ?_
 . exact ⟨by simp only [↓al,bs,simprocAttr],by simp only [↓al,bs,simprocAttr],by simp only [↓al,bs,simprocAttr],by simp only [↓al,bs,simprocAttr],0,by simp only [↓al,bs,simprocAttr]<;>rfl,Nat.zero_le _,fun t aw=>(by simp at aw),Ext.refl _⟩
 rintro r k ⟨bq,bw,oK,mQ,i,s9,an,iP,eL⟩;unfold IB;by_cases aO:i < (a++b).length
 . have g0:((i:Int) < ((a++b).length:Int))=True:=eq_true (by omega);obtain ⟨lO,off,wl,ct,X,ky,ld⟩:=aL.c6 (HU.ext eL) (k:=.i64) aO;have A8:=ld k (Ext.refl k);have k5:=ky.one;have cr:(a++b)[i].size<=2000:=Nat.le_trans (xk (List.getElem_mem aO)) afN;obtain ⟨bA,e7,bz,Z⟩:=o1 k z4 (gG (a++b)[i] wl);have dk:IntKind.i64.wrap ((i:Int)+1)=((i+1:Nat):Int):=by rw [wrap_i64 (by omega) (by omega)];rfl
   simp +contextual only [bq,bw,oK,mQ,s9,g0,ct,A8,e7,Z.g,k5.1,k5.2.1,↓al,aE,simprocAttr];refine cz (ab3 (a++b)[i] (by omega) _ bA (X.ext bz)) ?_;rintro x bx ⟨rfl,ek⟩;by_cases aD:(a++b)[i].check=0
   . simp +contextual only [bq,bw,oK,mQ,s9,eq_true aD,dk,↓al,aE,simprocAttr];refine ⟨⟨i+1,rfl,aO,fun t aw=>?_,(eL.trans bz).trans ek⟩,by omega⟩;rw [List.take_succ_eq_append_getElem aO] at aw;rcases List.mem_append.1 aw with aw | aw
     . exact iP t aw
     . rw [List.mem_singleton] at aw;rw [aw];exact aD
   . have hu:=C9 (a:=a) (b:=b) fun q=>aD (by
      have:=List.getElem_mem aO;rcases List.mem_append.1 this with z | z
      . exact q.2.1 _ z
      . exact q.2.2 _ z)
     simp +contextual only [bq,bw,oK,mQ,s9,eq_false aD,hu,↓al,aE,simprocAttr];exact ⟨⟨_,rfl,eN.nil _ _⟩,((cp.trans eL).trans bz).trans ek⟩
 have g0:((i:Int) < ((a++b).length:Int))=False:=eq_false (by omega);rw [List.take_of_length_le (by omega)] at iP;have q6:∀t ∈ a,t.check=0:=fun t aw=>iP t (List.mem_append_left _ aw);have q7:∀t ∈ b,t.check=0:=fun t aw=>iP t (List.mem_append_right _ aw);have hu:=XF (a:=a) (b:=b) ⟨ay,q6,q7⟩;have B4:(a.zip b).length=a.length:=by rw [List.length_zip,ay,Nat.min_self]
 have sR:∀p ∈ a.zip b,p.1.lF=true/\p.2.lF=true:=fun p ag=>by obtain ⟨bZ,bX⟩:=p;have:=List.of_mem_zip ag;exact ⟨yc (q6 _ this.1),yc (q7 _ this.2)⟩
 have LL:∀g:ai,sZ none g=.val (.map (aj g.next)) (g.new (.mp [] 0)):=fun g=>rfl;have kc:=cp.trans eL;have mO:=kc.next
 obtain ⟨bA,cX,av,oo,cM,jL,BG,afz⟩:∃(bA:ai) (cX:aQ),k.new (.mp [] 0)=bA/\aj k.next=cX/\Ext k bA/\jm (fun i=>V.ptr (aj i) 0) bA cX ([]:List (Int × Nat))/\h.next<=cI cX/\¬Old h cX:=⟨_,_,rfl,rfl,(Ext.refl k).new _,jm.new _ k,by rw [cc];exact mO,Gn mO⟩
 simp +contextual only [bq,bw,oK,mQ,s9,g0,LL,av,oo,d',c7.1,c7.2.1,↓al,aE,simprocAttr];have ts:cJ (Old h) h 4 (a.map aL.enc) hZ:=kt.rG;have rW:cJ (Old h) h 4 (b.map aL.enc) gB:=hA.rG;refine eY (fun r k=>r 0=hZ/\r 1=gB/\r 8=.map cX/\r 38=.int .i64 a.length/\∃(i:Nat) (G:bp × List (Nat × Nat)) (π:Nat->Nat) (bR:Nat->V) (w:Nat->Nat) (bN:Nat->Int) (ρ:Nat->Nat),r 39=.int .i64 i/\i<=a.length/\G=ja ((a.zip b).take i) (⟨[],[]⟩,[])/\H6 h.next k G.1 G.2 π bR w bN ρ cX/\
  G.1.N<=ca (a.take i)+ca (b.take i)/\mi G.1<=ca (a.take i)+ca (b.take i)/\G.1.vars.length<=G.1.N/\Ext h k) (fun r k=>a.length - (r 39).toN) ?_ ?_
 . refine ⟨by simp only [bq,↓al,bs,simprocAttr],by simp only [bw,↓al,bs,simprocAttr],by simp only [↓al,bs,simprocAttr],by simp only [↓al,bs,simprocAttr],0,(⟨[],[]⟩,[]),fun i=>i,fun _=>.bF,fun i=>i,fun _=>0,fun i=>i,by simp only [↓al,bs,simprocAttr]<;>rfl,Nat.zero_le _,rfl,⟨bp.ee.empty,⟨fun _=>rfl,fun _ h=>h,fun _ _=>rfl,fun a aN e=>(by simp at e)⟩,⟨fun a b e=>e ▸ .refl a,fun p ag=>(by cases ag),fun p ag=>(by cases ag),fun a b aN cm e aa=>(by simp at aa)⟩,fun r aF=>absurd aF (Nat.not_lt_zero _),Way.refl,fun i aN e=>(by simp at e),⟨⟨fun i aN e=>(by simp at e),fun i aN e=>(by simp at e),fun i j an=>absurd an (Nat.not_lt_zero _),fun i j an=>absurd an (Nat.not_lt_zero _)⟩,jL,fun i an=>absurd an (Nat.not_lt_zero _),fun i an=>absurd an (Nat.not_lt_zero _)⟩,fun i an=>absurd an (Nat.not_lt_zero _),BG⟩,?_,?_,Nat.le_refl _,kc.trans cM⟩
   . simp [bp.N]
   . simp [mi]
 clear bq bw oK mQ s9 g0 av cM jL oo eL kc mO bA r;clear k;rintro r k ⟨bq,bw,ed,oL,i,G,π,bR,w,bN,ρ,s',an,kA,U,Z5,apv,AS,eL⟩;unfold IC;by_cases aO:i<a.length
 . have g0:((i:Int) < (a.length:Int))=True:=eq_true (by omega);have nr:i<b.length:=by omega
   have wN:(a.zip b)[i]? =some (a[i],b[i]):=by rw [List.getElem?_zip_eq_some];exact ⟨List.getElem?_eq_getElem aO,List.getElem?_eq_getElem nr⟩
   have K9:(a.zip b).take (i+1)=(a.zip b).take i++[(a[i],b[i])]:=by
    have B2:i < (a.zip b).length:=by omega
    rw [List.take_succ_eq_append_getElem B2];have:=List.getElem?_eq_getElem B2;rw [this] at wN;rw [Option.some.inj wN]
   have E1:ja ((a.zip b).take (i+1)) (⟨[],[]⟩,[])=mT G (a[i],b[i]):=by rw [K9,OV,<-kA]
   have BY:=yc (q6 _ (List.getElem_mem aO));have sN:=yc (q7 _ (List.getElem_mem nr));have alZ:=uO aO;have al0:=uO nr;have al2:=nK a (i+1);have al3:=nK b (i+1);obtain ⟨Pk,Vd,XV,l3,vw,DU,zm⟩:=aL.c6 ts (k:=.i64) aO;obtain ⟨lO,Ve,XW,B7,vx,DV,zn⟩:=aL.c6 rW (k:=.i64) nr;have jy:=DU.one;have dr:=DV.one;have dk:IntKind.i64.wrap ((i:Int)+1)=((i+1:Nat):Int):=by rw [wrap_i64 (by omega) (by omega)];rfl
   have vK:=zm k eL;have dL:=zn k eL;simp +contextual only [bq,bw,ed,oL,s',g0,l3,B7,vK,dL,↓al,aE,simprocAttr];have pf:∀j,j<G.1.N->w j<G.1.N:=fun j aU=>Way.lt U.S U.Dc aU;have zc:∀j,G.1.N<=j->w j=j:=fun j aU=>Way.root U.S U.Dc (U.S.out j aU);have cd:∀b,Old h b->H0 cX b:=fun b q z=>afz (z ▸ q);refine cz (L0 a[i].size a[i] (Nat.le_refl _) (by omega) BY G.1 π bR w bN cX _ k U.W pf zc ((vw.ext eL).jG cd) U.pm) ?_;rintro bz bA ⟨Dk,FZ,Gl,rfl,hk,Oy,m1⟩;obtain ⟨yx,AK,X3,adG⟩:=r8 a[i] G.1 BY U.W;have adU:=yx.n;have ez:Ext h bA:=eL.hJ m1 fun b q=>by rw [show b=cX from q];exact BG
   have I':=zm bA ez;have A7:=zn bA ez;simp +contextual only [I',A7,↓al,aE,simprocAttr];refine cz (L0 b[i].size b[i] (Nat.le_refl _) (by omega) sN (a[i].add G.1).1 Dk FZ w Gl cX _ bA AK (fun j aU=>?_) (fun j aU=>zc j (by omega)) ((vx.ext ez).jG cd) hk) ?_
   . by_cases z:j<G.1.N
     . have:=pf j z;omega
     . rw [zc j (by omega)];exact aU
   rintro ek bx ⟨mj,rp,CB,rfl,fK,AF,m2⟩;obtain ⟨yy,nb,NJ,JG⟩:=r8 b[i] _ sN AK;have JJ:=yy.n;have Yg:Ext h bx:=ez.hJ m2 fun b q=>by rw [show b=cX from q];exact BG
   have vZ:=yx.trans yy;have lg:=U.S.grow vZ;have bS:=(U.J.grow U.S nb vZ).push (a[i].add G.1).2 (b[i].add (a[i].add G.1).1).2;have HZ:=Oy.trans AF m1.next yx yy
   have hA:=mn.grow HZ nb U.S U.L vZ;have aoS:(a[i].add G.1).2 < (b[i].add (a[i].add G.1).1).1.N:=by omega
   have amb:Dk (a[i].add G.1).2=mj (a[i].add G.1).2:=(AF.pi _ X3).symm;have aq4:=No a[i] G.1;have aq5:=No b[i] (a[i].add G.1).1;have wa:=aoQ (g:=(b[i].add (a[i].add G.1).1).1) (ρ:=ρ);have Vx:∀j,j < (b[i].add (a[i].add G.1).1).1.N->h.next<=mj j:=fun j aU=>by
    by_cases z:j<G.1.N
    . rw [HZ.pi j z];exact U.xe j z
    . have:=HZ.Bi j (by omega) aU;have:=eL.next;omega
   simp +contextual only [amb,↓al,aE,simprocAttr];refine cz (aok nb (by omega) fK.gn lg U.Dc hA bS aoS NJ) ?_;rintro v c4 ⟨m3,im,akO,NN,ir,AJ,lj,ui⟩;have kc:Ext h c4:=Yg.hJ m3 fun b ⟨j,aU,q⟩=>by rw [q,cc];exact Vx j aU
   have MT:a[i].nO:=A_ _ _ _ (Nat.le_refl _) vw;have fT:b[i].nO:=A_ _ _ _ (Nat.le_refl _) vx;rcases ui with ⟨rfl,kX⟩ | ⟨rfl,c',HT⟩
   . have aeN:jD (ja (a.zip b) (⟨[],[]⟩,[])).1 (ja (a.zip b) (⟨[],[]⟩,[])).2=([],290):=by
      refine WW ?_;have af':ja (a.zip b) (⟨[],[]⟩,[])=ja ((a.zip b).drop (i+1)) (mT G (a[i],b[i])):=by rw [<-E1,<-Zy,List.take_append_drop]
      rw [af'];obtain ⟨b6,z2,z3⟩:=OU ((a.zip b).drop (i+1)) (mT G (a[i],b[i])) (fun p ag=>sR p (List.mem_of_mem_drop ag)) nb;exact kX.mono b6 z3
     simp +contextual only [bq,bw,ed,oL,s',hu,aeN,vK,dL,I',A7,↓al,aE,simprocAttr];exact ⟨⟨_,rfl,eN.nil _ _⟩,kc⟩
   . simp +contextual only [bq,bw,ed,oL,s',dk,vK,dL,I',A7,↓al,aE,simprocAttr];have J0:(mT G (a[i],b[i])).1.N<=ca (a.take (i+1))+ca (b.take (i+1)):=by show (b[i].add (a[i].add G.1).1).1.N<=_;omega
     have aeE:mi (mT G (a[i],b[i])).1<=ca (a.take (i+1))+ca (b.take (i+1)):=by show mi (b[i].add (a[i].add G.1).1).1<=_;omega
     refine ⟨⟨i+1,mT G (a[i],b[i]),mj,rp,im,akO,NN,rfl,aO,E1.symm,⟨nb,AJ,c',HT,lj,AN _ _ fT (AN _ _ MT U.nO),⟨ir,fK.mp.mod m3 fun ⟨j,aU,q⟩=>fK.s1 j aU q,fK.s1,fK.s2⟩,Vx,BG⟩,J0,aeE,AO _ _ (AO _ _ AS),kc⟩,by omega⟩
 . have g0:((i:Int) < (a.length:Int))=False:=eq_false (by omega);rw [List.take_of_length_le (by omega)] at kA;have bZ:=nK a i;have bX:=nK b i;simp +contextual only [bq,bw,ed,oL,s',g0,↓al,aE,simprocAttr];refine aop (B:=h.next) eL rfl (by omega) AS U (by simp only [ed,↓al,bs,simprocAttr]) fun r k c8 fM gf O E=>?_;rw [kA] at gf O;simp only [fM,gf,hu,↓al,bs,simprocAttr];exact ⟨trivial,⟨c8,rfl,O⟩,E⟩
theorem R6 {size:Nat} {y:V}:∀(us:List (List V)) (i j:Nat) (u:List V),(∀u ∈ us,u.length=size)->us[i]? =some u->j<size->us.flatten.set (i * size+j) y=(us.set i (u.set j y)).flatten
 | [],i,j,u,_,h,_=>by simp at h
 | w::us,0,j,u,ay,h,aU=>by simp only [List.getElem?_cons_zero,Option.some.injEq] at h;subst h;have:=ay w (by simp);rw [Nat.zero_mul,Nat.zero_add,List.flatten_cons,List.set_append_left _ _ (by omega),List.set_cons_zero,List.flatten_cons]
 | w::us,i+1,j,u,ay,h,aU=>by have aa:=ay w (by simp);rw [List.flatten_cons,List.set_append_right _ _ (by rw [aa,Nat.succ_mul];omega),List.set_cons_succ,List.flatten_cons];congr 1;rw [aa,show (i+1) * size+j-size=i * size+j by rw [Nat.succ_mul];omega];exact R6 us i j u (fun u hu=>ay u (by simp [hu])) (by simpa using h) aU
section
variable [Lay]
abbrev mL (aN:dx) (l:V) (w:Nat):List V:=[.int .i64 (if aN.cj=true then 2 else 1),.int .i64 aN.n,.str aN.s,.bF,l,.int .i64 w]
def oJ (g:bp) (bQ:Nat->V) (w:Nat->Nat):List (List V):=g.nodes.mapIdx fun i aN=>mL aN (bQ i) (w i)
def rU (l:List (Int × Nat)):List (List V):=l.map fun p=>[.int .i64 p.1,.int .i64 0,.int .i64 p.2,.str [],.bF]
theorem CC {g:bp} {bQ:Nat->V} {w:Nat->Nat} (i:Nat):(oJ g bQ w)[i]? =g.nodes[i]?.map fun aN=>mL aN (bQ i) (w i):=by unfold oJ;rw [List.getElem?_mapIdx]
theorem LZ (g:bp) (bQ:Nat->V) (w:Nat->Nat):(oJ g bQ w).length=g.N:=by unfold oJ bp.N;rw [List.length_mapIdx]
theorem Gq (g:bp) (bQ:Nat->V) (w:Nat->Nat):∀u ∈ oJ g bQ w,u.length=6:=fun u hu=>by
 obtain ⟨i,an⟩:=List.getElem?_of_mem hu;rw [CC] at an;cases h:g.nodes[i]? with
 | none=>rw [h] at an;cases an
 | some aN=>rw [h] at an;cases an;rfl
theorem XQ (l:List (Int × Nat)):∀u ∈ rU l,u.length=5:=fun u hu=>by unfold rU at hu;obtain ⟨p,_,rfl⟩:=List.mem_map.1 hu;rfl
structure eM (B:Nat) (h:ai) (bO:Nat) (g:bp) (bQ:Nat->V) (w:Nat->Nat) (bad:Bool) (b3 b8:V):Prop where
 aB:Has h bO [b3,b8,.bool bad]
 no:cD B h 6 b3 g.N (oJ g bQ w).flatten
 kb:cD B h 5 b8 g.vars.length (rU g.vars).flatten
 c6:∀(i:Nat) (aN:dx),g.nodes[i]? =some aN->fC h 1 (bQ i) aN.kids.length (l7 (aN.kids.map fun (x:Nat)=>(x:Int)))/\rN (bQ i)/\aN.kids.length<=top
 ly:∀(i:Nat) (b:aQ),i<g.N->(bQ i).aM b->B<=cI b/\¬b3.aM b/\¬b8.aM b/\b≠aj bO
 vX:B<=bO
 rB:¬b3.aM (aj bO)
 tk:¬b8.aM (aj bO)
 uG:∀b,b3.aM b->¬b8.aM b
variable {B:Nat} {h ab:ai} {bO:Nat} {g:bp} {bQ:Nat->V} {w:Nat->Nat} {bad:Bool} {b3 b8:V}
theorem eM.mod {M:aQ->Prop} (H:eM B h bO g bQ w bad b3 b8) (m:Mod M h ab) (aX:¬M (aj bO)) (aa:∀b,b3.aM b->¬M b) (ad:∀b,b8.aM b->¬M b) (aJ:∀i b,i<g.N->(bQ i).aM b->¬M b):eM B ab bO g bQ w bad b3 b8:=
 ⟨H.aB.mod m aX,H.no.mod m aa,H.kb.mod m ad,fun i aN e=>⟨(H.c6 i aN e).1.mod m fun b q=>aJ i b (hl e) q,(H.c6 i aN e).2⟩,H.ly,H.vX,H.rB,H.tk,H.uG⟩
theorem eM.ext (H:eM B h bO g bQ w bad b3 b8) (e:Ext h ab):eM B ab bO g bQ w bad b3 b8:=H.mod (e.mod fun _=>False) (fun q=>q) (fun _ _ q=>q) (fun _ _ q=>q) fun _ _ _ _ q=>q
theorem eM.at (H:eM B h bO g bQ w bad b3 b8) {a:Nat} {aN:dx} (e:g.nodes[a]? =some aN):
 ∃b off,iT 6 b3 (.int .i64 a)=some (.ptr b (off+a * 6))/\b3.at b off/\b3.aM b/\(∀ab:ai,(∀b,b3.aM b->ab.get b=h.get b)->oA 6 (ab.get b) (off+a * 6)=some (.agg (mL aN (bQ a) (w a)))/\hd (ab.get b) (off+a * 6)=some (.int .i64 (if aN.cj=true then 2 else 1))/\
  hd (ab.get b) (off+a * 6+1)=some (.int .i64 aN.n)/\hd (ab.get b) (off+a * 6+2)=some (.str aN.s)/\hd (ab.get b) (off+a * 6+4)=some (bQ a)/\hd (ab.get b) (off+a * 6+5)=some (.int .i64 (w a))):=by
 have a1:=hl e;obtain ⟨b,off,ct,A⟩:=H.no.v.ct (k:=.i64) a1;have vB:=Pd H.no.v a1 ct;have ae:b3.aM b:=by revert vB;cases b3<;>simp only [V.at,V.aM]<;>intro vB<;>first | exact vB.1 | exact vB.elim
 have hu:(oJ g bQ w)[a]? =some (mL aN (bQ a) (w a)):=by rw [CC,e];rfl
 have aA:=tU _ a _ (Gq g bQ w) hu;have jd:=q2 _ (Gq g bQ w);rw [LZ] at jd;have hle:a * 6+6<=g.N * 6:=by have:=Nat.mul_le_mul_right 6 (show a+1<=g.N from a1);rw [Nat.succ_mul] at this;exact this
 have cell:∀j,j<6->hd (h.get b) (off+a * 6+j)=(mL aN (bQ a) (w a))[j]? :=fun j aU=>A.cell aA (by omega) aU;refine ⟨b,off,ct,vB,ae,fun ab bl=>?_⟩;rw [bl b ae];refine ⟨by rw [A.iV (by omega),aA],?_,cell 1 (by omega),cell 2 (by omega),cell 4 (by omega),cell 5 (by omega)⟩;have:=cell 0 (by omega);simpa using this
theorem eM.put (H:eM B h bO g bQ w bad b3 b8) {a:Nat} {aN:dx} (e:g.nodes[a]? =some aN) {b:aQ} {off:Nat} (aa:b3.at b off) (c:Nat):
 ∃ab,oz 1 h b (off+a * 6+5) (.int .i64 c) (h.get b)=some ab/\eM B ab bO g bQ (fun x=>if x=a then c else w x) bad b3 b8/\Mod b3.aM h ab/\ab.next=h.next:=by
 have a1:=hl e;have jd:=q2 _ (Gq g bQ w);rw [LZ] at jd;have hle:a * 6+6<=g.N * 6:=by have:=Nat.mul_le_mul_right 6 (show a+1<=g.N from a1);rw [Nat.succ_mul] at this;exact this
 obtain ⟨k,ar,_,av,aK⟩:=H.no.V5 aa (c:=a * 6+5) (by omega) (y:=.int .i64 c) rfl rfl;have hu:(oJ g bQ w)[a]? =some (mL aN (bQ a) (w a)):=by rw [CC,e];rfl
 rw [R6 _ a 5 _ (Gq g bQ w) hu (by omega)] at av;have m:Mod b3.aM h (h.set b k):=(Mod.refl b3.aM h).set (fun _=>aK) k;have heq:(oJ g bQ w).set a ((mL aN (bQ a) (w a)).set 5 (.int .i64 c))=oJ g bQ (fun x=>if x=a then c else w x):=by
  refine List.ext_getElem? fun i=>?_;rw [CC,List.getElem?_set];by_cases z:a=i
  . subst z;rw [if_pos rfl,if_pos (by rw [LZ];exact a1),e];simp
  . rw [if_neg z,CC,if_neg (fun q=>z q.symm)]
 rw [heq] at av;refine ⟨h.set b k,by rw [Nat.add_assoc];exact ar,⟨H.aB.mod m H.rB,av,H.kb.mod m fun x q z=>H.uG x z q,fun i aN e=>⟨(H.c6 i aN e).1.mod m fun x q z=>(H.ly i x (hl e) q).2.1 z,(H.c6 i aN e).2⟩,H.ly,H.vX,H.rB,H.tk,H.uG⟩,m,rfl⟩
end
theorem xq {B:Nat} {h:ai} {bO:Nat} {g:bp} {bQ:Nat->V} {w:Nat->Nat} {bad:Bool} {b3 b8:V} {ρ:Nat->Nat} (H:eM B h bO g bQ w bad b3 b8) (S:eU g ρ) (e2:Way w ρ) {a:Nat} (a1:a<g.N):
 db Tryz.prog 82 [.ptr (aj bO) 0,.int .i64 a] h fun x ab=>x=.int .i64 (ρ a)/\ab=h:=by
 obtain ⟨eR,R⟩:=e2;have on:=H.no.v.one;refine abv.z rfl (dB ?_);unfold QM;simp +contextual only [↓al,aE,simprocAttr];refine eY (fun r k=>k=h/\r 0=.ptr (aj bO) 0/\∃b:Nat,b<g.N/\r 1=.int .i64 b/\ρ b=ρ a) (fun r _=>eR (r 1).toN) ?_ ?_
 . exact ⟨rfl,by simp only [↓al,bs,simprocAttr],a,a1,by simp only [↓al,bs,simprocAttr],rfl⟩
 rintro r k ⟨rfl,bq,b,ae,bw,e⟩;obtain ⟨cd,EA⟩:=hT ae;obtain ⟨lO,off,ct,_,_,ld⟩:=H.at EA;obtain ⟨_,_,_,_,_,Ls⟩:=ld k fun _ _=>rfl;unfold QN;by_cases q:w b=b
 . have Jo:ρ a=b:=by rw [<-e];exact Way.end ⟨eR,R⟩ q
   rw [q] at Ls;simp +contextual only [bq,bw,H.aB.g,ct,Ls,on.1,on.2.1,decide_true,↓al,aE,simprocAttr];rw [Jo]
 . have ec:((w b:Int)=(b:Int))=False:=eq_false (by omega);have hw:=Way.lt S ⟨eR,R⟩ ae;simp +contextual only [bq,bw,H.aB.g,ct,Ls,ec,on.1,on.2.1,↓al,aE,simprocAttr];refine ⟨⟨w b,hw,rfl,(Way.step ⟨eR,R⟩ b).trans e⟩,?_⟩;simp only [Int.toNat_natCast];rcases R b with z | ⟨_,z,_⟩
   . exact (q z.1).elim
   . exact z
theorem akW (g:bp) (bQ:Nat->V) (w:Nat->Nat) (aN:dx) (l:V):oJ ⟨g.nodes++[aN],g.vars⟩ (e0 bQ g.N l) w=oJ g bQ w++[mL aN l (w g.N)]:=by
 unfold oJ;show (g.nodes++[aN]).mapIdx _=_;rw [List.mapIdx_append];congr 1
 . refine List.ext_getElem? fun i=>?_;rw [List.getElem?_mapIdx,List.getElem?_mapIdx];cases e:g.nodes[i]? with
   | none=>rfl
   | some x=>
     have:=(List.getElem?_eq_some_iff.1 e).1;simp only [Option.map_some];rw [eF _ _ (by unfold bp.N;omega)]
 . simp only [List.mapIdx_cons,List.mapIdx_nil,Nat.zero_add];rw [show g.nodes.length=g.N from rfl,fz]
theorem aow (l:List (Int × Nat)) (p:Int × Nat):(rU (l++[p])).flatten=(rU l).flatten++[.int .i64 p.1,.int .i64 0,.int .i64 p.2,.str [],.bF]:=by unfold rU;simp
section
variable [Lay]
variable {B:Nat} {h ab:ai} {bO:Nat} {g:bp} {bQ:Nat->V} {w:Nat->Nat} {bad:Bool} {b3 b8:V}
theorem eM.push (H:eM B h bO g bQ w bad b3 b8) (c_:B<=h.next) (bJ:(g.N+1) * 6<=top) (aN:dx) (l:V) (bB:l.one=true) (aH:fC h 1 l aN.kids.length (l7 (aN.kids.map fun (x:Nat)=>(x:Int)))) (aF:rN l) (ay:aN.kids.length<=top) (ae:∀b,l.aM b->B<=cI b/\¬b3.aM b/\¬b8.aM b/\b≠aj bO):
 ∃gA ab,iK 6 b3 (.slice (aj h.next) 0 1 1) (h.new (.bC (mL aN l (w g.N)) 0 false))=.val gA ab/\gA.one=true/\gA.cells=[gA]/\Has ab bO [b3,b8,.bool bad]/\Mod b3.aM h ab/\h.next+1<=ab.next/\
  eM B (ab.set (aj bO) (.bC [gA,b8,.bool bad] 0 false)) bO ⟨g.nodes++[aN],g.vars⟩ (e0 bQ g.N l) w bad gA b8/\Mod (fun b=>b=aj bO\/b3.aM b) h (ab.set (aj bO) (.bC [gA,b8,.bool bad] 0 false))/\(∀b,gA.aM b->b3.aM b\/h.next<cI b):=by
 obtain ⟨gA,ab,bZ,bX,b_,gV,jg⟩:=pS (cs:=mL aN l (w g.N)) (by omega) H.no c_ bJ rfl (by simp only [ev,Bool.and_true,bB];rfl);have dG:=bX.v.one;have m1:Mod (fun b=>b=aj bO\/b3.aM b) h ab:=b_.mono fun b _ q=>.inr q;have m2:Mod (fun b=>b=aj bO\/b3.aM b) h (ab.set (aj bO) (.bC [gA,b8,.bool bad] 0 false)):=m1.set (fun _=>.inl rfl) _;have m3:Mod (fun b=>b=aj bO) ab (ab.set (aj bO) (.bC [gA,b8,.bool bad] 0 false)):=(Mod.refl (fun b=>b=aj bO) ab).set (fun _=>rfl) _;have lW:=H.aB.lt;have fresh:∀b,Old h b->¬b3.aM b->¬gA.aM b:=fun b a6 aV q=>by
  rcases jg b q with q | q
  . exact aV q
  . unfold Old at a6;omega
 have UW:¬gA.aM (aj bO):=fresh _ (gi lW) H.rB;have Lr:∀i b,i<g.N->(bQ i).aM b->Old h b:=fun i b an q=>by obtain ⟨x,e⟩:=hT an;exact (H.c6 i x e).1.bG q
 refine ⟨gA,ab,bZ,dG.1,dG.2.1,H.aB.mod b_ H.rB,b_,gV,⟨?_,?_,?_,?_,?_,H.vX,UW,H.tk,?_⟩,m2,jg⟩
 . exact (H.aB.mod b_ H.rB).put _
 . rw [akW,List.flatten_append,List.flatten_singleton];have:(⟨g.nodes++[aN],g.vars⟩:bp).N=g.N+1:=by simp [bp.N]
   rw [this];exact bX.mod m3 fun b q z=>UW (by rw [<-show b=aj bO from z];exact q)
 . exact H.kb.mod m2 fun b q z=>by
    rcases z with z | z
    . exact H.tk (by rw [<-z];exact q)
    . exact H.uG b z q
 . intro i x e;rcases oe e with e | ⟨c0,rfl⟩
   . rw [eF _ _ (by have:=hl e;omega)];refine ⟨(H.c6 i x e).1.mod m2 fun b q z=>?_,(H.c6 i x e).2⟩;obtain ⟨_,bx,_,dp⟩:=H.ly i b (hl e) q;rcases z with z | z
     . exact dp z
     . exact bx z
   . rw [show i=g.N from c0,fz];refine ⟨aH.mod m2 fun b q z=>?_,aF,ay⟩;obtain ⟨_,bx,_,dp⟩:=ae b q;rcases z with z | z
     . exact dp z
     . exact bx z
 . intro i b an q;have hE:i<g.N+1:=by simpa [bp.N] using an
   by_cases z:i=g.N
   . rw [z,fz] at q;obtain ⟨bA,bx,c4,dp⟩:=ae b q;exact ⟨bA,fresh b (aH.bG q) bx,c4,dp⟩
   . rw [eF _ _ z] at q;obtain ⟨bA,bx,c4,dp⟩:=H.ly i b (by omega) q;exact ⟨bA,fresh b (Lr i b (by omega) q) bx,c4,dp⟩
 . intro b q z;exact fresh b (H.kb.v.bG z) (fun y=>H.uG b y z) q
theorem eM.al9 (H:eM B h bO g bQ w bad b3 b8) (c_:B<=h.next) (bJ:(g.vars.length+1) * 5<=top) (n:Int) (i:Nat):
 ∃gp ab,iK 5 b8 (.slice (aj h.next) 0 1 1) (h.new (.bC [.int .i64 n,.int .i64 0,.int .i64 i,.str [],.bF] 0 false))=.val gp ab/\gp.one=true/\gp.cells=[gp]/\Has ab bO [b3,b8,.bool bad]/\Mod b8.aM h ab/\h.next+1<=ab.next/\
  eM B (ab.set (aj bO) (.bC [b3,gp,.bool bad] 0 false)) bO ⟨g.nodes,g.vars++[(n,i)]⟩ bQ w bad b3 gp/\Mod (fun b=>b=aj bO\/b8.aM b) h (ab.set (aj bO) (.bC [b3,gp,.bool bad] 0 false))/\(∀b,gp.aM b->b8.aM b\/h.next<cI b):=by
 obtain ⟨gp,ab,bZ,bX,b_,gV,jg⟩:=pS (cs:=[.int .i64 n,.int .i64 0,.int .i64 i,.str [],.bF]) (by omega) H.kb c_ bJ rfl rfl;have dG:=bX.v.one;have m1:Mod (fun b=>b=aj bO\/b8.aM b) h ab:=b_.mono fun b _ q=>.inr q;have m2:Mod (fun b=>b=aj bO\/b8.aM b) h (ab.set (aj bO) (.bC [b3,gp,.bool bad] 0 false)):=m1.set (fun _=>.inl rfl) _;have m3:Mod (fun b=>b=aj bO) ab (ab.set (aj bO) (.bC [b3,gp,.bool bad] 0 false)):=(Mod.refl (fun b=>b=aj bO) ab).set (fun _=>rfl) _;have lW:=H.aB.lt;have fresh:∀b,Old h b->¬b8.aM b->¬gp.aM b:=fun b a6 aV q=>by
  rcases jg b q with q | q
  . exact aV q
  . unfold Old at a6;omega
 have XM:¬gp.aM (aj bO):=fresh _ (gi lW) H.tk;have Lr:∀i b,i<g.N->(bQ i).aM b->Old h b:=fun i b an q=>by obtain ⟨x,e⟩:=hT an;exact (H.c6 i x e).1.bG q
 refine ⟨gp,ab,bZ,dG.1,dG.2.1,H.aB.mod b_ H.tk,b_,gV,⟨?_,?_,?_,?_,?_,H.vX,H.rB,XM,?_⟩,m2,jg⟩
 . exact (H.aB.mod b_ H.tk).put _
 . exact H.no.mod m2 fun b q z=>by
    rcases z with z | z
    . exact H.rB (by rw [<-z];exact q)
    . exact H.uG b q z
 . rw [aow,List.length_append];exact bX.mod m3 fun b q z=>XM (by rw [<-show b=aj bO from z];exact q)
 . intro j x e;refine ⟨(H.c6 j x e).1.mod m2 fun b q z=>?_,(H.c6 j x e).2⟩;obtain ⟨_,_,c4,dp⟩:=H.ly j b (hl e) q;rcases z with z | z
   . exact dp z
   . exact c4 z
 . intro j b an q;obtain ⟨bA,bx,c4,dp⟩:=H.ly j b an q;exact ⟨bA,bx,fresh b (Lr j b an q) c4,dp⟩
 . intro b q z;exact fresh b (H.no.v.bG q) (H.uG b q) z
end
structure oU (g cH:bp) (bQ lB:Nat->V) (b3 gA b8 gp:V) (B:Nat):Prop where
 bQ:∀i,i<g.N->lB i=bQ i
 ss:∀(i:Nat) (b:aQ),g.N<=i->i<cH.N->(lB i).aM b->B<=cI b
 cd:∀b,gA.aM b->b3.aM b\/B<=cI b
 gB:∀b,gp.aM b->b8.aM b\/B<=cI b
theorem oU.refl (g:bp) (bQ:Nat->V) (b3 b8:V) (B:Nat):oU g g bQ bQ b3 b3 b8 b8 B:=⟨fun _ _=>rfl,fun i b h ab=>by omega,fun _ q=>.inl q,fun _ q=>.inl q⟩
theorem oU.trans {g g1 g2:bp} {bQ F_ w4:Nat->V} {b3 Gr rD b8 Hf xH:V} {B va:Nat} (a:oU g g1 bQ F_ b3 Gr b8 Hf B) (b:oU g1 g2 F_ w4 Gr rD Hf xH va) (c_:B<=va) (aa:g.le g1):oU g g2 bQ w4 b3 rD b8 xH B:=by
 have cS:=aa.n;refine ⟨fun i an=>(b.bQ i (by omega)).trans (a.bQ i an),fun i c an hE q=>?_,fun c q=>?_,fun c q=>?_⟩
 . by_cases z:i<g1.N
   . rw [b.bQ i z] at q;exact a.ss i c an z q
   . have:=b.ss i c (by omega) hE q;omega
 . rcases b.cd c q with q | q
   . exact a.cd c q
   . exact .inr (by omega)
 . rcases b.gB c q with q | q
   . exact a.gB c q
   . exact .inr (by omega)
theorem aj' {n:Int}:∀(l:List (Int × Nat)) (i:Nat) (p:Int × Nat),(l.map Prod.fst).Nodup->l[i]? =some p->p.1=n->ff n l=some p.2
 | [],i,p,_,h,_=>by simp at h
 | q::l,0,p,aV,h,e=>by simp only [List.getElem?_cons_zero,Option.some.injEq] at h;subst h;obtain ⟨a,b⟩:=q;simp only [ff,show a=n from e,if_true]
 | q::l,i+1,p,aV,h,e=>w0 aV (by have:p ∈ q::l:=List.mem_of_getElem? h;obtain ⟨a,b⟩:=p;cases e;exact this)
theorem Uw {n:Int}:∀(l:List (Int × Nat)),(∀(i:Nat) (p:Int × Nat),l[i]? =some p->p.1≠n)->ff n l=none
 | [],_=>rfl
 | (a,b)::l,h=>by simp only [ff];rw [if_neg (show ¬n=a from fun q=>h 0 _ rfl q.symm)];exact Uw l fun i p e=>h (i+1) p (by simpa using e)
theorem aov {l:List (Int × Nat)} {i:Nat} {p:Int × Nat} (e:l[i]? =some p):(rU l)[i]? =some [.int .i64 p.1,.int .i64 0,.int .i64 p.2,.str [],.bF]:=by unfold rU;rw [List.getElem?_map,e];rfl
theorem eM.Nw [Lay] {B:Nat} {h:ai} {bO:Nat} {g:bp} {bQ:Nat->V} {w:Nat->Nat} {bad:Bool} {b3 b8:V} (H:eM B h bO g bQ w bad b3 b8) {a:Nat} {p:Int × Nat} (e:g.vars[a]? =some p):
 ∃b off,iT 5 b8 (.int .i64 a)=some (.ptr b (off+a * 5))/\b8.aM b/\(∀ab:ai,(∀b,b8.aM b->ab.get b=h.get b)->hd (ab.get b) (off+a * 5)=some (.int .i64 p.1)/\hd (ab.get b) (off+a * 5+1+1)=some (.int .i64 p.2)):=by
 have a1:=(List.getElem?_eq_some_iff.1 e).1;obtain ⟨b,off,ct,A,ae⟩:=H.kb.v.ov (k:=.i64) a1;have aA:=tU _ a _ (XQ g.vars) (aov e);have jd:=q2 _ (XQ g.vars);rw [show (rU g.vars).length=g.vars.length by simp [rU]] at jd;refine ⟨b,off,ct,ae,fun ab bl=>?_⟩;rw [bl b ae];have tH:=A.cell (j:=0) aA (by omega) (by omega);exact ⟨by simpa using tH,A.cell (j:=2) aA (by omega) (by omega)⟩
theorem amU {B:Nat} {h:ai} {bO:Nat} {g:bp} {bQ:Nat->V} {w:Nat->Nat} {bad:Bool} {b3 b8:V} (H:eM B h bO g bQ w bad b3 b8) (W:g.ee) (c_:B<=h.next) (bJ:g.N+1<=100000000) (E5:g.vars.length+1<=100000000) (hw:w g.N=g.N) (n:Int):
 db Tryz.prog 103 [.ptr (aj bO) 0,.int .i64 n] h fun x ab=>∃lB gA gp,x=.int .i64 (g.var n).2/\eM B ab bO (g.var n).1 lB w bad gA gp/\oU g (g.var n).1 bQ lB b3 gA b8 gp h.next/\Mod (fun b=>b=aj bO\/b3.aM b\/b8.aM b) h ab:=by
 have on:=H.no.v.one;have dG:=H.kb.v.one;refine aau.z rfl (dB ?_);unfold PD;simp +contextual only [↓al,aE,simprocAttr];refine eY (fun r k=>k=h/\r 0=.ptr (aj bO) 0/\r 1=.int .i64 n/\∃i:Nat,i<=g.vars.length/\r 5=.int .i64 i/\∀(j:Nat) (p:Int × Nat),j<i->g.vars[j]? =some p->p.1≠n) (fun r _=>g.vars.length - (r 5).toN) ?_ ?_
 . exact ⟨rfl,by simp only [↓al,bs,simprocAttr],by simp only [↓al,bs,simprocAttr],0,by omega,by simp only [↓al,bs,simprocAttr]<;>rfl,fun j p aU=>by omega⟩
 rintro r k ⟨rfl,bq,bw,i,an,dv,aU⟩;unfold PE;have LD:=H.kb.v.len;by_cases q:i<g.vars.length
 . have g0:((i:Int) < (g.vars.length:Int))=True:=eq_true (by omega);have e:=List.getElem?_eq_getElem (l:=g.vars) (i:=i) q;obtain ⟨b,off,ct,ae,ld⟩:=H.Nw e;obtain ⟨qk,eK⟩:=ld k fun _ _=>rfl;by_cases c:g.vars[i].1=n
   . have hI:=aj' g.vars i _ W.keys e c;have bh:g.var n=(g,g.vars[i].2):=by unfold bp.var;rw [hI]
     simp +contextual only [bq,bw,dv,H.aB.g,LD,g0,ct,qk,eK,eq_true c,dG.1,dG.2.1,↓al,aE,simprocAttr];rw [bh];exact ⟨bQ,b3,b8,rfl,H,oU.refl _ _ _ _ _,Mod.refl _ _⟩
   . have dk:=jj q (by omega);simp +contextual only [bq,bw,dv,H.aB.g,LD,g0,ct,qk,eK,eq_false c,dk,dG.1,dG.2.1,↓al,aE,simprocAttr];refine ⟨⟨i+1,q,rfl,fun j p sA cZ=>?_⟩,by omega⟩;by_cases z:j=i
     . subst z;rw [e] at cZ;cases cZ;exact c
     . exact aU j p (by omega) cZ
 . have g0:((i:Int) < (g.vars.length:Int))=False:=eq_false (by omega);have hI:=Uw g.vars fun j p e=>aU j p (by have:=(List.getElem?_eq_some_iff.1 e).1;omega) e;have bh:g.var n=(⟨g.nodes++[⟨false,n,[],[]⟩],g.vars++[(n,g.nodes.length)]⟩,g.nodes.length):=by unfold bp.var;rw [hI]
   obtain ⟨gA,ad,ar,av,GM,aK,bU,dV,h1,m2,f2⟩:=H.push c_ (by unfold top;omega) ⟨false,n,[],[]⟩ .bF rfl ⟨rfl,rfl⟩ (fun b o l c e=>by cases e) (Nat.zero_le _) (fun b q=>q.elim);have pb:=m2.next
   have tY:B<=(ad.set (aj bO) (.bC [gA,b8,.bool bad] 0 false)).next:=by omega
   obtain ⟨gp,aJ,bZ,bX,L',b_,gV,jg,iI,m3,f3⟩:=h1.al9 tY (by show (g.vars.length+1) * 5<=top;unfold top;omega) n g.N;have j2:=H.no.v.len;rw [lC] at bZ;rw [hw] at ar;rw [show mL ⟨false,n,[],[]⟩ .bF g.N=[.int .i64 1,.int .i64 n,.str [],.bF,.bF,.int .i64 g.N] from rfl] at ar;have wm:=h1.aB.g;simp +contextual only [bq,bw,dv,H.aB.g,LD,g0,j2,ar,aK.g,av,GM,wm,bZ,b_.g,bX,L',on.1,on.2.1,dG.1,dG.2.1,↓al,aE,simprocAttr];rw [bh];refine ⟨e0 bQ g.N .bF,gA,gp,rfl,iI,⟨fun i an=>eF _ _ (by omega),fun i b an hE q=>?_,fun b q=>?_,fun b q=>?_⟩,?_⟩
   . have hE:i<g.N+1:=by simpa [bp.N] using hE
     rw [show i=g.N by omega,fz] at q;exact q.elim
   . rcases f2 b q with q | q
     . exact .inl q
     . exact .inr (by omega)
   . rcases f3 b q with q | q
     . exact .inl q
     . exact .inr (by omega)
   . refine (m2.mono fun b _ q=>?_).trans (m3.mono fun b _ q=>?_)
     . rcases q with q | q
       . exact .inl q
       . exact .inr (.inl q)
     . rcases q with q | q
       . exact .inl q
       . exact .inr (.inr q)
end
end Go.Proofs.YthemdhlheglhoaaGreatDoor
