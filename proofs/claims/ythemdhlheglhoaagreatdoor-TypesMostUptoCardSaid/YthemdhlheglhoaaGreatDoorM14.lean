/- The chapter's functions, walked by the abstract machine: plain lemmas, no condition. Printed by a program from longer texts: names made short. -/
import Derived.Test.YthemdhlheglhoaaGreatDoorM12
import Derived.Test.YthemdhlheglhoaaGreatDoorM13
import Derived.Test.YthemdhlheglhoaaGreatDoorM11
import Derived.Test.YthemdhlheglhoaaGreatDoorM4
set_option linter.unusedSectionVars false
set_option linter.unusedSimpArgs false
set_option linter.unusedVariables false
set_option maxHeartbeats 64000000
noncomputable section
namespace Go.Proofs.YthemdhlheglhoaaGreatDoor
section
open Go aY
section
variable [Lay]
inductive e4 (h:ah):(aO->Prop)->List an->V->Prop
 | mk {S:aO->Prop} {l:List an} {v:V} (us:List (List V)) (ws:Nat->V) (hd:Nat->aO->Prop) (o:dW 0 h 4 v l.length us.flatten) (hu:us.length=l.length) (aQ:l.length<=top)
    (cells:∀(i:Nat) (t:an),l[i]? =some t->us[i]? =some [.int .i64 t.k,.int .i64 t.n,.str t.s,ws i]/\t.s.length<=top)
    (kids:∀(i:Nat) (t:an),l[i]? =some t->e4 h (hd i) t.l (ws i)) (ba:∀b,v.aW b->S b) (cY:∀(i:Nat) (b:aO),i<l.length->hd i b->S b/\¬v.aW b)
    (apart:∀(i j:Nat) (b:aO),i<l.length->j<l.length->i≠j->hd i b->¬hd j b):e4 h S l v
variable {h ab:ah} {S:aO->Prop} {l:List an} {v:V}
theorem e4.nil (h:ah) (S:aO->Prop):e4 h S [] .bU:=
 .mk [] (fun _=>.bU) (fun _ _=>False) ⟨by simp,rfl⟩ rfl (Nat.zero_le _) (fun i t q=>by simp at q) (fun i t q=>by simp at q) (fun b q=>q.elim) (fun i b q=>absurd q (Nat.not_lt_zero _)) (fun i j b q=>absurd q (Nat.not_lt_zero _))
theorem e4.mod {M:aO->Prop} (H:e4 h S l v) (m:Mod M h ab) (c6:∀b,S b->¬M b):e4 ab S l v:=by
 induction H with
 | mk us ws hd o hu aQ cells kids ba cY apart bd=>
   exact .mk us ws hd (o.mod m fun b q=>c6 b (ba b q)) hu aQ cells (fun i t q=>bd i t q fun b z=>c6 b (cY i b (by obtain ⟨ao,_⟩:=List.getElem?_eq_some_iff.1 q;exact ao) z).1) ba cY apart
theorem e4.ext (H:e4 h S l v) (e:Ext h ab):e4 ab S l v:=by
 induction H with
 | mk us ws hd o hu aQ cells kids ba cY apart bd=>exact .mk us ws hd (o.ext e) hu aQ cells bd ba cY apart
theorem e4.hJ {gd:aO->Prop} (H:e4 h S l v) (w:∀b,S b->gd b):e4 h gd l v:=by
 cases H with
 | mk us ws hd o hu aQ cells kids ba cY apart=>exact .mk us ws hd o hu aQ cells kids (fun b q=>w b (ba b q)) (fun i b q z=>⟨w b (cY i b q z).1,(cY i b q z).2⟩) apart
theorem e4.fo {F:aO->Prop} (H:e4 h S l v) (w:∀b,S b->F b):dj F h 4 (l.map an.enc) v:=by
 induction H with
 | mk us ws hd o hu aQ cells kids ba cY apart bd=>
   refine ⟨o.room,by rw [List.length_map];exact aQ,⟨us,by rw [List.length_map];exact o.v,by rw [List.length_map];exact hu,fun u q=>?_,fun i e u ao ax=>?_⟩,fun b q=>w b (ba b q)⟩
   . obtain ⟨i,aq,rfl⟩:=List.getElem_of_mem q;have:=(cells i _ (List.getElem?_eq_getElem (by omega))).1;rw [List.getElem?_eq_getElem aq] at this;rw [Option.some.inj this];rfl
   . rw [List.getElem?_map] at ao;cases au:(_:List an)[i]? with
     | none=>rw [au] at ao;cases ao
     | some t=>
       rw [au] at ao;simp only [Option.map_some,Option.some.injEq] at ao;subst ao;obtain ⟨bS,bX⟩:=cells i t au;rw [bS] at ax;cases ax;rw [zC];have aq:i<_:=(List.getElem?_eq_some_iff.1 au).1;exact .i (.i (.s bX ((bd i t au fun b z=>w b (cY i b aq z).1).cons .nil)))
theorem e4.one (H:e4 h S l v):v.one=true/\v.cells=[v]/\v.fI=true:=by
 cases H with
 | mk us ws hd o hu aQ cells kids ba cY apart=>exact o.v.one
theorem e4.ba (H:e4 h S l v):∀b,v.aW b->S b:=by
 cases H with
 | mk us ws hd o hu aQ cells kids ba cY apart=>exact ba
theorem e4.add {T:aO->Prop} {t:an} {u:V} (H:e4 h S l v) (E:e4 h T t.l u) (se:∀b,S b->¬T b) (nR:∀b,S b->Old h b) (tP:∀b,T b->Old h b) (hlen:(l.length+1) * 4<=top) (aM:t.s.length<=top):
 ∃c1 ab,lr 4 v (.slice (aj h.next) 0 1 1) (h.new (.bx [.int .i64 t.k,.int .i64 t.n,.str t.s,u] 0 false))=.val c1 ab/\e4 ab (fun b=>S b\/T b\/(h.next<=dr b/\dr b<ab.next)) (l++[t]) c1/\Mod v.aW h ab/\h.next+1<=ab.next:=by
 have hX:=E.one;cases H with
 | mk us ws hd o hu aQ cells kids ba cY apart=>
   obtain ⟨c1,ab,ao,ax,aL,bY,ee⟩:=vo (cs:=[.int .i64 t.k,.int .i64 t.n,.str t.s,u]) (by omega) o (Nat.zero_le _) hlen rfl (by simp only [fJ,L_,Ma,hX.1,Bool.and_self,Bool.and_true]);have p2:∀b,c1.aW b->¬v.aW b->¬Old h b:=fun b z z2=>by
    rcases ee b z with z | z
    . exact absurd z z2
    . unfold Old;omega
   have snoc:∀(i:Nat) (s:an),(l++[t])[i]? =some s->(i<l.length/\l[i]? =some s)\/(i=l.length/\s=t):=fun i s q=>A' q;refine ⟨c1,ab,ao,.mk (us++[[.int .i64 t.k,.int .i64 t.n,.str t.s,u]]) (fun i=>if i<l.length then ws i else u) (fun i=>if i<l.length then hd i else T) ?_ (by simp [hu]) (by rw [List.length_append,List.length_singleton];omega) (fun i s q=>?_) (fun i s q=>?_) (fun b z=>?_) (fun i b aq z=>?_) (fun i j b aq a6 mO z=>?_),aL,bY⟩
   . rw [List.length_append,List.length_singleton,List.flatten_append];simpa using ax
   . rcases snoc i s q with ⟨aa,ad⟩ | ⟨aa,rfl⟩
     . rw [if_pos aa,List.getElem?_append_left (by omega)];exact cells i s ad
     . subst aa;rw [if_neg (by omega),List.getElem?_append_right (by omega),hu,Nat.sub_self];exact ⟨rfl,aM⟩
   . rcases snoc i s q with ⟨aa,ad⟩ | ⟨aa,rfl⟩
     . simp only [if_pos aa];exact (kids i s ad).mod aL fun b z=>(cY i b aa z).2
     . subst aa;simp only [Nat.lt_irrefl,if_false];exact E.mod aL fun b z z2=>se b (ba b z2) z
   . have aX:=ax.v.bP z;rcases ee b z with z | z
     . exact .inl (ba b z)
     . exact .inr (.inr (by unfold Old at aX;omega))
   . by_cases aa:i<l.length
     . rw [if_pos aa] at z;obtain ⟨a,c⟩:=cY i b aa z;exact ⟨.inl a,fun z2=>p2 b z2 c (nR b a)⟩
     . rw [if_neg aa] at z;exact ⟨.inr (.inl z),fun z2=>p2 b z2 (fun z3=>se b (ba b z3) z) (tP b z)⟩
   . rw [List.length_append,List.length_singleton] at aq a6;by_cases aa:i<l.length
     . rw [if_pos aa] at z;by_cases ad:j<l.length
       . rw [if_pos ad];exact apart i j b aa ad mO z
       . rw [if_neg ad];exact se b (cY i b aa z).1
     . rw [if_neg aa] at z;rw [if_pos (by omega)];exact fun z2=>se b (cY j b (by omega) z2).1 z
end
def dm (a b:Nat) (p:aO):Prop:=a<=dr p/\dr p<b
section
variable [Lay]
end
theorem ao4 {P:Program} {cT:List V} {b:aO} {d:Option Nat} {os:List bG} {D:Option iG} {aI:List hL} {r:bc} {h:ah} {Q:db->bc->ah->Prop} {K:V->ah->Prop}
 (c:DA P cT b h K) (H:∀v ab,K v ab->bl P (.os (jg D r h v) os::aI) .normal (r.set d v) ab Q):CW P (cT++[.ptr b 0]) d D os aI r h Q:=by
 obtain ⟨v,ab,q,k⟩:=c;exact ⟨cT,b,rfl,v,ab,q,H v ab k⟩
abbrev Grow (X h1:aO->Prop) (h:ah):Prop:=∀b,h1 b->X b\/h.next<=dr b
theorem EJ {X h1:aO->Prop} {h:ah} {n:Nat} (cp:Grow X h1 h) (aQ:n<h.next) (a8:¬X (aj n)):¬h1 (aj n):=fun q=>by
 rcases cp _ q with q | q
 . exact a8 q
 . rw [cm] at q;omega
theorem ako {X h1:aO->Prop} {h ab l_:ah} (a:Mod X h ab) (c:Mod h1 ab l_) (g:Grow X h1 h):Mod X h l_:=
 ⟨Nat.le_trans a.next c.next,fun b ae q=>(c.get b (a.bP ae) fun z=>by
   rcases g b z with z | z
   . exact q z
   . unfold Old at ae;omega).trans (a.get b ae q)⟩
abbrev Inv:=List (Nat × an)->(aO->Prop)->ah->Prop
structure C7 (jm:Nat) (kn:aO) (I J:Inv):Prop where
 ext:∀{d:List (Nat × an)} {X:aO->Prop} {h ab:ah},I d X h->Ext h ab->I d X ab
 Jy:∀{d:List (Nat × an)} {X:aO->Prop} {h:ah} (k:Nat) (p:an) {ag:List V},I d X h->d.length+1<=1000000000->k<=1000000000->p.size<=1000000000->b5 (fun b=>dr b<jm) h p.enc ag->
  DA Tryz.prog [.int .i64 k,.agg ag] kn h fun x ab=>∃h1,Mod X h ab/\Grow X h1 h/\(x=.bool true/\I (d++[(k,p)]) h1 ab\/x=.bool false/\J (d++[(k,p)]) h1 ab)
 bP:∀{d:List (Nat × an)} {X:aO->Prop} {h:ah},I d X h->∀b,X b->Old h b
 bC:∀{d:List (Nat × an)} {X:aO->Prop} {h:ah},I d X h->∀b,X b->jm<=dr b
def Left (I J:Inv) (d:List (Nat × an)) (X:aO->Prop) (h:ah) (x:V) (ab:ah):Prop:=
 ∃h1,Mod X h ab/\Grow X h1 h/\(x=.bool true/\I d h1 ab\/x=.bool false/\∃h4,h4 <+:d/\J h4 h1 ab)
theorem Mq (d:List (Nat × an)) (k:Nat) (p:an):d++p.pred k=d++[(k,p)]++iB (k+1) p.l:=by rw [alU];simp
theorem TA {jm:Nat} {kn:aO} {I J:Inv} (E:C7 jm kn I J) {uY ud:Nat}:∀(N:Nat) (p:an),p.size<=N->∀(k:Nat) (d:List (Nat × an)) (X:aO->Prop) (ag:List V) (h:ah),d.length+p.size<=1000000000->k+p.size<=1000000000->¬X (aj uY)->¬X (aj ud)->b5 (fun b=>dr b<jm) h p.enc ag->
 Has h uY [.func 4294967296 [.ptr kn 0]]->Has h ud [.func 87 [.ptr (aj uY) 0,.ptr (aj ud) 0]]->I d X h->c4 Tryz.prog 87 [.int .i64 k,.agg ag,.ptr (aj uY) 0,.ptr (aj ud) 0] h (Left I J (d++p.pred k) X h)
 | 0,p,aM,_,_,_,_,_,_,_,_,_,_,_,_,_=>by have:=rm p;omega
 | N+1,p,aM,k,d,X,ag,h,apk,aqy,a1,aq,H,Y,B,K=>by
   have apm:=size_eq p;obtain ⟨cr,rfl,L,_⟩:=an.open H;have ol:=L.one;have az:=L.len;have hle:=L.le;rw [List.length_map] at az hle;refine abl.z rfl (dF ?_);unfold Qr;obtain ⟨aa,ao,aN,da⟩:=fU h (cH p cr);have b3:¬X (aj h.next):=fun q=>Ga (Nat.le_refl _) (E.bP K _ q);have sM:=aN.next
   have CR:=Y.ext aN;simp +contextual only [ol.1,ol.2.1,ao,da.g,CR.g,Jf,List.cons_append,List.nil_append,if_true,↓al,aK,simprocAttr];refine ao4 (cT:=[_,_]) (E.Jy k p (E.ext K aN) (by omega) (by omega) (by omega) (H.ext aN)) ?_;rintro x ad ⟨nH,m2,s2,ai⟩;have e3:=EJ s2 CR.lt a1;have i2:=EJ s2 (B.ext aN).lt aq;have Ow:Grow X nH h:=fun b q=>by
    rcases s2 b q with q | q
    . exact .inl q
    . exact .inr (by omega)
   have dh:=da.mod m2 b3;have Ie:=CR.mod m2 a1;have fp:=(B.ext aN).mod m2 aq;have Oo:Mod X h ad:=(aN.mod X).trans m2;rcases ai with ⟨rfl,Hv⟩ | ⟨rfl,Hv⟩
   rotate_left
   . simp +contextual only [↓al,aK,simprocAttr];exact ⟨nH,Oo,Ow,.inr ⟨rfl,d++[(k,p)],by rw [Mq];exact List.prefix_append _ _,Hv⟩⟩
   simp +contextual only [dh.g,az,↓al,aK,simprocAttr];refine gD (fun r g=>r 0=.int .i64 k/\r 2=.ptr (aj uY) 0/\r 3=.ptr (aj ud) 0/\r 15=cr/\r 16=.int .i64 p.l.length/\∃i:Nat,r 17=.int .i64 i/\i<=p.l.length/\Has g uY [.func 4294967296 [.ptr kn 0]]/\Has g ud [.func 87 [.ptr (aj uY) 0,.ptr (aj ud) 0]]/\
    ∃h1,I (d++[(k,p)]++iB (k+1) (p.l.take i)) h1 g/\Mod X h g/\Grow X h1 h/\¬h1 (aj uY)/\¬h1 (aj ud)) (fun r g=>p.l.length - (r 17).toN) ?_ ?_
   . exact ⟨by simp only [↓al,br,simprocAttr],by simp only [↓al,br,simprocAttr],by simp only [↓al,br,simprocAttr],by simp only [↓al,br,simprocAttr],by simp only [↓al,br,simprocAttr],0,by simp only [↓al,br,simprocAttr]<;>rfl,by omega,Ie,fp,nH,by rw [List.take_zero,iB,List.append_nil];exact Hv,Oo,Ow,e3,i2⟩
   rintro r g ⟨bA,b3,cc,FL,r16,i,CZ,apt,YP,YE,h1,Hx,C0,HJ,HK,HG⟩;unfold Qs;have Yq:=L.mod (ev:=fun b=>dr b<jm) C0 fun b q _=>⟨fun z=>by have:=E.bC K b z;omega,q⟩;by_cases aT:i<p.l.length
   . have g0:((i:Int) < (p.l.length:Int))=True:=eq_true (by omega);obtain ⟨b,off,wl,dD,YN,iK,ld⟩:=an.dO Yq (k:=.i64) aT;have um:=ld g (Ext.refl g);have dw:=iK.one;have eR:=pw aT (by unfold top at hle;omega);have ZG:IntKind.i64.wrap ((k:Int)+1)=((k+1:Nat):Int):=by rw [wrap_i64 (by omega) (by omega)];rfl
     have b':=w4 (t:=p) (List.getElem_mem aT);obtain ⟨g1,dT,bq,Z⟩:=gM g z4 (cH p.l[i] wl);have Hn:=YE.ext bq;have Hy:=YP.ext bq;simp +contextual only [bA,b3,cc,FL,r16,CZ,g0,dD,um,dT,Z.g,Hn.g,dw.1,dw.2.1,ZG,Jf,List.cons_append,List.nil_append,show (87=4294967296)=False from by simp,if_false,↓al,aK,simprocAttr];have apu:=Gv (l:=p.l) aT;have apo:=w5 p.l (i+1);refine cF (TA E N p.l[i] (by omega) (k+1) _ h1 _ g1 (by rw [List.length_append,List.length_append,List.length_singleton,alV];omega) (by omega) HK HG (YN.ext bq) Hy Hn (E.ext Hx bq)) ?_;rintro x g2 ⟨CQ,m3,np,ai⟩;have qa:=bq.next
     have Gc:=C0.next
     have Ox:Grow X CQ h:=fun b q=>by
      rcases np b q with q | q
      . exact HJ b q
      . exact .inr (by omega)
     have Oq:=ako C0 ((bq.mod h1).trans m3) HJ;have jD:d++[(k,p)]++iB (k+1) (p.l.take i)++p.l[i].pred (k+1)=d++[(k,p)]++iB (k+1) (p.l.take (i+1)):=by rw [take_one aT,Mr,alW,<-List.append_assoc]
     rcases ai with ⟨rfl,Hw⟩ | ⟨rfl,h4,Bg,Hw⟩
     . simp +contextual only [bA,b3,cc,FL,r16,CZ,eR,↓al,aK,simprocAttr];exact ⟨⟨i+1,rfl,aT,Hy.mod m3 HK,Hn.mod m3 HG,CQ,by rw [<-jD];exact Hw,Oq,Ox,EJ np Hy.lt HK,EJ np Hn.lt HG⟩,by omega⟩
     . simp +contextual only [bA,b3,cc,FL,r16,CZ,eR,↓al,aK,simprocAttr];refine ⟨CQ,Oq,Ox,.inr ⟨rfl,h4,?_,Hw⟩⟩;rw [jD] at Bg;refine Bg.trans ?_;rw [Mq];refine (List.prefix_append_right_inj _).2 ?_
       conv=>rhs;rw [<-List.take_append_drop (i+1) p.l,Mr]
       exact List.prefix_append _ _
   . have g0:((i:Int) < (p.l.length:Int))=False:=eq_false (by omega);rw [List.take_of_length_le (by omega)] at Hx;simp +contextual only [bA,b3,cc,FL,r16,CZ,g0,↓al,aK,simprocAttr];exact ⟨h1,C0,HJ,.inl ⟨rfl,by rw [Mq];exact Hx⟩⟩
theorem XE (ag:List V) (h:ah) (aX:fJ ag=true) (az:ag.length<=top):c4 Tryz.prog 56 [.agg ag] h fun x ab=>∃n,x=.func 86 [.ptr (aj n) 0]/\Has ab n ag/\Ext h ab:=by refine abf.z rfl (dF ?_);unfold Ql;obtain ⟨aa,ao,aN,da⟩:=fU h ag;have fP:(ag.length<=17179869184)=True:=eq_true az;simp +contextual only [ao,aX,fP,↓al,aK,simprocAttr];exact ⟨_,rfl,da,aN⟩
theorem XD {jm:Nat} {kn:aO} {I J:Inv} (E:C7 jm kn I J) {zA:Nat} (p:an) (af:p.size<=900000000) (X:aO->Prop) (ag:List V) (h:ah) (H:b5 (fun b=>dr b<jm) h p.enc ag) (YF:Has h zA ag) (K:I [] X h):
 c4 Tryz.prog 86 [.func 4294967296 [.ptr kn 0],.ptr (aj zA) 0] h fun _ ab=>∃x,Left I J (p.pred 1) X h x ab:=by
 obtain ⟨cr,rfl,L,_⟩:=an.open H;refine abk.z rfl (dF ?_);unfold Qq;obtain ⟨aa,ao,aN,CR⟩:=fU h [.func 4294967296 [.ptr kn 0]];obtain ⟨ad,ax,aZ,fp⟩:=gM aa [.k'] [.func 87 [.ptr (aj h.next) 0,.ptr (aj aa.next) 0]];have yl:=aN.trans aZ;have YK:=YF.ext yl;have cx:¬X (aj h.next):=fun q=>Ga (Nat.le_refl _) (E.bP K _ q);have e8:¬X (aj aa.next):=fun q=>Ga (Nat.le_refl _) (E.bP (E.ext K aN) _ q);have ol:=L.one;have apc:=ax;simp +contextual only [ao,ax,fp.g,YK.g,ol.1,ol.2.1,Jf,List.cons_append,List.nil_append,show (87=4294967296)=False from by simp,if_false,↓al,aK,simprocAttr];refine cF (TA E p.size p (Nat.le_refl _) 1 [] X _ ad (by simp;omega) (by omega) cx e8 (H.ext yl) (CR.ext aZ) fp (E.ext K yl)) ?_;rintro x aH ⟨CQ,m3,np,ai⟩;have ao_:=yl.next
 simp +contextual only [↓al,aK,simprocAttr];exact ⟨x,CQ,(yl.mod X).trans m3,fun b q=>by
  rcases np b q with q | q
  . exact .inl q
  . exact .inr (by omega),ai⟩
theorem GF {a b:Nat} (v w:V) (r:bc) {j:Nat} (aa:j≠a) (ad:j≠b) (aH:j≠et):nm [a,b] [v,w] r j=r j:=by simp [nm,bc.uy,bc.set,aa,ad,aH]
theorem amv {a b:Nat} (v w:V) (r:bc) (aa:a≠b) (aH:a≠et):nm [a,b] [v,w] r a=v:=by simp [nm,bc.uy,bc.set,aa,aH]
theorem amw {a b:Nat} (v w:V) (r:bc) (aH:b≠et):nm [a,b] [v,w] r b=w:=by simp [nm,bc.uy,bc.set,aH]
theorem Um {l:kQ} (a8:l.st=0) (af:l.d_=none):l.go 0 none=l:=by obtain ⟨st,d_,_,_,_,_,_,_⟩:=l;simp only at a8 af;subst a8 af;rfl
structure NY (b8 b4 iD dp m:Nat) (l:kQ) (d:List (Nat × an)) (X:aO->Prop) (h:ah):Prop where
 fn:Has h b8 [.int .i64 (d.length:Nat)]
 Eu:Has h b4 [.int .i64 (maxD d:Nat)]
 yp:Has h iD [.int .i64 0]
 bC:m<h.next
 oO:h.get (aj m)=.df l
 nN:dp<h.next
 fd:h.get (aj dp)=.fj
 JL:∀x ∈ d,x.2.own=true
 dV:maxD d<=1000000000
 kD:∀p,X p↔p=aj b8\/p=aj b4\/p=aj iD\/p=aj m
structure X0 (b8 b4 iD dp m:Nat) (l:kQ) (d:List (Nat × an)) (X:aO->Prop) (h:ah):Prop where
 yp:Has h iD [.int .i64 2]
 bC:m<h.next
 oO:h.get (aj m)=.df (l.go 2 (some .ret))
 nN:dp<h.next
 fd:h.get (aj dp)=.fj
 bad:∃x ∈ d,x.2.own=false
theorem abQ {jm b8 b4 iD dp m:Nat} {l:kQ} {r:bc} (pS:jm<=b8) (yx:jm<=b4) (apW:jm<=iD) (ad_:jm<=m) (cx:b8≠b4) (e8:b8≠iD) (n3:b8≠m) (n4:b8≠dp) (n5:b4≠iD) (n6:b4≠m) (n7:b4≠dp) (n8:iD≠m) (n9:iD≠dp) (n10:m≠dp)
 (F:As Tryz.prog l 25 r [9,10] I2 I3) (a8:l.st=0) (af:l.d_=none) (b3:r 2=.ptr (aj iD) 0) (cc:r 3=.ptr (aj b8) 0) (eJ:r 4=.ptr (aj b4) 0):
 C7 jm (aj m) (fun d X h=>NY b8 b4 iD dp m l d X h) (fun d X h=>X0 b8 b4 iD dp m l d X h) where
 ext:=fun {d X h ab} K e=>⟨K.fn.ext e,K.Eu.ext e,K.yp.ext e,Nat.lt_of_lt_of_le K.bC e.next,(e.get _ (gi K.bC)).trans K.oO,Nat.lt_of_lt_of_le K.nN e.next,(e.get _ (gi K.nN)).trans K.fd,K.JL,K.dV,K.kD⟩
 bP:=fun {d X h} K b ae=>by
  rcases (K.kD b).1 ae with rfl | rfl | rfl | rfl
  . exact gi K.fn.lt
  . exact gi K.Eu.lt
  . exact gi K.yp.lt
  . exact gi K.bC
 bC:=fun {d X h} K b ae=>by rcases (K.kD b).1 ae with rfl | rfl | rfl | rfl<;>rw [cm]<;>assumption
 Jy:=fun {d X h} k p ag K bb aD wo H=>by
  have oz:=H;obtain ⟨cr,rfl,L,k6⟩:=an.open H;have ol:=L.one;have hm:=Um a8 af;refine XQ (by decide) follows wT F K.oO a8 rfl ?_;obtain ⟨aa,ao,aN,da⟩:=gM h z4 (cH p cr);have bM:aa.get (aj m)=.df l:=(aN.get _ (gi K.bC)).trans K.oO;have bC:=K.bC;have nN:=K.nN;have sM:=aN.next
  have g9:=amv (a:=9) (b:=10) (.int .i64 k) (.agg (cH p cr)) r (by decide) (by decide);have g10:=amw (a:=9) (b:=10) (.int .i64 k) (.agg (cH p cr)) r (by decide);have g2:=GF (a:=9) (b:=10) (.int .i64 k) (.agg (cH p cr)) r (j:=2) (by decide) (by decide) (by decide);have g3:=GF (a:=9) (b:=10) (.int .i64 k) (.agg (cH p cr)) r (j:=3) (by decide) (by decide) (by decide);have g4:=GF (a:=9) (b:=10) (.int .i64 k) (.agg (cH p cr)) r (j:=4) (by decide) (by decide) (by decide);rw [b3] at g2;rw [cc] at g3;rw [eJ] at g4;generalize nm [9,10] [V.int .i64 k,.agg (cH p cr)] r=bA at *;refine dF ?_;unfold I2;simp +contextual only [g9,g10,ao,ol.1,ol.2.1,↓al,aK,simprocAttr];refine ⟨bM,dF ?_⟩;have dh:=da.set (m:=m) (by omega) (.df (l.go 1 l.d_));have qz:=(K.fn.ext aN).set (m:=m) n3 (.df (l.go 1 l.d_));have fp:=(K.Eu.ext aN).set (m:=m) n6 (.df (l.go 1 l.d_));have hz:=(K.yp.ext aN).set (m:=m) n8 (.df (l.go 1 l.d_));have adG:(aa.set (aj m) (.df (l.go 1 l.d_))).get (aj m)=.df (l.go 1 l.d_):=by rw [dv,if_pos rfl]
  have JP:(aa.set (aj m) (.df (l.go 1 l.d_))).get (aj dp)=.fj:=by rw [dv,if_neg (fun q=>n10 (ed q))];exact (aN.get _ (gi nN)).trans K.fd
  have M2:Mod X h (aa.set (aj m) (.df (l.go 1 l.d_))):=(aN.mod X).set (fun _=>(K.kD _).2 (.inr (.inr (.inr rfl)))) _;have cy:b5 Any (aa.set (aj m) (.df (l.go 1 l.d_))) p.enc (cH p cr):=(oz.ext aN).mod (M:=fun b=>b=aj m) (((Mod.refl (fun b=>b=aj m) aa).set (fun _=>rfl) _)) fun b q _=>⟨fun z=>by rw [show b=aj m from z,cm] at q;omega,trivial⟩;have pZ:(aa.set (aj m) (.df (l.go 1 l.d_))).next=aa.next:=rfl
  generalize aa.set (aj m) (.df (l.go 1 l.d_))=ad at *;unfold I3;simp +contextual only [dh.g,↓al,aK,simprocAttr];refine cF (alC p _ ad cy) ?_;rintro x aH ⟨rfl,bJ⟩;have hl:=dh.ext bJ;have oB:=qz.ext bJ;have l2:=fp.ext bJ;have l6:=hz.ext bJ;have Gc:=bJ.next
  have RY:aH.get (aj m)=.df (l.go 1 l.d_):=(bJ.get _ (gi (by omega))).trans adG;have RT:aH.get (aj dp)=.fj:=(bJ.get _ (gi (by omega))).trans JP;have pB:=M2.trans (bJ.mod X);cases c:p.own with
  | false=>
    simp +contextual only [g2,l6.g,↓al,aK,simprocAttr];refine ⟨by rw [if_neg n8];exact RY,X,(pB.set (fun _=>(K.kD _).2 (.inr (.inr (.inl rfl)))) _).set (fun _=>(K.kD _).2 (.inr (.inr (.inr rfl)))) _,fun b q=>.inl q,.inr ⟨(l6.put _).set n8 _,?_,?_,?_,?_,(k,p),by simp,c⟩⟩
    . show m<aH.next;omega
    . rw [dv,if_pos rfl]
    . show dp<aH.next;omega
    . rw [dv,if_neg (fun q=>n10 (ed q)),dv,if_neg (fun q=>n9 (ed q))];exact RT
  | true=>
    have bW:IntKind.i64.wrap ((d.length:Int)+1)=((d.length+1:Nat):Int):=by rw [wrap_i64 (by omega) (by omega)];rfl
    simp +contextual only [g2,g3,g4,oB.g,l2.g,hl.g,bW,eq_false cx,if_false,Uw,↓al,aK,simprocAttr];have jC:maxD (d++[(k,p)])=max (maxD d) k:=by rw [LP,Uv];unfold maxD;simp
    refine ⟨by rw [if_neg n6,if_neg n3];exact RY,X,((pB.set (fun _=>(K.kD _).2 (.inl rfl)) _).set (fun _=>(K.kD _).2 (.inr (.inl rfl))) _).set (fun _=>(K.kD _).2 (.inr (.inr (.inr rfl)))) _,fun b q=>.inl q,.inl ⟨?_,?_,?_,?_,?_,?_,?_,?_,?_,K.kD⟩⟩
    . rw [List.length_append,List.length_singleton];exact ((oB.put _).set cx _).set n3 _
    . rw [jC];exact ((l2.set (m:=b8) (fun q=>cx q.symm) _).put _).set n6 _
    . exact ((l6.set (m:=b8) (fun q=>e8 q.symm) _).set (m:=b4) (fun q=>n5 q.symm) _).set n8 _
    . show m<aH.next;omega
    . rw [dv,if_pos rfl,hm]
    . show dp<aH.next;omega
    . rw [dv,if_neg (fun q=>n10 (ed q)),dv,if_neg (fun q=>n7 (ed q)),dv,if_neg (fun q=>n4 (ed q))];exact RT
    . intro x ai;rcases List.mem_append.1 ai with ai | ai
      . exact K.JL x ai
      . rw [List.mem_singleton] at ai;subst ai;exact c
    . rw [jC];have:=K.dV;omega
theorem alT {α:Type} {a b:List α} {P:α->Bool} (h:a <+:b) (q:∃x ∈ a,P x=false):b.all P=false:=by obtain ⟨x,ai,af⟩:=q;rw [List.all_eq_false];exact ⟨x,h.subset ai,by simp [af]⟩
theorem x9 (p:an) (aM:p.size<=900000000) (ag:List V) (h:ah) (H:b5 Any h p.enc ag):c4 Tryz.prog 19 [.agg ag] h fun x ab=>x=.int .i64 p.check/\Ext h ab:=by
 have oz:=H.oi;have aX:=H.fJ;obtain ⟨cr,cz,L,_⟩:=an.open H;have mh:ag.length<=top:=by rw [cz];simp [top]
 have cI:ag.length=4:=by rw [cz];rfl
 have Ld:(ag.length<=17179869184)=True:=eq_true mh;refine aaR rfl (dF ?_);unfold I1;obtain ⟨aa,ao,aN,da⟩:=fU h ag;obtain ⟨ad,ax,aZ,hz⟩:=fU aa [.int .i64 0];obtain ⟨aH,aL,bJ,oB⟩:=fU ad [.int .i64 0];obtain ⟨bt,bY,dR,ln⟩:=fU aH [.int .i64 0];have rE:=((da.ext aZ).ext bJ).ext dR;have Ov:=oB.ext dR;have tq:=(hz.ext bJ).ext dR;have cx:=aN.next
 have e8:=aZ.next
 have n3:=bJ.next
 have n4:=dR.next
 have eD:=da.lt;have fe:=hz.lt;have zg:=oB.lt;have ajt:=ln.lt;have g4:n1 4 (b9.bx ag 0 false) 0=some (.agg ag):=by rw [FP,if_pos (by omega),List.drop_zero,List.take_of_length_le (by omega)]
 have f1:(ad.next=aH.next)=False:=eq_false (by omega);have f2:(aH.next=ad.next)=False:=eq_false (by omega);have f3:(aH.next=h.next)=False:=eq_false (by omega);have f4:(ad.next=h.next)=False:=eq_false (by omega);simp +contextual only [ao,ax,aL,bY,aX,Ld,rE.g,Ov.g,ln.g,tq.g,g4,f1,f2,f3,f4,if_false,↓al,aK,simprocAttr];have rG:Ext h bt:=((aN.trans aZ).trans bJ).trans dR;have nx:Ext h ((bt.set (aj ad.next) (b9.bx [V.int .i64 0] 0 false)).set (aj aH.next) (b9.bx [V.int .i64 0] 0 false)):=(rG.set (by omega) _).set (by omega) _;have YB:=(Ov.put [V.int .i64 0]).set (m:=aH.next) (by omega) (b9.bx [V.int .i64 0] 0 false);have xE:=(ln.set (m:=ad.next) (by omega) (b9.bx [V.int .i64 0] 0 false)).put [V.int .i64 0];have rQ:=(tq.set (m:=ad.next) (by omega) (b9.bx [V.int .i64 0] 0 false)).set (m:=aH.next) (by omega) (b9.bx [V.int .i64 0] 0 false);have L5:((bt.set (aj ad.next) (b9.bx [V.int .i64 0] 0 false)).set (aj aH.next) (b9.bx [V.int .i64 0] 0 false)).next=bt.next:=rfl
 generalize (bt.set (aj ad.next) (b9.bx [V.int .i64 0] 0 false)).set (aj aH.next) (b9.bx [V.int .i64 0] 0 false)=cI at *;refine cF (XE ag cI aX mh) ?_;rintro x cA ⟨n,rfl,kU,hO⟩;simp +contextual only [↓al,aK,simprocAttr];refine V8 (g:=86) (cs:=[.ptr (aj n) 0]) (by simp only [↓al,br,simprocAttr]) (by decide) ⟨_,Tryz.func86,by kernel_rfl⟩ ?_;intro l F a8 af;have n6:=hO.next
 have r9:Ext cA ((cA.new .fj).new (.df l)):=((Ext.refl cA).new _).new _;have tf:=(nx.trans hO).trans r9;have H8:=(YB.ext hO).ext r9;have rF:=(xE.ext hO).ext r9;have Dt:=(rQ.ext hO).ext r9;have E:=abQ (jm:=h.next) (b8:=ad.next) (b4:=aH.next) (iD:=aa.next) (dp:=cA.next) (m:=cA.next+1) (l:=l) (by omega) (by omega) (by omega) (by omega) (by omega) (by omega) (by omega) (by omega) (by omega) (by omega) (by omega) (by omega) (by omega) (by omega) F a8 af (by simp only [↓al,br,simprocAttr]) (by simp only [↓al,br,simprocAttr]) (by simp only [↓al,br,simprocAttr]);have HY:NY ad.next aH.next aa.next cA.next (cA.next+1) l [] (fun b=>b=aj ad.next\/b=aj aH.next\/b=aj aa.next\/b=aj (cA.next+1)) ((cA.new .fj).new (.df l)):=by refine ⟨H8,rF,Dt,by rw [gF,gF];omega,nQ _,by rw [gF,gF];omega,?_,(fun x ai=>by cases ai),Nat.zero_le _,fun p=>Iff.rfl⟩;rw [iL,if_neg (fun q=>by have:=ed q;rw [gF] at this;omega),nQ]
 refine (XD E p aM _ ag _ (oz.ext tf) (kU.ext r9) HY).mono ?_;rintro _ k1 ⟨x,Za,m8,amH,ai⟩;have Fj:p.shape=(p.pred 1).all fun x=>x.2.own:=by rw [Wz,<-Mo 1 p,List.all_map];rfl
 have u5:Ext h k1:=tf.j5 m8 fun b ae=>by rcases ae with rfl | rfl | rfl | rfl<;>rw [cm]<;>omega
 rcases ai with ⟨rfl,jQ⟩ | ⟨rfl,h4,Bg,jQ⟩
 . refine ⟨l,jQ.oO,by rw [a8];decide,?_⟩;rw [af];have eC:=jQ.bC;have vg:=jQ.fn.set (m:=cA.next+1) (by omega) .dead;have td:=jQ.Eu.set (m:=cA.next+1) (by omega) .dead;have AA:=jQ.yp.set (m:=cA.next+1) (by omega) .dead;have rH:Ext h (k1.set (aj (cA.next+1)) .dead):=u5.set (by omega) _;have vN:(k1.set (aj (cA.next+1)) .dead).get (aj cA.next)=.fj:=by rw [dv,if_neg (fun q=>by have:=ed q;omega)];exact jQ.fd
   generalize k1.set (aj (cA.next+1)) .dead=yu at *;have qj:p.shape=true:=by rw [Fj,List.all_eq_true];exact jQ.JL
   have jd:(p.pred 1).length=p.size:=Vw 1 p;have SS:maxD (p.pred 1)=p.deep:=by have:=Vx 1 p;omega
   rw [jd] at vg;rw [SS] at td;have ap3:=QV p;have f6:(cA.next=aa.next)=False:=eq_false (by omega);have f7:(aa.next=cA.next)=False:=eq_false (by omega);rw [abR,if_pos qj];by_cases bS:p.size<=4096
   . have f8:((4096:Int) < (p.size:Int))=False:=eq_false (by omega);by_cases bX:p.deep<=200
     . have f9:((200:Int) < (p.deep:Int))=False:=eq_false (by omega);simp +contextual only [Option.getD_none,vg.g,td.g,AA.g,f6,f7,f8,f9,eq_true bS,eq_true bX,if_false,if_true,decide_true,decide_false,et,V.list,bc.bx,n',vN,↓al,aK,simprocAttr];exact (rH.set (by omega) _).set (by omega) _
     . have f9:((200:Int) < (p.deep:Int))=True:=eq_true (by omega);simp +contextual only [Option.getD_none,vg.g,td.g,AA.g,f6,f7,f8,f9,eq_true bS,eq_false bX,if_false,if_true,decide_true,decide_false,et,V.list,bc.bx,n',vN,↓al,aK,simprocAttr];exact (rH.set (by omega) _).set (by omega) _
   . have f8:((4096:Int) < (p.size:Int))=True:=eq_true (by omega);simp +contextual only [Option.getD_none,vg.g,td.g,AA.g,f6,f7,f8,eq_false bS,if_false,if_true,decide_true,decide_false,et,V.list,bc.bx,n',vN,↓al,aK,simprocAttr];exact (rH.set (by omega) _).set (by omega) _
 . refine ⟨l.go 2 (some .ret),jQ.oO,(by show (2:Nat)≠1;decide),?_⟩;have qj:p.shape=false:=by rw [Fj];exact alT (P:=fun x:Nat × an=>x.2.own) Bg jQ.bad
   have aC:p.check=2:=by unfold an.check;rw [qj];rfl
   rw [aC];have eC:=jQ.bC;have AA:=jQ.yp.set (m:=cA.next+1) (by omega) .dead;have rH:Ext h (k1.set (aj (cA.next+1)) .dead):=u5.set (by omega) _;have vN:(k1.set (aj (cA.next+1)) .dead).get (aj cA.next)=.fj:=by rw [dv,if_neg (fun q=>by have:=ed q;omega)];exact jQ.fd
   generalize k1.set (aj (cA.next+1)) .dead=yu at *;have f6:(cA.next=aa.next)=False:=eq_false (by omega);simp +contextual only [kQ.go,Option.getD_some,AA.g,f6,if_false,et,V.list,bc.bx,n',vN,↓al,aK,simprocAttr];exact rH.set (by omega) _
structure NZ (b8 dp m:Nat) (l:kQ) (d:List (Nat × an)) (X:aO->Prop) (h:ah):Prop where
 fn:Has h b8 [.int .i64 (d.length:Nat)]
 bC:m<h.next
 oO:h.get (aj m)=.df l
 nN:dp<h.next
 fd:h.get (aj dp)=.fj
 kD:∀p,X p↔p=aj b8\/p=aj m
abbrev YC:Inv:=fun _ _ _=>False
theorem ab0 {jm b8 dp m:Nat} {l:kQ} {r:bc} (pS:jm<=b8) (ad_:jm<=m) (n3:b8≠m) (n4:b8≠dp) (n10:m≠dp)
 (F:As Tryz.prog l 11 r [6,7] I5 I6) (a8:l.st=0) (af:l.d_=none) (cc:r 3=.ptr (aj b8) 0):
 C7 jm (aj m) (fun d X h=>NZ b8 dp m l d X h) YC where
 ext:=fun {d X h ab} K e=>⟨K.fn.ext e,Nat.lt_of_lt_of_le K.bC e.next,(e.get _ (gi K.bC)).trans K.oO,Nat.lt_of_lt_of_le K.nN e.next,(e.get _ (gi K.nN)).trans K.fd,K.kD⟩
 bP:=fun {d X h} K b ae=>by
  rcases (K.kD b).1 ae with rfl | rfl
  . exact gi K.fn.lt
  . exact gi K.bC
 bC:=fun {d X h} K b ae=>by rcases (K.kD b).1 ae with rfl | rfl<;>rw [cm]<;>assumption
 Jy:=fun {d X h} k p ag K bb aD wo H=>by
  have hm:=Um a8 af;refine XQ (by decide) follows wT F K.oO a8 rfl ?_;have bC:=K.bC;have nN:=K.nN;have g3:=GF (a:=6) (b:=7) (.int .i64 k) (.agg ag) r (j:=3) (by decide) (by decide) (by decide);rw [cc] at g3;generalize nm [6,7] [V.int .i64 k,.agg ag] r=bA at *;have qz:=K.fn.set (m:=m) n3 (.df (l.go 1 l.d_));unfold I5;refine ⟨rfl,K.oO,dF ?_⟩;unfold I6;have bW:IntKind.i64.wrap ((d.length:Int)+1)=((d.length+1:Nat):Int):=by rw [wrap_i64 (by omega) (by omega)];rfl
  simp +contextual only [g3,qz.g,bW,↓al,aK,simprocAttr];refine ⟨by rw [if_neg n3],X,((((Mod.refl X h).set (fun _=>(K.kD _).2 (.inr rfl)) _).set (fun _=>(K.kD _).2 (.inl rfl)) _).set (fun _=>(K.kD _).2 (.inr rfl)) _),fun b q=>.inl q,.inl ⟨?_,bC,?_,nN,?_,K.kD⟩⟩
  . rw [List.length_append,List.length_singleton];exact (qz.put _).set n3 _
  . rw [dv,if_pos rfl,hm]
  . rw [dv,if_neg (fun q=>n10 (ed q)),dv,if_neg (fun q=>n4 (ed q)),dv,if_neg (fun q=>n10 (ed q))];exact K.fd
theorem amZ (p:an) (aM:p.size<=900000000) (ag:List V) (h:ah) (H:b5 Any h p.enc ag):c4 Tryz.prog 30 [.agg ag] h fun x ab=>x=.int .i64 (p.size:Nat)/\Ext h ab:=by
 have oz:=H.oi;have aX:=H.fJ;obtain ⟨cr,cz,L,_⟩:=an.open H;have mh:ag.length<=top:=by rw [cz];simp [top]
 have cI:ag.length=4:=by rw [cz];rfl
 have Ld:(ag.length<=17179869184)=True:=eq_true mh;refine aa0 rfl (dF ?_);unfold I4;obtain ⟨aa,ao,aN,da⟩:=fU h ag;obtain ⟨ad,ax,aZ,qz⟩:=gM aa [.int .i64 0] [.int .i64 0];have dh:=da.ext aZ;have g4:n1 4 (b9.bx ag 0 false) 0=some (.agg ag):=by rw [FP,if_pos (by omega),List.drop_zero,List.take_of_length_le (by omega)]
 simp +contextual only [ao,ax,aX,Ld,dh.g,g4,↓al,aK,simprocAttr];refine cF (XE ag ad aX mh) ?_;rintro x cA ⟨n,rfl,kU,hO⟩;simp +contextual only [↓al,aK,simprocAttr];refine V8 (g:=86) (cs:=[.ptr (aj n) 0]) (by simp only [↓al,br,simprocAttr]) (by decide) ⟨_,Tryz.func86,by kernel_rfl⟩ ?_;intro l F a8 af;have cx:=aN.next
 have e8:=aZ.next
 have n6:=hO.next
 have eD:=da.lt;have fe:=qz.lt;have r9:Ext cA ((cA.new .fj).new (.df l)):=((Ext.refl cA).new _).new _;have tf:=((aN.trans aZ).trans hO).trans r9;have H8:=(qz.ext hO).ext r9;have E:=ab0 (jm:=h.next) (b8:=aa.next) (dp:=cA.next) (m:=cA.next+1) (l:=l) (by omega) (by omega) (by omega) (by omega) (by omega) F a8 af (by simp only [↓al,br,simprocAttr]);have HY:NZ aa.next cA.next (cA.next+1) l [] (fun b=>b=aj aa.next\/b=aj (cA.next+1)) ((cA.new .fj).new (.df l)):=by refine ⟨H8,by rw [gF,gF];omega,nQ _,by rw [gF,gF];omega,?_,fun p=>Iff.rfl⟩;rw [iL,if_neg (fun q=>by have:=ed q;rw [gF] at this;omega),nQ]
 refine (XD E p aM _ ag _ (oz.ext tf) (kU.ext r9) HY).mono ?_;rintro _ k1 ⟨x,Za,m8,amH,ai⟩;have u5:Ext h k1:=tf.j5 m8 fun b ae=>by rcases ae with rfl | rfl<;>rw [cm]<;>omega
 rcases ai with ⟨rfl,jQ⟩ | ⟨rfl,h4,Bg,jQ⟩
 . refine ⟨l,jQ.oO,by rw [a8];decide,?_⟩;rw [af];have eC:=jQ.bC;have vg:=jQ.fn.set (m:=cA.next+1) (by omega) .dead;have rH:Ext h (k1.set (aj (cA.next+1)) .dead):=u5.set (by omega) _;have vN:(k1.set (aj (cA.next+1)) .dead).get (aj cA.next)=.fj:=by rw [dv,if_neg (fun q=>by have:=ed q;omega)];exact jQ.fd
   generalize k1.set (aj (cA.next+1)) .dead=yu at *;rw [Vw] at vg;simp +contextual only [Option.getD_none,vg.g,et,V.list,bc.bx,n',vN,↓al,aK,simprocAttr];exact rH.set (by omega) _
 . exact jQ.elim
abbrev Yk [Lay] (B:Nat) (h:ah) (l:List Int) (v:V):Prop:=dW B h 1 v l.length (q9 l)
section
variable [Lay] {B:Nat} {h ab:ah} {l:List Int} {v:V}
end
structure apj (B b8 cW dp m:Nat) (sm:aO) (l:kQ) (d:List (Nat × an)) (X:aO->Prop) (h:ah):Prop where
 ex:∃v,Has h b8 [v]/\Yk B h ((d.map Prod.snd).foldl OZ []) v/\(∀b,X b↔b=aj b8\/b=aj m\/b=sm\/v.aW b)
 mp:∃bw:List (Int × Bool),iI V.bool h sm bw/\(∀n,ca n bw=if n ∈ (d.map Prod.snd).foldl OZ [] then some true else none)
 cW:Has h cW [.map sm]
 bC:m<h.next
 oO:h.get (aj m)=.df l
 nN:dp<h.next
 fd:h.get (aj dp)=.fj
 yl:B<=h.next
section
variable [Lay]
def toV (π w:Nat->Nat) (i:Nat):V:=if w i=i then .dX else .ptr (aj (π (w i))) 0
abbrev rn (π:Nat->Nat) (aI:List Nat):List V:=aI.map fun k=>.ptr (aj (π k)) 0
abbrev mo (π w:Nat->Nat) (bO:Nat->V) (bE:Nat->Int) (aJ:dy) (i:Nat):List V:=[toV π w i,.bool aJ.cd,.str aJ.s,bO i,.int .i64 (bE i)]
structure eU (h:ah) (g:bm) (π:Nat->Nat) (bO:Nat->V) (w:Nat->Nat) (bE:Nat->Int):Prop where
 has:∀(i:Nat) (aJ:dy),g.nodes[i]? =some aJ->Has h (π i) (mo π w bO bE aJ i)
 dO:∀(i:Nat) (aJ:dy),g.nodes[i]? =some aJ->gy h 1 (bO i) aJ.kids.length (rn π aJ.kids)/\sX (bO i)/\aJ.kids.length<=top
 inj:∀i j,i<g.N->j<g.N->π i=π j->i=j
 sep:∀i j,i<g.N->j<g.N->¬(bO i).aW (aj (π j))
def jq (g:bm) (π:Nat->Nat) (b:aO):Prop:=∃i,i<g.N/\b=aj (π i)
theorem ly {g:bm} {i:Nat} (aq:i<g.N):∃aJ,g.nodes[i]? =some aJ:=⟨_,List.getElem?_eq_getElem aq⟩
theorem lx {g:bm} {i:Nat} {aJ:dy} (h:g.nodes[i]? =some aJ):i<g.N:=(List.getElem?_eq_some_iff.1 h).1
variable {h ab:ah} {g:bm} {π:Nat->Nat} {bO:Nat->V} {w:Nat->Nat} {bE:Nat->Int}
theorem eU.mod {M:aO->Prop} (H:eU h g π bO w bE) (m:Mod M h ab) (aa:∀i,i<g.N->¬M (aj (π i))) (ad:∀i b,i<g.N->(bO i).aW b->¬M b):eU ab g π bO w bE:=
 ⟨fun i aJ e=>(H.has i aJ e).mod m (aa i (lx e)),fun i aJ e=>⟨(H.dO i aJ e).1.mod m fun b q=>ad i b (lx e) q,(H.dO i aJ e).2⟩,H.inj,H.sep⟩
theorem eU.ext (H:eU h g π bO w bE) (e:Ext h ab):eU ab g π bO w bE:=H.mod (M:=fun _=>False) (e.mod _) (fun _ _ q=>q) fun _ _ _ _ q=>q
theorem eU.lt (H:eU h g π bO w bE) {i:Nat} (aq:i<g.N):π i<h.next:=by obtain ⟨aJ,e⟩:=ly aq;exact (H.has i aJ e).lt
theorem eU.q' (H:eU h g π bO w bE) {i:Nat} (aq:i<g.N) {b:aO} (ae:(bO i).aW b):Old h b:=by obtain ⟨aJ,e⟩:=ly aq;exact (H.dO i aJ e).1.bP ae
theorem eU.put (H:eU h g π bO w bE) {b:Nat} {aJ:dy} (ae:g.nodes[b]? =some aJ) {w':Nat->Nat} {fz:Nat->Int} (hw:∀x,x≠b->w' x=w x) (aQ:∀x,x≠b->fz x=bE x):eU (h.set (aj (π b)) (.bx (mo π w' bO fz aJ b) 0 false)) g π bO w' fz:=by
 have m:Mod (fun x=>x=aj (π b)) h (h.set (aj (π b)) (.bx (mo π w' bO fz aJ b) 0 false)):=(Mod.refl (fun x=>x=aj (π b)) h).set (fun _=>rfl) _;refine ⟨fun i b7 e=>?_,fun i b7 e=>⟨(H.dO i b7 e).1.mod m fun x q z=>?_,(H.dO i b7 e).2⟩,H.inj,H.sep⟩
 . by_cases q:i=b
   . subst q;obtain rfl:b7=aJ:=by rw [e] at ae;exact Option.some.inj ae
     exact (H.has i b7 e).put _
   . have aa:=H.has i b7 e;rw [show mo π w' bO fz b7 i=mo π w bO bE b7 i from by unfold mo toV;rw [hw i q,aQ i q]];exact aa.set (fun z=>q (H.inj i b (lx e) (lx ae) z)) _
 . rw [show x=aj (π b) from z] at q;exact H.sep i b (lx e) (lx ae) q
theorem eU.root (H:eU h g π bO w bE) {b:Nat} {aJ:dy} (ae:g.nodes[b]? =some aJ) (hw:w b=b):h.get (aj (π b))=.bx [.dX,.bool aJ.cd,.str aJ.s,bO b,.int .i64 (bE b)] 0 false:=by have:=(H.has b aJ ae).g;unfold mo toV at this;rw [if_pos hw] at this;exact this
theorem eU.step (H:eU h g π bO w bE) {b:Nat} {aJ:dy} (ae:g.nodes[b]? =some aJ) (hw:w b≠b):h.get (aj (π b))=.bx [.ptr (aj (π (w b))) 0,.bool aJ.cd,.str aJ.s,bO b,.int .i64 (bE b)] 0 false:=by have:=(H.has b aJ ae).g;unfold mo toV at this;rw [if_neg hw] at this;exact this
open Classical in
def idx (g:bm) (π:Nat->Nat) (v:V):Nat:=if h:∃i,i<g.N/\v=.ptr (aj (π i)) 0 then h.choose else 0
theorem eU.idx (H:eU h g π bO w bE) {i:Nat} (aq:i<g.N):Go.Proofs.YthemdhlheglhoaaGreatDoor.idx g π (.ptr (aj (π i)) 0)=i:=by
 unfold Go.Proofs.YthemdhlheglhoaaGreatDoor.idx;have ai:∃j,j<g.N/\V.ptr (aj (π i)) 0=.ptr (aj (π j)) 0:=⟨i,aq,rfl⟩;rw [dif_pos ai];obtain ⟨aa,ad⟩:=Exists.choose_spec ai;injection ad with ad _
 exact (H.inj _ _ aq aa (ed ad)).symm
end
theorem Rt {P:Program} (b:aO) (o:Nat):(eK.jx true 1).run P (.ptr b o) .dX=some (.bool true):=by rfl
theorem Rs {P:Program}:(eK.jx true 1).run P .dX .dX=some (.bool false):=by rfl
theorem zX {g:bm} {π:Nat->Nat} {bO:Nat->V} {w:Nat->Nat} {bE:Nat->Int} {ρ:Nat->Nat} {h:ah} (H:eU h g π bO w bE) (S:ij g ρ) (tv:Way w ρ) {a:Nat} (aV:a<g.N):
 c4 Tryz.prog 53 [.ptr (aj (π a)) 0] h fun x ab=>x=.ptr (aj (π (ρ a))) 0/\∃w',eU ab g π bO w' bE/\Way w' ρ/\Mod (jq g π) h ab:=by
 obtain ⟨fA,R⟩:=tv;refine abd.z rfl (dF ?_);unfold Qg;simp +contextual only [↓al,aK,simprocAttr];refine gD (fun r a8=>a8=h/\r 0=.ptr (aj (π a)) 0/\∃b,b<g.N/\r 3=.ptr (aj (π b)) 0/\ρ b=ρ a) (fun r _=>fA (idx g π (r 3))) ?_ ?_
 . exact ⟨rfl,by simp only [↓al,br,simprocAttr],a,aV,by simp only [↓al,br,simprocAttr],rfl⟩
 rintro r a8 ⟨rfl,bA,b,ae,cc,e⟩;obtain ⟨b8,Re⟩:=ly ae;unfold Qh;by_cases q:w b=b
 . have G:=H.root Re q;have acD:ρ a=b:=by rw [<-e];exact Way.end ⟨fA,R⟩ q
   subst acD;simp +contextual only [bA,cc,G,Rs,↓al,aK,simprocAttr];refine gD (fun r aa=>r 3=.ptr (aj (π (ρ a))) 0/\∃b w',b<g.N/\r 0=.ptr (aj (π b)) 0/\ρ b=ρ a/\eU aa g π bO w' bE/\vl fA w' ρ/\Mod (jq g π) a8 aa) (fun r _=>fA (idx g π (r 0))) ?_ ?_
   . exact ⟨by simp only [cc,↓al,br,simprocAttr],a,w,aV,by simp only [bA,↓al,br,simprocAttr],rfl,H,R,Mod.refl _ _⟩
   rintro r aa ⟨cc,c,w',aC,bA,Rf,H1,kV,kR⟩;obtain ⟨hH,enc⟩:=ly aC;unfold Qi;by_cases CA:w' c=c
   . have G:=H1.root enc CA;simp +contextual only [bA,cc,G,Rs,↓al,aK,simprocAttr];exact ⟨w',H1,⟨fA,kV⟩,kR⟩
   . have G:=H1.step enc CA;have hw:=Way.lt S ⟨fA,kV⟩ aC;simp +contextual only [bA,cc,G,Rt,H1.idx aC,H1.idx hw,↓al,aK,simprocAttr];have hz:=kV.short S CA;have cR:ρ c≠c:=fun z=>CA (Way.root S ⟨fA,kV⟩ z);have fr:=H1.put enc (w':=fun x=>if x=c then ρ c else w' x) (fz:=bE) (fun x ai=>if_neg ai) (fun _ _=>rfl);unfold mo toV at fr;simp only [if_true,if_neg cR] at fr;rw [Rf] at fr hz;refine ⟨⟨w' c,_,hw,rfl,(Way.step ⟨fA,kV⟩ c).trans Rf,fr,hz,kR.set (fun _=>⟨c,aC,rfl⟩) _⟩,?_⟩;rcases kV c with z | ⟨_,z,_⟩
     . exact (CA z.1).elim
     . exact z
 . have G:=H.step Re q;have hw:=Way.lt S ⟨fA,R⟩ ae;simp +contextual only [bA,cc,G,Rt,H.idx ae,H.idx hw,↓al,aK,simprocAttr];refine ⟨⟨w b,hw,rfl,(Way.step ⟨fA,R⟩ b).trans e⟩,?_⟩;rcases R b with z | ⟨_,z,_⟩
   . exact (q z.1).elim
   . exact z
def eE {α:Type} (f:Nat->α) (n:Nat) (x:α):Nat->α:=fun i=>if i=n then x else f i
theorem gV {α:Type} (f:Nat->α) (n:Nat) (x:α):eE f n x n=x:=if_pos rfl
theorem fE {α:Type} (f:Nat->α) {n i:Nat} (x:α) (h:i≠n):eE f n x i=f i:=if_neg h
section
variable [Lay]
theorem N5 {α:Type} {e c9:α->V}:∀{bw:List (Int × α)} {es:List cE},(∀p ∈ bw,e p.2=c9 p.2)->qu e bw es->qu c9 bw es
 | [],[],_,H=>H
 | [],_::_,_,H=>H.elim
 | _::_,[],_,H=>H.elim
 | (s,a)::bw,m::es,h,H=>⟨H.1,H.2.1.trans (h (s,a) List.mem_cons_self),N5 (fun p af=>h p (List.mem_cons_of_mem _ af)) H.2.2⟩
theorem On {α:Type} {e c9:α->V} {h:ah} {b:aO} {bw:List (Int × α)} (M:iI e h b bw) (he:∀p ∈ bw,e p.2=c9 p.2):iI c9 h b bw:=by obtain ⟨es,clock,ao,ax,aL⟩:=M.ex;exact ⟨⟨es,clock,ao,N5 he ax,aL⟩,M.bP⟩
theorem VH {α:Type} {s:Int} {x:α}:∀{bw:List (Int × α)},ca s bw=none->pf s x bw=bw++[(s,x)]
 | [],_=>rfl
 | (n,a)::bw,h=>by
   simp only [ca] at h;simp only [pf,List.cons_append]
   split at h
   . cases h
   . rename_i q;rw [if_neg q,VH h]
structure jT (h:ah) (g:bm) (π:Nat->Nat) (bO:Nat->V) (w:Nat->Nat) (bE:Nat->Int) (b4:aO):Prop where
 fX:eU h g π bO w bE
 mp:iI (fun i=>V.ptr (aj (π i)) 0) h b4 g.vars
 s1:∀i,i<g.N->b4≠aj (π i)
 s2:∀i,i<g.N->¬(bO i).aW b4
variable {h ab:ah} {g:bm} {π:Nat->Nat} {bO:Nat->V} {w:Nat->Nat} {bE:Nat->Int} {b4:aO}
theorem jT.mod {M:aO->Prop} (H:jT h g π bO w bE b4) (m:Mod M h ab) (a8:¬M b4) (aa:∀i,i<g.N->¬M (aj (π i))) (ad:∀i b,i<g.N->(bO i).aW b->¬M b):jT ab g π bO w bE b4:=⟨H.fX.mod m aa ad,H.mp.mod m a8,H.s1,H.s2⟩
theorem jT.ext (H:jT h g π bO w bE b4) (e:Ext h ab):jT ab g π bO w bE b4:=⟨H.fX.ext e,H.mp.ext e,H.s1,H.s2⟩
theorem eU.add (H:eU h g π bO w bE) (W:g.dz) (oZ:∀i,i<g.N->w i<g.N) (hw:w g.N=g.N) {aJ:dy} {n:Nat} {v:V} {m:Int} {cQ:bm} (aF:cQ.nodes=g.nodes++[aJ]) (B:Has h n [.dX,.bool aJ.cd,.str aJ.s,v,.int .i64 m])
 (K:gy h 1 v aJ.kids.length (rn π aJ.kids)) (aG:sX v) (az:aJ.kids.length<=top) (aD:∀x ∈ aJ.kids,x<g.N) (d1:∀i,i<g.N->n≠π i) (d2:∀i,i<g.N->¬(bO i).aW (aj n)) (d3:∀i,i<g.N->¬v.aW (aj (π i))) (d4:¬v.aW (aj n)):
 eU h cQ (eE π g.N n) (eE bO g.N v) w (eE bE g.N m):=by
 have bH:cQ.N=g.N+1:=by unfold bm.N;rw [aF,List.length_append];rfl
 have UQ:∀{aI:List Nat},(∀x ∈ aI,x<g.N)->rn (eE π g.N n) aI=rn π aI:=fun {aI} h=>List.map_congr_left fun x ai=>by rw [fE _ _ (by have:=h x ai;omega)]
 have split:∀{i:Nat} {b7:dy},cQ.nodes[i]? =some b7->(i<g.N/\g.nodes[i]? =some b7)\/(i=g.N/\b7=aJ):=fun {i b7} e=>by
  rw [aF] at e;rcases mJ e with e | e
  . exact .inl ⟨lx e,e⟩
  . exact .inr e
 refine ⟨fun i b7 e=>?_,fun i b7 e=>?_,fun i j aq a6 e=>?_,fun i j aq a6=>?_⟩
 . rcases split e with ⟨aq,e⟩ | ⟨rfl,rfl⟩
   . have:=H.has i b7 e;have aa:=oZ i aq;rw [fE _ _ (by omega)];rw [show mo (eE π g.N n) w (eE bO g.N v) (eE bE g.N m) b7 i=mo π w bO bE b7 i from by
      unfold mo toV;rw [fE _ _ (by omega),fE _ _ (by omega),fE _ _ (by omega)]]
     exact this
   . rw [gV];rw [show mo (eE π g.N n) w (eE bO g.N v) (eE bE g.N m) b7 g.N=[.dX,.bool b7.cd,.str b7.s,v,.int .i64 m] from by
      unfold mo toV;rw [if_pos hw,gV,gV]]
     exact B
 . rcases split e with ⟨aq,e⟩ | ⟨rfl,rfl⟩
   . rw [fE _ _ (by omega),UQ fun x ai=>W.sD e ai];exact H.dO i b7 e
   . rw [gV,UQ aD];exact ⟨K,aG,az⟩
 . rw [bH] at aq a6;by_cases ci:i=g.N<;>by_cases r6:j=g.N
   . rw [ci,r6]
   . rw [ci,gV,fE _ _ r6] at e;exact (d1 j (by omega) e).elim
   . rw [r6,gV,fE _ _ ci] at e;exact (d1 i (by omega) e.symm).elim
   . rw [fE _ _ ci,fE _ _ r6] at e;exact H.inj i j (by omega) (by omega) e
 . rw [bH] at aq a6;by_cases ci:i=g.N<;>by_cases r6:j=g.N
   . rw [ci,r6,gV,gV];exact d4
   . rw [ci,gV,fE _ _ r6];exact d3 j (by omega)
   . rw [r6,gV,fE _ _ ci];exact d2 i (by omega)
   . rw [fE _ _ ci,fE _ _ r6];exact H.sep i j (by omega) (by omega)
end
structure pD (g cQ:bm) (π j':Nat->Nat) (bO lN:Nat->V) (bE fz:Nat->Int) (B:Nat):Prop where
 pi:∀i,i<g.N->j' i=π i
 bO:∀i,i<g.N->lN i=bO i
 bE:∀i,i<g.N->fz i=bE i
 new:∀(i:Nat) (aJ:dy),g.N<=i->cQ.nodes[i]? =some aJ->fz i=if aJ.cd=true then -1 else aJ.n
 A9:∀i,g.N<=i->i<cQ.N->B<=j' i
 A7:∀(i:Nat) (b:aO),g.N<=i->i<cQ.N->(lN i).aW b->B<=dr b
theorem pD.refl (g:bm) (π:Nat->Nat) (bO:Nat->V) (bE:Nat->Int) (B:Nat):pD g g π π bO bO bE bE B:=
 ⟨fun _ _=>rfl,fun _ _=>rfl,fun _ _=>rfl,fun i aJ h e=>(by have:=lx e;omega),fun i h ab=>by omega,fun i b h ab=>by omega⟩
theorem pD.trans {g g1 g2:bm} {π CX l0:Nat->Nat} {bO FM q_:Nat->V} {bE F9 Cf:Nat->Int} {B C2:Nat} (a:pD g g1 π CX bO FM bE F9 B) (b:pD g1 g2 CX l0 FM q_ F9 Cf C2) (dc:B<=C2) (aa:g.le g1) (ad:g1.le g2):pD g g2 π l0 bO q_ bE Cf B:=by
 have cx:=aa.n;refine ⟨fun i aq=>(b.pi i (by omega)).trans (a.pi i aq),fun i aq=>(b.bO i (by omega)).trans (a.bO i aq),fun i aq=>(b.bE i (by omega)).trans (a.bE i aq),fun i aJ aq e=>?_,fun i aq iP=>?_,fun i c aq iP q=>?_⟩
 . by_cases q:i<g1.N
   . rw [b.bE i q];rw [ad.bP q] at e;exact a.new i aJ aq e
   . exact b.new i aJ (by omega) e
 . by_cases q:i<g1.N
   . rw [b.pi i q];exact a.A9 i aq q
   . have:=b.A9 i (by omega) iP;omega
 . by_cases z:i<g1.N
   . rw [b.bO i z] at q;exact a.A7 i c aq z q
   . have:=b.A7 i c (by omega) iP q;omega
abbrev H' (b4:aO):aO->Prop:=fun b=>b≠b4
theorem ZE (t:an) (g:bm):cf [t] g=((t.add g).1,[(t.add g).2]):=by simp [cf]
theorem ZF (l:List an) (t:an) (g:bm):cf (l++[t]) g=((t.add (cf l g).1).1,(cf l g).2++[(t.add (cf l g).1).2]):=by rw [O0,ZE]
theorem L6:∀(N:Nat) (t:an),t.size<=N->N<=900000000->t.lg=true->∀(g:bm) (π:Nat->Nat) (bO:Nat->V) (w:Nat->Nat) (bE:Nat->Int) (b4:aO) (ag:List V) (h:ah),g.dz->(∀i,i<g.N->w i<g.N)->(∀i,g.N<=i->w i=i)->b5 (H' b4) h t.enc ag->jT h g π bO w bE b4->
 c4 Tryz.prog 49 [.map b4,.agg ag] h fun x ab=>∃j' lN fz,x=.ptr (aj (j' (t.add g).2)) 0/\jT ab (t.add g).1 j' lN w fz b4/\pD g (t.add g).1 π j' bO lN bE fz h.next/\Mod (fun b=>b=b4) h ab
 | 0,t,aM,_,_,_,_,_,_,_,_,_,_,_,_,_,_,_=>by have:=rm t;omega
 | N+1,t,aM,J0,ba,g,π,bO,w,bE,b4,ag,h,W,oZ,hw,H,P=>by
   obtain ⟨cr,rfl,L,k6⟩:=an.open H;have bH:N<=900000000:=by omega
   have ol:=L.one;have az:=L.len;have hle:=L.le;rw [List.length_map] at az hle;have b':=size_eq t;have jd:=sQ t.l;have Fq:=aou t;rw [ba] at Fq;refine aa'.z rfl (dF ?_);unfold c49;obtain ⟨aa,ao,aN,da⟩:=fU h (cH t cr);have cx:=aN.next
   have uk:=da.lt;have gX:=P.ext aN;have e7:=gX.mp.look t.n .dX true;rw [add_eq];by_cases c:t.k=1
   . simp only [if_pos c];unfold bm.var;cases aA:ca t.n g.vars with
     | some i=>
       rw [aA] at e7;simp only [cond_true] at e7;simp +contextual only [ol.1,ol.2.1,ao,da.g,eq_true c,jR.eq,e7,↓al,aK,simprocAttr];exact ⟨π,bO,bE,rfl,gX,pD.refl _ _ _ _ _,aN.mod _⟩
     | none=>
       rw [aA] at e7;simp only [cond_true] at e7;have aQ:0<=t.n:=by simp only [c,ne_eq,not_true_eq_false,decide_false,Bool.false_or] at Fq;have:=Fq.symm;simp only [Bool.and_eq_true,decide_eq_true_eq] at this;exact this.1.1
       obtain ⟨ad,ax,aZ,fp⟩:=fU aa [.dX,.bool false,.str [],.bU,.int .i64 t.n];have e8:=aZ.next
       have kn:=fp.lt;have fr:=gX.ext aZ;have dh:=da.ext aZ;have afz:∀i,i<g.N->aa.next≠π i:=fun i aq=>by have:=gX.fX.lt aq;omega
       have afk:∀i,i<g.N->¬(bO i).aW (aj aa.next):=fun i aq q=>by have:=gX.fX.q' aq q;unfold Old at this;rw [cm] at this;omega
       have nX:Old aa b4:=gX.mp.bP;have SH:b4≠aj aa.next:=fun q=>by rw [q] at nX;unfold Old at nX;rw [cm] at nX;omega
       have YL:=fr.fX.add W oZ (hw _ (Nat.le_refl _)) (aJ:=⟨false,t.n,[],[]⟩) (n:=aa.next) (v:=.bU) (m:=t.n) (cQ:=⟨g.nodes++[⟨false,t.n,[],[]⟩],g.vars++[(t.n,g.nodes.length)]⟩) rfl fp ⟨rfl,rfl⟩ (fun b o l c e=>(by cases e)) (Nat.zero_le _) (fun x ai=>by cases ai) afz afk (fun i aq q=>q) (fun q=>q);have M2:iI (fun i=>V.ptr (aj (eE π g.N aa.next i)) 0) ad b4 g.vars:=On fr.mp fun p af=>by have eZ:=sG W.keys (show (p.1,p.2) ∈ g.vars from af);obtain ⟨aJ,e,_⟩:=W.e7 _ _ eZ;have:=lx e;simp only [fE _ _ (show p.2≠g.N by omega)]
       obtain ⟨aH,lX,lY,my,CO⟩:=M2.eE t.n g.N;rw [VH aA] at lY;have hl:=dh.mod my fun q=>by have:=P.mp.bP;rw [<-q] at this;unfold Old at this;rw [cm] at this;omega
       simp only [gV] at lX;simp +contextual only [ol.1,ol.2.1,ao,ax,da.g,dh.g,eq_true c,jR.eq,e7,lX,↓al,aK,simprocAttr];refine ⟨eE π g.N aa.next,eE bO g.N .bU,eE bE g.N t.n,?_,⟨YL.mod my (fun i aq q=>?_) (fun i b aq ae q=>?_),lY,fun i aq=>?_,fun i aq=>?_⟩,⟨fun i aq=>fE _ _ (by omega),fun i aq=>fE _ _ (by omega),fun i aq=>fE _ _ (by omega),fun i aJ aq e=>?_,fun i aq iP=>?_,fun i b aq iP q=>?_⟩,((aN.trans aZ).mod _).trans my⟩
       . show V.ptr (aj aa.next) 0=.ptr (aj (eE π g.N aa.next g.N)) 0;rw [gV]
       . have iP:i<g.N+1:=by simpa [bm.N] using aq
         by_cases z:i=g.N
         . rw [z,gV] at q;exact SH q.symm
         . rw [fE _ _ z] at q;exact P.s1 i (by omega) q.symm
       . have iP:i<g.N+1:=by simpa [bm.N] using aq
         rw [show b=b4 from q] at ae;by_cases z:i=g.N
         . rw [z,gV] at ae;exact ae
         . rw [fE _ _ z] at ae;exact P.s2 i (by omega) ae
       . have iP:i<g.N+1:=by simpa [bm.N] using aq
         by_cases z:i=g.N
         . rw [z,gV];exact SH
         . rw [fE _ _ z];exact P.s1 i (by omega)
       . have iP:i<g.N+1:=by simpa [bm.N] using aq
         by_cases z:i=g.N
         . rw [z,gV];exact fun q=>q
         . rw [fE _ _ z];exact P.s2 i (by omega)
       . rcases mJ e with e | ⟨cz,rfl⟩
         . have:=lx e;omega
         . rw [show i=g.N from cz,gV];rfl
       . have iP:i<g.N+1:=by simpa [bm.N] using iP
         rw [show i=g.N by omega,gV];omega
       . have iP:i<g.N+1:=by simpa [bm.N] using iP
         rw [show i=g.N by omega,gV] at q;exact q.elim
   . simp only [if_neg c];obtain ⟨ad,ax,aZ,nH⟩:=fU aa [.dX,.bool true,.str t.s,.bU,.int .i64 (-1)];have e8:=aZ.next
     have nc:=nH.lt;have fr:=gX.ext aZ;have dh:=da.ext aZ;have mh:lh t.l=true:=by have:=Fq.symm;simp only [Bool.and_eq_true] at this;exact this.2
     have nX:Old aa b4:=gX.mp.bP;have KL:b4≠aj aa.next:=fun q=>by rw [q] at nX;unfold Old at nX;rw [cm] at nX;omega
     simp +contextual only [ol.1,ol.2.1,ao,ax,da.g,dh.g,eq_false c,az,↓al,aK,simprocAttr];refine gD (fun r cQ=>r 0=.map b4/\r 7=.ptr (aj aa.next) 0/\r 36=cr/\r 37=.int .i64 t.l.length/\∃(i:Nat) (j':Nat->Nat) (lN:Nat->V) (fz:Nat->Int) (v:V),r 38=.int .i64 i/\i<=t.l.length/\
      jT cQ (cf (t.l.take i) g).1 j' lN w fz b4/\pD g (cf (t.l.take i) g).1 π j' bO lN bE fz h.next/\Has cQ aa.next [.dX,.bool true,.str t.s,v,.int .i64 (-1)]/\dW h.next cQ 1 v i (rn j' (cf (t.l.take i) g).2)/\Mod (fun b=>b=b4) h cQ/\ad.next<=cQ.next/\
      (∀b,v.aW b->b≠b4/\b≠aj aa.next/\∀j,j < (cf (t.l.take i) g).1.N->b≠aj (j' j)/\¬(lN j).aW b)/\∀j,j < (cf (t.l.take i) g).1.N->aa.next≠j' j/\¬(lN j).aW (aj aa.next)) (fun r g=>t.l.length - (r 38).toN) ?_ ?_
     . refine ⟨by simp only [↓al,br,simprocAttr],by simp only [↓al,br,simprocAttr],by simp only [↓al,br,simprocAttr],by simp only [↓al,br,simprocAttr],0,π,bO,bE,.bU,by simp only [↓al,br,simprocAttr]<;>rfl,by omega,fr,pD.refl _ _ _ _ _,nH,⟨rfl,rfl⟩,(aN.trans aZ).mod _,Nat.le_refl _,fun b q=>q.elim,fun j a6=>⟨?_,fun q=>?_⟩⟩
       . have:=gX.fX.lt a6;omega
       . have:=gX.fX.q' a6 q;unfold Old at this;rw [cm] at this;omega
     rintro r cQ ⟨bA,eg,ME,uH,i,j',lN,fz,v,oo,aq,PP,pC,X,O,M,aF,eP,G6⟩;unfold Qd;have iA:=O.v.one;have ago:lh (t.l.take i)=true:=by have:=XB (t.l.take i) (t.l.drop i);rw [List.take_append_drop,mh] at this;have:=this.symm;simp only [Bool.and_eq_true] at this;exact this.1
     obtain ⟨JU,ke,Lz,ads⟩:=tx (t.l.take i) g ago W;have RZ:=JU.n;by_cases aT:i<t.l.length
     . have g0:((i:Int) < (t.l.length:Int))=True:=eq_true (by omega);obtain ⟨b,off,wl,dD,Dy,iK,ld⟩:=an.dO (L.mod (ev:=H' b4) M fun b q _=>⟨q,q⟩) (k:=.i64) aT;have oI:=ld cQ (Ext.refl cQ);have dw:=iK.one;have eR:=pw aT (by unfold top at hle;omega);have KA:=w4 (t:=t) (List.getElem_mem aT);have Te:=XC mh (List.getElem_mem aT);obtain ⟨g1,dT,bq,Z⟩:=gM cQ z4 (cH t.l[i] wl);have Iu:=X.ext bq;have sM:=bq.next
       simp +contextual only [bA,eg,ME,uH,oo,g0,dD,oI,dT,Z.g,X.g,Iu.g,dw.1,dw.2.1,iA.1,iA.2.1,↓al,aK,simprocAttr];refine cF (L6 N t.l[i] (by omega) bH Te _ j' lN w fz b4 _ g1 ke (fun j a6=>?_) (fun j a6=>hw j (by omega)) (Dy.ext bq) (PP.ext bq)) ?_
       . by_cases z:j<g.N
         . have:=oZ j z;omega
         . rw [hw j (by omega)];exact a6
       rintro x g2 ⟨l0,q_,Cf,rfl,hy,oB,m2⟩;obtain ⟨RX,tu,aqu,adt⟩:=kv t.l[i] _ Te ke;have adH:=RX.n;have qa:=m2.next
       have NK:=Z.lt;have OT:=Iu.mod m2 fun q=>KL q.symm;have Zj:=Z.mod m2 fun q=>by have:=PP.mp.bP;rw [<-q] at this;unfold Old at this;rw [cm] at this;omega
       have anv:∀b,v.aW b->Old cQ b:=fun b q=>O.v.bP q;have Aw:dW h.next g2 1 v i (rn j' (cf (t.l.take i) g).2):=(O.ext bq).mod m2 fun b q z=>(eP b q).1 z
       have hF:rn l0 (cf (t.l.take i) g).2=rn j' (cf (t.l.take i) g).2:=List.map_congr_left fun x ai=>by rw [oB.pi x (Lz x ai)]
       obtain ⟨c1,g3,b0,b1,cS,iU,ni⟩:=vo (cs:=[.ptr (aj (l0 (t.l[i].add (cf (t.l.take i) g).1).2)) 0]) (Nat.le_refl _) Aw (by omega) (by unfold top at hle ⊢;omega) rfl rfl;have nh:=b1.v.one;have eB:cf (t.l.take (i+1)) g=((t.l[i].add (cf (t.l.take i) g).1).1,(cf (t.l.take i) g).2++[(t.l[i].add (cf (t.l.take i) g).1).2]):=by rw [take_one aT,ZF]
       have OU:=OT.mod cS fun q=>(eP _ q).2.1 rfl;have UL:∀j,j < (t.l[i].add (cf (t.l.take i) g).1).1.N->(j < (cf (t.l.take i) g).1.N/\l0 j=j' j/\q_ j=lN j)\/(g1.next<=l0 j/\∀b,(q_ j).aW b->g1.next<=dr b):=fun j a6=>by
        by_cases z:j < (cf (t.l.take i) g).1.N
        . exact .inl ⟨z,oB.pi j z,oB.bO j z⟩
        . exact .inr ⟨oB.A9 j (by omega) a6,fun b q=>oB.A7 j b (by omega) a6 q⟩
       have Nc:∀b,v.aW b->∀j,j < (t.l[i].add (cf (t.l.take i) g).1).1.N->b≠aj (l0 j)/\¬(q_ j).aW b:=fun b q j a6=>by
        rcases UL j a6 with ⟨b6,z2,z3⟩ | ⟨b6,z2⟩
        . rw [z2,z3];exact (eP b q).2.2 j b6
        . have:=anv b q;unfold Old at this;exact ⟨fun z=>by rw [z,cm] at this;omega,fun z=>by have:=z2 b z;omega⟩
       have nC:=hy.mod cS (fun q=>(eP _ q).1 rfl) (fun j a6 q=>(Nc _ q j a6).1 rfl) fun j b a6 ae q=>(Nc _ q j a6).2 ae;have Nf:∀j,j < (t.l[i].add (cf (t.l.take i) g).1).1.N->aa.next≠l0 j/\¬(q_ j).aW (aj aa.next):=fun j a6=>by
        rcases UL j a6 with ⟨b6,z2,z3⟩ | ⟨b6,z2⟩
        . rw [z2,z3];exact G6 j b6
        . exact ⟨by omega,fun z=>by have:=z2 _ z;rw [cm] at this;omega⟩
       have m5:Mod (fun b=>b=aj aa.next) g3 (g3.set (aj aa.next) (.bx [.dX,.bool true,.str t.s,c1,.int .i64 (-1)] 0 false)):=(Mod.refl (fun b=>b=aj aa.next) g3).set (fun _=>rfl) _;have jS:=nC.mod m5 (fun q=>KL q) (fun j a6 q=>(Nf j a6).1 (ed q).symm) fun j b a6 ae q=>(Nf j a6).2 (by rw [<-show b=aj aa.next from q];exact ae);have Tb:∀b,c1.aW b->b≠aj aa.next:=fun b q z=>by
        rcases ni b q with q | q
        . exact (eP b q).2.1 z
        . rw [z,cm] at q;omega
       have YD:=b1.mod m5 fun b q z=>Tb b q z;have f4:(g2.next=aa.next)=False:=eq_false (by omega);have f5:(g2.next=cQ.next)=False:=eq_false (by omega);simp +contextual only [f4,f5,if_false,bA,eg,ME,uH,oo,Z.g,Zj.g,X.g,Iu.g,OT.g,OU.g,dw.1,dw.2.1,iA.1,iA.2.1,nh.1,nh.2.1,b0,eR,↓al,aK,simprocAttr];refine ⟨⟨i+1,l0,q_,Cf,c1,rfl,aT,?_,?_,OU.put _,?_,?_,?_,?_,?_⟩,by omega⟩
       . rw [eB];exact jS
       . rw [eB];exact pC.trans oB (by have:=M.next;omega) JU RX
       . rw [eB];simp only [rn,List.map_append,List.map_cons,List.map_nil];rw [show (cf (t.l.take i) g).2.map (fun k=>V.ptr (aj (l0 k)) 0)=rn l0 (cf (t.l.take i) g).2 from rfl,hF];exact YD
       . have kR:Mod (fun b=>b=b4) h g2:=(M.trans (bq.mod _)).trans m2;exact (kR.zU cS fun b q=>O.base q).fresh (show h.next<=aa.next by omega) _
       . show ad.next<=g3.next;omega
       . intro b q;refine ⟨fun z=>?_,Tb b q,fun j a6=>?_⟩
         . rcases ni b q with q | q
           . exact (eP b q).1 z
           . have:=hy.mp.bP;rw [<-z] at this;unfold Old at this;omega
         . rw [eB] at a6;rcases ni b q with q | q
           . exact Nc b q j a6
           . refine ⟨fun z=>?_,fun z=>?_⟩
             . have:=hy.fX.lt a6;rw [z,cm] at q;omega
             . have:=hy.fX.q' a6 z;unfold Old at this;omega
       . rw [eB];exact Nf
     . have g0:((i:Int) < (t.l.length:Int))=False:=eq_false (by omega);rw [List.take_of_length_le (by omega)] at PP pC O Lz JU ke eP G6 RZ ads;simp +contextual only [bA,eg,ME,uH,oo,g0,↓al,aK,simprocAttr];have jY:(cf t.l g).2.length=i:=by rw [DE];omega
       have EP:((cf t.l g).1.put t.s (cf t.l g).2).N=(cf t.l g).1.N+1:=by simp [bm.put,bm.N]
       have YM:=PP.fX.add ke (fun j a6=>by
        by_cases z:j<g.N
        . have:=oZ j z;omega
        . rw [hw j (by omega)];exact a6) (hw _ (by omega)) (aJ:=⟨true,0,t.s,(cf t.l g).2⟩) (n:=aa.next) (v:=v) (m:=-1) (cQ:=(cf t.l g).1.put t.s (cf t.l g).2) rfl X (by rw [jY];exact O.v) O.room (by rw [jY];omega) Lz (fun j a6=>(G6 j a6).1) (fun j a6=>(G6 j a6).2) (fun j a6 q=>((eP _ q).2.2 j a6).1 rfl) (fun q=>(eP _ q).2.1 rfl)
       refine ⟨eE j' (cf t.l g).1.N aa.next,eE lN (cf t.l g).1.N v,eE fz (cf t.l g).1.N (-1),by rw [gV],⟨YM,On PP.mp fun p af=>?_,fun j a6=>?_,fun j a6=>?_⟩,⟨fun j a6=>?_,fun j a6=>?_,fun j a6=>?_,fun j aJ a6 e=>?_,fun j a6 Ku=>?_,fun j b a6 Ku q=>?_⟩,M⟩
       . have eZ:=sG ke.keys (show (p.1,p.2) ∈ (cf t.l g).1.vars from af);obtain ⟨aJ,e,_⟩:=ke.e7 _ _ eZ;have:=lx e;simp only [fE _ _ (show p.2≠(cf t.l g).1.N by omega)]
       . rw [EP] at a6;by_cases z:j=(cf t.l g).1.N
         . rw [z,gV];exact KL
         . rw [fE _ _ z];exact PP.s1 j (by omega)
       . rw [EP] at a6;by_cases z:j=(cf t.l g).1.N
         . rw [z,gV];exact fun q=>(eP _ q).1 rfl
         . rw [fE _ _ z];exact PP.s2 j (by omega)
       . rw [fE _ _ (by omega)];exact pC.pi j a6
       . rw [fE _ _ (by omega)];exact pC.bO j a6
       . rw [fE _ _ (by omega)];exact pC.bE j a6
       . rcases mJ e with e | ⟨cz,rfl⟩
         . have:=lx e;rw [fE _ _ (by omega)];exact pC.new j aJ a6 e
         . rw [show j=(cf t.l g).1.N from cz,gV];rfl
       . rw [EP] at Ku;by_cases z:j=(cf t.l g).1.N
         . rw [z,gV];omega
         . rw [fE _ _ z];exact pC.A9 j a6 (by omega)
       . rw [EP] at Ku;by_cases z:j=(cf t.l g).1.N
         . rw [z,gV] at q;exact O.base q
         . rw [fE _ _ z] at q;exact pC.A7 j b a6 (by omega) q
end
section
open Go aY
theorem T6 {p:Nat->Prop}:∀(n:Nat),p n->∃m,p m/\∀k,k<m->¬p k:=by
 intro n
 induction n using Nat.strongRecOn with
 | _ n bd=>
   intro h;by_cases q:∃k,k<n/\p k
   . obtain ⟨k,aa,ad⟩:=q;exact bd k aa ad
   . exact ⟨n,h,fun k aD z=>q ⟨k,aD,z⟩⟩
open Classical in
def leastOf (p:Nat->Prop):Nat:=if h:∃m,p m/\∀k,k<m->¬p k then h.choose else 0
theorem leastOf_spec {p:Nat->Prop} {n:Nat} (h:p n):p (leastOf p)/\leastOf p<=n:=by
 unfold leastOf;have ai:=T6 n h;rw [dif_pos ai];obtain ⟨aa,ad⟩:=Exists.choose_spec ai;exact ⟨aa,by
  by_cases q:Exists.choose ai<=n
  . exact q
  . exact (ad n (by omega) h).elim⟩
theorem akc [Lay] {P:Program} {b:aS} {aI:List hL} {r:bc} {h:ah} {Q:db->bc->ah->Prop} (I:bc->ah->Nat->Prop) {cu:Nat} (a8:I r h cu)
 (step:∀(J:bc->ah->Prop) (r:bc) (h:ah) (n:Nat),(∀bu ab fW,fW<n->I bu ab fW->J bu ab)->I r h n->bl P [.c b] .normal r h fun e bu ab=>e.andThen (J bu ab) (bl P aI e bu ab Q)):zn P b aI r h Q:=
 gD (fun r h=>∃n,I r h n) (fun r h=>leastOf (I r h)) ⟨cu,a8⟩ fun r h ⟨n,aQ⟩=>by obtain ⟨aa,_⟩:=leastOf_spec aQ;exact step _ r h _ (fun bu ab fW az aq=>⟨⟨fW,aq⟩,Nat.lt_of_le_of_lt (leastOf_spec aq).2 az⟩) aa
def p7 (a b:Int):Int:=if b<0\/(0<=a/\a<b) then a else b
def H3 (g:bm) (ρ:Nat->Nat) (m:Int) (r:Nat):Prop:=
 (m<0/\∀(y:Nat) (aJ:dy),g.nodes[y]? =some aJ->ρ y=r->aJ.cd=true)\/
 (0<=m/\(∃(y:Nat) (aJ:dy),g.nodes[y]? =some aJ/\ρ y=r/\aJ.cd=false/\aJ.n=m)/\∀(y:Nat) (aJ:dy),g.nodes[y]? =some aJ->ρ y=r->aJ.cd=false->m<=aJ.n)
def l4 (g:bm) (ρ:Nat->Nat) (bE:Nat->Int):Prop:=∀r,r<g.N->ρ r=r->H3 g ρ (bE r) r
theorem l4.one {g:bm} {ρ:Nat->Nat} {bE:Nat->Int} {r s:Nat} (H:l4 g ρ bE) (aG:ρ r=r) (aM:ρ s=s) (cR:r≠s) (ri:r<g.N) (ls:s<g.N):l4 g (eQ ρ r s) (eE bE s (p7 (bE r) (bE s))):=by
 have cs:∀y,eQ ρ r s y=s↔ρ y=r\/ρ y=s:=fun y=>by
  unfold eQ
  split
  . rename_i q;exact ⟨fun _=>.inl q,fun _=>rfl⟩
  . rename_i q;exact ⟨.inr,fun z=>z.resolve_left q⟩
 intro t au e;by_cases c:t=s
 . subst c;rw [gV];have cC:=H r ri aG;have cY:=H t ls aM;unfold H3 at *;simp only [cs];unfold p7;rcases cC with ⟨bN,a2⟩ | ⟨bN,⟨y,aJ,dT,e3,y3,y4⟩,a3⟩<;>rcases cY with ⟨cn,ch⟩ | ⟨cn,⟨z,kq,b6,z2,z3,z4⟩,gk⟩
   . rw [if_pos (.inl cn)];exact .inl ⟨bN,fun y aJ h q=>q.elim (a2 y aJ h) (ch y aJ h)⟩
   . rw [if_neg (by omega)];refine .inr ⟨cn,⟨z,kq,b6,.inr z2,z3,z4⟩,fun y aJ h q c=>?_⟩;rcases q with q | q
     . rw [a2 y aJ h q] at c;cases c
     . exact gk y aJ h q c
   . rw [if_pos (.inl cn)];refine .inr ⟨bN,⟨y,aJ,dT,.inl e3,y3,y4⟩,fun x dP h q c=>?_⟩;rcases q with q | q
     . exact a3 x dP h q c
     . rw [ch x dP h q] at c;cases c
   . by_cases l:bE r<bE t
     . rw [if_pos (.inr ⟨bN,l⟩)];refine .inr ⟨bN,⟨y,aJ,dT,.inl e3,y3,y4⟩,fun x dP h q c=>?_⟩;rcases q with q | q
       . exact a3 x dP h q c
       . have:=gk x dP h q c;omega
     . rw [if_neg (by omega)];refine .inr ⟨cn,⟨z,kq,b6,.inr z2,z3,z4⟩,fun x dP h q c=>?_⟩;rcases q with q | q
       . have:=a3 x dP h q c;omega
       . exact gk x dP h q c
 . rw [fE _ _ c];have acf:∀y,eQ ρ r s y=t↔ρ y=t:=fun y=>by
    unfold eQ
    split
    . rename_i q;refine ⟨fun z=>(c z.symm).elim,fun z=>?_⟩;rw [q] at z;subst z;unfold eQ at e;rw [if_pos aG] at e;exact e
    . exact Iff.rfl
   have hg:ρ t=t:=by
    unfold eQ at e
    split at e
    . exact (c e.symm).elim
    . exact e
   have:=H t au hg;unfold H3 at *;simp only [acf];exact this
theorem OA {p q:aO}:aO.gz p q=decide (p=q):=by
 by_cases h:p=q
 . subst h;rw [aO.yf,decide_eq_true rfl]
 . rw [decide_eq_false h,<-Bool.not_eq_true];exact fun z=>h (aO.kY z)
theorem al3 {h:ah} {i j:Nat} {a b:List V} (g1:h.get (aj i)=.bx a 0 false) (g2:h.get (aj j)=.bx b 0 false) (neg:Bool):uF neg h (.ptr (aj i) 0) (.ptr (aj j) 0)=some (.bool (bif neg then !decide (i=j) else decide (i=j))):=by
 unfold uF g';simp only [OA,g1,g2,b9.bx,b9.zD,Bool.not_false,Bool.and_self,cond_true];by_cases c:i=j
 . subst c;simp
 . rw [decide_eq_false (fun z=>c (ed z)),decide_eq_false c];simp
theorem ZO (b:aO) (o:Nat):(sz 2 1).run (.ptr b o) (.int .i64 0)=some (.ptr b o):=rfl
theorem ZP (b:aO) (o:Nat):(sz 2 1).run (.ptr b o) (.int .i64 1)=some (.ptr b (o+1)):=rfl
def I_:aS:=
 aS.seq (aS.av [⟨(some 104),.bz (.t 8),none,[8]⟩,
  ⟨(some 105),.iR (.t 104),none,[104]⟩,
  ⟨(some 106),.e5 4 (.t 105),none,[105]⟩,
  ⟨(some 107),.fy (.t 106),none,[106]⟩,
  ⟨(some 10),.bz (.t 107),none,[107]⟩])
  (aS.seq (aS.seq (aS.av [⟨(some 108),.bz (.t 10),none,[10]⟩,
    ⟨(some 109),.bin (.int .lss) (.t 108) (.c (.int .i64 0)),none,[108]⟩,
    ⟨(some 110),.bz (.t 109),none,[109]⟩,
    ⟨(some 111),.bz (.t 7),(some (110,false)),[7,110]⟩,
    ⟨(some 112),.iR (.t 111),(some (110,false)),[111,110]⟩,
    ⟨(some 113),.e5 4 (.t 112),(some (110,false)),[112,110]⟩,
    ⟨(some 114),.fy (.t 113),(some (110,false)),[113,110]⟩,
    ⟨(some 115),.bin (.int .geq) (.t 114) (.c (.int .i64 0)),(some (110,false)),[114,110]⟩,
    ⟨(some 116),.bz (.t 115),(some (110,false)),[115,110]⟩,
    ⟨(some 117),.bz (.t 7),(some (116,true)),[7,116]⟩,
    ⟨(some 118),.iR (.t 117),(some (116,true)),[117,116]⟩,
    ⟨(some 119),.e5 4 (.t 118),(some (116,true)),[118,116]⟩,
    ⟨(some 120),.fy (.t 119),(some (116,true)),[119,116]⟩,
    ⟨(some 121),.bz (.t 10),(some (116,true)),[10,116]⟩,
    ⟨(some 122),.bin (.int .lss) (.t 120) (.t 121),(some (116,true)),[120,121,116]⟩,
    ⟨(some 123),.pick (.t 116) (.t 122) (.c (.bool false)),(some (110,false)),[116,122,110]⟩,
    ⟨(some 124),.pick (.t 110) (.c (.bool true)) (.t 123),none,[110,123]⟩])
   (aS.cond (.t 124)
    (aS.av [⟨(some 125),.bz (.t 7),none,[7]⟩,
      ⟨(some 126),.iR (.t 125),none,[125]⟩,
      ⟨(some 127),.e5 4 (.t 126),none,[126]⟩,
      ⟨(some 128),.fy (.t 127),none,[127]⟩,
      ⟨(some 10),.bz (.t 128),none,[128]⟩])
    (aS.skip)))
  (aS.av [⟨(some 129),.bz (.t 7),none,[7]⟩,
    ⟨(some 130),.bz (.t 8),none,[8]⟩,
    ⟨(some 131),.bz (.t 8),none,[8]⟩,
    ⟨(some 132),.bz (.t 10),none,[10]⟩,
    ⟨(some 133),.iR (.t 129),none,[129]⟩,
    ⟨(some 134),.e5 0 (.t 133),none,[133]⟩,
    ⟨none,.st 1 (.t 134) (.t 131),none,[134,131]⟩,
    ⟨(some 135),.iR (.t 130),none,[130]⟩,
    ⟨(some 136),.e5 4 (.t 135),none,[135]⟩,
    ⟨none,.st 1 (.t 136) (.t 132),none,[136,132]⟩]))
theorem aa9:I'=
 aS.seq (aS.seq (aS.av [⟨(some 15),.bz (.t 5),none,[5]⟩,
  ⟨(some 16),.len .slice (.t 15),none,[15]⟩,
  ⟨(some 17),.bin (.int .gtr) (.t 16) (.c (.int .i64 0)),none,[16]⟩])
 (aS.cond (.t 17)
  (aS.skip)
  (aS.exit 0)))
 (aS.block 1 (aS.seq (aS.av [⟨(some 18),.bz (.t 5),none,[5]⟩,
   ⟨(some 19),.bz (.t 5),none,[5]⟩,
   ⟨(some 20),.len .slice (.t 19),none,[19]⟩,
   ⟨(some 21),.bin (.int .sub) (.t 20) (.c (.int .i64 1)),none,[20]⟩,
   ⟨(some 22),.dD 2 (.t 18) (.t 21),none,[18,21]⟩,
   ⟨(some 23),.ff 2 (.t 22),none,[22]⟩,
   ⟨(some 6),.new [.dX,.dX],none,[]⟩,
   ⟨none,.st 2 (.t 6) (.t 23),none,[6,23]⟩])
  (aS.seq (aS.av [⟨(some 24),.bz (.t 5),none,[5]⟩,
    ⟨(some 25),.bz (.t 5),none,[5]⟩,
    ⟨(some 26),.len .slice (.t 25),none,[25]⟩,
    ⟨(some 27),.bin (.int .sub) (.t 26) (.c (.int .i64 1)),none,[26]⟩,
    ⟨(some 28),.fo 2 (.t 24) none (some (.t 27)) none,none,[24,27]⟩,
    ⟨(some 5),.bz (.t 28),none,[28]⟩])
  (aS.seq (aS.draw [⟨(some 29),.o4 2 1 (.t 6) (.c (.int .i64 0)),none,[6]⟩,
    ⟨(some 30),.fy (.t 29),none,[29]⟩,
    ⟨(some 32),.o4 2 1 (.t 6) (.c (.int .i64 1)),none,[6]⟩,
    ⟨(some 33),.fy (.t 32),none,[32]⟩,
    ⟨(some 31),.call 53 [(.t 30)],none,[30]⟩,
    ⟨(some 34),.call 53 [(.t 33)],none,[33]⟩,
    ⟨(some 7),.bz (.t 31),none,[31]⟩,
    ⟨(some 8),.bz (.t 34),none,[34]⟩] [(1,[4]),(3,[4,5])])
  (aS.seq (aS.seq (aS.av [⟨(some 35),.bz (.t 7),none,[7]⟩,
    ⟨(some 36),.bz (.t 8),none,[8]⟩,
    ⟨(some 37),.peq false (.t 35) (.t 36),none,[35,36]⟩])
   (aS.cond (.t 37)
    (aS.exit 1)
    (aS.skip)))
  (aS.seq (aS.seq (aS.av [⟨(some 38),.bz (.t 7),none,[7]⟩,
    ⟨(some 39),.iR (.t 38),none,[38]⟩,
    ⟨(some 40),.e5 1 (.t 39),none,[39]⟩,
    ⟨(some 41),.fy (.t 40),none,[40]⟩,
    ⟨(some 42),.bz (.t 41),none,[41]⟩,
    ⟨(some 43),.bz (.t 8),(some (42,true)),[8,42]⟩,
    ⟨(some 44),.iR (.t 43),(some (42,true)),[43,42]⟩,
    ⟨(some 45),.e5 1 (.t 44),(some (42,true)),[44,42]⟩,
    ⟨(some 46),.fy (.t 45),(some (42,true)),[45,42]⟩,
    ⟨(some 47),.pick (.t 42) (.t 46) (.c (.bool false)),none,[42,46]⟩])
   (aS.cond (.t 47)
    (aS.seq (aS.seq (aS.draw [⟨(some 48),.bz (.t 7),none,[7]⟩,
      ⟨(some 49),.iR (.t 48),none,[48]⟩,
      ⟨(some 50),.e5 2 (.t 49),none,[49]⟩,
      ⟨(some 51),.fy (.t 50),none,[50]⟩,
      ⟨(some 52),.bz (.t 8),none,[8]⟩,
      ⟨(some 53),.iR (.t 52),none,[52]⟩,
      ⟨(some 54),.e5 2 (.t 53),none,[53]⟩,
      ⟨(some 55),.fy (.t 54),none,[54]⟩,
      ⟨(some 56),.bin (.str .neq) (.t 51) (.t 55),none,[51,55]⟩,
      ⟨(some 57),.bz (.t 56),none,[56]⟩,
      ⟨(some 58),.bz (.t 7),(some (57,false)),[7,57]⟩,
      ⟨(some 59),.iR (.t 58),(some (57,false)),[58,57]⟩,
      ⟨(some 60),.e5 3 (.t 59),(some (57,false)),[59,57]⟩,
      ⟨(some 61),.fy (.t 60),(some (57,false)),[60,57]⟩,
      ⟨(some 62),.len .slice (.t 61),(some (57,false)),[61,57]⟩,
      ⟨(some 63),.bz (.t 8),(some (57,false)),[8,57]⟩,
      ⟨(some 64),.iR (.t 63),(some (57,false)),[63,57]⟩,
      ⟨(some 65),.e5 3 (.t 64),(some (57,false)),[64,57]⟩,
      ⟨(some 66),.fy (.t 65),(some (57,false)),[65,57]⟩,
      ⟨(some 67),.len .slice (.t 66),(some (57,false)),[66,57]⟩,
      ⟨(some 68),.bin (.int .neq) (.t 62) (.t 67),(some (57,false)),[62,67,57]⟩,
      ⟨(some 69),.pick (.t 57) (.c (.bool true)) (.t 68),none,[57,68]⟩] [])
      (aS.cond (.t 69)
       (aS.seq (aS.av [⟨(some 4),.bz (.c (.bool false)),none,[]⟩])
        (aS.ret))
       (aS.skip)))
     (aS.seq (aS.av [⟨(some 70),.bz (.t 7),none,[7]⟩,
       ⟨(some 71),.iR (.t 70),none,[70]⟩,
       ⟨(some 72),.e5 3 (.t 71),none,[71]⟩,
       ⟨(some 73),.fy (.t 72),none,[72]⟩,
       ⟨(some 74),.len .slice (.t 73),none,[73]⟩,
       ⟨(some 75),.bz (.c (.int .i64 0)),none,[]⟩])
     (aS.block 2 (aS.loop I9))))
    (aS.skip)))
  (aS.seq (aS.seq (aS.av [⟨(some 97),.bz (.t 8),none,[8]⟩,
    ⟨(some 98),.iR (.t 97),none,[97]⟩,
    ⟨(some 99),.e5 1 (.t 98),none,[98]⟩,
    ⟨(some 100),.fy (.t 99),none,[99]⟩,
    ⟨(some 101),.un .not (.t 100),none,[100]⟩])
   (aS.cond (.t 101)
    (aS.av [⟨(some 102),.bz (.t 8),none,[8]⟩,
      ⟨(some 103),.bz (.t 7),none,[7]⟩,
      ⟨(some 7),.bz (.t 102),none,[102]⟩,
      ⟨(some 8),.bz (.t 103),none,[103]⟩])
    (aS.skip)))
  (I_)))))))):=rfl
theorem G9 {r s:Nat} {g:bm} {π:Nat->Nat} {bO:Nat->V} {w:Nat->Nat} {bE:Nat->Int} {h:ah} {aI:List hL} {Q:db->bc->ah->Prop} {av:bc} (H:eU h g π bO w bE) (aG:r<g.N) (aM:s<g.N) (cR:r≠s) (wr:w r=r) (ws:w s=s) (eg:av 7=.ptr (aj (π r)) 0) (dE:av 8=.ptr (aj (π s)) 0)
 (K:∀rq ab,rq 5=av 5->eU ab g π bO (fun a=>if a=r then s else w a) (eE bE s (p7 (bE r) (bE s)))->Mod (jq g π) h ab->ab.next=h.next->bl Tryz.prog aI .normal rq ab Q):bl Tryz.prog (.c I_::aI) .normal av h Q:=by
 obtain ⟨gh,Ru⟩:=ly aG;obtain ⟨h9,es⟩:=ly aM;have mA:=H.root Ru wr;have gK:=H.root es ws;have gX:=H.put Ru (w':=fun a=>if a=r then s else w a) (fz:=bE) (fun x ai=>if_neg ai) (fun _ _=>rfl);have fr:=gX.put es (w':=fun a=>if a=r then s else w a) (fz:=eE bE s (p7 (bE r) (bE s))) (fun _ _=>rfl) (fun x ai=>fE _ _ ai);have Fy:(π r=π s)=False:=eq_false fun z=>cR (H.inj _ _ aG aM z);have Fz:(π s=π r)=False:=eq_false fun z=>cR (H.inj _ _ aG aM z.symm);unfold mo toV at gX fr;simp only [if_true,if_neg cR.symm,if_neg cR,ws,gV] at gX fr;have M2:=((Mod.refl (jq g π) h).set (fun _=>⟨r,aG,rfl⟩) (.bx [.ptr (aj (π s)) 0,.bool gh.cd,.str gh.s,bO r,.int .i64 (bE r)] 0 false)).set (b:=aj (π s)) (fun _=>⟨s,aM,rfl⟩) (.bx [.dX,.bool h9.cd,.str h9.s,bO s,.int .i64 (p7 (bE r) (bE s))] 0 false);unfold I_;unfold p7 at K fr M2;by_cases bS:bE s<0
 . rw [if_pos (.inl bS)] at K fr M2;simp +contextual only [eg,dE,mA,gK,Fy,Fz,eq_true bS,if_false,↓al,aK,simprocAttr];exact K _ _ (by simp only [↓al,br,simprocAttr]) fr M2 rfl
 . by_cases bX:0<=bE r
   . by_cases c3:bE r<bE s
     . rw [if_pos (.inr ⟨bX,c3⟩)] at K fr M2;simp +contextual only [eg,dE,mA,gK,Fy,Fz,eq_false bS,eq_true bX,eq_true c3,if_false,↓al,aK,simprocAttr];exact K _ _ (by simp only [↓al,br,simprocAttr]) fr M2 rfl
     . rw [if_neg (by omega)] at K fr M2;simp +contextual only [eg,dE,mA,gK,Fy,Fz,eq_false bS,eq_true bX,eq_false c3,if_false,↓al,aK,simprocAttr];exact K _ _ (by simp only [↓al,br,simprocAttr]) fr M2 rfl
   . rw [if_neg (by omega)] at K fr M2;simp +contextual only [eg,dE,mA,gK,Fy,Fz,eq_false bS,eq_false bX,if_false,↓al,aK,simprocAttr];exact K _ _ (by simp only [↓al,br,simprocAttr]) fr M2 rfl
end
section
open Go aY
def qh (π:Nat->Nat) (T:List (Nat × Nat)):List V:=T.flatMap fun p=>[.ptr (aj (π p.1)) 0,.ptr (aj (π p.2)) 0]
theorem VA (π:Nat->Nat) (T:List (Nat × Nat)):qh π T=(T.map fun p=>[V.ptr (aj (π p.1)) 0,.ptr (aj (π p.2)) 0]).flatten:=by unfold qh;rw [List.flatMap_def]
theorem Mv (π:Nat->Nat) (T:List (Nat × Nat)):(qh π T).length=T.length * 2:=by rw [VA,A8 _ (size:=2) (fun u hu=>by obtain ⟨p,_,rfl⟩:=List.mem_map.1 hu;rfl),List.length_map]
theorem al0 (π:Nat->Nat) {T:List (Nat × Nat)} {i:Nat} {p:Nat × Nat} (h:T[i]? =some p):((qh π T).drop (i * 2)).take 2=[V.ptr (aj (π p.1)) 0,.ptr (aj (π p.2)) 0]:=by rw [VA];exact EA _ i _ (fun u hu=>by obtain ⟨p,_,rfl⟩:=List.mem_map.1 hu;rfl) (by rw [List.getElem?_map,h];rfl)
theorem Vz (π:Nat->Nat) (T U:List (Nat × Nat)):qh π (T++U)=qh π T++qh π U:=by unfold qh;rw [List.flatMap_append]
theorem aob {g:bm} {π:Nat->Nat} {bO:Nat->V} {w:Nat->Nat} {bE:Nat->Int} {ρ:Nat->Nat} {E:List (Nat × Nat)} {a b:Nat} {h:ah} (W:g.dz) (b':1+pG g ρ<=1000000000) (H:eU h g π bO w bE) (S:ij g ρ) (tv:Way w ρ) (L:l4 g ρ bE) (J:fS g E ρ [(a,b)]) (aV:a<g.N) (ae:b<g.N):
 c4 Tryz.prog 48 [.ptr (aj (π a)) 0,.ptr (aj (π b)) 0] h fun x ab=>Mod (jq g π) h ab/\∃w' fz dL,eU ab g π bO w' fz/\ij g dL/\Way w' dL/\((x=.bool false/\iX g E)\/(x=.bool true/\fS g E dL []/\l4 g dL fz)):=by
 have L9:∀i,i<g.N->π i<h.next:=fun i aq=>H.lt aq
 have ak8:∀i b,i<g.N->(bO i).aW b->dr b<h.next:=fun i b aq q=>H.q' aq q
 refine aa8.z rfl (dF ?_);unfold Qc;obtain ⟨aa,ao,aN,Dq⟩:=Ud h 2 1 [.ptr (aj (π a)) 0,.ptr (aj (π b)) 0] rfl (by unfold top;omega);simp +contextual only [ao,↓al,aK,simprocAttr];refine akc (fun r cQ n=>∃v T w' fz dL,r 5=v/\dW h.next cQ 2 v T.length (qh π T)/\eU cQ g π bO w' fz/\ij g dL/\Way w' dL/\l4 g dL fz/\fS g E dL T/\(∀p ∈ T,p.1<g.N/\p.2<g.N)/\n=T.length+pG g dL/\n<=1+pG g ρ/\Mod (jq g π) h cQ/\aa.next<=cQ.next) (cu:=1+pG g ρ) ?_ ?_
 . refine ⟨_,[(a,b)],w,bE,ρ,by simp only [↓al,br,simprocAttr],Dq,H.ext aN,S,tv,L,J,fun p af=>?_,rfl,Nat.le_refl _,aN.mod _,Nat.le_refl _⟩;rw [List.mem_singleton] at af;subst af;exact ⟨aV,ae⟩
 rintro Yl r cQ n JY ⟨v,T,w',fz,dL,dZ,O,P,gd,OP,Dl,Od,cK,aQ,pZ,M,aF⟩;have cx:=aN.next
 have iA:=O.v.one;have p5:=O.v.len;unfold Go.Proofs.YthemdhlheglhoaaGreatDoor.I';rw [show (aS.seq _ _:aS)=_ from aa9];rcases List.eq_nil_or_concat T with rfl | ⟨b_,⟨x,y⟩,rfl⟩
 . simp +contextual only [dZ,p5,List.length_nil,show ((0:Int) < ((0:Nat):Int))=False from by simp,↓al,aK,simprocAttr];exact ⟨M,w',fz,dL,P,gd,OP,.inr ⟨Od,Dl⟩⟩
 have hlen:(b_.concat (x,y)).length=b_.length+1:=by simp
 rw [List.concat_eq_append] at *;have ai:x<g.N/\y<g.N:=cK (x,y) (by simp);have sf:∀p ∈ b_,p.1<g.N/\p.2<g.N:=fun p af=>cK p (by simp [af]);have bW:IntKind.i64.wrap (((b_.length+1:Nat):Int)-1)=((b_.length:Nat):Int):=by rw [wrap_i64 (by omega) (by omega)];omega
 have g0:((0:Int) < ((b_.length+1:Nat):Int))=True:=eq_true (by omega);rw [hlen] at O p5;obtain ⟨nK,off,dD,XV⟩:=O.v.dD (k:=.i64) (i:=b_.length) (by omega);have ld:=XV.ff (i:=b_.length * 2) (n:=2) (by rw [Mv,List.length_append,List.length_singleton];omega);rw [al0 π (T:=b_++[(x,y)]) (i:=b_.length) (p:=(x,y)) (by simp)] at ld;obtain ⟨c1,cut,H_,sub⟩:=O.cut (k:=.i64) (m:=b_.length) (by omega) (by omega);rw [Vz,List.take_append_of_le_length (by rw [Mv];exact Nat.le_refl _),List.take_of_length_le (by rw [Mv];exact Nat.le_refl _)] at H_;obtain ⟨g1,ax,aZ,Z⟩:=gM cQ [.dX,.dX] [.ptr (aj (π x)) 0,.ptr (aj (π y)) 0];have nh:=H_.v.one;have NK:=Z.lt;have e8:=aZ.next
 have Aq:fS g E dL ((x,y)::b_):=Od.perm fun p=>by simp [or_comm]
 simp +contextual only [dZ,p5,g0,bW,dD,ld,ax,Z.g,cut,iA.1,iA.2.1,nh.1,nh.2.1,ZO,ZP,↓al,aK,simprocAttr];have gX:=P.ext aZ;refine cF (zX gX gd OP ai.1) ?_;rintro bq g2 ⟨rfl,bV,fr,tw,M2⟩;have Sb:¬jq g π (aj cQ.next):=fun ⟨i,aq,q⟩=>by have:=L9 i aq;have:=ed q;omega
 have nI:=Z.mod M2 Sb;simp +contextual only [Z.g,nI.g,↓al,aK,simprocAttr];refine cF (zX fr gd tw ai.2) ?_;rintro dx g3 ⟨rfl,iE,hy,l7,pB⟩;have lq:=nI.mod pB Sb;have n3:=M2.next
 have n4:=pB.next
 have F5:∀{k bo:ah},Mod (jq g π) k bo->∀{u:V} {n:Nat} {cs:List V},dW h.next k 2 u n cs->dW h.next bo 2 u n cs:=fun {k bo} m {u n cs} O=>O.mod m fun c q ⟨i,aq,z⟩=>by have:=O.base q;have:=L9 i aq;rw [z,cm] at *;omega
 have Ax:=F5 pB (F5 M2 (H_.ext aZ));have Au:Mod (jq g π) h g3:=((M.trans (aZ.mod _)).trans M2).trans pB;obtain ⟨dP,ex⟩:=ly (gd.lt x ai.1);obtain ⟨pb,nO⟩:=ly (gd.lt y ai.2);have rx:=gd.idem x;have uO:=gd.idem y;have mA:=hy.root ex (Way.root gd l7 rx);have gK:=hy.root nO (Way.root gd l7 uO);have uB:=al3 mA gK false;simp only [cond_false] at uB;by_cases c:dL x=dL y
 . simp +contextual only [Z.g,nI.g,lq.g,uB,decide_eq_true (congrArg π c),jl,↓al,aK,simprocAttr];refine JY _ _ (b_.length+pG g dL) (by rw [aQ,hlen];omega) ⟨c1,b_,iE,fz,dL,by simp only [↓al,br,simprocAttr],Ax,hy,gd,l7,Dl,Aq.skip c,sf,rfl,by omega,Au,by omega⟩
 have ya:¬π (dL x)=π (dL y):=fun z=>c (hy.inj _ _ (gd.lt x ai.1) (gd.lt y ai.2) z);have nc:=gd.lt x ai.1;have sI:=gd.lt y ai.2;have xv:=Way.root gd l7 rx;have CU:=Way.root gd l7 uO;have fin:∀(R s:Nat) (Jc:∀aJ:dy,g.nodes[R]? =some aJ->aJ.cd=false),((R=dL x/\s=dL y)\/(R=dL y/\s=dL x))->∀(rq:bc) (ab:ah),rq 5=c1->eU ab g π bO (fun a=>if a=R then s else iE a) (eE fz s (p7 (fz R) (fz s)))->Mod (jq g π) g3 ab->ab.next=g3.next->Yl rq ab:=by
  intro R s Jc Sc rq ab e_ jS kc n5;have cC:dL R=R/\dL s=s/\R≠s/\R<g.N/\s<g.N:=by
   rcases Sc with ⟨rfl,rfl⟩ | ⟨rfl,rfl⟩
   . exact ⟨rx,uO,c,nc,sI⟩
   . exact ⟨uO,rx,fun z=>c z.symm,sI,nc⟩
  obtain ⟨b6,z2,z3,z4,z5⟩:=cC;have hw:=XN b6 z2 z3 z4;refine JY _ _ (b_.length+pG g (eQ dL R s)) (by rw [aQ,hlen];omega) ⟨c1,b_,_,_,eQ dL R s,e_,F5 kc Ax,jS,gd.one b6 z2 z3 z4 z5 (fun aJ ao ax=>by rw [Jc aJ ao] at ax;cases ax),l7.one gd b6 z2 z3,Dl.one b6 z2 z3 z4 z5,Aq.aog gd (by
   rcases Sc with ⟨rfl,rfl⟩ | ⟨rfl,rfl⟩
   . exact .inl ⟨rfl,rfl⟩
   . exact .inr ⟨rfl,rfl⟩) b6 z2 Jc,sf,rfl,by rw [aQ,hlen] at pZ;omega,Au.trans kc,by omega⟩
 cases v7:dP.cd with
 | false=>
   rw [v7] at mA;cases oQ:pb.cd with
   | false=>
     rw [oQ] at gK;simp +contextual only [Z.g,nI.g,lq.g,uB,decide_eq_false ya,mA,gK,jl,↓al,aK,simprocAttr];refine G9 hy sI nc (fun z=>c z.symm) CU xv (by simp only [↓al,br,simprocAttr]) (by simp only [↓al,br,simprocAttr]) fun rq ab e_ jS kc n5=>?_;simp only [↓al,aK,simprocAttr];exact fin _ _ (fun aJ q=>by rw [nO] at q;cases q;exact oQ) (.inr ⟨rfl,rfl⟩) _ _ (by rw [e_];simp only [↓al,br,simprocAttr]) jS kc n5
   | true=>
     rw [oQ] at gK;simp +contextual only [Z.g,nI.g,lq.g,uB,decide_eq_false ya,mA,gK,jl,↓al,aK,simprocAttr];refine G9 hy nc sI c xv CU (by simp only [↓al,br,simprocAttr]) (by simp only [↓al,br,simprocAttr]) fun rq ab e_ jS kc n5=>?_;simp only [↓al,aK,simprocAttr];exact fin _ _ (fun aJ q=>by rw [ex] at q;cases q;exact v7) (.inl ⟨rfl,rfl⟩) _ _ (by rw [e_];simp only [↓al,br,simprocAttr]) jS kc n5
 | true=>
   rw [v7] at mA;cases oQ:pb.cd with
   | false=>
     rw [oQ] at gK;simp +contextual only [Z.g,nI.g,lq.g,uB,decide_eq_false ya,mA,gK,jl,↓al,aK,simprocAttr];refine G9 hy sI nc (fun z=>c z.symm) CU xv (by simp only [↓al,br,simprocAttr]) (by simp only [↓al,br,simprocAttr]) fun rq ab e_ jS kc n5=>?_;simp only [↓al,aK,simprocAttr];exact fin _ _ (fun aJ q=>by rw [nO] at q;cases q;exact oQ) (.inr ⟨rfl,rfl⟩) _ _ (by rw [e_];simp only [↓al,br,simprocAttr]) jS kc n5
   | true=>
     rw [oQ] at gK;obtain ⟨vd,Wl,FY⟩:=hy.dO _ _ ex;obtain ⟨Yo,aq1,aqz⟩:=hy.dO _ _ nO;have zk:=vd.len;have T':=Yo.len;by_cases cs:dP.s=pb.s
     . by_cases qI:dP.kids.length=pb.kids.length
       . simp +contextual only [Z.g,nI.g,lq.g,uB,decide_eq_false ya,mA,gK,eq_true cs,zk,T',qI,eq_self,GM,jl,↓al,aK,simprocAttr];have bn:(dP.kids.zip pb.kids).length=dP.kids.length:=by rw [List.length_zip,qI];omega
         have jY:wJ g (dL x)=dP.kids.length:=by unfold wJ;rw [ex]
         have hw:=XN rx uO c nc;rw [jY] at hw;rw [hlen] at aQ;refine gD (fun r k=>r 7=.ptr (aj (π (dL x))) 0/\r 8=.ptr (aj (π (dL y))) 0/\r 74=.int .i64 dP.kids.length/\∃(i:Nat) (u:V),r 75=.int .i64 i/\r 5=u/\i<=dP.kids.length/\dW h.next k 2 u (b_.length+i) (qh π (b_++(dP.kids.zip pb.kids).take i))/\eU k g π bO iE fz/\Mod (jq g π) h k/\g3.next<=k.next) (fun r k=>dP.kids.length - (r 75).toN) ?_ ?_
         . exact ⟨by simp only [↓al,br,simprocAttr],by simp only [↓al,br,simprocAttr],by simp only [qI,↓al,br,simprocAttr],0,c1,by simp only [↓al,br,simprocAttr]<;>rfl,by simp only [↓al,br,simprocAttr],Nat.zero_le _,by simpa using Ax,hy,Au,Nat.le_refl _⟩
         rintro r k ⟨eg,dE,V5,i,u,V6,dZ,aq,Ay,gL,mD,aD⟩;have hX:=Ay.v.one;have HH:=gL.root ex xv;have HI:=gL.root nO CU;rw [v7] at HH;rw [oQ] at HI;unfold I9;by_cases aT:i<dP.kids.length
         . have vO:((i:Int) < (dP.kids.length:Int))=True:=eq_true (by omega);obtain ⟨Oi,_,_⟩:=gL.dO _ _ ex;obtain ⟨Oj,_,_⟩:=gL.dO _ _ nO;have uw:=Oi.one;have U3:=Oj.one;obtain ⟨IS,fm,BN,xC⟩:=Oi.dD (k:=.i64) aT;obtain ⟨Z',h_,agI,NQ⟩:=Oj.dD (k:=.i64) (i:=i) (by omega);have sF:=xC.fy (i:=i) (by rw [List.length_map];exact aT);have LC:=NQ.fy (i:=i) (by rw [List.length_map];omega);rw [List.getElem_map] at sF LC;rw [show fm+i=fm+i * 1 by omega] at sF;rw [show h_+i=h_+i * 1 by omega] at LC;have d1:(k.next=π (dL x))=False:=eq_false (by have:=gL.lt nc;omega);have d2:(k.next=π (dL y))=False:=eq_false (by have:=gL.lt sI;omega);have d3:(aj k.next=IS)=False:=Ci xC.1 (Nat.le_refl _);have d4:(aj k.next=Z')=False:=Ci NQ.1 (Nat.le_refl _);obtain ⟨ha,bo,b0,b1,cS,iU,ni⟩:=vo (cs:=[.ptr (aj (π dP.kids[i])) 0,.ptr (aj (π pb.kids[i])) 0]) (by omega) Ay (by omega) (by unfold top;omega) rfl rfl;have Cn:=b1.v.one;have eR:IntKind.i64.wrap ((i:Int)+1)=((i+1:Nat):Int):=by rw [wrap_i64 (by omega) (by omega)];rfl
           simp +contextual only [eg,dE,V5,V6,dZ,vO,HH,HI,uw.1,uw.2.1,U3.1,U3.2.1,BN,agI,sF,LC,d1,d2,d3,d4,if_false,b0,eR,hX.1,hX.2.1,Cn.1,Cn.2.1,↓al,aK,simprocAttr];have su:∀b,u.aW b->h.next<=dr b:=fun b q=>Ay.base q
           refine ⟨⟨i+1,ha,rfl,by simp only [↓al,br,simprocAttr],aT,?_,gL.mod cS (fun j a6 q=>?_) (fun j b a6 ae q=>?_),mD.zU cS su,by omega⟩,by omega⟩
           . rw [show b_.length + (i+1)=b_.length+i+1 by omega,List.take_succ_eq_append_getElem (by rw [bn];exact aT),<-List.append_assoc,Vz];simpa [qh] using b1
           . have:=su _ q;rw [cm] at this;have:=L9 j a6;omega
           . have:=su _ q;have:=ak8 j b a6 ae;omega
         . have vO:((i:Int) < (dP.kids.length:Int))=False:=eq_false (by omega);rw [List.take_of_length_le (by rw [bn];omega)] at Ay;simp +contextual only [eg,dE,V5,V6,dZ,vO,HH,HI,↓al,aK,simprocAttr];refine G9 gL nc sI c xv CU (by simp only [eg,↓al,br,simprocAttr]) (by simp only [dE,↓al,br,simprocAttr]) fun rq ab e_ jS kc n5=>?_;simp only [↓al,aK,simprocAttr];have iP:i=dP.kids.length:=by omega
           refine JY _ _ (b_.length+dP.kids.length+pG g (eQ dL (dL x) (dL y))) (by omega) ⟨u,b_++dP.kids.zip pb.kids,_,_,eQ dL (dL x) (dL y),by rw [e_];simp only [dZ,↓al,br,simprocAttr],?_,jS,gd.one rx uO c nc sI (fun aJ ao ax=>⟨pb,nO,oQ⟩),l7.one gd rx uO c,Dl.one rx uO c nc sI,(Aq.aof gd rfl rfl ex nO v7 oQ cs qI).perm fun p=>by simp [or_comm],fun p af=>?_,by rw [List.length_append,bn],by omega,mD.trans kc,by omega⟩
           . rw [List.length_append,bn,<-iP];exact F5 kc Ay
           . rcases List.mem_append.1 af with af | af
             . exact sf p af
             . obtain ⟨b0,b1⟩:=p;have:=List.of_mem_zip af;exact ⟨W.sD ex this.1,W.sD nO this.2⟩
       . have abT:¬((dP.kids.length:Int)=(pb.kids.length:Int)):=by omega
         simp +contextual only [Z.g,nI.g,lq.g,uB,decide_eq_false ya,mA,gK,eq_true cs,zk,T',eq_false abT,GM,jl,↓al,aK,simprocAttr];exact ⟨Au,iE,fz,dL,hy,gd,l7,.inl (Aq.QD gd rfl rfl ex nO v7 oQ (.inr qI))⟩
     . simp +contextual only [Z.g,nI.g,lq.g,uB,decide_eq_false ya,mA,gK,eq_false cs,GM,jl,↓al,aK,simprocAttr];exact ⟨Au,iE,fz,dL,hy,gd,l7,.inl (Aq.QD gd rfl rfl ex nO v7 oQ (.inl cs))⟩
section
variable {α:Type}
def hq (i:Nat):List (Nat × α)->Option α
 | []=>none
 | (n,a)::bw=>if i=n then some a else hq i bw
def nj (i:Nat) (x:α):List (Nat × α)->List (Nat × α)
 | []=>[(i,x)]
 | (n,a)::bw=>if i=n then (i,x)::bw else (n,a)::nj i x bw
theorem LH (i:Nat) (x:α) (j:Nat):∀bw:List (Nat × α),hq j (nj i x bw)=if j=i then some x else hq j bw
 | []=>by simp only [nj,hq]
 | (n,a)::bw=>by
   simp only [nj];by_cases q:i=n
   . subst q;simp only [if_true,hq]
     split<;>rfl
   . rw [if_neg q];simp only [hq,LH i x j bw];by_cases r:j=n
     . rw [if_pos r,if_neg (fun z=>q (z.symm.trans r)),if_pos r]
     . rw [if_neg r,if_neg r]
theorem Lw (i:Nat) (x:α):∀bw:List (Nat × α),∀j,j ∈ (nj i x bw).map Prod.fst->j=i\/j ∈ bw.map Prod.fst
 | [],j,h=>by simp [nj] at h;exact .inl h
 | (n,a)::bw,j,h=>by
   simp only [nj] at h
   split at h
   . simp only [List.map_cons,List.mem_cons] at h ⊢;rcases h with h | h
     . exact .inl h
     . exact .inr (.inr h)
   . simp only [List.map_cons,List.mem_cons] at h ⊢;rcases h with h | h
     . exact .inr (.inl h)
     . rcases Lw i x bw j h with h | h
       . exact .inl h
       . exact .inr (.inr h)
theorem Ue {i:Nat} {a:α}:∀{bw:List (Nat × α)},hq i bw=some a->(i,a) ∈ bw
 | [],h=>by cases h
 | (n,b)::bw,h=>by
   simp only [hq] at h
   split at h
   . rename_i q;cases h;subst q;exact List.mem_cons_self
   . exact List.mem_cons_of_mem _ (Ue h)
theorem B4 {i:Nat}:∀{bw:List (Nat × α)},hq i bw=none↔i ∉ bw.map Prod.fst
 | []=>by simp [hq]
 | (n,b)::bw=>by
   simp only [hq,List.map_cons,List.mem_cons,not_or];by_cases q:i=n
   . simp [q]
   . rw [if_neg q,B4 (bw:=bw)];simp [q]
def oy (e:α->V) (π:Nat->Nat):List (Nat × α)->List cE->Prop
 | [],[]=>True
 | (n,a)::bw,m::es=>m.k=.ptr (aj (π n)) 0/\m.v=e a/\oy e π bw es
 | _,_=>False
structure hM (e:α->V) (π:Nat->Nat) (h:ah) (b:aO) (bw:List (Nat × α)):Prop where
 ex:∃es clock,h.get b=.mp es clock/\oy e π bw es/\hA clock 0 es=true
 bP:Old h b
variable {e:α->V} {π:Nat->Nat} {h ab:ah} {b:aO} {bw:List (Nat × α)} {es:List cE} {i:Nat}
abbrev vc (h:ah) (π:Nat->Nat) (i:Nat) (aI:List Nat):Prop:=∀j,j ∈ aI->g' h (.ptr (aj (π i)) 0) (.ptr (aj (π j)) 0)=some (decide (i=j))
theorem oy.find (H:oy e π bw es) (K:vc h π i (bw.map Prod.fst)):mI ⟨g' h⟩ (.ptr (aj (π i)) 0) es=some ((hq i bw).map e):=by
 induction bw generalizing es with
 | nil=>
   cases es with
   | nil=>rfl
   | cons m es=>exact H.elim
 | cons p bw bd=>
   obtain ⟨n,a⟩:=p;cases es with
   | nil=>exact H.elim
   | cons m es=>
     obtain ⟨aa,ad,aH⟩:=H;have jE:=K n (by simp);simp only [mI,aa,jE,hq];by_cases q:i=n
     . subst q;simp [ad]
     . simp only [q,decide_false,cond_false,if_false];exact bd aH fun j a6=>K j (by simp only [List.map_cons,List.mem_cons];exact .inr a6)
theorem oy.qT (H:oy e π bw es) (K:vc h π i (bw.map Prod.fst)) (aQ:hq i bw=none):aY.qT ⟨g' h⟩ (.ptr (aj (π i)) 0) es=some none:=by
 induction bw generalizing es with
 | nil=>
   cases es with
   | nil=>rfl
   | cons m es=>exact H.elim
 | cons p bw bd=>
   obtain ⟨n,a⟩:=p;cases es with
   | nil=>exact H.elim
   | cons m es=>
     obtain ⟨aa,ad,aH⟩:=H;have jE:=K n (by simp);simp only [hq] at aQ
     split at aQ
     . cases aQ
     . rename_i q;simp only [aY.qT,aa,jE,q,decide_false,cond_false];exact bd aH (fun j a6=>K j (by simp only [List.map_cons,List.mem_cons];exact .inr a6)) aQ
theorem oy.put (H:oy e π bw es) (K:vc h π i (bw.map Prod.fst)) (x:α) (clock:Nat) (bC:Nat) (eC:bC<=clock) (B:hA clock bC es=true):
 ∃gf f,kM ⟨g' h⟩ (.ptr (aj (π i)) 0) (e x) clock es=some (gf,f)/\oy e π (nj i x bw) gf/\hA (bif f then clock+1 else clock) bC gf=true:=by
 induction bw generalizing es bC with
 | nil=>
   cases es with
   | nil=>
     refine ⟨_,true,rfl,⟨rfl,rfl,trivial⟩,?_⟩;simp only [hA,cond_true,Bool.and_true,Bool.and_eq_true,Nat.ble_eq,Nat.blt_eq];omega
   | cons m es=>exact H.elim
 | cons p bw bd=>
   obtain ⟨n,a⟩:=p;cases es with
   | nil=>exact H.elim
   | cons m es=>
     obtain ⟨aa,ad,aH⟩:=H;simp only [hA,Bool.and_eq_true,Nat.ble_eq,Nat.blt_eq] at B;obtain ⟨⟨cn,ch⟩,gk⟩:=B;have jE:=K n (by simp);simp only [kM,aa,jE,nj];by_cases q:i=n
     . subst q;refine ⟨⟨.ptr (aj (π i)) 0,e x,m.born⟩::es,false,by simp only [decide_true,cond_true],?_,?_⟩
       . rw [if_pos rfl];exact ⟨rfl,rfl,aH⟩
       . simp only [cond_false,hA,gk,Bool.and_true,Bool.and_eq_true,Nat.ble_eq,Nat.blt_eq];exact ⟨cn,ch⟩
     . obtain ⟨gf,f,ao,ax,aL⟩:=bd (bC:=m.born+1) aH (fun j a6=>K j (by simp only [List.map_cons,List.mem_cons];exact .inr a6)) (by omega) gk;refine ⟨m::gf,f,by simp only [q,decide_false,cond_false,ao],by rw [if_neg q];exact ⟨aa,ad,ax⟩,?_⟩;simp only [hA,aL,Bool.and_true,Bool.and_eq_true,Nat.ble_eq,Nat.blt_eq];refine ⟨cn,?_⟩;cases f<;>simp only [cond_true,cond_false]<;>omega
theorem oy.snoc (H:oy e π bw es) (x:α) (c:Nat):oy e π (bw++[(i,x)]) (es++[⟨.ptr (aj (π i)) 0,e x,c⟩]):=by
 induction bw generalizing es with
 | nil=>
   cases es with
   | nil=>exact ⟨rfl,rfl,trivial⟩
   | cons m es=>exact H.elim
 | cons p bw bd=>
   cases es with
   | nil=>exact H.elim
   | cons m es=>exact ⟨H.1,H.2.1,bd H.2.2⟩
theorem Pv {c:Nat} {k v:V}:∀{es:List cE} {bC:Nat},bC<=c->hA c bC es=true->hA (c+1) bC (es++[⟨k,v,c⟩])=true
 | [],bC,h,_=>by simp only [List.nil_append,hA,Bool.and_true,Bool.and_eq_true,Nat.ble_eq,Nat.blt_eq];omega
 | m::es,bC,h,B=>by simp only [hA,Bool.and_eq_true,Nat.ble_eq,Nat.blt_eq] at B;simp only [List.cons_append,hA,Bool.and_eq_true,Nat.ble_eq,Nat.blt_eq];exact ⟨⟨B.1.1,by omega⟩,Pv (by omega) B.2⟩
theorem RB {c:Nat} {k v x:V}:∀{es:List cE} {bC:Nat},hA c bC es=true->sa c x (es++[⟨k,v,c⟩])=some (es++[⟨k,x,c⟩])
 | [],bC,_=>by simp [sa]
 | m::es,bC,B=>by
   simp only [hA,Bool.and_eq_true,Nat.ble_eq,Nat.blt_eq] at B;have:Nat.beq m.born c=false:=by rw [<-Bool.not_eq_true,Nat.beq_eq];omega
   simp only [List.cons_append,sa,this,cond_false,RB B.2]
theorem hM.ext (H:hM e π h b bw) (x:Ext h ab):hM e π ab b bw:=by obtain ⟨es,clock,ao,ax,aL⟩:=H.ex;exact ⟨⟨es,clock,by rw [x.get b H.bP];exact ao,ax,aL⟩,x.bP H.bP⟩
theorem hM.mod {M:aO->Prop} (H:hM e π h b bw) (m:Mod M h ab) (ae:¬M b):hM e π ab b bw:=by obtain ⟨es,clock,ao,ax,aL⟩:=H.ex;exact ⟨⟨es,clock,by rw [m.get b H.bP ae];exact ao,ax,aL⟩,m.bP H.bP⟩
theorem hM.look (H:hM e π h b bw) (K:vc h π i (bw.map Prod.fst)) (z:V) (ok:Bool):je ⟨g' h⟩ z ok h (.map b) (.ptr (aj (π i)) 0)=some (match hq i bw with
 | some a=>(bif ok then .tuple [e a,.bool true] else e a)
 | none=>(bif ok then .tuple [z,.bool false] else z)):=by
 obtain ⟨es,clock,ao,ax,aL⟩:=H.ex;simp only [je,sJ,ao,b9.jJ,ax.find K];cases hq i bw<;>rfl
theorem hM.eE (H:hM e π h b bw) (K:vc h π i (bw.map Prod.fst)) (x:α):∃ab,kt ⟨g' h⟩ h (.map b) (.ptr (aj (π i)) 0) (e x)=some ab/\hM e π ab b (nj i x bw)/\Mod (fun p=>p=b) h ab/\ab.next=h.next:=by obtain ⟨es,clock,ao,ax,aL⟩:=H.ex;obtain ⟨gf,f,bD,b3,cc⟩:=ax.put K x clock 0 (Nat.zero_le _) aL;refine ⟨h.set b (.mp gf (bif f then clock+1 else clock)),by simp only [kt,ao,b9.jJ,bD],⟨⟨gf,_,by rw [dv,if_pos rfl],b3,cc⟩,?_⟩,(Mod.refl (fun p=>p=b) h).set (fun _=>rfl) _,rfl⟩;exact ((Mod.refl (fun p=>p=b) h).set (fun _=>rfl) _).bP H.bP
theorem hM.entry (H:hM e π h b bw) (K:vc h π i (bw.map Prod.fst)) (aQ:hq i bw=none) (z:V) (x:α):∃(c:Nat) (aa ad:ah),ye z (.map b) (.ptr (aj (π i)) 0) h=.val (.tuple [z,.int .i64 c]) aa/\tG aa (.map b) (.int .i64 c) (e x)=some ad/\
 hM e π ad b (bw++[(i,x)])/\Mod (fun p=>p=b) h aa/\aa.next=h.next/\Mod (fun p=>p=b) h ad/\ad.next=h.next:=by
 obtain ⟨es,clock,ao,ax,aL⟩:=H.ex;have m1:∀k,Mod (fun p=>p=b) h (h.set b k):=fun k=>(Mod.refl (fun p=>p=b) h).set (fun _=>rfl) _;refine ⟨clock,h.set b (.mp (es++[⟨.ptr (aj (π i)) 0,z,clock⟩]) (clock+1)),(h.set b (.mp (es++[⟨.ptr (aj (π i)) 0,z,clock⟩]) (clock+1))).set b (.mp (es++[⟨.ptr (aj (π i)) 0,e x,clock⟩]) (clock+1)),?_,?_,⟨⟨_,_,by rw [dv,if_pos rfl],ax.snoc x clock,Pv (Nat.zero_le _) aL⟩,(((m1 _).set (fun _=>rfl) _).bP H.bP)⟩,m1 _,rfl,(m1 _).set (fun _=>rfl) _,rfl⟩
 . simp only [ye,wP,ao,b9.jJ,ax.qT K aQ]
 . have:((clock:Nat):Int)=Int.ofNat clock:=rfl;simp only [tG,this,dv,if_true,b9.jJ,RB aL]
theorem hM.new (e:α->V) (π:Nat->Nat) (h:ah):hM e π (h.new (.mp [] 0)) (aj h.next) []:=
 ⟨⟨[],0,nQ _,trivial,rfl⟩,gi (by rw [gF];omega)⟩
end
theorem eU.key {h:ah} {g:bm} {π:Nat->Nat} {bO:Nat->V} {w:Nat->Nat} {bE:Nat->Int} (H:eU h g π bO w bE) {i:Nat} (aq:i<g.N) {aI:List Nat} (aD:∀j ∈ aI,j<g.N):vc h π i aI:=fun j a6=>by
 obtain ⟨akN,a_⟩:=ly aq;obtain ⟨akP,acF⟩:=ly (aD j a6);have g1:=(H.has i akN a_).g;have g2:=(H.has j akP acF).g;unfold g';simp only [OA,g1,g2,b9.bx,b9.zD,Bool.not_false,Bool.and_self,cond_true];by_cases c:i=j
 . subst c;simp
 . rw [decide_eq_false (fun z=>c (H.inj i j aq (aD j a6) (ed z))),decide_eq_false c];simp
theorem F_:∀(n:Nat) (l:List Nat),l.Nodup->(∀x ∈ l,x<n)->l.length<=n
 | 0,l,_,h=>by
   cases l with
   | nil=>exact Nat.le_refl _
   | cons x l=>have:=h x List.mem_cons_self;omega
 | n+1,l,aQ,h=>by
   by_cases q:n ∈ l
   . have:=F_ n (l.erase n) (aQ.erase n) fun x ai=>by
      have aa:=h x (List.mem_of_mem_erase ai);have ad:=(aQ.mem_erase_iff.1 ai).1;omega
     rw [List.length_erase_of_mem q] at this;omega
   . have:=F_ n l aQ fun x ai=>by
      have aa:=h x ai;have ad:x≠n:=fun z=>q (z ▸ ai);omega
     omega
theorem am8 [Lay] {h:ah} {size:Nat} {v:V} {n:Nat} {ag:List V} (H:gy h size v n ag) {b:aO} (ae:v.aW b):∃us,Rd h b us:=by
 have cy:=H.2;cases v<;>simp only [V.aW] at ae<;>simp only at cy
 all_goals
  subst ae;obtain ⟨_,_,us,aa,_⟩:=cy;exact ⟨us,aa⟩
theorem LV {h:ah} {b bI:aO} {es:List cE} {c:Nat} {us:List V} (aa:h.get b=.mp es c) (ad:Rd h bI us):b≠bI:=fun q=>by subst q;rcases ad with ad | ⟨_,_,ad⟩<;>rw [aa] at ad<;>cases ad
abbrev G7 (t:an):V:=.int .i64 ((min t.size 4097:Nat):Int)
abbrev Q7 (t:an):V:=.int .i64 ((t.deep:Nat):Int)
structure kT (h:ah) (g:bm) (π:Nat->Nat) (bO:Nat->V) (w:Nat->Nat) (bE:Nat->Int) (ie:Nat) (cW dp c7:aO) (md:List (Nat × an)) (h':List (Nat × Bool)):Prop where
 fX:eU h g π bO w bE
 hw:Has h ie [.map cW,.map dp,.map c7]
 ms:hM G7 π h cW md
 r7:hM Q7 π h dp md
 op:hM V.bool π h c7 h'
 d1:cW≠dp
 d2:cW≠c7
 d3:dp≠c7
 zu:∀i,i<g.N->ie≠π i
 p_:∀i,i<g.N->¬(bO i).aW (aj ie)
def rL (g:bm) (π:Nat->Nat) (cW dp c7:aO) (b:aO):Prop:=jq g π b\/b=cW\/b=dp\/b=c7
section
variable {h ab:ah} {g:bm} {π:Nat->Nat} {bO:Nat->V} {w:Nat->Nat} {bE:Nat->Int} {ie:Nat} {cW dp c7:aO} {md:List (Nat × an)} {h':List (Nat × Bool)}
theorem hM.apart {α:Type} {e:α->V} {b:aO} {bw:List (Nat × α)} (M:hM e π h b bw) (P:eU h g π bO w bE):(∀i,i<g.N->b≠aj (π i))/\∀i,i<g.N->¬(bO i).aW b:=by
 obtain ⟨es,c,q,_⟩:=M.ex;refine ⟨fun i aq=>?_,fun i aq z=>?_⟩
 . obtain ⟨aJ,e⟩:=ly aq;exact LV q (.inr ⟨_,_,(P.has i aJ e).g⟩)
 . obtain ⟨aJ,e⟩:=ly aq;obtain ⟨us,r⟩:=am8 (P.dO i aJ e).1 z;exact LV q r rfl
theorem hM.L0 {α:Type} {e:α->V} {b:aO} {bw:List (Nat × α)} (M:hM e π h b bw) {n:Nat} {l:List V} (P:Has h n l):b≠aj n:=by obtain ⟨es,c,q,_⟩:=M.ex;exact LV q (.inr ⟨_,_,P.g⟩)
theorem kT.find (H:kT h g π bO w bE ie cW dp c7 md h') {w':Nat->Nat} (P:eU ab g π bO w' bE) (m:Mod (jq g π) h ab):kT ab g π bO w' bE ie cW dp c7 md h':=by have cx:=(H.ms.apart H.fX).1;have e8:=(H.r7.apart H.fX).1;have n3:=(H.op.apart H.fX).1;exact ⟨P,H.hw.mod m fun ⟨i,aq,q⟩=>H.zu i aq (ed q),H.ms.mod m fun ⟨i,aq,q⟩=>cx i aq q,H.r7.mod m fun ⟨i,aq,q⟩=>e8 i aq q,H.op.mod m fun ⟨i,aq,q⟩=>n3 i aq q,H.d1,H.d2,H.d3,H.zu,H.p_⟩
theorem kT.U7 (H:kT h g π bO w bE ie cW dp c7 md h') {lS:List (Nat × Bool)} (P:hM V.bool π ab c7 lS) (m:Mod (fun p=>p=c7) h ab):kT ab g π bO w bE ie cW dp c7 md lS:=by obtain ⟨cx,e8⟩:=H.op.apart H.fX;exact ⟨H.fX.mod m (fun i aq q=>cx i aq q.symm) fun i b aq ae q=>e8 i aq (by rw [<-show b=c7 from q];exact ae),H.hw.mod m fun q=>H.op.L0 H.hw q.symm,H.ms.mod m H.d2,H.r7.mod m H.d3,P,H.d1,H.d2,H.d3,H.zu,H.p_⟩
end
structure rN (g:bm) (R:Nat->Nat->Prop) (ρ:Nat->Nat) (md:List (Nat × an)) (opens:List Nat):Prop where
 all:∀p ∈ md,p.1<g.N/\ρ p.1=p.1/\du g R p.1 p.2/\p.2.deep<=md.length
 nodup:(md.map Prod.fst).Nodup
 free:∀p ∈ md,p.1 ∉ opens
theorem rN.keys {g:bm} {R:Nat->Nat->Prop} {ρ:Nat->Nat} {md:List (Nat × an)} {opens:List Nat} (H:rN g R ρ md opens):∀j ∈ md.map Prod.fst,j<g.N:=fun j a6=>by obtain ⟨p,af,rfl⟩:=List.mem_map.1 a6;exact (H.all p af).1
theorem rN.len {g:bm} {R:Nat->Nat->Prop} {ρ:Nat->Nat} {md:List (Nat × an)} {opens:List Nat} (H:rN g R ρ md opens):md.length<=g.N:=by have:=F_ g.N _ H.nodup H.keys;rwa [List.length_map] at this
theorem LG {α:Type} {i:Nat} {a:α}:∀{bw:List (Nat × α)},(bw.map Prod.fst).Nodup->(i,a) ∈ bw->hq i bw=some a
 | [],_,h=>by cases h
 | (n,b)::bw,aQ,h=>by
   simp only [List.map_cons,List.nodup_cons] at aQ;simp only [hq];rcases List.mem_cons.1 h with h | h
   . cases h;rw [if_pos rfl]
   . rw [if_neg (fun e=>aQ.1 (by rw [<-e];exact List.mem_map_of_mem h))];exact LG aQ.2 h
theorem anK {g:bm} {E:List (Nat × Nat)} {ρ:Nat->Nat} {bE:Nat->Int} {x:Nat} {aJ:dy} (W:g.dz) (S:ij g ρ) (J:fS g E ρ []) (L:l4 g ρ bE) (ai:ρ x=x) (e:g.nodes[x]? =some aJ) {l:List an} (az:l.length=aJ.kids.length)
 (aD:∀(i y:Nat) (t:an),aJ.kids[i]? =some y->l[i]? =some t->du g (cD g E) y t):∃t,du g (cD g E) x t/\t.size=1+cN l/\t.deep=hY l+1:=by
 cases c:aJ.cd with
 | true=>exact ⟨_,.cd (.refl x) e c az aD,by rw [an.size],by rw [an.deep]⟩
 | false=>
   obtain ⟨jE,_⟩:=W.var x aJ e c;rw [jE] at az;have TP:l=[]:=List.length_eq_zero_iff.1 az;subst TP;rcases L x (lx e) ai with ⟨_,ad⟩ | ⟨_,⟨y,pb,dT,e3,y3,y4⟩,aH⟩
   . have:=ad x aJ e ai;rw [c] at this;cases this
   . refine ⟨_,.var (b:=y) (J.done.2 (by rw [e3,ai])) dT y3 (fun z kq bn r'=>?_) (fun z kq bn r'=>?_),by simp [an.size,cN],by simp [an.deep,hY]⟩
     . cases vy:kq.cd with
       | false=>rfl
       | true=>
         obtain ⟨gh,ao,ax⟩:=S.top z kq r' vy;rw [<-J.done.1 bn,ai,e] at ao;cases ao;rw [c] at ax;cases ax
     . have vy:kq.cd=false:=by
        cases vy:kq.cd with
        | false=>rfl
        | true=>
          obtain ⟨gh,ao,ax⟩:=S.top z kq r' vy;rw [<-J.done.1 bn,ai,e] at ao;cases ao;rw [c] at ax;cases ax
       rw [y4];exact aH z kq r' (by rw [<-J.done.1 bn,ai]) vy
theorem Uy {g:bm} {π:Nat->Nat} {bO:Nat->V} {bE:Nat->Int} {ρ:Nat->Nat} {E:List (Nat × Nat)} {ie:Nat} {cW dp c7:aO} (W:g.dz) (EX:g.N<=1000000000) (S:ij g ρ) (J:fS g E ρ []) (L:l4 g ρ bE):
 ∀(fuel:Nat) (opens:List Nat) (x:Nat) (w:Nat->Nat) (md:List (Nat × an)) (h':List (Nat × Bool)) (h:ah),g.N+1<=fuel+opens.length->x<g.N->kT h g π bO w bE ie cW dp c7 md h'->Way w ρ->opens.Nodup->(∀r ∈ opens,r<g.N/\ρ r=r/\Reach g (cD g E) r x)->
 rN g (cD g E) ρ md opens->(∀i,(hq i h').getD false=decide (i ∈ opens))->(∀j ∈ h'.map Prod.fst,j<g.N)->
 c4 Tryz.prog 52 [.ptr (aj ie) 0,.ptr (aj (π x)) 0] h fun v ab=>Mod (rL g π cW dp c7) h ab/\((v=.bool false/\∃z,z<g.N/\¬∃t,du g (cD g E) z t)\/
  (v=.bool true/\∃w' kJ lS t,kT ab g π bO w' bE ie cW dp c7 kJ lS/\Way w' ρ/\rN g (cD g E) ρ kJ opens/\(∀p ∈ md,p ∈ kJ)/\(∀i,(hq i lS).getD false=decide (i ∈ opens))/\(∀j ∈ lS.map Prod.fst,j<g.N)/\(ρ x,t) ∈ kJ))
 | 0,opens,x,w,md,h',h,aB,ai,H,tv,aQ,j0,tW,kk,mV=>by have:=F_ g.N opens aQ fun r aG=>(j0 r aG).1;omega
 | fuel+1,opens,x,w,md,h',h,aB,ai,H,tv,aQ,j0,tW,kk,mV=>by
   have l5:=J.part;have cp:=S.lt x ai;have rp:=S.idem x;have tF:cD g E x (ρ x):=J.done.2 (by rw [rp]);refine abc.z rfl (dF ?_);unfold Qe;simp +contextual only [↓al,aK,simprocAttr];refine cF (zX H.fX S tv ai) ?_;rintro bq aa ⟨rfl,bW,gX,vm,kR⟩;have H1:=H.find gX kR;generalize apZ:ρ x=X at *;obtain ⟨eA,ex⟩:=ly cp;have wM:=H1.ms.look (gX.key cp tW.keys) (.int .i64 0) true;have aj6:=H1.op.look (gX.key cp mV) (.bool false) false;have H5:Mod (rL g π cW dp c7) h aa:=kR.mono fun b _ q=>.inl q;have wy:=H1.hw.g;cases aA:hq X md with
   | some t=>
     rw [aA] at wM;simp only [cond_true] at wM;simp +contextual only [wy,wM,jl,↓al,aK,simprocAttr];exact ⟨H5,.inr ⟨bW,md,h',t,H1,vm,tW,fun p af=>af,kk,mV,Ue aA⟩⟩
   | none=>
   rw [aA] at wM;simp only [cond_true] at wM;have FW:je ⟨g' aa⟩ (.bool false) false aa (.map c7) (.ptr (aj (π X)) 0)=some (.bool (decide (X ∈ opens))):=by rw [aj6,<-kk X];cases hq X h'<;>rfl
   by_cases yA:X ∈ opens
   . rw [decide_eq_true yA] at FW;simp +contextual only [wy,wM,FW,jl,↓al,aK,simprocAttr];refine ⟨H5,.inl ⟨X,cp,Reach.ring l5 (((j0 X yA).2.2).rr l5 tF)⟩⟩
   . rw [decide_eq_false yA] at FW;obtain ⟨ad,lX,lY,my,CO⟩:=H1.op.eE (gX.key cp mV) true;have cy:=H1.U7 lY my;have agq:=cy.hw.g;have gK:=cy.fX.has X eA ex;have aoR:=Way.root S vm rp;have Yb:=cy.fX.root ex aoR;obtain ⟨vd,Wl,FY⟩:=cy.fX.dO X eA ex;have zk:=vd.len;have uw:=vd.one;have MJ:ρ X=X:=rp;have M2:Mod (rL g π cW dp c7) h ad:=H5.trans (my.mono fun b _ q=>.inr (.inr (.inr q)));simp +contextual only [wy,agq,wM,FW,lX,Yb,zk,uw.1,uw.2.1,jl,↓al,aK,simprocAttr];have afF:∀r ∈ X::opens,r<g.N/\ρ r=r/\Reach g (cD g E) r X\/r=X:=fun r aG=>by
      rcases List.mem_cons.1 aG with rfl | aG
      . exact .inr rfl
      . obtain ⟨b6,z2,z3⟩:=j0 r aG;exact .inl ⟨b6,z2,z3.rr l5 tF⟩
     refine gD (fun r k=>r 0=.ptr (aj ie) 0/\r 1=.ptr (aj (π X)) 0/\r 37=bO X/\r 38=.int .i64 eA.kids.length/\∃(i:Nat) (w':Nat->Nat) (kJ:List (Nat × an)) (lS:List (Nat × Bool)) (l:List an),r 39=.int .i64 i/\r 7=.int .i64 ((min (1+cN l) 4097:Nat):Int)/\r 8=.int .i64 ((hY l:Nat):Int)/\i<=eA.kids.length/\l.length=i/\
      (∀(j y:Nat) (t:an),eA.kids[j]? =some y->l[j]? =some t->du g (cD g E) y t)/\hY l<=kJ.length/\kT k g π bO w' bE ie cW dp c7 kJ lS/\Way w' ρ/\rN g (cD g E) ρ kJ (X::opens)/\(∀p ∈ md,p ∈ kJ)/\(∀i,(hq i lS).getD false=decide (i ∈ X::opens))/\(∀j ∈ lS.map Prod.fst,j<g.N)/\Mod (rL g π cW dp c7) h k) (fun r _=>eA.kids.length - (r 39).toN) ?_ ?_
     . refine ⟨by simp only [↓al,br,simprocAttr],by simp only [↓al,br,simprocAttr],by simp only [↓al,br,simprocAttr],by simp only [↓al,br,simprocAttr],0,bW,md,nj X true h',[],by simp only [↓al,br,simprocAttr]<;>rfl,by simp only [↓al,br,simprocAttr]<;>rfl,by simp only [↓al,br,simprocAttr]<;>rfl,Nat.zero_le _,rfl,fun j y t _ q=>(by simp at q),Nat.zero_le _,cy,vm,⟨tW.all,tW.nodup,fun p af q=>?_⟩,fun p af=>af,fun i=>?_,fun j a6=>?_,M2⟩
       . rcases List.mem_cons.1 q with q | q
         . exact B4.1 aA (by rw [<-q];exact List.mem_map_of_mem af)
         . exact tW.free p af q
       . rw [LH];by_cases q:i=X
         . subst q;simp
         . rw [if_neg q,kk];simp [q]
       . rcases Lw X true h' j a6 with q | q
         . rw [q];exact cp
         . exact mV j q
     rintro r k ⟨bA,bD,uH,oo,i,w',kJ,lS,l,sU,eg,dE,aq,h6,y0,ap4,xL,qD,mT,S8,SO,KT,mD⟩;unfold Qf;have ap_:=mT.len;by_cases aT:i<eA.kids.length
     . have vO:((i:Int) < (eA.kids.length:Int))=True:=eq_true (by omega);obtain ⟨tl,_,_⟩:=xL.fX.dO X eA ex;obtain ⟨IS,fm,BN,xC⟩:=tl.dD (k:=.i64) aT;have sF:=xC.fy (i:=i) (by rw [List.length_map];exact aT);rw [List.getElem_map,show fm+i=fm+i * 1 by omega] at sF;have a1:eA.kids[i]? =some eA.kids[i]:=List.getElem?_eq_getElem aT;have BJ:=W.sD ex (List.getElem_mem aT);have aeE:eA.cd=true:=by
        cases c:eA.cd with
        | true=>rfl
        | false=>have:=(W.var X eA ex c).1;rw [this] at aT;simp at aT
       have V9:Reach g (cD g E) X eA.kids[i]:=.dO (.refl X) ex aeE a1 (.refl _);simp +contextual only [bA,bD,uH,oo,sU,eg,dE,vO,BN,sF,jl,↓al,aK,simprocAttr];refine cF (Uy W EX S J L fuel (X::opens) eA.kids[i] w' kJ lS k (by simp only [List.length_cons];omega) BJ xL qD (List.nodup_cons.2 ⟨yA,aQ⟩) (fun q nY=>?_) mT SO KT) ?_
       . rcases afF q nY with ⟨b6,z2,z3⟩ | rfl
         . exact ⟨b6,z2,z3.trans V9⟩
         . exact ⟨cp,MJ,V9⟩
       rintro v bT ⟨vf,⟨rfl,Bb⟩ | ⟨rfl,bV,B8,L8,t,Af,l7,yN,Fi,sj,sk,fl⟩⟩
       . simp +contextual only [jl,↓al,aK,simprocAttr];exact ⟨mD.trans vf,.inl Bb⟩
       . simp +contextual only [bA,bD,uH,oo,sU,eg,dE,jl,↓al,aK,simprocAttr];refine cF (zX Af.fX S l7 BJ) ?_;rintro v en ⟨rfl,hv,nC,It,kS⟩;have xK:=Af.find nC kS;have SX:=S.lt _ BJ;have e7:=LG yN.nodup fl;have ls:=xK.ms.look (nC.key SX yN.keys) (.int .i64 0) false;have ld:=xK.r7.look (nC.key SX yN.keys) (.int .i64 0) false;rw [e7] at ls ld;simp only [cond_false] at ls ld;have agr:=xK.hw.g;obtain ⟨b6,z2,z3,z4⟩:=yN.all _ fl;have anO:du g (cD g E) eA.kids[i] t:=z3.rr l5 (J.done.2 (S.idem _));have ap':=yN.len;have aqi:kJ.length<=B8.length:=by
          have:(kJ.map Prod.fst).length<=(B8.map Prod.fst).length:=by
           have key:∀(a b:List Nat),a.Nodup->(∀x ∈ a,x ∈ b)->a.length<=b.length:=by
            intro a
            induction a with
            | nil=>intro b _ _;exact Nat.zero_le _
            | cons x a bd=>
              intro b aQ aM;have Tk:=aM x List.mem_cons_self;have oU:=List.nodup_cons.1 aQ;have:=bd (b.erase x) oU.2 fun y a1=>by refine (List.mem_erase_of_ne (fun z=>oU.1 (by rw [<-z];exact a1))).2 (aM y (List.mem_cons_of_mem _ a1))
              rw [List.length_erase_of_mem Tk] at this;have:0<b.length:=List.length_pos_of_mem Tk;simp only [List.length_cons];omega
           refine key _ _ mT.nodup fun j a6=>?_;obtain ⟨p,af,rfl⟩:=List.mem_map.1 a6;exact List.mem_map_of_mem (Fi p af)
          simpa using this
         have Nx:IntKind.i64.wrap (((min (1+cN l) 4097:Nat):Int) + ((min t.size 4097:Nat):Int))=((min (1+cN l) 4097:Nat):Int) + ((min t.size 4097:Nat):Int):=wrap_i64 (by omega) (by omega);have Hj:(if (4097:Int) < ((min (1+cN l) 4097:Nat):Int) + ((min t.size 4097:Nat):Int) then (4097:Int) else ((min (1+cN l) 4097:Nat):Int) + ((min t.size 4097:Nat):Int))=((min (1+cN (l++[t])) 4097:Nat):Int):=by
          rw [Cx,cN,cN]
          split<;>omega
         have aox:(if ((hY l:Nat):Int) < ((t.deep:Nat):Int) then ((t.deep:Nat):Int) else ((hY l:Nat):Int))=((hY (l++[t]):Nat):Int):=by rw [Uw,Mk,hY,hY,Nat.max_zero]
         have eR:IntKind.i64.wrap ((i:Int)+1)=((i+1:Nat):Int):=by unfold top at FY;rw [wrap_i64 (by omega) (by omega)];rfl
         have Yv:Mod (rL g π cW dp c7) h en:=(mD.trans vf).trans (kS.mono fun b _ q=>.inl q);simp +contextual only [bA,bD,uH,oo,sU,eg,dE,agr,ls,ld,Nx,Hj,aox,eR,jl,↓al,aK,simprocAttr];refine ⟨⟨i+1,hv,B8,L8,l++[t],rfl,rfl,rfl,aT,by rw [List.length_append,h6];rfl,fun j y u a6 hu=>?_,?_,xK,It,yN,fun p af=>Fi p (S8 p af),sj,sk,Yv⟩,by omega⟩
         . rcases mJ hu with hu | ⟨S',rfl⟩
           . exact y0 j y u a6 hu
           . rw [h6] at S';subst S';rw [a1] at a6;cases a6;exact anO
         . rw [Mk,hY,hY];simp only [] at z4;omega
     . have vO:((i:Int) < (eA.kids.length:Int))=False:=eq_false (by omega);have afb:i=eA.kids.length:=by omega
       obtain ⟨t,Y5,Y6,ON⟩:=anK W S J L MJ ex (l:=l) (by rw [h6,afb]) y0;obtain ⟨bT,v1,v2,v3,v4⟩:=xL.op.eE (i:=X) (xL.fX.key cp KT) false;have ig:=xL.U7 v2 v3;have agt:=xL.hw.g;have ags:=ig.hw.g;have mN:hq X kJ=none:=B4.2 fun q=>by obtain ⟨p,af,e⟩:=List.mem_map.1 q;exact mT.free p af (by rw [e];exact List.mem_cons_self)
       obtain ⟨bS,en,gg,bN,a2,a3,a4,a5,hN,DB⟩:=ig.ms.entry (i:=X) (ig.fX.key cp mT.keys) mN (.int .i64 0) t;have ape:kT gg g π bO w' bE ie cW dp c7 kJ (nj X false lS)->True:=fun _=>trivial;have S3:=ig.ms.apart ig.fX;have kU:eU gg g π bO w' bE:=ig.fX.mod hN (fun j a6 q=>S3.1 j a6 q.symm) fun j b a6 ae q=>S3.2 j a6 (by rw [<-show b=cW from q];exact ae);have Tf:Has gg ie [.map cW,.map dp,.map c7]:=ig.hw.mod hN fun q=>ig.ms.L0 ig.hw q.symm;have Jp:=ig.r7.mod hN fun q=>ig.d1 q.symm;have alq:=ig.op.mod hN fun q=>ig.d2 q.symm;obtain ⟨bX,km,k8,cn,ch,gk,l8,l9,nJ,DP⟩:=Jp.entry (i:=X) (kU.key cp mT.keys) mN (.int .i64 0) t;have Sm:=Jp.apart kU;have qA:eU k8 g π bO w' bE:=kU.mod nJ (fun j a6 q=>Sm.1 j a6 q.symm) fun j b a6 ae q=>Sm.2 j a6 (by rw [<-show b=dp from q];exact ae);have Yc:kT k8 g π bO w' bE ie cW dp c7 (kJ++[(X,t)]) (nj X false lS):=⟨qA,Tf.mod nJ fun q=>Jp.L0 Tf q.symm,a3.mod nJ ig.d1,gk,alq.mod nJ fun q=>ig.d3 q.symm,ig.d1,ig.d2,ig.d3,ig.zu,ig.p_⟩;have Nx:IntKind.i64.wrap (((hY l:Nat):Int)+1)=((t.deep:Nat):Int):=by rw [ON,wrap_i64 (by omega) (by omega)];rfl
       have b':(V.int .i64 ((min (1+cN l) 4097:Nat):Int))=G7 t:=by unfold G7;rw [Y6]
       have Yy:Mod (rL g π cW dp c7) h k8:=((mD.trans (v3.mono fun b _ q=>.inr (.inr (.inr q)))).trans (hN.mono fun b _ q=>.inr (.inl q))).trans (nJ.mono fun b _ q=>.inr (.inr (.inl q)));have aqR:(X::kJ.map Prod.fst).Nodup:=List.nodup_cons.2 ⟨B4.1 mN,mT.nodup⟩;simp +contextual only [bA,bD,uH,oo,sU,eg,dE,vO,agt,v1,ags,b',Nx,bN,a2,cn,ch,jl,↓al,aK,simprocAttr];refine ⟨Yy,.inr ⟨w',kJ++[(X,t)],nj X false lS,t,Yc,qD,⟨fun p af=>?_,?_,fun p af=>?_⟩,fun p af=>List.mem_append_left _ (S8 p af),fun j=>?_,fun j a6=>?_,by simp⟩⟩
       . rw [List.length_append,List.length_singleton];rcases List.mem_append.1 af with af | af
         . obtain ⟨b6,z2,z3,z4⟩:=mT.all p af;exact ⟨b6,z2,z3,by omega⟩
         . rw [List.mem_singleton] at af;subst af;exact ⟨cp,MJ,Y5,by simp only [ON];omega⟩
       . rw [List.map_append,List.nodup_append];refine ⟨mT.nodup,by simp,fun a aV b ae e=>?_⟩;simp only [List.map_cons,List.map_nil,List.mem_singleton] at ae;subst ae;subst e;exact B4.1 mN aV
       . rcases List.mem_append.1 af with af | af
         . exact fun q=>mT.free p af (List.mem_cons_of_mem _ q)
         . rw [List.mem_singleton] at af;subst af;exact yA
       . rw [LH];by_cases q:j=X
         . subst q;simp [yA]
         . rw [if_neg q,SO];simp [q]
       . rcases Lw X false lS j a6 with q | q
         . rw [q];exact cp
         . exact KT j q
theorem QF:∀(N:Nat) (t:an),t.size<=N->N<=1000000000->∀(ag:List V) (h:ah),b5 Any h t.enc ag->c4 Tryz.prog 90 [.agg ag] h fun x ab=>∃w,x=.agg (cH t w)/\e4 ab (dm h.next ab.next) t.l w/\Ext h ab
 | 0,t,aM,_,_,_,_=>by have:=rm t;omega
 | N+1,t,aM,J0,ag,h,H=>by
   obtain ⟨cr,rfl,L,_⟩:=an.open H;have bH:N<=1000000000:=by omega
   have ol:=L.one;have az:=L.len;have hle:=L.le;rw [List.length_map] at az hle;have b':=size_eq t;have jd:=sQ t.l;refine abn.z rfl (dF ?_);unfold Qv;obtain ⟨aa,ao,aN,da⟩:=fU h (cH t cr);obtain ⟨ad,ax,aZ,hz⟩:=fU aa z4;have dh:=da.ext aZ;have cx:=aN.next
   have e8:=aZ.next
   have bN:=da.lt;have amb:=hz.lt;have hl:=dh.put (cH t .bU);have l6:=hz.set (m:=h.next) (by omega) (.bx (cH t .bU) 0 false);have fF:Ext h (ad.set (aj h.next) (.bx (cH t .bU) 0 false)):=(aN.trans aZ).set (Nat.le_refl _) _;have n3:(ad.set (aj h.next) (.bx (cH t .bU) 0 false)).next=ad.next:=rfl
   simp +contextual only [ol.1,ol.2.1,ao,ax,dh.g,az,↓al,aK,simprocAttr];generalize ad.set (aj h.next) (.bx (cH t .bU) 0 false)=aH at *;refine gD (fun r g=>r 1=.ptr (aj h.next) 0/\r 2=.ptr (aj aa.next) 0/\r 9=cr/\r 10=.int .i64 t.l.length/\∃(i:Nat) (w:V),r 11=.int .i64 i/\i<=t.l.length/\Has g h.next (cH t w)/\Has g aa.next z4/\
    e4 g (dm aH.next g.next) (t.l.take i) w/\Ext h g/\aH.next<=g.next) (fun r g=>t.l.length - (r 11).toN) ?_ ?_
   . exact ⟨by simp only [↓al,br,simprocAttr],by simp only [↓al,br,simprocAttr],by simp only [↓al,br,simprocAttr],by simp only [↓al,br,simprocAttr],0,.bU,by simp only [↓al,br,simprocAttr]<;>rfl,by omega,hl,l6,e4.nil _ _,fF,Nat.le_refl _⟩
   rintro r g ⟨bD,b3,kr,iC,i,w,kN,aq,A,R,W,E,aF⟩;unfold Qw;have hK:=W.one;by_cases aT:i<t.l.length
   . have g0:((i:Int) < (t.l.length:Int))=True:=eq_true (by omega);obtain ⟨b,off,wl,dD,X,iK,ld⟩:=an.dO (L.ext E) (k:=.i64) aT;have oI:=ld g (Ext.refl g);have dw:=iK.one;have eR:=pw aT (by unfold top at hle;omega);have KA:=w4 (t:=t) (List.getElem_mem aT);obtain ⟨g1,dT,bq,Z⟩:=gM g z4 (cH t.l[i] wl);have u0:=A.ext bq;simp +contextual only [bD,b3,kr,iC,kN,g0,dD,oI,dT,Z.g,A.g,u0.g,dw.1,dw.2.1,hK.1,hK.2.1,↓al,aK,simprocAttr];refine cF (QF N t.l[i] (by omega) bH _ g1 (X.ext bq)) ?_;rintro x g2 ⟨u,rfl,U,dx⟩;have Hm:=bq.trans dx;have z':=A.ext Hm;have Ih:=R.ext Hm;have nI:=Z.ext dx;have NK:=Z.lt;have sM:=bq.next
     have qa:=dx.next
     have hX:=U.one;have k6:t.l[i].s.length<=top:=by obtain ⟨_,_,_,q⟩:=an.open X;exact q
     obtain ⟨w',g3,b0,b1,cS,iU⟩:=(W.ext Hm).add (t:=t.l[i]) (T:=dm g1.next g2.next) (u:=u) U (fun b q z=>by unfold dm at q z;omega) (fun b q=>by unfold dm at q;unfold Old;omega) (fun b q=>by unfold dm at q;unfold Old;omega) (by rw [List.length_take];unfold top;omega) k6;have q4:∀n,n<aH.next->¬w.aW (aj n):=fun n aQ q=>by have:=W.ba _ q;unfold dm at this;rw [cm] at this;omega
     have z_:=z'.mod cS (q4 _ (by omega));have Ii:=Ih.mod cS (q4 _ (by omega));have Co:=b1.one;have fF:Ext h g3:=(E.trans Hm).j5 cS fun b q=>by have:=W.ba _ q;unfold dm at this;omega
     have f1:(g2.next=h.next)=False:=eq_false (by omega);simp +contextual only [f1,if_false,bD,b3,kr,iC,kN,Z.g,nI.g,A.g,u0.g,z'.g,z_.g,hX.1,hX.2.1,hK.1,hK.2.1,Co.1,Co.2.1,b0,eR,↓al,aK,simprocAttr];refine ⟨⟨i+1,w',rfl,aT,z_.put _,Ii.set (by omega) _,?_,fF.set (by omega) _,by omega⟩,by omega⟩;rw [take_one aT];refine (b1.hJ fun b q=>?_).mod ((Mod.refl (fun x=>x=aj h.next) g3).set (fun _=>rfl) _) fun b q z=>?_
     . unfold dm at q ⊢;have:=cS.next;omega
     . rw [show b=aj h.next from z] at q;unfold dm at q;rw [cm] at q;omega
   . have g0:((i:Int) < (t.l.length:Int))=False:=eq_false (by omega);rw [List.take_of_length_le (by omega)] at W;have f1:(aa.next=h.next)=False:=eq_false (by omega);have f2:(h.next=aa.next)=False:=eq_false (by omega);simp +contextual only [bD,b3,kr,iC,kN,g0,R.g,A.g,hK.1,hK.2.1,f1,f2,↓al,aK,simprocAttr];refine ⟨_,rfl,(W.mod ((Mod.refl (fun x=>x=aj aa.next) g).set (fun _=>rfl) _) fun b q z=>?_).hJ fun b q=>?_,E.set (by omega) _⟩
     . rw [show b=aj aa.next from z] at q;unfold dm at q;rw [cm] at q;omega
     . unfold dm at q ⊢;exact ⟨by omega,q.2⟩
section
variable [Lay]
def nv (F:aO->Prop) (h:ah):List (Int × List V)->dn->Prop
 | [],[]=>True
 | (n,cs)::bw,(m,t)::s=>n=m/\b5 F h t.enc cs/\nv F h bw s
 | _,_=>False
structure i' (F:aO->Prop) (h:ah) (b:aO) (s:dn):Prop where
 ex:∃bw,iI V.agg h b bw/\nv F h bw s
variable {F:aO->Prop} {h ab:ah} {b:aO} {s:dn} {bw:List (Int × List V)}
theorem nv.mod {ev M:aO->Prop} (m:Mod M h ab) (c6:∀b,F b->Old h b->¬M b/\ev b) (A:nv F h bw s):nv ev ab bw s:=by
 induction bw generalizing s with
 | nil=>cases s with
   | nil=>trivial
   | cons p s=>exact A.elim
 | cons p bw bd=>cases s with
   | nil=>exact A.elim
   | cons q s=>
     obtain ⟨bN,a2,a3⟩:=A;exact ⟨bN,a2.mod m c6,bd a3⟩
theorem nv.ext (e:Ext h ab) (A:nv F h bw s):nv F ab bw s:=A.mod (e.mod fun _=>False) fun b q _=>⟨fun z=>z,q⟩
theorem nv.look (A:nv F h bw s) (n:Int):(ca n s=none/\ca n bw=none)\/∃t cs,ca n s=some t/\ca n bw=some cs/\b5 F h t.enc cs:=by
 induction bw generalizing s with
 | nil=>cases s with
   | nil=>exact .inl ⟨rfl,rfl⟩
   | cons p s=>exact A.elim
 | cons p bw bd=>cases s with
   | nil=>exact A.elim
   | cons q s=>
     obtain ⟨a,cs⟩:=p;obtain ⟨c,t⟩:=q;obtain ⟨bN,a2,a3⟩:=A;subst bN;simp only [ca];by_cases aQ:n=a
     . rw [if_pos aQ,if_pos aQ];exact .inr ⟨t,cs,rfl,rfl,a2⟩
     . rw [if_neg aQ,if_neg aQ];exact bd a3
theorem nv.put (A:nv F h bw s) (n:Int) {t:an} {cs:List V} (H:b5 F h t.enc cs):nv F h (pf n cs bw) (pf n t s):=by
 induction bw generalizing s with
 | nil=>cases s with
   | nil=>exact ⟨rfl,H,trivial⟩
   | cons p s=>exact A.elim
 | cons p bw bd=>cases s with
   | nil=>exact A.elim
   | cons q s=>
     obtain ⟨a,nL⟩:=p;obtain ⟨c,s7⟩:=q;obtain ⟨bN,a2,a3⟩:=A;subst bN;simp only [pf];by_cases aQ:n=a
     . rw [if_pos aQ,if_pos aQ];exact ⟨rfl,H,a3⟩
     . rw [if_neg aQ,if_neg aQ];exact ⟨rfl,a2,bd a3⟩
theorem i'.ext (H:i' F h b s) (e:Ext h ab):i' F ab b s:=by obtain ⟨bw,bN,a2⟩:=H.ex;exact ⟨bw,bN.ext e,a2.ext e⟩
theorem i'.mod {ev M:aO->Prop} (H:i' F h b s) (m:Mod M h ab) (ae:¬M b) (c6:∀b,F b->Old h b->¬M b/\ev b):i' ev ab b s:=by obtain ⟨bw,bN,a2⟩:=H.ex;exact ⟨bw,bN.mod m ae,a2.mod m c6⟩
theorem i'.look (H:i' F h b s) (n:Int) (z:V) (ok:Bool):(ca n s=none/\o_ lv z ok h (.map b) (.int .i64 n)=some (bif ok then .tuple [z,.bool false] else z))\/
 ∃t cs,ca n s=some t/\b5 F h t.enc cs/\o_ lv z ok h (.map b) (.int .i64 n)=some (bif ok then .tuple [.agg cs,.bool true] else .agg cs):=by
 obtain ⟨bw,bN,a2⟩:=H.ex;have e7:=bN.look n z ok;rcases a2.look n with ⟨aN,aZ⟩ | ⟨t,cs,aN,aZ,bJ⟩
 . rw [aZ] at e7;exact .inl ⟨aN,e7⟩
 . rw [aZ] at e7;exact .inr ⟨t,cs,aN,bJ,e7⟩
theorem i'.eE (H:i' F h b s) (n:Int) {t:an} {cs:List V} (K:b5 F h t.enc cs) (iN:¬F b):∃ab,kt lv h (.map b) (.int .i64 n) (.agg cs)=some ab/\i' F ab b (pf n t s)/\Mod (fun p=>p=b) h ab/\ab.next=h.next:=by obtain ⟨bw,bN,a2⟩:=H.ex;obtain ⟨ab,lX,lY,my,CO⟩:=bN.eE n cs;exact ⟨ab,lX,⟨_,lY,(a2.put n K).mod my fun p q _=>⟨fun z=>iN (by rw [<-show p=b from z];exact q),q⟩⟩,my,CO⟩
theorem i'.new (F:aO->Prop) (h:ah):i' F (h.new (.mp [] 0)) (aj h.next) []:=⟨[],iI.new V.agg h,trivial⟩
end
theorem Xe {g:bm} {E:List (Nat × Nat)} {ρ:Nat->Nat} {bE:Nat->Int} {x:Nat} {aJ:dy} (S:ij g ρ) (J:fS g E ρ []) (L:l4 g ρ bE) (ai:ρ x=x) (e:g.nodes[x]? =some aJ) (c:aJ.cd=false):du g (cD g E) x (.mk 1 (bE x) [] []):=by
 have hH:∀(z:Nat) (kq:dy),cD g E x z->g.nodes[z]? =some kq->kq.cd=false:=fun z kq bn r'=>by
  cases vy:kq.cd with
  | false=>rfl
  | true=>
    obtain ⟨gh,ao,ax⟩:=S.top z kq r' vy;rw [<-J.done.1 bn,ai,e] at ao;cases ao;rw [c] at ax;cases ax
 rcases L x (lx e) ai with ⟨_,ad⟩ | ⟨_,⟨y,pb,dT,e3,y3,y4⟩,aH⟩
 . have:=ad x aJ e ai;rw [c] at this;cases this
 . rw [<-y4];exact .var (b:=y) (J.done.2 (by rw [e3,ai])) dT y3 hH (fun z kq bn r'=>by rw [y4];exact aH z kq r' (by rw [<-J.done.1 bn,ai]) (hH z kq bn r'))
theorem Xd {g:bm} {R:Nat->Nat->Prop} (P:Part g R) {x X:Nat} {eA:dy} {t:an} (h:du g R x t) (e:R x X) (tF:g.nodes[X]? =some eA) (c:eA.cd=true):∃l,t=.mk 2 0 eA.s l/\l.length=eA.kids.length/\∀(i y:Nat) (u:an),eA.kids[i]? =some y->l[i]? =some u->du g R y u:=by
 cases h with
 | var h ae aC hH bC=>have:=hH _ _ e tF;rw [c] at this;cases this
 | cd h ae aC az aD=>
   rename_i b aJ l;obtain ⟨ao,ax,aL⟩:=P.closed _ _ _ _ (P.trans (P.symm h) e) ae tF aC c;refine ⟨l,by rw [ao],by omega,fun i y u a1 hu=>?_⟩;have aq:=(List.getElem?_eq_some_iff.1 a1).1;have bK:=List.getElem?_eq_getElem (l:=aJ.kids) (i:=i) (by omega);exact (aD i _ u bK hu).rr P (aL i _ _ bK a1)
def ys (g:bm):Prop:=∀(i:Nat) (aJ:dy),g.nodes[i]? =some aJ->aJ.s.length<=top
mutual
def an.po:an->Prop
 | .mk k n s l=>s.length<=top/\xg l
def xg:List an->Prop
 | []=>True
 | t::l=>t.po/\xg l
end
theorem WG:∀{l:List an},(∀t ∈ l,t.po)->xg l
 | [],_=>by rw [xg];trivial
 | t::l,h=>by rw [xg];exact ⟨h t List.mem_cons_self,WG fun u hu=>h u (List.mem_cons_of_mem _ hu)⟩
theorem JB [Lay] {F:aO->Prop} {h:ah}:∀(N:Nat) (t:an) (ag:List V),t.size<=N->b5 F h t.enc ag->t.po
 | 0,t,ag,aM,_=>by have:=rm t;omega
 | N+1,.mk k n s l,ag,aM,H=>by obtain ⟨cr,rfl,L,k6⟩:=an.open H;rw [an.po];refine ⟨k6,WG fun t au=>?_⟩;obtain ⟨i,aq,rfl⟩:=List.getElem_of_mem au;obtain ⟨b,off,wl,dD,X,iK,ld⟩:=an.dO L (k:=.i64) aq;have:=w4 (t:=.mk k n s l) (List.getElem_mem (l:=l) aq);exact JB N _ _ (by omega) X
mutual
theorem Iy:∀(t:an) (g:bm),t.po->ys g->ys (t.add g).1
 | .mk k n s l,g,h,G=>by
   rw [an.po] at h;rw [an.add];by_cases c:k=1
   . rw [if_pos c];unfold bm.var;cases ca n g.vars with
     | some i=>exact G
     | none=>
       intro i aJ e;rcases mJ e with e | ⟨_,rfl⟩
       . exact G i aJ e
       . exact Nat.zero_le _
   . rw [if_neg c];intro i aJ e;rcases mJ e with e | ⟨_,rfl⟩
     . exact O3 l g h.2 G i aJ e
     . exact h.1
theorem O3:∀(l:List an) (g:bm),xg l->ys g->ys (cf l g).1
 | [],g,_,G=>G
 | t::l,g,h,G=>by rw [xg] at h;rw [cf];exact O3 l _ h.2 (Iy t g h.1 G)
end
theorem Xf {g:bm} {π:Nat->Nat} {bO:Nat->V} {bE:Nat->Int} {ρ:Nat->Nat} {E:List (Nat × Nat)} (W:g.dz) (S:ij g ρ) (J:fS g E ρ []) (L:l4 g ρ bE) (tN:ys g):∀(N:Nat) (t:an),t.size<=N->N<=1000000000->∀(x:Nat) (w:Nat->Nat) (h:ah),x<g.N->du g (cD g E) x t->eU h g π bO w bE->Way w ρ->
 c4 Tryz.prog 54 [.ptr (aj (π x)) 0] h fun v ab=>∃u w',v=.agg (cH t u)/\e4 ab (dm h.next ab.next) t.l u/\t.s.length<=top/\eU ab g π bO w' bE/\Way w' ρ/\Mod (jq g π) h ab
 | 0,t,aM,_,_,_,_,_,_,_,_=>by have:=rm t;omega
 | N+1,t,aM,J0,x,w,h,ai,T,P,tv=>by
   have l5:=J.part;have cp:=S.lt x ai;have rp:=S.idem x;have tF:cD g E x (ρ x):=J.done.2 (by rw [rp]);have bH:N<=1000000000:=by omega
   refine abe.z rfl (dF ?_);unfold Qj;obtain ⟨aa,ao,aN,kV⟩:=fU h z4;have cx:=aN.next
   have ri:=kV.lt;simp +contextual only [ao,↓al,aK,simprocAttr];refine cF (zX (P.ext aN) S tv ai) ?_;rintro v ad ⟨rfl,bV,fr,tw,M2⟩;have J3:∀n,h.next<=n->¬jq g π (aj n):=fun n aQ ⟨i,aq,q⟩=>by have:=P.lt aq;have:=ed q;omega
   have hz:=kV.mod M2 (J3 _ (Nat.le_refl _));have e8:=M2.next
   obtain ⟨eA,ex⟩:=ly cp;have gK:=fr.root ex (Way.root S tw rp);have US:(h.next=π (ρ x))=False:=eq_false (by have:=P.lt cp;omega);have UT:(π (ρ x)=h.next)=False:=eq_false (by have:=P.lt cp;omega);have Ol:Mod (jq g π) h ad:=(aN.mod _).trans M2;cases c:eA.cd with
   | false=>
     rw [c] at gK;have Nq:=Xe S J L rp ex c;have hg:=T.uniq l5 tF Nq;subst hg;simp +contextual only [hz.g,gK,US,UT,if_false,↓al,aK,simprocAttr];refine ⟨.bU,bV,rfl,e4.nil _ _,by simp [an.s],?_,tw,Ol.fresh (Nat.le_refl _) _⟩;exact fr.mod ((Mod.refl (fun b=>b=aj h.next) ad).set (fun _=>rfl) _) (fun i aq q=>by have:=P.lt aq;have:=ed q;omega) fun i b aq ae q=>by have:=P.q' aq ae;rw [show b=aj h.next from q] at this;unfold Old at this;rw [cm] at this;omega
   | true=>
     rw [c] at gK;obtain ⟨l,hg,az,aD⟩:=Xd l5 T tF ex c;subst hg;obtain ⟨vd,Wl,FY⟩:=fr.dO _ eA ex;have zk:=vd.len;have uw:=vd.one;have b':(an.mk 2 0 eA.s l).size=1+cN l:=by rw [an.size]
     have jd:=sQ l;obtain ⟨aH,aL,bJ,hl⟩:=gM ad z4 (cH (.mk 2 0 eA.s l) .bU);have n3:=bJ.next
     have uk:=hl.lt;have l6:=hz.ext bJ;have hy:=fr.ext bJ;have C9:=hy.root ex (Way.root S tw rp);rw [c] at C9;have MA:(ad.new (.bx z4 0 false)).set (aj ad.next) (.bx [.int .i64 2,.int .i64 0,.str eA.s,.bU] 0 false)=aH:=aL;have Yu:Mod (jq g π) h aH:=Ol.trans (bJ.mod _);simp +contextual only [hz.g,gK,C9,MA,US,UT,if_false,zk,uw.1,uw.2.1,↓al,aK,simprocAttr];refine gD (fun r k=>r 2=.ptr (aj h.next) 0/\r 3=.ptr (aj ad.next) 0/\r 26=bO (ρ x)/\r 27=.int .i64 eA.kids.length/\∃(i:Nat) (u:V) (w':Nat->Nat),r 28=.int .i64 i/\i<=eA.kids.length/\Has k ad.next (cH (.mk 2 0 eA.s l) u)/\Has k h.next z4/\e4 k (dm aH.next k.next) (l.take i) u/\eU k g π bO w' bE/\Way w' ρ/\Mod (jq g π) h k/\aH.next<=k.next) (fun r k=>eA.kids.length - (r 28).toN) ?_ ?_
     . exact ⟨by simp only [↓al,br,simprocAttr],by simp only [↓al,br,simprocAttr],by simp only [↓al,br,simprocAttr],by simp only [↓al,br,simprocAttr],0,.bU,bV,by simp only [↓al,br,simprocAttr]<;>rfl,Nat.zero_le _,hl,l6,e4.nil _ _,hy,tw,Yu,Nat.le_refl _⟩
     rintro r k ⟨b3,cc,om,mr,i,u,w',sT,aq,A,R,O,gL,qD,mD,aff⟩;unfold Qk;have zZ:=O.one;by_cases aT:i<eA.kids.length
     . have g0:((i:Int) < (eA.kids.length:Int))=True:=eq_true (by omega);obtain ⟨tl,_,_⟩:=gL.dO _ eA ex;obtain ⟨IS,fm,BN,xC⟩:=tl.dD (k:=.i64) aT;have sF:=xC.fy (i:=i) (by rw [List.length_map];exact aT);rw [List.getElem_map,show fm+i=fm+i * 1 by omega] at sF;have BJ:=W.sD ex (List.getElem_mem aT);have j3:=aD i _ _ (List.getElem?_eq_getElem aT) (List.getElem?_eq_getElem (l:=l) (by omega));have KA:=w4 (t:=.mk 2 0 eA.s l) (List.getElem_mem (l:=l) (show i<l.length by omega));have eR:IntKind.i64.wrap ((i:Int)+1)=((i+1:Nat):Int):=by unfold top at FY;rw [wrap_i64 (by omega) (by omega)];rfl
       simp +contextual only [b3,cc,om,mr,sT,g0,BN,sF,A.g,R.g,zZ.1,zZ.2.1,↓al,aK,simprocAttr];refine cF (Xf W S J L tN N l[i] (by omega) bH _ w' k BJ j3 gL qD) ?_;rintro v bT ⟨z,iE,rfl,Z,zb,nC,It,kS⟩;have n4:=kS.next
       have aqx:=A.lt;have dh:=A.mod kS (J3 _ (by omega));have YV:=R.mod kS (J3 _ (Nat.le_refl _));have Aw:e4 bT (dm aH.next k.next) (l.take i) u:=O.mod kS fun b q ⟨j,a6,e⟩=>by unfold dm at q;have:=P.lt a6;rw [e,cm] at q;omega
       have Cp:=Z.one;obtain ⟨ha,en,b0,b1,cS,iU⟩:=Aw.add (t:=l[i]) (T:=dm k.next bT.next) (u:=z) Z (fun b q z=>by unfold dm at q z;omega) (fun b q=>by unfold dm at q;unfold Old;omega) (fun b q=>by unfold dm at q;unfold Old;omega) (by rw [List.length_take];unfold top;omega) zb;have su:∀b,u.aW b->aH.next<=dr b:=fun b q=>by have:=O.ba _ q;unfold dm at this;omega
       have q4:∀n,n<aH.next->¬u.aW (aj n):=fun n aQ q=>by have:=su _ q;rw [cm] at this;omega
       have NP:=dh.mod cS (q4 _ (by omega));have YW:=YV.mod cS (q4 _ (by omega));have Cn:=b1.one;have jS:=nC.mod cS (fun j a6 q=>q4 _ (by have:=P.lt a6;omega) q) fun j b a6 ae q=>by have:=su b q;have:=P.q' a6 ae;unfold Old at this;omega
       have f1:(bT.next=ad.next)=False:=eq_false (by omega);simp +contextual only [f1,if_false,b3,cc,om,mr,sT,A.g,dh.g,NP.g,Cp.1,Cp.2.1,zZ.1,zZ.2.1,Cn.1,Cn.2.1,b0,eR,↓al,aK,simprocAttr];refine ⟨⟨i+1,ha,iE,rfl,aT,NP.put _,YW.set (by omega) _,?_,?_,It,?_,by show aH.next<=en.next;omega⟩,by omega⟩
       . rw [take_one (show i<l.length by omega)];refine (b1.hJ fun b q=>?_).mod ((Mod.refl (fun x=>x=aj ad.next) en).set (fun _=>rfl) _) fun b q z=>?_
         . unfold dm at q ⊢;have:=cS.next;omega
         . rw [show b=aj ad.next from z] at q;unfold dm at q;rw [cm] at q;omega
       . exact jS.mod ((Mod.refl (fun x=>x=aj ad.next) en).set (fun _=>rfl) _) (fun j a6 q=>by have:=P.lt a6;have:=ed q;omega) fun j b a6 ae q=>by have:=P.q' a6 ae;rw [show b=aj ad.next from q] at this;unfold Old at this;rw [cm] at this;omega
       . exact ((mD.trans kS).zU cS fun b q=>by have:=su b q;omega).fresh (by omega) _
     . have g0:((i:Int) < (eA.kids.length:Int))=False:=eq_false (by omega);rw [List.take_of_length_le (by omega)] at O;have f1:(h.next=ad.next)=False:=eq_false (by omega);have f2:(ad.next=h.next)=False:=eq_false (by omega);simp +contextual only [b3,cc,om,mr,sT,g0,R.g,A.g,zZ.1,zZ.2.1,f1,f2,↓al,aK,simprocAttr];have UB:Mod (fun x=>x=aj h.next) k (k.set (aj h.next) (.bx [.int .i64 2,.int .i64 0,.str eA.s,u] 0 false)):=(Mod.refl (fun x=>x=aj h.next) k).set (fun _=>rfl) _;refine ⟨u,w',rfl,(O.mod UB fun b q z=>?_).hJ fun b q=>?_,tN _ eA ex,gL.mod UB (fun j a6 q=>by have:=P.lt a6;have:=ed q;omega) (fun j b a6 ae q=>by
        have:=P.q' a6 ae;rw [show b=aj h.next from q] at this;unfold Old at this;rw [cm] at this;omega),qD,mD.fresh (Nat.le_refl _) _⟩
       . rw [show b=aj h.next from z] at q;unfold dm at q;rw [cm] at q;omega
       . unfold dm at q ⊢;exact ⟨by omega,q.2⟩
abbrev Fr (ei:Nat):aO->Prop:=fun b=>b≠aj ei
theorem al8 (s:dn) {l:List an} {i:Nat} {ρ:Int} (h:i<l.length) (agG:¬ρ<0):gH s (l.drop i) ρ=((l[i].ht s ρ).1::(gH s (l.drop (i+1)) (l[i].ht s ρ).2).1,(gH s (l.drop (i+1)) (l[i].ht s ρ).2).2):=by rw [List.drop_eq_getElem_cons h,gH,if_neg agG]
theorem VW (s:dn) (wj:∀n u,ca n s=some u->u.size<=900000000):∀(N:Nat) (t:an),t.size<=N->N<=900000000->∀(ρ:Int) (b4:aO) (ei:Nat) (ag:List V) (h:ah),0<=ρ->ρ<=1000000000->b4≠aj ei->b5 (Fr ei) h t.enc ag->i' (Fr ei) h b4 s->Has h ei [.int .i64 ρ]->
 c4 Tryz.prog 60 [.map b4,.agg ag,.ptr (aj ei) 0] h fun x ab=>∃w,x=.agg (cH (t.ht s ρ).1 w)/\e4 ab (dm h.next ab.next) (t.ht s ρ).1.l w/\(t.ht s ρ).1.s.length<=top/\Has ab ei [.int .i64 (t.ht s ρ).2]/\Mod (fun b=>b=aj ei) h ab
 | 0,t,aM,_,_,_,_,_,_,_,_,_,_,_,_=>by have:=rm t;omega
 | N+1,t,aM,J0,ρ,b4,ei,ag,h,aqn,aqo,q2,H,oA,tr=>by
   have oz:=H;obtain ⟨cr,rfl,L,k6⟩:=an.open H;have bH:N<=900000000:=by omega
   have ol:=L.one;have az:=L.len;have hle:=L.le;rw [List.length_map] at az hle;have b':=size_eq t;have jd:=sQ t.l;refine abh.z rfl (dF ?_);unfold Qn;obtain ⟨aa,ao,aN,da⟩:=fU h (cH t cr);obtain ⟨ad,ax,aZ,hz⟩:=fU aa z4;have dh:=da.ext aZ;have fv:=aN.trans aZ;have cx:=aN.next
   have e8:=aZ.next
   have uk:=da.lt;have ri:=hz.lt;have aqC:=tr.lt;have M2:=oA.ext fv;have Ik:=tr.ext fv;rw [al7];have rest:∀(cI:ah) (u1:Has cI h.next (cH t .bU)) (rQ:Has cI aa.next z4) (Du:Has cI ei [.int .i64 (ρ-1)]) (kc:Mod (fun b=>b=aj ei) h cI) (n3:ad.next<=cI.next) {r:bc} {Q:db->bc->ah->Prop} (bA:r 0=.map b4) (b3:r 2=.ptr (aj ei) 0) (eJ:r 4=.ptr (aj h.next) 0) (dI:r 6=.ptr (aj aa.next) 0) (uI:r 42=cr) (uJ:r 43=.int .i64 t.l.length) (uK:r 44=.int .i64 0)
    (cO:∀e r g w,e.ends->r 6=.ptr (aj aa.next) 0->Has g aa.next (cH (.mk t.k t.n t.s (gH s t.l (ρ-1)).1) w)->e4 g (dm h.next g.next) (gH s t.l (ρ-1)).1 w->Has g ei [.int .i64 (gH s t.l (ρ-1)).2]->Mod (fun b=>b=aj ei) h g->Q e r g),
    zn Tryz.prog Ja [.aW 0,.c (aS.seq (aS.av [⟨(some 62),.ff 4 (.t 4),none,[4]⟩,⟨none,.st 4 (.t 6) (.t 62),none,[6,62]⟩]) (aS.ret))] r cI Q:=by
    intro cI u1 rQ Du kc n3 r Q bA b3 eJ dI uI uJ uK cO;refine gD (fun r g=>r 0=.map b4/\r 2=.ptr (aj ei) 0/\r 4=.ptr (aj h.next) 0/\r 6=.ptr (aj aa.next) 0/\r 42=cr/\r 43=.int .i64 t.l.length/\∃(i:Nat) (dL:Int) (oI:List an) (w:V),r 44=.int .i64 i/\i<=t.l.length/\-900000000<=dL/\dL<=ρ/\oI.length<=i/\Has g ei [.int .i64 dL]/\Has g h.next (cH t w)/\Has g aa.next z4/\
     e4 g (dm cI.next g.next) oI w/\Mod (fun b=>b=aj ei) h g/\cI.next<=g.next/\gH s t.l (ρ-1)=(oI++(gH s (t.l.drop i) dL).1,(gH s (t.l.drop i) dL).2)) (fun r g=>t.l.length - (r 44).toN) ?_ ?_
    . exact ⟨bA,b3,eJ,dI,uI,uJ,0,ρ-1,[],.bU,uK,by omega,by omega,by omega,Nat.le_refl _,Du,u1,rQ,e4.nil _ _,kc,Nat.le_refl _,by simp⟩
    clear bA b3 eJ dI uI uJ uK;rintro r g ⟨bA,b3,eJ,dI,uI,uJ,i,dL,oI,w,uK,aq,aqp,aqq,Sn,tr,A,R,W,M,aF,af⟩;unfold Ja;have hK:=W.one;have f1:(aa.next=h.next)=False:=eq_false (by omega);have f2:(h.next=aa.next)=False:=eq_false (by omega);have finish:∀(eZ:gH s t.l (ρ-1)=(oI,dL)) {g1:ah} (bq:Ext g g1) {r:bc} {e:db},e.ends->r 6=.ptr (aj aa.next) 0->Q e r (g1.set (aj aa.next) (.bx [.int .i64 t.k,.int .i64 t.n,.str t.s,w] 0 false)):=by
     intro eZ g1 bq r e he amc;have dP:=bq.next
     refine cO e r _ w he amc ?_ ?_ ?_ ((M.trans (bq.mod _)).fresh cx _)
     . rw [eZ];exact (R.ext bq).put _
     . rw [eZ];refine ((W.ext bq).mod ((Mod.refl (fun x=>x=aj aa.next) g1).set (fun _=>rfl) _) fun b q z=>?_).hJ fun b q=>?_
       . rw [show b=aj aa.next from z] at q;unfold dm at q;rw [cm] at q;omega
       . unfold dm at q ⊢;exact ⟨by omega,by rw [oe];omega⟩
     . rw [eZ];exact (tr.ext bq).set (by omega) _
    by_cases aT:i<t.l.length
    . have g0:((i:Int) < (t.l.length:Int))=True:=eq_true (by omega);obtain ⟨b,off,wl,dD,X,iK,ld⟩:=an.dO (L.mod (ev:=Fr ei) M fun b q _=>⟨q,q⟩) (k:=.i64) aT;have Q1:=ld g (Ext.refl g);have dw:=iK.one;have eR:=pw aT (by unfold top at hle;omega);have KA:=w4 (t:=t) (List.getElem_mem aT);obtain ⟨g1,dT,bq,Z⟩:=gM g z4 (cH t.l[i] wl);have u0:=A.ext bq;have Ds:=R.ext bq;have Ij:=tr.ext bq;by_cases oW:dL<0
      . rw [Cy s _ _ oW,List.append_nil] at af;have Rg:Has g1 aa.next z4:=Ds
        simp +contextual only [bA,b3,eJ,dI,uI,uJ,uK,g0,dD,Q1,dT,Z.g,A.g,u0.g,Ds.g,tr.g,Ij.g,eq_true oW,dw.1,dw.2.1,hK.1,hK.2.1,f1,f2,↓al,aK,simprocAttr];exact finish af bq (by trivial) (by simp only [↓al,br,simprocAttr,dI])
      . have afN:=al8 s aT oW;simp +contextual only [bA,b3,eJ,dI,uI,uJ,uK,g0,dD,Q1,dT,Z.g,A.g,u0.g,Ds.g,tr.g,Ij.g,eq_false oW,dw.1,dw.2.1,hK.1,hK.2.1,f1,f2,↓al,aK,simprocAttr];have Yx:=(oA.mod (ev:=Fr ei) M (fun z=>q2 z) fun b q _=>⟨q,q⟩).ext bq;have hlen:=VR s t.l (ρ-1);refine cF (VW s wj N t.l[i] (by omega) bH dL b4 ei _ g1 (by omega) (by omega) q2 (X.ext bq) Yx Ij) ?_;rintro x g2 ⟨u,rfl,U,ua,YY,m2⟩;have sM:=bq.next
        have qa:=m2.next
        have NK:=Z.lt;have K4:∀n,n≠ei->aj n≠aj ei:=fun n aQ q=>aQ (ed q);have z':=u0.mod m2 (K4 _ (by omega));have Ih:=Ds.mod m2 (K4 _ (by omega));have Zi:=Z.mod m2 (K4 _ (by omega));have tu:=(W.ext bq).mod m2 fun b q z=>by rw [show b=aj ei from z] at q;unfold dm at q;rw [cm] at q;omega
        have hX:=U.one;have ap9:=VQ s 900000000 (by omega) wj t.l[i] dL (by omega);generalize hu:(t.l[i].ht s dL).1=pu at *;generalize aqm:(t.l[i].ht s dL).2=ao8 at *;obtain ⟨w',g3,b0,b1,cS,iU⟩:=tu.add (t:=pu) (T:=dm g1.next g2.next) (u:=u) U (fun b q z=>by unfold dm at q z;omega) (fun b q=>by unfold dm at q;unfold Old;omega) (fun b q=>by unfold dm at q;unfold Old;omega) (by unfold top;omega) ua;have q4:∀n,n<cI.next->¬w.aW (aj n):=fun n aQ q=>by have:=W.ba _ q;unfold dm at this;rw [cm] at this;omega
        have z_:=z'.mod cS (q4 _ (by omega));have Ii:=Ih.mod cS (q4 _ (by omega));have YZ:=YY.mod cS (q4 _ (by omega));have Co:=b1.one;have pB:Mod (fun b=>b=aj ei) h g3:=((M.trans (bq.mod _)).trans m2).zU cS fun b q=>by have:=W.ba _ q;unfold dm at this;omega
        have f3:(g2.next=h.next)=False:=eq_false (by omega);have f4:(g2.next=g.next)=False:=eq_false (by omega);simp +contextual only [f3,f4,if_false,bA,b3,eJ,dI,uI,uJ,uK,Z.g,Zi.g,A.g,u0.g,z'.g,z_.g,hX.1,hX.2.1,hK.1,hK.2.1,Co.1,Co.2.1,b0,eR,↓al,aK,simprocAttr];refine ⟨⟨i+1,ao8,oI++[pu],w',rfl,aT,by omega,by omega,by rw [List.length_append,List.length_singleton];omega,YZ.set (by omega) _,z_.put _,Ii.set (by omega) _,?_,pB.fresh (Nat.le_refl _) _,by omega,?_⟩,by omega⟩
        . refine (b1.hJ fun b q=>?_).mod ((Mod.refl (fun x=>x=aj h.next) g3).set (fun _=>rfl) _) fun b q z=>?_
          . unfold dm at q ⊢;have:=cS.next;omega
          . rw [show b=aj h.next from z] at q;unfold dm at q;rw [cm] at q;omega
        . rw [af,afN];simp
    . have g0:((i:Int) < (t.l.length:Int))=False:=eq_false (by omega);rw [List.drop_eq_nil_of_le (by omega),gH,List.append_nil] at af;simp +contextual only [bA,b3,eJ,dI,uI,uJ,uK,g0,A.g,R.g,tr.g,hK.1,hK.2.1,f1,f2,↓al,aK,simprocAttr];exact finish af (Ext.refl _) (by trivial) (by simp only [↓al,br,simprocAttr,dI])
   have uC:∀(aH:ah) (fF:Ext ad aH),Has (aH.set (aj ei) (.bx [V.int .i64 (ρ-1)] 0 false)) h.next (cH t cr)/\Has ((aH.set (aj ei) (.bx [V.int .i64 (ρ-1)] 0 false)).set (aj h.next) (.bx (cH t .bU) 0 false)) h.next (cH t .bU)/\
    Has ((aH.set (aj ei) (.bx [V.int .i64 (ρ-1)] 0 false)).set (aj h.next) (.bx (cH t .bU) 0 false)) aa.next z4/\Has ((aH.set (aj ei) (.bx [V.int .i64 (ρ-1)] 0 false)).set (aj h.next) (.bx (cH t .bU) 0 false)) ei [.int .i64 (ρ-1)]/\
    Mod (fun b=>b=aj ei) h ((aH.set (aj ei) (.bx [V.int .i64 (ρ-1)] 0 false)).set (aj h.next) (.bx (cH t .bU) 0 false)):=by
    intro aH fF;have hl:=dh.ext fF;have l6:=hz.ext fF;have ts:=Ik.ext fF;have xB:=hl.set (m:=ei) (by omega) (.bx [V.int .i64 (ρ-1)] 0 false);refine ⟨xB,xB.put _,(l6.set (m:=ei) (by omega) _).set (m:=h.next) (by omega) _,(ts.put _).set (m:=h.next) (by omega) _,?_⟩;exact (((fv.trans fF).mod (fun b=>b=aj ei)).set (fun _=>rfl) _).fresh (Nat.le_refl _) _
   have bW:IntKind.i64.wrap (ρ-1)=ρ-1:=wrap_i64 (by omega) (by omega);have look:=M2.look t.n (.agg z4) true;have found:∀(u:an) (cs:List V),(if t.k=1 then ca t.n s else none)=some u->t.k=1:=fun u cs q=>by
    by_cases c:t.k=1
    . exact c
    . rw [if_neg c] at q;cases q
   rcases look with ⟨r8,e7⟩ | ⟨u,cs,r8,HL,e7⟩
   . have de:(if t.k=1 then ca t.n s else none)=none:=by rw [r8];split<;>rfl
     rw [de];obtain ⟨aH,aL,bJ,lq⟩:=gM ad z4 z4;have hl:=dh.ext bJ;have ts:=Ik.ext bJ;obtain ⟨xB,jS,kU,qA,Ib⟩:=uC aH bJ;simp +contextual only [ol.1,ol.2.1,ao,ax,aL,dh.g,hl.g,xB.g,ts.g,bW,az,jR.eq,e7,cond_true,↓al,aK,simprocAttr];refine rest _ jS kU qA Ib bJ.next ?_ ?_ ?_ ?_ ?_ ?_ ?_ fun e r g w he K1 Rg AB Il H7=>?_
     . simp only [↓al,br,simprocAttr]
     . simp only [↓al,br,simprocAttr]
     . simp only [↓al,br,simprocAttr]
     . simp only [↓al,br,simprocAttr]
     . simp only [↓al,br,simprocAttr]
     . simp only [↓al,br,simprocAttr]
     . simp only [↓al,br,simprocAttr]
     have dw:=AB.one;simp +contextual only [K1,Rg.g,dw.1,dw.2.1,he,↓al,aK,simprocAttr];exact ⟨w,rfl,AB,k6,Il,H7⟩
   . obtain ⟨ul,rfl,Y8,ua⟩:=an.open HL;have hX:=Y8.one;obtain ⟨aH,aL,bJ,lq⟩:=gM ad z4 (cH u ul);have hl:=dh.ext bJ;have l6:=hz.ext bJ;have ts:=Ik.ext bJ;have n3:=bJ.next
     by_cases c:t.k=1
     . rw [if_pos c,r8];have Fl:=wj t.n u r8;simp +contextual only [ol.1,ol.2.1,hX.1,hX.2.1,ao,ax,aL,dh.g,hl.g,ts.g,lq.g,jR.eq,e7,cond_true,eq_true c,↓al,aK,simprocAttr];refine cF (amZ u Fl _ aH ((HL.ext bJ).hJ fun _ _=>trivial)) ?_;rintro x bt ⟨rfl,dR⟩;have OX:=lq.ext dR;have tq:=l6.ext dR;have OH:=ts.ext dR;have n4:=dR.next
       have aqD:=lq.lt;have bV:IntKind.i64.wrap (ρ - (u.size:Nat))=ρ - (u.size:Nat):=wrap_i64 (by omega) (by omega);have fe:=hz.lt;have f5:(ei=ad.next)=False:=eq_false (by omega);have apr:=OX.set (m:=ei) (by omega) (.bx [V.int .i64 (ρ - (u.size:Nat))] 0 false);have rQ:=tq.set (m:=ei) (by omega) (.bx [V.int .i64 (ρ - (u.size:Nat))] 0 false);have Du:=OH.put [V.int .i64 (ρ - (u.size:Nat))];have kc:Mod (fun b=>b=aj ei) h (bt.set (aj ei) (.bx [V.int .i64 (ρ - (u.size:Nat))] 0 false)):=(((fv.trans bJ).trans dR).mod (fun b=>b=aj ei)).set (fun _=>rfl) _;have ig:b5 Any (bt.set (aj ei) (.bx [V.int .i64 (ρ - (u.size:Nat))] 0 false)) u.enc (cH u ul):=((HL.ext (bJ.trans dR)).mod (ev:=Fr ei) (M:=fun b=>b=aj ei) ((Mod.refl (fun b=>b=aj ei) bt).set (fun _=>rfl) _) fun b q _=>⟨q,q⟩).hJ fun _ _=>trivial;have n5:(bt.set (aj ei) (.bx [V.int .i64 (ρ - (u.size:Nat))] 0 false)).next=bt.next:=rfl
       simp +contextual only [lq.g,OX.g,ts.g,OH.g,bV,f5,if_false,↓al,aK,simprocAttr];generalize bt.set (aj ei) (.bx [V.int .i64 (ρ - (u.size:Nat))] 0 false)=cI at *;refine cF (QF _ u (Nat.le_refl _) (by omega) _ cI ig) ?_;rintro x cA ⟨w,rfl,W,hO⟩;have dw:=W.one;have OG:=rQ.ext hO;have Y0:=Du.ext hO;have aqB:=OG.lt;simp +contextual only [OG.g,dw.1,dw.2.1,↓al,aK,simprocAttr];refine ⟨w,rfl,(W.mod ((Mod.refl (fun x=>x=aj aa.next) cA).set (fun _=>rfl) _) fun b q z=>?_).hJ fun b q=>?_,ua,Y0.set (by omega) _,(kc.trans (hO.mod _)).fresh cx _⟩
       . rw [show b=aj aa.next from z] at q;unfold dm at q;rw [cm] at q;omega
       . unfold dm at q ⊢;have:=kc.next;omega
     . rw [if_neg c];obtain ⟨xB,jS,kU,qA,Ib⟩:=uC aH bJ;simp +contextual only [ol.1,ol.2.1,hX.1,hX.2.1,ao,ax,aL,dh.g,hl.g,xB.g,ts.g,bW,az,jR.eq,e7,cond_true,eq_false c,↓al,aK,simprocAttr];refine rest _ jS kU qA Ib bJ.next ?_ ?_ ?_ ?_ ?_ ?_ ?_ fun e r g w he K1 Rg AB Il H7=>?_
       . simp only [↓al,br,simprocAttr]
       . simp only [↓al,br,simprocAttr]
       . simp only [↓al,br,simprocAttr]
       . simp only [↓al,br,simprocAttr]
       . simp only [↓al,br,simprocAttr]
       . simp only [↓al,br,simprocAttr]
       . simp only [↓al,br,simprocAttr]
       have dw:=AB.one;simp +contextual only [K1,Rg.g,dw.1,dw.2.1,he,↓al,aK,simprocAttr];exact ⟨w,rfl,AB,k6,Il,H7⟩
def lu (p:Int × an):List D:=.i .i64 p.1::p.2.enc
section
variable [Lay] {F:aO->Prop} {h:ah}
theorem dj.Z5 {size:Nat} {es:List (List D)} {v:V} (H:dj F h size es v) {k:IntKind} {i:Nat} (aq:i<es.length):
 ∃b off u,lH size v (.int k i)=some (.ptr b (off+i * size))/\b5 F h es[i] u/\u.length=size/\(∀ab,Ext h ab->∀j n,j+n<=size->n1 n (ab.get b) (off+i * size+j)=some (.agg ((u.drop j).take n)))/\∀ab,Ext h ab->∀j,j<size->kI (ab.get b) (off+i * size+j)=u[j]? :=by
 obtain ⟨us,aa,ad,az,aH⟩:=H.ex;have yK:i<us.length:=by omega
 have hu:=List.getElem?_eq_getElem yK;obtain ⟨b,off,aN,aZ⟩:=aa.dD (k:=k) aq;have aB:=EA us i _ az hu;have qW:=A8 us az;have hle:i * size+size<=us.length * size:=by have:=Nat.mul_le_mul_right size (show i+1<=us.length from yK);rw [Nat.succ_mul] at this;exact this
 have bn:us[i].length=size:=az _ (List.getElem_mem yK);refine ⟨b,off,us[i],aN,aH i _ _ (List.getElem?_eq_getElem aq) hu,bn,fun ab e j n E3=>?_,fun ab e j a6=>?_⟩
 . have:=(aZ.ext e).ff (i:=i * size+j) (n:=n) (by rw [qW];omega);rw [Nat.add_assoc,this,<-aB];congr 2;rw [List.drop_take,List.take_take,List.drop_drop,Nat.min_eq_left (by omega)]
 . have:=(aZ.ext e).fy (i:=i * size+j) (by rw [qW];omega);rw [Nat.add_assoc,this,<-aB,List.getElem?_take_of_lt a6,List.getElem?_drop,List.getElem?_eq_getElem]
theorem dn.dO {s:dn} {v:V} (H:dj F h 5 (s.map lu) v) {k:IntKind} {i:Nat} (aq:i<s.length):
 ∃b off cr,lH 5 v (.int k i)=some (.ptr b (off+i * 5))/\b5 F h s[i].2.enc (cH s[i].2 cr)/\(∀ab,Ext h ab->kI (ab.get b) (off+i * 5)=some (.int .i64 s[i].1))/\
  (∀ab,Ext h ab->n1 4 (ab.get b) (off+i * 5+1)=some (.agg (cH s[i].2 cr)))/\(∀ab,Ext h ab->n1 5 (ab.get b) (off+i * 5)=some (.agg (.int .i64 s[i].1::cH s[i].2 cr))):=by
 obtain ⟨b,off,u,aN,aZ,bJ,dR,e_⟩:=dj.Z5 H (k:=k) (i:=i) (by rw [List.length_map];exact aq);rw [List.getElem_map,lu] at aZ;obtain ⟨us,rfl,Rb⟩:=aZ.int;obtain ⟨cr,rfl,L,_⟩:=an.open Rb;exact ⟨b,off,cr,aN,Rb,fun ab e=>by simpa using e_ ab e 0 (by omega),fun ab e=>by simpa using dR ab e 1 4 (by omega),fun ab e=>by simpa using dR ab e 0 5 (by omega)⟩
end
theorem ant {last:Int} {s:dn} {i:Nat} (h:i<s.length):oq last (s.drop i)=(decide (last<s[i].1)&&decide (s[i].1<=1048575)&&decide (s[i].2.check=0)&&oq s[i].1 (s.drop (i+1))):=by rw [List.drop_eq_getElem_cons h,show s[i]=(s[i].1,s[i].2) from rfl,oq]
def wK (s:dn):Nat->Int
 | 0=>-1
 | i+1=>match s[i]? with
   | some p=>p.1
   | none=>-1
abbrev ao6:List V:=[.int .i64 0,.int .i64 0,.int .i64 0,.str [],.bU]
theorem Mw {n:Int} {t:an}:∀{m:dn},ca n m=none->pf n t m=m++[(n,t)]
 | [],_=>rfl
 | (a,u)::m,h=>by
   simp only [ca] at h
   split at h
   . cases h
   . rename_i aQ;simp only [pf,if_neg aQ,Mw h,List.cons_append]
theorem Ug {n k:Int} {t:an}:∀{m:dn},ca n m=none->n≠k->ca n (m++[(k,t)])=none
 | [],_,h=>by simp only [List.nil_append,ca,if_neg h]
 | (a,u)::m,h,aD=>by
   simp only [ca] at h
   split at h
   . cases h
   . rename_i aQ;simp only [List.cons_append,ca,if_neg aQ,Ug h aD]
theorem am0 {s:dn} {t:an} (h:¬(t.ht s 4096).2<0):(t.ht s 4096).1.size<=4096:=by
 obtain ⟨a,b⟩:=Mx s t 4096 (by omega);by_cases c:((t.put s).size:Int)<=4096
 . rw [a c];simp only;omega
 . exact absurd (b (by omega)) h
theorem DJ (s:dn) (aM:∀p ∈ s,p.2.size<=900000000) (t:an) (au:t.size<=900000000) (eP:V) (ag:List V) (h:ah) (S:dj Any h 5 (s.map lu) eP) (H:b5 Any h t.enc ag):
 c4 Tryz.prog 23 [eP,.agg ag] h fun x ab=>(∃w,x=.tuple [.agg (cH (fL s t).1 w),.int .i64 (fL s t).2]/\e4 ab (dm h.next ab.next) (fL s t).1.l w/\(fL s t).1.s.length<=top)/\Ext h ab:=by
 have oz:=H.oi;have qC:=S.oi;obtain ⟨cr,rfl,L,k6⟩:=an.open H;have ol:=L.one;have os:=S.one;have az:=S.len;have hle:=S.le;rw [List.length_map] at az hle;refine aaW.z rfl (dF ?_);unfold P5;obtain ⟨aa,ao,aN,da⟩:=fU h (cH t cr);obtain ⟨ad,ax,aZ,hz⟩:=fU aa z4;have dh:=da.ext aZ;have cx:=aN.next
 have e8:=aZ.next
 have uk:=da.lt;have ri:=hz.lt;have fv:=aN.trans aZ;have pB:=i'.new (Old h) ad;have bJ:Ext ad (ad.new (.mp [] 0)):=(Ext.refl ad).new _;have zg:(ad.new (.mp [] 0)).next=ad.next+1:=rfl
 simp +contextual only [show ∀g:ah,p9 none g=.val (.map (aj g.next)) (g.new (.mp [] 0)) from fun g=>rfl,ol.1,ol.2.1,os.1,os.2.1,ao,ax,az,↓al,aK,simprocAttr];generalize ad.new (.mp [] 0)=aH at *;have yn:∀{ab:ah} (E:Ext h ab) (z:Int),(∃w,V.tuple [.agg z4,.int .i64 z]=.tuple [.agg (cH mz w),.int .i64 z]/\e4 (ab.set (aj aa.next) (.bx z4 0 false)) (dm h.next (ab.set (aj aa.next) (.bx z4 0 false)).next) mz.l w/\mz.s.length<=top)/\Ext h (ab.set (aj aa.next) (.bx z4 0 false)):=fun E z=>⟨⟨_,rfl,e4.nil _ _,Nat.zero_le _⟩,E.set cx _⟩;refine gD (fun r g=>r 0=eP/\r 3=.ptr (aj h.next) 0/\r 4=.ptr (aj aa.next) 0/\r 6=.map (aj ad.next)/\r 13=eP/\r 14=.int .i64 s.length/\∃i:Nat,r 7=.int .i64 (wK s i)/\r 15=.int .i64 i/\i<=s.length/\Has g h.next (cH t cr)/\Has g aa.next z4/\i' (Old h) g (aj ad.next) (s.take i)/\Ext h g/\aH.next<=g.next/\
  (∀n,wK s i<n->ca n (s.take i)=none)/\G4 s=oq (wK s i) (s.drop i)) (fun r g=>s.length - (r 15).toN) ?_ ?_
 . exact ⟨by simp only [↓al,br,simprocAttr],by simp only [↓al,br,simprocAttr],by simp only [↓al,br,simprocAttr],by simp only [↓al,br,simprocAttr],by simp only [↓al,br,simprocAttr],by simp only [↓al,br,simprocAttr],0,by simp only [↓al,br,simprocAttr]<;>rfl,by simp only [↓al,br,simprocAttr]<;>rfl,by omega,dh.ext bJ,hz.ext bJ,pB,fv.trans bJ,Nat.le_refl _,fun n _=>rfl,rfl⟩
 rintro r g ⟨bA,cc,eJ,dI,pg,j8,i,eg,jh,aq,A,R,oA,E,aF,Su,aD⟩;unfold P6;by_cases aT:i<s.length
 . have g0:((i:Int) < (s.length:Int))=True:=eq_true (by omega);obtain ⟨b,off,wl,dD,X,um,sE,ajJ⟩:=dn.dO (qC.ext E) (k:=.i64) aT;have d5:=ajJ g (Ext.refl g);have eR:=pw aT (by unfold top at hle;omega);obtain ⟨aoC,hh,iK,af5⟩:=an.open X;have dw:=iK.one;obtain rfl:wl=aoC:=by simpa using hh
   have bn:=aM _ (List.getElem_mem aT);rw [ant aT] at aD;have p7:wK s (i+1)=s[i].1:=by rw [wK,List.getElem?_eq_getElem aT]
   obtain ⟨g1,dT,bq,Z⟩:=gM g ao6 (.int .i64 s[i].1::cH s[i].2 wl);have da:=A.ext bq;have kV:=R.ext bq;have ej:=E.trans bq;by_cases bS:s[i].1<=wK s i
   . have mK:fL s t=(mz,2):=by unfold fL;rw [aD,decide_eq_false (by omega)];simp
     rw [mK];simp +contextual only [bA,cc,eJ,dI,eg,pg,j8,jh,g0,dD,d5,dT,Z.g,kV.g,dw.1,dw.2.1,eq_true bS,↓al,aK,simprocAttr];exact yn ej 2
   by_cases bX:1048575<s[i].1
   . have mK:fL s t=(mz,2):=by unfold fL;rw [aD,decide_eq_false (p:=s[i].1<=1048575) (by omega)];simp
     rw [mK];simp +contextual only [bA,cc,eJ,dI,eg,pg,j8,jh,g0,dD,d5,dT,Z.g,kV.g,dw.1,dw.2.1,eq_false bS,eq_true bX,↓al,aK,simprocAttr];exact yn ej 2
   simp +contextual only [bA,cc,eJ,dI,eg,pg,j8,jh,g0,dD,d5,dT,Z.g,kV.g,dw.1,dw.2.1,eq_false bS,eq_false bX,↓al,aK,simprocAttr];refine cF (x9 s[i].2 bn _ g1 ((X.ext bq).hJ fun _ _=>trivial)) ?_;rintro x g2 ⟨rfl,dx⟩;have dh:=da.ext dx;have hz:=kV.ext dx;have nI:=Z.ext dx;have bL:=ej.trans dx;by_cases c3:s[i].2.check=0
   . rw [decide_eq_true c3,decide_eq_true (show wK s i<s[i].1 by omega),decide_eq_true (show s[i].1<=1048575 by omega),<-p7] at aD;have de:=Su s[i].1 (by omega);have sM:=bq.next
     have qa:=dx.next
     obtain ⟨g3,lX,lY,my,CO⟩:=((oA.ext bq).ext dx).eE s[i].1 (t:=s[i].2) ((X.ext bq).ext dx) (fun q=>by unfold Old at q;rw [cm] at q;omega);rw [Mw de] at lY;have hl:=dh.mod my (fun q=>by have:=ed q;omega);have l6:=hz.mod my (fun q=>by have:=ed q;omega);have fF:=bL.j5 my fun b q=>by rw [show b=aj ad.next from q,cm];omega
     simp +contextual only [bA,cc,eJ,dI,eg,pg,j8,jh,nI.g,dw.1,dw.2.1,eq_true c3,decide_true,decide_false,jR.eq,lX,gG,eR,↓al,aK,simprocAttr];refine ⟨⟨i+1,by rw [p7],rfl,aT,hl,l6,?_,fF,by omega,fun n aQ=>?_,by simpa using aD⟩,by omega⟩
     . rw [List.take_succ_eq_append_getElem aT];exact lY
     . rw [p7] at aQ;rw [List.take_succ_eq_append_getElem aT];exact Ug (k:=s[i].1) (t:=s[i].2) (Su n (by omega)) (show n≠s[i].1 by omega)
   . have mK:fL s t=(mz,2):=by unfold fL;rw [aD,decide_eq_false c3];simp
     rw [mK];simp +contextual only [bA,cc,eJ,dI,eg,pg,j8,jh,hz.g,eq_false c3,decide_true,decide_false,↓al,aK,simprocAttr];exact yn bL 2
 . have g0:((i:Int) < (s.length:Int))=False:=eq_false (by omega);rw [List.drop_eq_nil_of_le (by omega),oq] at aD;rw [List.take_of_length_le (by omega)] at oA;simp +contextual only [bA,cc,eJ,dI,eg,pg,j8,jh,g0,A.g,ol.1,ol.2.1,↓al,aK,simprocAttr];refine cF (x9 t au _ g ((oz.ext E).hJ fun _ _=>trivial)) ?_;rintro x g1 ⟨rfl,bq⟩;have da:=A.ext bq;have kV:=R.ext bq;have ej:=E.trans bq;have sM:=bq.next
   have R8:∀{m:Nat} (b:aO),Old h b->h.next<=m->b≠aj m:=fun b q hm z=>by unfold Old at q;rw [z,cm] at q;omega
   by_cases bX:t.check=0
   . have mK:=ZM aD bX;obtain ⟨g2,e3,dx,fp⟩:=gM g1 [.int .i64 0] [.int .i64 4096];have dh:=da.ext dx;have hz:=kV.ext dx;have bL:=ej.trans dx;have qa:=dx.next
     have kn:=fp.lt;have xS:=((oA.ext bq).ext dx).mod (ev:=Fr g1.next) (Mod.refl (fun _=>False) g2) (fun z=>z) fun b q _=>⟨fun z=>z,R8 b q (by omega)⟩;have wj:∀n u,ca n s=some u->u.size<=900000000:=fun n u q=>by have:=(jt (CJ aD n u q).1).2.1;omega
     simp +contextual only [bA,cc,eJ,dI,eg,pg,j8,jh,e3,dh.g,fp.g,ol.1,ol.2.1,eq_true bX,decide_true,decide_false,↓al,aK,simprocAttr];refine cF (VW s wj t.size t (Nat.le_refl _) au 4096 (aj ad.next) g1.next _ g2 (by omega) (by omega) (fun q=>by have:=ed q;omega) ((oz.ext bL).hJ fun b q=>R8 b q (by omega)) xS fp) ?_;rintro x g3 ⟨u,rfl,U,ua,l2,m3⟩;have Gc:=m3.next
     have l6:=hz.mod m3 (fun q=>by have:=ed q;omega);have fF:=bL.j5 m3 fun b q=>by rw [show b=aj g1.next from q,cm];omega
     have hX:=U.one;have b':=@am0 s t;rw [mK];generalize aqe:t.ht s 4096=pu at *;obtain ⟨p,ρ⟩:=pu;simp only at *;obtain ⟨g4,y4,ns,HB⟩:=gM g3 z4 (cH p u);have ln:=l2.ext ns;have tq:=l6.ext ns;have rG:=fF.trans ns;have UR:=ns.next
     have f1:(g3.next=aa.next)=False:=eq_false (by omega);have ac8:∀{cQ:ah},Ext g4 cQ->e4 (cQ.set (aj aa.next) (.bx (cH p u) 0 false)) (dm h.next (cQ.set (aj aa.next) (.bx (cH p u) 0 false)).next) p.l u:=fun {cQ} lZ=>by
      have L5:=lZ.next
      refine ((U.ext (ns.trans lZ)).mod ((Mod.refl (fun x=>x=aj aa.next) _).set (fun _=>rfl) _) fun b q z=>?_).hJ fun b q=>?_
      . rw [show b=aj aa.next from z] at q;unfold dm at q;rw [cm] at q;omega
      . unfold dm at q ⊢;rw [oe];omega
     by_cases fu:ρ<0
     . rw [if_pos fu];simp +contextual only [bA,cc,eJ,dI,eg,pg,j8,jh,y4,HB.g,ln.g,tq.g,hX.1,hX.2.1,eq_true fu,decide_true,decide_false,↓al,aK,simprocAttr];exact yn rG 3
     . rw [if_neg fu];have aqf:=b' fu;simp +contextual only [bA,cc,eJ,dI,eg,pg,j8,jh,y4,HB.g,ln.g,tq.g,hX.1,hX.2.1,eq_false fu,decide_true,decide_false,↓al,aK,simprocAttr];have nC:b5 Any g4 p.enc (cH p u):=by
        rw [zC];exact .i (.i (.s ua (((U.ext ns).fo fun _ _=>trivial).cons .nil)))
       refine cF (x9 p (by omega) _ g4 nC) ?_;rintro x g5 ⟨rfl,lZ⟩;have rQ:=tq.ext lZ;have N2:=HB.ext lZ;have nx:=rG.trans lZ;by_cases c5:p.check=0
       . rw [if_pos c5];simp +contextual only [bA,cc,eJ,dI,eg,pg,j8,jh,rQ.g,N2.g,hX.1,hX.2.1,eq_true c5,decide_true,decide_false,f1,↓al,aK,simprocAttr];exact ⟨⟨_,rfl,ac8 lZ,ua⟩,nx.set cx _⟩
       . rw [if_neg c5];simp +contextual only [bA,cc,eJ,dI,eg,pg,j8,jh,rQ.g,N2.g,hX.1,hX.2.1,eq_false c5,decide_true,decide_false,f1,↓al,aK,simprocAttr];exact yn nx 3
   . have mK:fL s t=(mz,2):=by unfold fL;rw [if_neg (fun q=>bX q.2)]
     rw [mK];simp +contextual only [bA,cc,eJ,dI,eg,pg,j8,jh,kV.g,eq_false bX,decide_true,decide_false,↓al,aK,simprocAttr];exact yn ej 2
theorem akd (s:dn) (aQ:s.length<=1048576) (m:Int) (eP:V) (h:ah) (S:dj Any h 5 (s.map lu) eP):c4 Tryz.prog 21 [eP,.int .i64 m] h fun x ab=>(∃b,x=.bool b)/\Ext h ab:=by
 have qC:=S.oi;have az:=S.len;have hle:=S.le;have os:=S.one;rw [List.length_map] at az hle;refine aaV.z rfl (dF ?_);unfold c21;simp +contextual only [os.1,os.2.1,↓al,aK,simprocAttr];refine gD (fun r g=>r 0=eP/\r 1=.int .i64 m/\∃(i:Nat) (w:V),r 5=w/\r 6=.int .i64 i/\i<=s.length/\iJ h.next (Old h) g 4 (((s.take i).map Prod.snd).map an.enc) w/\Ext h g) (fun r g=>s.length - (r 6).toN) ?_ ?_
 . exact ⟨by simp only [↓al,br,simprocAttr],by simp only [↓al,br,simprocAttr],0,.bU,by simp only [↓al,br,simprocAttr],by simp only [↓al,br,simprocAttr]<;>rfl,by omega,iJ.nil _ _ _ _,Ext.refl h⟩
 rintro r g ⟨bA,bD,i,w,dZ,dI,aq,W,E⟩;unfold P4;have dw:=W.one;by_cases aT:i<s.length
 . have g0:((i:Int) < (s.length:Int))=True:=eq_true (by omega);obtain ⟨b,off,cr,dD,X,um,sE,_⟩:=dn.dO qC (k:=.i64) aT;have d4:=sE g E;have eR:=pw aT (by unfold top at hle;omega);obtain ⟨Nw,hh,iK,af5⟩:=an.open X;have ol:=iK.one;obtain rfl:cr=Nw:=by simpa using hh
   have dP:=E.next
   have Y7:b5 (fun b=>Old h b/\¬w.aW b) g s[i].2.enc (cH s[i].2 cr):=(X.ext E).hJ fun b q=>⟨q,fun z=>by have:=W.base z;unfold Old at q;omega⟩;obtain ⟨c1,g3,b0,b1,cS,iU,ni⟩:=W.add Y7 (by omega) (by omega) (by rw [List.length_map,List.length_map,List.length_take];unfold top;omega) rfl;have iA:=b1.one;have fF:Ext h g3:=E.j5 cS fun b q=>W.base q;simp +contextual only [bA,bD,dZ,dI,az,g0,dD,d4,ol.1,ol.2.1,dw.1,dw.2.1,b0,iA.1,iA.2.1,eR,↓al,aK,simprocAttr];refine ⟨⟨i+1,rfl,aT,?_,fF⟩,by omega⟩;rw [List.take_succ_eq_append_getElem aT,List.map_append,List.map_append];exact b1
 . have g0:((i:Int) < (s.length:Int))=False:=eq_false (by omega);rw [List.take_of_length_le (by omega)] at W;simp +contextual only [bA,bD,dZ,dI,az,g0,dw.1,dw.2.1,↓al,aK,simprocAttr];refine cF (ajw (s.map Prod.snd) m w g (W.fo (by rw [List.length_map,List.length_map];exact hle) (fun _ _=>trivial) fun _ _=>trivial)) ?_;rintro x g2 ⟨⟨y,rfl⟩,rfl⟩;simp +contextual only [↓al,aK,simprocAttr];exact ⟨⟨_,rfl⟩,E⟩
theorem ani (s:dn) (eP Nd:V) (h:ah) (S:dj Any h 5 (s.map lu) eP) (T:dj Any h 5 (s.map lu) Nd):c4 Tryz.prog 15 [eP,Nd] h fun x ab=>x=.bool true/\Ext h ab:=by
 have az:=S.len;have hm:=T.len;have hle:=S.le;have os:=S.one;have Vc:=T.one;rw [List.length_map] at az hm hle;refine aaP.z rfl (dF ?_);unfold PW;simp +contextual only [os.1,os.2.1,Vc.1,Vc.2.1,az,hm,decide_true,decide_false,↓al,aK,simprocAttr];refine gD (fun r g=>r 0=eP/\r 1=Nd/\∃i:Nat,r 5=.int .i64 i/\i<=s.length/\Ext h g) (fun r g=>s.length - (r 5).toN) ?_ ?_
 . exact ⟨by simp only [↓al,br,simprocAttr],by simp only [↓al,br,simprocAttr],0,by simp only [↓al,br,simprocAttr]<;>rfl,by omega,Ext.refl h⟩
 rintro r g ⟨bA,bD,i,dZ,aq,E⟩;unfold P2;by_cases aT:i<s.length
 . have g0:((i:Int) < (s.length:Int))=True:=eq_true (by omega);obtain ⟨b,off,cr,dD,X,um,sE,_⟩:=dn.dO S (k:=.i64) aT;obtain ⟨ch,L7,aq_,uc,nH,TX,T1,_⟩:=dn.dO T (k:=.i64) aT;have d0:=um g E;have d4:=sE g E;have QS:=TX g E;have d42:=T1 g E;have eR:=pw aT (by unfold top at hle;omega);simp +contextual only [bA,bD,dZ,az,g0,dD,uc,d0,d4,QS,d42,decide_true,decide_false,↓al,aK,simprocAttr];refine cF (amM s[i].2 _ _ g (X.ext E) (nH.ext E)) ?_;rintro x g2 ⟨rfl,dx⟩;have bL:=E.trans dx;have aci:=um g2 bL;have ack:=sE g2 bL;have acj:=TX g2 bL;have acm:=T1 g2 bL;simp +contextual only [bA,bD,dZ,dD,uc,d0,d4,QS,d42,aci,ack,acj,acm,eR,decide_true,decide_false,↓al,aK,simprocAttr];exact ⟨⟨i+1,rfl,aT,bL⟩,by omega⟩
 . have g0:((i:Int) < (s.length:Int))=False:=eq_false (by omega);simp +contextual only [bA,bD,dZ,az,g0,↓al,aK,simprocAttr];exact E
abbrev iW (i:Int):an:=.mk 1 i [] []
mutual
def an.more:an->an->dn->Option dn
 | .mk k n x l,u,m=>if k=1 then (match ca n m with
    | some w=>if w.same u then some m else none
    | none=>some (m++[(n,u)]))
   else if u.k=k/\x=u.s then h8 l u.l m else none
def h8:List an->List an->dn->Option dn
 | [],[],m=>some m
 | t::l,u::cG,m=>match t.more u m with
   | some cj=>h8 l cG cj
   | none=>none
 | [],_::_,_=>none
 | _::_,[],_=>none
end
theorem akr (t u:an) (m:dn):t.more u m=if t.k=1 then (match ca t.n m with
 | some w=>if w.same u then some m else none
 | none=>some (m++[(t.n,u)]))
 else if u.k=t.k/\t.s=u.s then h8 t.l u.l m else none:=by cases t;rw [an.more];rfl
theorem UG:∀{l cG:List an} {m cj:dn},h8 l cG m=some cj->l.length=cG.length
 | [],[],_,_,_=>rfl
 | t::l,u::cG,m,cj,h=>by
   rw [h8] at h;cases aA:t.more u m with
   | none=>rw [aA] at h;cases h
   | some m2=>rw [aA] at h;rw [List.length_cons,List.length_cons,UG h]
 | [],_::_,_,_,h=>by rw [h8] at h;cases h
 | _::_,[],_,_,h=>by rw [h8] at h;cases h
theorem aks {l cG:List an} {i:Nat} (h:i<l.length) (ab:i<cG.length) (m:dn):h8 (l.drop i) (cG.drop i) m=match l[i].more cG[i] m with
 | some cj=>h8 (l.drop (i+1)) (cG.drop (i+1)) cj
 | none=>none:=by
 rw [List.drop_eq_getElem_cons h,List.drop_eq_getElem_cons ab,h8]
def B_ (t u:an):Bool:=decide (t.check=0)&&decide (u.check=0)&&(t.more u []).isSome
def Dp [Lay] (F:aO->Prop) (b4:aO) (h:ah) (r:Option dn) (ok:Bool):Prop:=match r with
 | some m=>ok=true/\i' F h b4 m
 | none=>ok=false
theorem UC (F:aO->Prop) (b4:aO) (pm pd:Nat) (iN:¬F b4) (KI:b4≠aj pm) (mc:b4≠aj pd):∀N:Nat,
 (∀(t u:an),t.size<=N->∀(m:dn) (ag ws:List V) (h:ah),b5 F h t.enc ag->b5 F h u.enc ws->i' F h b4 m->Has h pm [.map b4]->Has h pd [.func 65 [.ptr (aj pm) 0,.ptr (aj pd) 0]]->
   c4 Tryz.prog 65 [.agg ag,.agg ws,.ptr (aj pm) 0,.ptr (aj pd) 0] h fun x ab=>∃ok,x=.bool ok/\Dp F b4 ab (t.more u m) ok/\Mod (fun b=>b=b4) h ab)/\
 (∀(l cG:List an),cN l<=N->∀(m:dn) (v w:V) (h:ah),dj F h 4 (l.map an.enc) v->dj F h 4 (cG.map an.enc) w->i' F h b4 m->Has h pm [.map b4]->Has h pd [.func 65 [.ptr (aj pm) 0,.ptr (aj pd) 0]]->
   c4 Tryz.prog 66 [v,w,.func 65 [.ptr (aj pm) 0,.ptr (aj pd) 0]] h fun x ab=>∃ok,x=.bool ok/\Dp F b4 ab (h8 l cG m) ok/\Mod (fun b=>b=b4) h ab)
 | 0=>by
   refine ⟨fun t u aM=>by have:=rm t;omega,fun l cG aM m v w h L M oA jT Dr=>?_⟩;have nW:l.length=0:=by have:=sQ l;omega
   obtain rfl:=List.eq_nil_of_length_eq_zero nW;have az:=L.len;have hm:=M.len;rw [List.length_map] at az hm;refine D2.z rfl (dF ?_);unfold AR;by_cases aA:cG.length=0
   . obtain rfl:=List.eq_nil_of_length_eq_zero aA;simp +contextual only [az,hm,decide_true,decide_false,↓al,aK,simprocAttr];refine gD (fun r g=>r 17=.int .i64 0/\r 16=.int .i64 0/\g=h) (fun r g=>0) ?_ ?_
     . exact ⟨by simp only [↓al,br,simprocAttr],by simp only [↓al,br,simprocAttr]<;>rfl,rfl⟩
     rintro r g ⟨oj,r16,rfl⟩;unfold AS;simp +contextual only [r16,oj,show ((0:Int)<0)=False from by simp,↓al,aK,simprocAttr];refine ⟨?_,Mod.refl _ _⟩;rw [h8];exact ⟨rfl,oA⟩
   . have f0:((0:Int)=(cG.length:Int))=False:=eq_false (by omega);simp only [List.length_nil,Int.ofNat_zero,Int.natCast_zero] at az;simp +contextual only [az,hm,f0,decide_true,decide_false,↓al,aK,simprocAttr];refine ⟨?_,Mod.refl _ _⟩
     match cG,aA with
     | u::cG,_=>rw [h8];rfl
     | [],aA=>exact absurd rfl aA
 | N+1=>by
   obtain ⟨BO,wB⟩:=UC F b4 pm pd iN KI mc N;have H1:∀(t u:an),t.size<=N+1->∀(m:dn) (ag ws:List V) (h:ah),b5 F h t.enc ag->b5 F h u.enc ws->i' F h b4 m->Has h pm [.map b4]->Has h pd [.func 65 [.ptr (aj pm) 0,.ptr (aj pd) 0]]->
    c4 Tryz.prog 65 [.agg ag,.agg ws,.ptr (aj pm) 0,.ptr (aj pd) 0] h fun x ab=>∃ok,x=.bool ok/\Dp F b4 ab (t.more u m) ok/\Mod (fun b=>b=b4) h ab:=by
    intro t u aM m ag ws h H cy oA jT Dr;have N':=cy;obtain ⟨cr,rfl,L,_⟩:=an.open H;obtain ⟨wl,rfl,M,_⟩:=an.open cy;have ol:=L.one;have gr:=M.one;have b':=size_eq t;refine abi.z rfl (dF ?_);unfold Qo;obtain ⟨aa,ao,aN,da⟩:=fU h (r5 t cr);obtain ⟨ad,ax,aZ,fp⟩:=fU aa (r5 u wl);have dh:=da.ext aZ;have fv:=aN.trans aZ;have Az:=jT.ext fv;have Oz:=Dr.ext fv;have xS:=oA.ext fv;rw [akr];by_cases bS:t.k=1
    . rw [if_pos bS];rcases xS.look t.n (.agg z4) true with ⟨r8,e7⟩ | ⟨w,cs,r8,Oc,e7⟩
      . rw [r8];obtain ⟨aH,aL,bJ,lq⟩:=gM ad z4 z4;have Ic:=Az.ext bJ;have l2:=fp.ext bJ;have hl:=dh.ext bJ;obtain ⟨g3,lX,lY,my,CO⟩:=(xS.ext bJ).eE t.n (t:=u) ((N'.ext fv).ext bJ) iN;rw [Mw r8] at lY;simp +contextual only [ao,ax,aL,ol.1,ol.2.1,gr.1,gr.2.1,dh.g,fp.g,hl.g,l2.g,Az.g,Ic.g,eq_true bS,jR.eq,e7,cond_true,lX,gG,decide_true,decide_false,↓al,aK,simprocAttr];exact ⟨⟨rfl,lY⟩,((fv.trans bJ).mod _).trans my⟩
      . rw [r8];obtain ⟨qI,rfl,W,_⟩:=an.open Oc;have UZ:=W.one;obtain ⟨aH,aL,bJ,lq⟩:=gM ad z4 (r5 w qI);have Ic:=Az.ext bJ;have l2:=fp.ext bJ;have hl:=dh.ext bJ;simp +contextual only [ao,ax,aL,ol.1,ol.2.1,gr.1,gr.2.1,UZ.1,UZ.2.1,lq.g,dh.g,fp.g,hl.g,l2.g,Az.g,Ic.g,eq_true bS,jR.eq,e7,cond_true,decide_true,decide_false,↓al,aK,simprocAttr];refine cF (He w u _ _ aH ((Oc.ext bJ).hJ fun _ _=>trivial) (((N'.ext fv).ext bJ).hJ fun _ _=>trivial)) ?_;rintro x bt ⟨rfl,dR⟩;simp +contextual only [↓al,aK,simprocAttr];refine ⟨?_,((fv.trans bJ).trans dR).mod _⟩;cases ae:w.same u with
        | true=>exact ⟨rfl,(xS.ext bJ).ext dR⟩
        | false=>rfl
    . rw [if_neg bS];by_cases bX:u.k=t.k
      . by_cases c3:t.s=u.s
        . rw [if_pos ⟨bX,c3⟩];simp +contextual only [ao,ax,ol.1,ol.2.1,gr.1,gr.2.1,dh.g,fp.g,Oz.g,eq_false bS,eq_true bX,eq_true c3,decide_true,decide_false,Bool.true_and,↓al,aK,simprocAttr];refine cF (wB t.l u.l (by omega) m cr wl ad (L.ext fv) (M.ext fv) xS Az Oz) ?_;rintro x aH ⟨ok,rfl,aX,bJ⟩;simp +contextual only [↓al,aK,simprocAttr];exact ⟨aX,(fv.mod _).trans bJ⟩
        . rw [if_neg (fun q=>c3 q.2)];simp +contextual only [ao,ax,ol.1,ol.2.1,gr.1,gr.2.1,dh.g,fp.g,eq_false bS,eq_true bX,eq_false c3,decide_true,decide_false,Bool.true_and,Bool.false_and,↓al,aK,simprocAttr];exact ⟨rfl,fv.mod _⟩
      . rw [if_neg (fun q=>bX q.1)];simp +contextual only [ao,ax,ol.1,ol.2.1,gr.1,gr.2.1,dh.g,fp.g,eq_false bS,eq_false bX,decide_true,decide_false,Bool.true_and,Bool.false_and,↓al,aK,simprocAttr];exact ⟨rfl,fv.mod _⟩
   refine ⟨H1,fun l m aM st v w h L M oA jT Dr=>?_⟩;have az:=L.len;have hm:=M.len;have hle:=L.le;rw [List.length_map] at az hm hle;refine D2.z rfl (dF ?_);unfold AR;by_cases aA:l.length=m.length
   . have f0:((l.length:Int)=(m.length:Int))=True:=eq_true (by omega);simp +contextual only [az,hm,f0,decide_true,decide_false,↓al,aK,simprocAttr];refine gD (fun r g=>r 1=w/\r 2=.func 65 [.ptr (aj pm) 0,.ptr (aj pd) 0]/\r 15=v/\r 16=.int .i64 l.length/\∃(i:Nat) (s:dn),r 17=.int .i64 i/\i<=l.length/\h8 l m st=h8 (l.drop i) (m.drop i) s/\i' F g b4 s/\Mod (fun b=>b=b4) h g) (fun r g=>l.length - (r 17).toN) ?_ ?_
     . exact ⟨by simp only [↓al,br,simprocAttr],by simp only [↓al,br,simprocAttr],by simp only [↓al,br,simprocAttr],by simp only [↓al,br,simprocAttr],0,st,by simp only [↓al,br,simprocAttr]<;>rfl,by omega,rfl,oA,Mod.refl _ _⟩
     rintro r g ⟨bD,b3,jh,r16,i,s,oj,aq,af,xR,E⟩;unfold AS;have R9:∀b,F b->Old h b->¬(b=b4)/\F b:=fun b q _=>⟨fun z=>iN (by rw [<-z];exact q),q⟩;by_cases aT:i<l.length
     . have g0:((i:Int) < (l.length:Int))=True:=eq_true (by omega);have mQ:i<m.length:=by omega
       obtain ⟨b,off,cr,dD,X,iK,ld⟩:=an.dO (L.mod E R9) (k:=.i64) aT;obtain ⟨ch,L7,wl,uc,Y,Iv,zj⟩:=an.dO (M.mod E R9) (k:=.i64) mQ;have d1:=ld g (Ext.refl g);have ol:=iK.one;have gr:=Iv.one;have eR:=pw aT (by unfold top at hle;omega);obtain ⟨g1,dT,bq,da⟩:=gM g z4 (r5 l[i] cr);obtain ⟨g2,e3,dx,fp⟩:=gM g1 z4 (r5 m[i] wl);have d2:=zj g1 bq;have dh:=da.ext dx;have rD:=bq.trans dx;have bn:=uE (List.getElem_mem aT);simp +contextual only [bD,b3,jh,r16,oj,g0,dD,uc,d1,d2,dT,e3,ol.1,ol.2.1,gr.1,gr.2.1,da.g,dh.g,fp.g,D4,List.cons_append,List.nil_append,show (65=4294967296)=False from by simp,if_false,↓al,aK,simprocAttr];refine cF (H1 l[i] m[i] (by omega) s _ _ g2 (X.ext rD) (Y.ext rD) (xR.ext rD) ((jT.mod E (fun z=>KI z.symm)).ext rD) ((Dr.mod E (fun z=>mc z.symm)).ext rD)) ?_;rintro x g3 ⟨ok,rfl,aX,nr⟩;have bb:=aks aT mQ s;have fF:=(E.trans (rD.mod _)).trans nr;cases ae:l[i].more m[i] s with
       | some e1=>
         rw [ae] at aX bb;obtain ⟨rfl,aX⟩:=aX;simp +contextual only [bD,b3,jh,r16,oj,eR,↓al,aK,simprocAttr];exact ⟨⟨i+1,e1,rfl,aT,af.trans bb,aX,fF⟩,by omega⟩
       | none=>
         rw [ae] at aX bb;obtain rfl:ok=false:=aX;simp +contextual only [bD,b3,jh,r16,oj,eR,↓al,aK,simprocAttr];refine ⟨?_,fF⟩;rw [af.trans bb];rfl
     . have g0:((i:Int) < (l.length:Int))=False:=eq_false (by omega);simp +contextual only [bD,b3,jh,r16,oj,g0,↓al,aK,simprocAttr];refine ⟨?_,E⟩;rw [af,List.drop_eq_nil_of_le (by omega),List.drop_eq_nil_of_le (by omega),h8];exact ⟨rfl,xR⟩
   . have f0:((l.length:Int)=(m.length:Int))=False:=eq_false (by omega);simp +contextual only [az,hm,f0,decide_true,decide_false,↓al,aK,simprocAttr];refine ⟨?_,Mod.refl _ _⟩;cases ae:h8 l m st with
     | none=>rfl
     | some s=>exact absurd (UG ae) aA
section
variable [Lay] {B:Nat} {G F:aO->Prop} {h ab:ah} {size:Nat} {es gf:List (List D)} {v w:V}
theorem RI {F:aO->Prop}:∀(us:List (List V)) (es:List (List D)),us.length=es.length->(∀(i:Nat) (e:List D) (u:List V),es[i]? =some e->us[i]? =some u->b5 F h e u)->fJ us.flatten=true
 | [],_,_,_=>rfl
 | u::us,[],h,_=>by simp at h
 | u::us,e::es,az,H=>by
   have aa:=(H 0 e u rfl rfl).fJ;have ad:=RI us es (by simpa using az) fun i e u a b=>H (i+1) e u (by simpa using a) (by simpa using b);have app:∀a b:List V,fJ a=true->fJ b=true->fJ (a++b)=true:=by
    intro a
    induction a with
    | nil=>intro b _ q;exact q
    | cons x a bd=>
      intro b ao ax;simp only [fJ,Bool.and_eq_true,List.cons_append] at ao ⊢;exact ⟨ao.1,bd b ao.2 ax⟩
   rw [List.flatten_cons];exact app _ _ aa ad
theorem iJ.app (H:iJ B G h size es v) (L:dj F h size gf w) (iN:∀b,F b->G b/\¬v.aW b) (b':1<=size) (dc:B<=h.next) (hlen:(es.length+gf.length) * size<=top):
 ∃c1 ab,lr size v w h=.val c1 ab/\iJ B G ab size (es++gf) c1/\Mod v.aW h ab/\∀b,c1.aW b->v.aW b\/h.next<=dr b:=by
 obtain ⟨us,a,b,c,d⟩:=H.ex;obtain ⟨Xw,a2,ch,bX,d2⟩:=L.ex;obtain ⟨c1,ab,ao,ax,aL,bY⟩:=O8 b' a a2 dc hlen (RI Xw gf ch d2);have gB:∀b,(G b/\¬v.aW b)->Old h b->¬v.aW b/\(G b/\¬c1.aW b):=fun b q o=>⟨q.2,q.1,fun z=>by
  rcases bY b z with z | z
  . exact q.2 z
  . unfold Old at o;omega⟩
 refine ⟨c1,ab,ao,⟨us++Xw,?_,by simp [b,ch],?_,?_⟩,aL,bY⟩
 . rw [List.length_append,List.flatten_append];exact ax
 . intro u hu;rcases List.mem_append.1 hu with hu | hu
   . exact c u hu
   . exact bX u hu
 . intro i e u aN aZ;by_cases aq:i<es.length
   . rw [List.getElem?_append_left aq] at aN;rw [List.getElem?_append_left (by omega)] at aZ;exact (d i e u aN aZ).mod aL gB
   . rw [List.getElem?_append_right (by omega)] at aN;rw [List.getElem?_append_right (by omega),b] at aZ;exact (d2 _ e u aN aZ).mod aL fun b q o=>gB b (iN b q) o
end
theorem Vh:∀(N:Nat) (l:List an),cN l<N->N<=3000000->∀(m:Int),-200000000<=m->m<=1000000->∀(v:V) (h:ah),dj Any h 4 (l.map an.enc) v->c4 Tryz.prog 46 [v,.int .i64 m] h fun x ab=>(∃n:Int,x=.int .i64 n/\0<=n/\n<=cN l * 171798693/\(n<=m->cN l<=n))/\ab=h
 | 0,l,aM,_,_,_,_,_,_,_=>by omega
 | N+1,l,aM,bH,m,KH,KI,v,h,L=>by
   have az:=L.len;have hle:=L.le;rw [List.length_map] at az hle;refine Qa.z rfl (dF ?_);unfold I7;simp +contextual only [↓al,aK,simprocAttr];refine gD (fun r g=>r 0=v/\r 1=.int .i64 m/\g=h/\∃(i:Nat) (n:Int),r 5=.int .i64 n/\r 6=.int .i64 i/\i<=l.length/\0<=n/\n<=cN (l.take i) * 171798693/\(n<=m->cN (l.take i)<=n)) (fun r g=>l.length - (r 6).toN) ?_ ?_
   . exact ⟨by simp only [↓al,br,simprocAttr],by simp only [↓al,br,simprocAttr],rfl,0,0,by simp only [↓al,br,simprocAttr],by simp only [↓al,br,simprocAttr]<;>rfl,by omega,by omega,by simp [cN],fun _=>by simp [cN]⟩
   rintro r g ⟨bA,bD,rfl,i,n,dZ,dI,aq,cu,cx,e8⟩;unfold I8;have j3:=w5 l i;by_cases aT:i<l.length
   . have g0:((i:Int) < (l.length:Int))=True:=eq_true (by omega);have oY:=Gv aT;have b':=size_eq l[i];have aqk:=w5 l (i+1);by_cases aQ:n<=m
     . have oU:=eq_true aQ;obtain ⟨b,off,wl,dD,X,iK,ld,um,LB,sE⟩:=an.TN L (k:=.i64) aT;have d3:=LB g (Ext.refl g);have d4:=sE g (Ext.refl g);have eR:=pw aT (by unfold top at hle;omega);have fo:l[i].s.length<=top:=by obtain ⟨_,_,_,q⟩:=an.open X;exact q
       unfold top at fo;have MC:=V4 (P:=Tryz.prog) (n:=l[i].s.length) (by omega);have bb:l[i].s.length / 100<=171798691:=by omega
       have bW:IntKind.i64.wrap (n+1)=n+1:=wrap_i64 (by omega) (by omega);have bV:IntKind.i64.wrap (n+1 + ((l[i].s.length / 100:Nat):Int))=n+1 + ((l[i].s.length / 100:Nat):Int):=wrap_i64 (by omega) (by omega);have iE:IntKind.i64.wrap (m - (n+1 + ((l[i].s.length / 100:Nat):Int)))=m - (n+1 + ((l[i].s.length / 100:Nat):Int)):=wrap_i64 (by omega) (by omega);simp +contextual only [bA,bD,dZ,dI,az,g0,oU,dD,d3,d4,MC,bW,bV,iE,↓al,aK,simprocAttr];refine cF (Vh N l[i].l (by have:=VF aT;omega) (by omega) _ (by omega) (by omega) wl g iK) ?_;rintro x g2 ⟨⟨y,rfl,ao1,dT,e3⟩,rfl⟩;have hv:IntKind.i64.wrap (n+1 + ((l[i].s.length / 100:Nat):Int)+y)=n+1 + ((l[i].s.length / 100:Nat):Int)+y:=wrap_i64 (by omega) (by omega);simp +contextual only [bA,bD,dZ,dI,eR,hv,↓al,aK,simprocAttr];refine ⟨⟨i+1,_,rfl,rfl,aT,by omega,by omega,fun q=>?_⟩,by omega⟩;have:=e8 aQ;have:=e3 (by omega);omega
     . have oU:=eq_false aQ;simp +contextual only [bA,bD,dZ,dI,az,g0,oU,↓al,aK,simprocAttr];exact ⟨n,rfl,cu,by omega,fun q=>(aQ q).elim⟩
   . have g0:((i:Int) < (l.length:Int))=False:=eq_false (by omega);rw [List.take_of_length_le (by omega)] at cx e8;simp +contextual only [bA,bD,dZ,dI,az,g0,↓al,aK,simprocAttr];exact ⟨n,rfl,cu,cx,e8⟩
theorem ajv (l:List an) (aM:cN l<=2000000) (m:Nat) (hm:m<=1000000) (v:V) (h:ah) (L:dj Any h 4 (l.map an.enc) v):c4 Tryz.prog 10 [v,.int .i64 m] h fun x ab=>(∃b,x=.bool b/\(b=false->cN l<=m))/\ab=h:=by
 refine PC.z rfl (dF ?_);unfold IU;simp +contextual only [↓al,aK,simprocAttr];refine cF (Vh _ l (Nat.lt_succ_self _) (by omega) m (by omega) (by omega) v h L) ?_;rintro x g2 ⟨⟨y,rfl,ao1,dT,e3⟩,rfl⟩;simp +contextual only [↓al,aK,simprocAttr];exact fun q=>by
  have aa:y<=m:=by simpa using q
  have:=e3 aa;omega
theorem We (z:List V):∀n,(hI z n).length=n * z.length
 | 0=>by simp [hI]
 | n+1=>by rw [hI,List.length_append,We z n,Nat.succ_mul,Nat.add_comm]
theorem ZN {h:ah} {n:Nat} (a8:0<n) (aQ:n<=100000) {z:List V} (bn:z.length=4):x2 4 z .bU (.int .i64 (n:Int)) h=.val (.ez (aj h.next) 0 n 0) (h.new (.bx (hI z n) 4 false)):=by
 have e:((n:Nat):Int)=Int.ofNat n:=rfl;have aN:Nat.ble n 100000=true:=by rw [Nat.ble_eq];exact aQ
 have aZ:Nat.beq n 0=false:=by rw [<-Bool.not_eq_true,Nat.beq_eq];omega
 unfold x2;rw [e];simp only [pP,aN,Bool.and_self,cond_true,DI,vn,aZ,cond_false,Cc (show (hI z n).length<=top by rw [We,bn];unfold top;omega) (show 1<=4 by omega)]
theorem am5:nq 4 .bU none (some (.int .i64 0)) none=some .bU:=by simp [nq,CG,bound,V.eo,o8]
theorem am2 {b:aO} {n:Nat} (a8:0<n):nq 4 (.ez b 0 n 0) none (some (.int .i64 0)) none=some (.ez b 0 0 0):=by
 have e:=IM (k:=.i64) (m:=0) (d:=n) (y:=n) (Nat.zero_le _);have aZ:Nat.blt 0 n=true:=by rw [Nat.blt_eq];exact a8
 simp only [nq,uQ,show ((0:Int))=((0:Nat):Int) from rfl,e,AO,aZ,cond_true]
theorem ad0 (n:Nat) (aQ:n<=100000) (h:ah):c4 Tryz.prog 75 [.bU,.int .i64 n] h fun x ab=>dW h.next ab 4 x 0 []/\Ext h ab:=by
 refine abj.z rfl (dF ?_);unfold Qp;have g0:((n:Int)<0)=False:=eq_false (by omega);have ay:IntKind.i64.wrap 0=0:=wrap_i64 (by omega) (by omega);have bW:IntKind.i64.wrap ((n:Int)-0)=(n:Int):=by rw [wrap_i64 (by omega) (by omega)];omega
 have Eb:r4 .bU=some (.int .i64 0):=rfl;by_cases c:0<n
 . have g1:((0:Int) < (n:Int))=True:=eq_true (by omega);simp +contextual only [g0,g1,ay,bW,Eb,am5,ZN c aQ (z:=[.int .i64 0,.int .i64 0,.str [],.bU]) rfl,am2 c,jl,↓al,aK,simprocAttr];refine ⟨⟨rfl,rfl,by rw [cm];exact Nat.le_refl _,gi (by rw [gF];omega),rfl,rfl,_,_,nQ _,Nat.zero_le _,by simp⟩,(Ext.refl h).new _⟩
 . have g1:((0:Int) < (n:Int))=False:=eq_false (by omega);simp +contextual only [g0,g1,ay,bW,Eb,jl,↓al,aK,simprocAttr];exact ⟨⟨rfl,rfl⟩,Ext.refl h⟩
theorem ab2 (a b:List an) (aV:a.length<=1000) (ae:b.length<=1000) (n:Nat) (qm pv:V) (h:ah) (B:Has h n [qm,pv]) (tm:dj Any h 4 (a.map an.enc) qm) (lp:dj Any h 4 (b.map an.enc) pv):
 c4 Tryz.prog 47 [.slice (aj n) 0 2 2] h fun x ab=>dj Any ab 4 ((a++b).map an.enc) x/\Ext h ab:=by
 refine aa7.z rfl (dF ?_);unfold Qb;have eD:=tm.len;have fe:=lp.len;rw [List.length_map] at eD fe;have dk:=tm.one;have dH:=lp.one;have ls:mm (.slice (aj n) 0 2 2)=some (.int .i64 2):=rfl;have xJ:dj (Old h) h 4 (a.map an.enc) qm:=tm.oi;have u7:dj (Old h) h 4 (b.map an.enc) pv:=lp.oi;have Tp:lH 1 (.slice (aj n) 0 2 2) (.int .i64 0)=some (.ptr (aj n) 0):=by rw [show (0:Int)=((0:Nat):Int) from rfl,FC];simp
 have FB:lH 1 (.slice (aj n) 0 2 2) (.int .i64 1)=some (.ptr (aj n) 1):=by rw [show (1:Int)=((1:Nat):Int) from rfl,FC];simp
 simp +contextual only [ls,↓al,aK,simprocAttr];refine gD (fun r g=>g=h/\r 0=.slice (aj n) 0 2 2/\r 9=.slice (aj n) 0 2 2/\r 10=.int .i64 2/\((r 11=.int .i64 0/\r 3=.int .i64 0)\/(r 11=.int .i64 1/\r 3=.int .i64 a.length)\/(r 11=.int .i64 2/\r 3=.int .i64 ((a.length+b.length:Nat):Int)))) (fun r g=>2 - (r 11).toN) ?_ ?_
 . exact ⟨rfl,by simp only [↓al,br,simprocAttr],by simp only [↓al,br,simprocAttr],by simp only [↓al,br,simprocAttr],.inl ⟨by simp only [↓al,br,simprocAttr],by simp only [↓al,br,simprocAttr]⟩⟩
 rintro r g ⟨rfl,bA,kr,iC,⟨kN,cc⟩ | ⟨kN,cc⟩ | ⟨kN,cc⟩⟩
 . unfold D0;have ay:IntKind.i64.wrap (0 + (a.length:Int))=(a.length:Int):=by rw [wrap_i64 (by omega) (by omega)];omega
   have bW:IntKind.i64.wrap (0+1)=1:=by rw [wrap_i64 (by omega) (by omega)];rfl
   have xt:IntKind.i64.wrap 1=1:=wrap_i64 (by omega) (by omega);have g1:((a.length:Int)<0)=False:=eq_false (by omega);simp +contextual only [bA,kr,iC,kN,cc,Tp,B.g,eD,ay,bW,xt,g1,dk.1,dk.2.1,show ((0:Int)<2)=True from eq_true (by omega),↓al,aK,simprocAttr];exact .inr (.inl trivial)
 . unfold D0;have ay:IntKind.i64.wrap ((a.length:Int) + (b.length:Int))=((a.length+b.length:Nat):Int):=by rw [wrap_i64 (by omega) (by omega)];omega
   have bW:IntKind.i64.wrap (1+1)=2:=by rw [wrap_i64 (by omega) (by omega)];rfl
   have xt:IntKind.i64.wrap 2=2:=wrap_i64 (by omega) (by omega);have g1:(((a.length+b.length:Nat):Int)<0)=False:=eq_false (by omega);simp +contextual only [bA,kr,iC,kN,cc,FB,B.g,fe,ay,bW,xt,g1,dH.1,dH.2.1,show ((1:Int)<2)=True from eq_true (by omega),↓al,aK,simprocAttr];exact .inr (.inr trivial)
 . unfold D0;simp +contextual only [bA,kr,iC,kN,cc,show ((2:Int)<2)=False from eq_false (by omega),↓al,aK,simprocAttr];refine cF (ad0 (a.length+b.length) (by omega) g) ?_;rintro x aa ⟨O,aN⟩;have qp:iJ g.next (Old g) aa 4 [] x:=⟨[],O,rfl,fun u hu=>(by cases hu),fun i e u q=>(by simp at q)⟩
   simp +contextual only [bA,ls,↓al,aK,simprocAttr];have cR:∀{v:V} {k:ah} {es:List (List D)},iJ g.next (Old g) k 4 es v->∀b,Old g b->Old g b/\¬v.aW b:=fun D b q=>⟨q,fun z=>by have:=D.base z;unfold Old at q;omega⟩
   have cx:=aN.next
   refine gD (fun r k=>r 25=.slice (aj n) 0 2 2/\r 26=.int .i64 2/\∃v,r 6=v/\Ext g k/\((r 27=.int .i64 0/\iJ g.next (Old g) k 4 [] v)\/(r 27=.int .i64 1/\iJ g.next (Old g) k 4 (a.map an.enc) v)\/(r 27=.int .i64 2/\iJ g.next (Old g) k 4 (a.map an.enc++b.map an.enc) v))) (fun r g=>2 - (r 27).toN) ?_ ?_
   . exact ⟨by simp only [↓al,br,simprocAttr],by simp only [↓al,br,simprocAttr],x,by simp only [↓al,br,simprocAttr],aN,.inl ⟨by simp only [↓al,br,simprocAttr],qp⟩⟩
   rintro r k ⟨MD,om,v,dI,e,⟨mr,ox⟩ | ⟨mr,ox⟩ | ⟨mr,ox⟩⟩
   . unfold D1;have xt:IntKind.i64.wrap 1=1:=wrap_i64 (by omega) (by omega);have Hz:=B.ext e;have iA:=ox.one;have e8:=e.next
     obtain ⟨c1,bo,b0,b1,cS,iU⟩:=iJ.app ox (xJ.ext e) (cR ox) (by omega) (by omega) (by simp only [List.length_map,List.length_nil];unfold top;omega);have nh:=b1.one;simp +contextual only [MD,om,mr,dI,Tp,Hz.g,b0,xt,iA.1,iA.2.1,nh.1,nh.2.1,dk.1,dk.2.1,show ((0:Int)<2)=True from eq_true (by omega),↓al,aK,simprocAttr];exact ⟨e.j5 cS fun b q=>ox.base q,.inr (.inl b1)⟩
   . unfold D1;have xt:IntKind.i64.wrap 2=2:=wrap_i64 (by omega) (by omega);have Hz:=B.ext e;have iA:=ox.one;have e8:=e.next
     obtain ⟨c1,bo,b0,b1,cS,iU⟩:=iJ.app ox (u7.ext e) (cR ox) (by omega) (by omega) (by simp only [List.length_map];unfold top;omega);have nh:=b1.one;simp +contextual only [MD,om,mr,dI,FB,Hz.g,b0,xt,iA.1,iA.2.1,nh.1,nh.2.1,dH.1,dH.2.1,show ((1:Int)<2)=True from eq_true (by omega),↓al,aK,simprocAttr];exact ⟨e.j5 cS fun b q=>ox.base q,.inr (.inr b1)⟩
   . unfold D1;have iA:=ox.one;simp +contextual only [MD,om,mr,dI,iA.1,iA.2.1,show ((2:Int)<2)=False from eq_false (by omega),↓al,aK,simprocAttr];refine ⟨?_,e⟩;rw [List.map_append];exact ox.fo (by simp only [List.length_append,List.length_map];unfold top;omega) (fun _ _=>trivial) fun _ _=>trivial
theorem ait (v:V) (ba:v.one=true/\v.cells=[v]/\v.fI=true) (h:ah):c4 Tryz.prog 51 [v] h fun x ab=>∃n,x=.func 78 [.ptr (aj n) 0]/\Has ab n [v]/\Ext h ab:=by refine abb.z rfl (dF ?_);unfold c51;obtain ⟨aa,ao,aN,da⟩:=fU h [v];simp +contextual only [ao,ba.1,ba.2.1,ba.2.2,↓al,aK,simprocAttr];exact ⟨_,rfl,da,aN⟩
theorem N6 {α:Type} {e:α->V}:∀{bw:List (Int × α)} {es:List cE},qu e bw es->n0 es=some (bw.map Prod.fst)
 | [],[],_=>rfl
 | [],_::_,H=>H.elim
 | _::_,[],H=>H.elim
 | (s,a)::bw,m::es,H=>by unfold n0;rw [H.1,N6 H.2.2];rfl
theorem Uz {x:Int}:∀{l:List Int},wQ x l=true↔x ∈ l
 | []=>by simp [wQ]
 | y::l=>by simp only [wQ,Bool.or_eq_true,Uz (l:=l),List.mem_cons,El,decide_eq_true_eq]
theorem UO:∀{l:List Int},l.Nodup->uu l=true
 | [],_=>rfl
 | x::l,h=>by obtain ⟨aa,ad⟩:=List.nodup_cons.1 h;simp only [uu,Bool.and_eq_true,Bool.not_eq_true',UO ad,and_true];rw [<-Bool.not_eq_true,Uz];exact aa
theorem XH:∀{l:List Int},(∀x ∈ l,0<=x/\x<=1048575)->uW l=true
 | [],_=>rfl
 | x::l,h=>by
   have aa:=h x List.mem_cons_self;simp only [uW,Bool.and_eq_true];refine ⟨?_,XH fun y a1=>h y (List.mem_cons_of_mem _ a1)⟩;have aN:IntKind.i64.min=-9223372036854775808:=by decide
   have aZ:IntKind.i64.max=9223372036854775807:=by decide
   simp [Lit.wf,aN,aZ];omega
theorem anc {α:Type} {e:α->V} {h:ah} {n:Nat} {nK:aO} {bw:List (Int × α)} (P:Has h n [.map nK]) (M:iI e h nK bw) (aQ:(bw.map Prod.fst).Nodup) (az:bw.length<=1000000) (aM:∀s ∈ bw.map Prod.fst,0<=s/\s<=1048575):
 c4 Tryz.prog 50 [.func 78 [.ptr (aj n) 0]] h fun x ab=>(gy ab 1 x (eO (bw.map Prod.fst)).length (q9 (eO (bw.map Prod.fst)))/\sX x/\∀b,x.aW b->h.next<=dr b)/\Ext h ab:=by
 obtain ⟨es,clock,m1,m2,m3⟩:=M.ex;have aD:=N6 m2;have hlen:es.length=bw.length:=by have:=Ly aD;rw [List.length_map] at this;exact this.symm
 have fI:(uu (bw.map Prod.fst)&&hA clock 0 es&&uW (bw.map Prod.fst)&&Nat.ble es.length 1000000)=true:=by rw [UO aQ,m3,XH aM];simp only [Bool.and_self,Bool.true_and,Nat.ble_eq];omega
 have k6:(eO (bw.map Prod.fst)).length=bw.length:=by rw [(uR _).length_eq,List.length_map]
 have run:∃v ab,(CH 78).run [.func 78 [.ptr (aj n) 0]] h=.val v ab/\(gy ab 1 v (eO (bw.map Prod.fst)).length (q9 (eO (bw.map Prod.fst)))/\sX v/\∀b,v.aW b->h.next<=dr b)/\Ext h ab:=by
  simp only [CH,Nat.beq_refl,cond_true,M5,P.g,b9.bx];simp only [List.length_singleton,show Nat.blt 0 1=true from rfl,cond_true];rw [show T.get V.bad (aj 0) (Go.Proofs.YthemdhlheglhoaaGreatDoor.aY.dY .e 0 [V.map nK])=V.map nK from by rw [show aj 0=aj (0+0) from rfl,EH];rfl];simp only [m1,aD,fI,cond_true];generalize eO (bw.map Prod.fst)=l at *;cases l with
  | nil=>exact ⟨_,_,rfl,⟨⟨rfl,rfl⟩,fun b o l c e=>(by cases e),fun b q=>q.elim⟩,Ext.refl _⟩
  | cons x l=>
    have jZ:(uh (x::l)).length<=top:=by unfold uh;rw [List.length_map];unfold top;omega
    simp only [Cc jZ (Nat.le_refl _)];have o:=dW.grown (B:=h.next) (h:=h) (size:=1) (ag:=uh (x::l)) (n:=(x::l).length) (st:=false) (by unfold uh;rw [List.length_map,Nat.mul_one]) (Nat.le_refl _);refine ⟨_,_,rfl,⟨o.v,o.room,fun b q=>o.base q⟩,(Ext.refl h).new _⟩
 obtain ⟨v,ab,bD,b3,cc⟩:=run;exact ⟨v,ab,⟨(fun e=>by cases e),.inl ⟨⟨_,Tryz.func50,by kernel_rfl⟩,fun ay E w xs ai s=>WM (by decide) Tryz.underlying3 WL bD ay E w xs ai s⟩⟩,b3,cc⟩
section
variable [Lay]
abbrev D6 (p:Int × an) (w:V):List V:=[.int .i64 p.1,.int .i64 p.2.k,.int .i64 p.2.n,.str p.2.s,w]
inductive gw (h:ah):(aO->Prop)->dn->V->Prop
 | mk {S:aO->Prop} {l:dn} {v:V} (us:List (List V)) (ws:Nat->V) (hd:Nat->aO->Prop) (o:dW 0 h 5 v l.length us.flatten) (hu:us.length=l.length) (aQ:l.length<=top)
    (cells:∀(i:Nat) (t:Int × an),l[i]? =some t->us[i]? =some (D6 t (ws i))/\t.2.s.length<=top)
    (kids:∀(i:Nat) (t:Int × an),l[i]? =some t->e4 h (hd i) t.2.l (ws i)) (ba:∀b,v.aW b->S b) (cY:∀(i:Nat) (b:aO),i<l.length->hd i b->S b/\¬v.aW b)
    (apart:∀(i j:Nat) (b:aO),i<l.length->j<l.length->i≠j->hd i b->¬hd j b):gw h S l v
variable {h ab:ah} {S:aO->Prop} {l:dn} {v:V}
theorem gw.nil (h:ah) (S:aO->Prop):gw h S [] .bU:=
 .mk [] (fun _=>.bU) (fun _ _=>False) ⟨by simp,rfl⟩ rfl (Nat.zero_le _) (fun i t q=>by simp at q) (fun i t q=>by simp at q) (fun b q=>q.elim) (fun i b q=>absurd q (Nat.not_lt_zero _)) (fun i j b q=>absurd q (Nat.not_lt_zero _))
theorem gw.mod {M:aO->Prop} (H:gw h S l v) (m:Mod M h ab) (c6:∀b,S b->¬M b):gw ab S l v:=by
 cases H with
 | mk us ws hd o hu aQ cells kids ba cY apart=>
   exact .mk us ws hd (o.mod m fun b q=>c6 b (ba b q)) hu aQ cells (fun i t q=>(kids i t q).mod m fun b z=>c6 b (cY i b (by obtain ⟨ao,_⟩:=List.getElem?_eq_some_iff.1 q;exact ao) z).1) ba cY apart
theorem gw.hJ {gd:aO->Prop} (H:gw h S l v) (w:∀b,S b->gd b):gw h gd l v:=by
 cases H with
 | mk us ws hd o hu aQ cells kids ba cY apart=>exact .mk us ws hd o hu aQ cells kids (fun b q=>w b (ba b q)) (fun i b q z=>⟨w b (cY i b q z).1,(cY i b q z).2⟩) apart
theorem gw.fo {F:aO->Prop} (H:gw h S l v) (w:∀b,S b->F b):dj F h 5 (l.map lu) v:=by
 cases H with
 | mk us ws hd o hu aQ cells kids ba cY apart=>
   refine ⟨o.room,by rw [List.length_map];exact aQ,⟨us,by rw [List.length_map];exact o.v,by rw [List.length_map];exact hu,fun u q=>?_,fun i e u ao ax=>?_⟩,fun b q=>w b (ba b q)⟩
   . obtain ⟨i,aq,rfl⟩:=List.getElem_of_mem q;have:=(cells i _ (List.getElem?_eq_getElem (by omega))).1;rw [List.getElem?_eq_getElem aq] at this;rw [Option.some.inj this];rfl
   . rw [List.getElem?_map] at ao;cases au:l[i]? with
     | none=>rw [au] at ao;cases ao
     | some t=>
       rw [au] at ao;simp only [Option.map_some,Option.some.injEq] at ao;subst ao;obtain ⟨bS,bX⟩:=cells i t au;rw [bS] at ax;cases ax;rw [lu,zC];have aq:i<l.length:=(List.getElem?_eq_some_iff.1 au).1;exact .i (.i (.i (.s bX (((kids i t au).fo fun b z=>w b (cY i b aq z).1).cons .nil))))
theorem gw.one (H:gw h S l v):v.one=true/\v.cells=[v]/\v.fI=true:=by
 cases H with
 | mk us ws hd o hu aQ cells kids ba cY apart=>exact o.v.one
theorem gw.ba (H:gw h S l v):∀b,v.aW b->S b:=by
 cases H with
 | mk us ws hd o hu aQ cells kids ba cY apart=>exact ba
theorem gw.add {T:aO->Prop} {t:Int × an} {u:V} (H:gw h S l v) (E:e4 h T t.2.l u) (se:∀b,S b->¬T b) (nR:∀b,S b->Old h b) (tP:∀b,T b->Old h b) (hlen:(l.length+1) * 5<=top) (aM:t.2.s.length<=top):
 ∃c1 ab,lr 5 v (.slice (aj h.next) 0 1 1) (h.new (.bx (D6 t u) 0 false))=.val c1 ab/\gw ab (fun b=>S b\/T b\/(h.next<=dr b/\dr b<ab.next)) (l++[t]) c1/\Mod v.aW h ab/\h.next+1<=ab.next:=by
 have hX:=E.one;cases H with
 | mk us ws hd o hu aQ cells kids ba cY apart=>
   obtain ⟨c1,ab,ao,ax,aL,bY,ee⟩:=vo (cs:=D6 t u) (by omega) o (Nat.zero_le _) hlen rfl (by simp only [fJ,L_,Ma,hX.1,Bool.and_self,Bool.and_true]);have p2:∀b,c1.aW b->¬v.aW b->¬Old h b:=fun b z z2=>by
    rcases ee b z with z | z
    . exact absurd z z2
    . unfold Old;omega
   have snoc:∀(i:Nat) (s:Int × an),(l++[t])[i]? =some s->(i<l.length/\l[i]? =some s)\/(i=l.length/\s=t):=fun i s q=>A' q;refine ⟨c1,ab,ao,.mk (us++[D6 t u]) (fun i=>if i<l.length then ws i else u) (fun i=>if i<l.length then hd i else T) ?_ (by simp [hu]) (by rw [List.length_append,List.length_singleton];omega) (fun i s q=>?_) (fun i s q=>?_) (fun b z=>?_) (fun i b aq z=>?_) (fun i j b aq a6 mO z=>?_),aL,bY⟩
   . rw [List.length_append,List.length_singleton,List.flatten_append];simpa using ax
   . rcases snoc i s q with ⟨aa,ad⟩ | ⟨aa,rfl⟩
     . rw [if_pos aa,List.getElem?_append_left (by omega)];exact cells i s ad
     . subst aa;rw [if_neg (by omega),List.getElem?_append_right (by omega),hu,Nat.sub_self];exact ⟨rfl,aM⟩
   . rcases snoc i s q with ⟨aa,ad⟩ | ⟨aa,rfl⟩
     . simp only [if_pos aa];exact (kids i s ad).mod aL fun b z=>(cY i b aa z).2
     . subst aa;simp only [Nat.lt_irrefl,if_false];exact E.mod aL fun b z z2=>se b (ba b z2) z
   . have aX:=ax.v.bP z;rcases ee b z with z | z
     . exact .inl (ba b z)
     . exact .inr (.inr (by unfold Old at aX;omega))
   . by_cases aa:i<l.length
     . rw [if_pos aa] at z;obtain ⟨a,c⟩:=cY i b aa z;exact ⟨.inl a,fun z2=>p2 b z2 c (nR b a)⟩
     . rw [if_neg aa] at z;exact ⟨.inr (.inl z),fun z2=>p2 b z2 (fun z3=>se b (ba b z3) z) (tP b z)⟩
   . rw [List.length_append,List.length_singleton] at aq a6;by_cases aa:i<l.length
     . rw [if_pos aa] at z;by_cases ad:j<l.length
       . rw [if_pos ad];exact apart i j b aa ad mO z
       . rw [if_neg ad];exact se b (cY i b aa z).1
     . rw [if_neg aa] at z;rw [if_pos (by omega)];exact fun z2=>se b (cY j b (by omega) z2).1 z
end
end
section
open Go aY
def ps (g:bm × List (Nat × Nat)) (p:an × an):bm × List (Nat × Nat):=((p.2.add (p.1.add g.1).1).1,((p.1.add g.1).2,(p.2.add (p.1.add g.1).1).2)::g.2)
theorem xY:∀(l:List (an × an)) (g:bm × List (Nat × Nat)),js l g=l.foldl ps g
 | [],g=>rfl
 | p::l,g=>by rw [js,xY l];rfl
theorem ZB (l:List (an × an)) (p:an × an) (g:bm × List (Nat × Nat)):js (l++[p]) g=ps (js l g) p:=by rw [xY,xY,List.foldl_append];rfl
theorem ZA (l m:List (an × an)) (g:bm × List (Nat × Nat)):js (l++m) g=js m (js l g):=by rw [xY,xY,xY,List.foldl_append]
theorem anl (g:bm × List (Nat × Nat)) (p:an × an) (aa:p.1.lg=true) (ad:p.2.lg=true) (W:g.1.dz):g.1.le (ps g p).1/\(ps g p).1.dz/\(∀e ∈ g.2,e ∈ (ps g p).2):=by obtain ⟨bN,a2,_⟩:=kv p.1 g.1 aa W;obtain ⟨cn,ch,_⟩:=kv p.2 _ ad a2;exact ⟨bN.trans cn,ch,fun e he=>List.mem_cons_of_mem _ he⟩
theorem OY:∀(l:List (an × an)) (g:bm × List (Nat × Nat)),(∀p ∈ l,p.1.lg=true/\p.2.lg=true)->g.1.dz->g.1.le (js l g).1/\(js l g).1.dz/\(∀e ∈ g.2,e ∈ (js l g).2)
 | [],g,_,W=>⟨bm.le.refl _,W,fun _ h=>h⟩
 | p::l,g,h,W=>by obtain ⟨bN,a2,a3⟩:=anl g p (h p List.mem_cons_self).1 (h p List.mem_cons_self).2 W;obtain ⟨cn,ch,gk⟩:=OY l (ps g p) (fun q aA=>h q (List.mem_cons_of_mem _ aA)) a2;exact ⟨bN.trans cn,ch,fun e he=>gk e (a3 e he)⟩
mutual
theorem Iz:∀(t:an) (g:bm),g.vars.length<=g.N->(t.add g).1.vars.length<=(t.add g).1.N
 | .mk k n s l,g,h=>by
   rw [an.add];by_cases c:k=1
   . rw [if_pos c];unfold bm.var;cases ca n g.vars with
     | some i=>exact h
     | none=>simp only [bm.N,List.length_append,List.length_singleton] at h ⊢;omega
   . rw [if_neg c];have:=O4 l g h;simp only [bm.put,bm.N,List.length_append,List.length_singleton] at this ⊢;omega
theorem O4:∀(l:List an) (g:bm),g.vars.length<=g.N->(cf l g).1.vars.length<=(cf l g).1.N
 | [],g,h=>h
 | t::l,g,h=>by rw [cf];exact O4 l _ (Iz t g h)
end
theorem l4.grow {g cQ:bm} {π j':Nat->Nat} {bO lN:Nat->V} {bE fz:Nat->Int} {B:Nat} {ρ:Nat->Nat} (pC:pD g cQ π j' bO lN bE fz B) (ke:cQ.dz) (S:ij g ρ) (H:l4 g ρ bE) (aF:g.le cQ):l4 cQ ρ fz:=by
 intro r aG e;by_cases c:r<g.N
 . have:=H r c e;rw [pC.bE r c];have only:∀(y:Nat) (aJ:dy),cQ.nodes[y]? =some aJ->ρ y=r->g.nodes[y]? =some aJ:=fun y aJ h q=>by
    by_cases z:y<g.N
    . rw [aF.bP z] at h;exact h
    . have:=S.out y (by omega);omega
   rcases this with ⟨aa,ad⟩ | ⟨aa,⟨y,aJ,ad,aH,bt,cI⟩,cA⟩
   . exact .inl ⟨aa,fun y aJ ao ax=>ad y aJ (only y aJ ao ax) ax⟩
   . exact .inr ⟨aa,⟨y,aJ,aF.get ad,aH,bt,cI⟩,fun y aJ ao ax aL=>cA y aJ (only y aJ ao ax) ax aL⟩
 . obtain ⟨aJ,dM⟩:=ly aG;have aQ:=pC.new r aJ (by omega) dM;have only:∀(y:Nat) (b7:dy),cQ.nodes[y]? =some b7->ρ y=r->b7=aJ:=fun y b7 h q=>by
    by_cases z:y<g.N
    . have:=S.lt y z;omega
    . have:=S.out y (by omega);have:y=r:=by omega
      subst this;rw [dM] at h;exact (Option.some.inj h).symm
   cases bX:aJ.cd with
   | true=>
     rw [bX] at aQ;simp only [if_true] at aQ;exact .inl ⟨by omega,fun y b7 ao ax=>by rw [only y b7 ao ax];exact bX⟩
   | false=>
     rw [bX] at aQ;simp only [Bool.false_eq_true,if_false] at aQ;have af:=(ke.var r aJ dM bX).2.2.1;exact .inr ⟨by omega,⟨r,aJ,dM,e,bX,aQ.symm⟩,fun y b7 ao ax _=>by rw [only y b7 ao ax];omega⟩
section
variable {g:bm} {E:List (Nat × Nat)}
theorem WJ {l:List Int} {x:Int}:x ∈ eO l↔x ∈ l:=(uR l).mem_iff
theorem Uh {α:Type} {s:Int}:∀{k:List (Int × α)},s ∈ k.map Prod.fst->∃a,ca s k=some a
 | [],h=>by simp at h
 | (n,b)::k,h=>by
   simp only [ca];by_cases c:s=n
   . exact ⟨b,if_pos c⟩
   . rw [if_neg c];simp only [List.map_cons,List.mem_cons] at h;exact Uh (h.resolve_left c)
theorem Lv (W:g.dz) {i:Nat} (aq:i < (eO (g.vars.map Prod.fst)).length):∃(j:Nat) (aJ:dy),ca (eO (g.vars.map Prod.fst))[i] g.vars=some j/\g.nodes[j]? =some aJ/\aJ.cd=false/\aJ.n=(eO (g.vars.map Prod.fst))[i]/\(keyed g)[i]? =some ((eO (g.vars.map Prod.fst))[i],j):=by have hm:(eO (g.vars.map Prod.fst))[i] ∈ g.vars.map Prod.fst:=WJ.1 (List.getElem_mem aq);obtain ⟨j,a6⟩:=Uh hm;obtain ⟨aJ,aa,ad,aH⟩:=W.e7 _ _ a6;refine ⟨j,aJ,a6,aa,ad,aH,?_⟩;unfold keyed;rw [List.getElem?_map,List.getElem?_eq_getElem aq];simp [a6]
theorem W_ {α β:Type} (f:α->Option β) {l:List α} {i:Nat} {x:α} (h:l[i]? =some x):(l.take (i+1)).filterMap f=(l.take i).filterMap f++(f x).toList:=by obtain ⟨aq,rfl⟩:=List.getElem?_eq_some_iff.1 h;rw [List.take_succ_eq_append_getElem aq,List.filterMap_append];congr 1
theorem aah {n:Int} {j:Nat} (h:lf g E j=.mk 1 n [] []):fM g E (n,j)=none:=by unfold fM;exact if_pos h
theorem Po {n:Int} {j:Nat} (h:lf g E j≠.mk 1 n [] []):fM g E (n,j)=some (n,lf g E j):=by unfold fM;exact if_neg h
open Classical in
theorem GU (h:iX g E):lb g E=([],290):=by unfold lb;rw [if_pos h]
open Classical in
theorem GX (aC:¬iX g E) (h:∃i,i<g.N/\¬∃t,du g (cD g E) i t):lb g E=([],291):=by unfold lb;rw [if_neg aC,if_pos h]
open Classical in
theorem GV (aC:¬iX g E) (h:∀i,i<g.N->∃t,du g (cD g E) i t) (az:∃p ∈ (keyed g).filterMap (fM g E),¬(p.2.size<=4096/\p.2.deep<=200)):lb g E=([],3):=by unfold lb;rw [if_neg aC,if_neg (fun ⟨i,aa,ad⟩=>ad (h i aa)),if_pos az]
open Classical in
theorem GW (aC:¬iX g E) (h:∀i,i<g.N->∃t,du g (cD g E) i t) (az:∀p ∈ (keyed g).filterMap (fM g E),p.2.size<=4096/\p.2.deep<=200):lb g E=((keyed g).filterMap (fM g E),0):=by unfold lb;rw [if_neg aC,if_neg (fun ⟨i,aa,ad⟩=>ad (h i aa)),if_neg (fun ⟨p,aa,ad⟩=>ad (az p aa))]
end
def I0:aS:=
 aS.seq (aS.av [⟨(some 14),.bz (.c .bU),none,[]⟩])
 (aS.seq (aS.seq (aS.av [⟨(some 78),.bz (.t 11),none,[11]⟩,
   ⟨(some 79),.len .slice (.t 78),none,[78]⟩,
   ⟨(some 80),.bz (.c (.int .i64 0)),none,[]⟩])
  (aS.block 6 (aS.loop IY)))
 (aS.seq (aS.av [⟨(some 127),.bz (.t 14),none,[14]⟩,
   ⟨(some 4),.bz (.t 127),none,[127]⟩,
   ⟨(some 5),.bz (.c (.int .i64 0)),none,[]⟩])
 (aS.ret)))
def IZ:aS:=
 aS.seq (aS.av [⟨(some 57),.rj none,none,[]⟩,
  ⟨(some 58),.rj none,none,[]⟩,
  ⟨(some 59),.rj none,none,[]⟩,
  ⟨(some 60),.build [.iS,.iS,.iS] [(0,1,(.t 57)),(1,1,(.t 58)),(2,1,(.t 59))],none,[57,58,59]⟩,
  ⟨(some 61),.box (.t 60),none,[60]⟩,
  ⟨(some 10),.bz (.t 61),none,[61]⟩])
 (aS.seq (aS.av [⟨(some 62),.bz (.t 8),none,[8]⟩,
   ⟨(some 63),.call 51 [(.t 62)],none,[62]⟩,
   ⟨(some 64),.call 50 [(.t 63)],none,[63]⟩,
   ⟨(some 11),.bz (.t 64),none,[64]⟩])
 (aS.seq (aS.seq (aS.av [⟨(some 65),.bz (.t 11),none,[11]⟩,
   ⟨(some 66),.len .slice (.t 65),none,[65]⟩,
   ⟨(some 67),.bz (.c (.int .i64 0)),none,[]⟩])
  (aS.block 4 (aS.loop IX)))
 (I0)))
theorem aaD:PL=
 aS.seq (aS.av [⟨(some 4),.bz (.c .bU),none,[]⟩,
  ⟨(some 5),.bz (.c (.int .i64 0)),none,[]⟩])
 (aS.seq (aS.seq (aS.av [⟨(some 18),.bz (.t 0),none,[0]⟩,
   ⟨(some 19),.len .slice (.t 18),none,[18]⟩,
   ⟨(some 20),.bz (.t 1),none,[1]⟩,
   ⟨(some 21),.len .slice (.t 20),none,[20]⟩,
   ⟨(some 22),.bin (.int .neq) (.t 19) (.t 21),none,[19,21]⟩])
  (aS.cond (.t 22)
   (aS.seq (aS.av [⟨(some 4),.bz (.c .bU),none,[]⟩,
     ⟨(some 5),.bz (.c (.int .i64 2)),none,[]⟩])
    (aS.ret))
   (aS.skip)))
 (aS.seq (aS.seq (aS.av [⟨(some 23),.bz (.t 0),none,[0]⟩,
   ⟨(some 24),.bz (.t 1),none,[1]⟩,
   ⟨(some 25),.i_ 2 1 [.bU] [(0,1,(.t 23)),(1,1,(.t 24))],none,[23,24]⟩,
   ⟨(some 26),.call 47 [(.t 25)],none,[25]⟩,
   ⟨(some 27),.len .slice (.t 26),none,[26]⟩,
   ⟨(some 28),.bz (.c (.int .i64 0)),none,[]⟩])
  (aS.block 0 (aS.loop IV)))
 (aS.seq (aS.av [⟨(some 36),.rj none,none,[]⟩,
   ⟨(some 8),.bz (.t 36),none,[36]⟩])
 (aS.seq (aS.seq (aS.av [⟨(some 37),.bz (.t 0),none,[0]⟩,
   ⟨(some 38),.len .slice (.t 37),none,[37]⟩,
   ⟨(some 39),.bz (.c (.int .i64 0)),none,[]⟩])
  (aS.block 2 (aS.loop IW)))
 (IZ))))):=rfl
end
section
open Go aY
mutual
def an.sub (σ:Int->an):an->an
 | .mk k n x l=>if k=1 then σ n else .mk k n x (fY σ l)
def fY (σ:Int->an):List an->List an
 | []=>[]
 | t::l=>t.sub σ::fY σ l
end
mutual
def an.wY:an->List Int
 | .mk k n x l=>if k=1 then [n] else occs l
def occs:List an->List Int
 | []=>[]
 | t::l=>t.wY++occs l
end
section
variable {σ τ:Int->an}
mutual
theorem sub_congr:∀t:an,(∀n ∈ t.wY,σ n=τ n)->t.sub σ=t.sub τ
 | .mk k n x l,h=>by
   rw [an.sub,an.sub];rw [an.wY] at h;by_cases c:k=1
   . rw [if_pos c,if_pos c];rw [if_pos c] at h;exact h n (List.mem_singleton.2 rfl)
   . rw [if_neg c,if_neg c];rw [if_neg c] at h;rw [W1 l h]
theorem W1:∀l:List an,(∀n ∈ occs l,σ n=τ n)->fY σ l=fY τ l
 | [],_=>rfl
 | t::l,h=>by rw [occs] at h;rw [fY,fY,sub_congr t (fun n q=>h n (List.mem_append_left _ q)),W1 l (fun n q=>h n (List.mem_append_right _ q))]
end
mutual
theorem W0:∀t:an,t.sub σ=t.sub τ->∀n ∈ t.wY,σ n=τ n
 | .mk k n x l,h,m,hm=>by
   rw [an.sub,an.sub] at h;rw [an.wY] at hm;by_cases c:k=1
   . rw [if_pos c,if_pos c] at h;rw [if_pos c,List.mem_singleton] at hm;subst hm;exact h
   . rw [if_neg c,if_neg c,an.mk.injEq] at h;rw [if_neg c] at hm;exact W3 l h.2.2.2 m hm
theorem W3:∀l:List an,fY σ l=fY τ l->∀n ∈ occs l,σ n=τ n
 | [],_,n,h=>by rw [occs] at h;cases h
 | t::l,h,n,aQ=>by
   rw [fY,fY,List.cons.injEq] at h;rw [occs] at aQ;rcases List.mem_append.1 aQ with aQ | aQ
   . exact W0 t h.1 n aQ
   . exact W3 l h.2 n aQ
end
mutual
theorem sub_sub:∀t:an,(t.sub σ).sub τ=t.sub (fun n=>(σ n).sub τ)
 | .mk k n x l=>by
   rw [an.sub,an.sub];by_cases c:k=1
   . rw [if_pos c,if_pos c]
   . rw [if_neg c,if_neg c,an.sub,if_neg c,W4 l]
theorem W4:∀l:List an,fY τ (fY σ l)=fY (fun n=>(σ n).sub τ) l
 | []=>rfl
 | t::l=>by rw [fY,fY,fY,sub_sub t,W4 l]
end
end
theorem alF {t:an} (h:t.own=true) (aD:t.k=1):t.s=[]/\t.l=[]:=by unfold an.own at h;rw [if_pos aD] at h;simp only [Bool.and_eq_true,decide_eq_true_eq] at h;exact ⟨h.1.2,List.eq_nil_of_length_eq_zero h.2⟩
theorem alG {t:an} (h:t.own=true) (aD:¬t.k=1):t.n=0:=by
 unfold an.own at h;rw [if_neg aD] at h
 split at h
 . split at h
   . simp only [Bool.and_eq_true,decide_eq_true_eq] at h;exact h.1
   . simp only [Bool.and_eq_true,decide_eq_true_eq] at h;exact h.1.1
 . cases h
theorem GN {k n:Int} {x:List UInt8} {l:List an} (h:(an.mk k n x l).shape=true) (aD:k=1):an.mk k n x l=iW n:=by rw [GP,Bool.and_eq_true] at h;obtain ⟨aa,ad⟩:=alF h.1 aD;rw [show x=[] from aa,show l=[] from ad,aD]
theorem GO {k n:Int} {x:List UInt8} {l:List an} (h:(an.mk k n x l).shape=true) (aD:¬k=1):n=0:=by rw [GP,Bool.and_eq_true] at h;exact alG h.1 aD
theorem zP {k n:Int} {x:List UInt8} {l:List an} (h:(an.mk k n x l).shape=true):ib l=true:=by rw [GP,Bool.and_eq_true] at h;exact h.2
theorem qk {t:an} {l:List an} (h:ib (t::l)=true):t.shape=true/\ib l=true:=by rw [ib,Bool.and_eq_true] at h;exact h
mutual
theorem anu:∀t:an,t.shape=true->t.sub iW=t
 | .mk k n x l,h=>by
   rw [an.sub];by_cases c:k=1
   . rw [if_pos c];exact (GN h c).symm
   . rw [if_neg c,W2 l (zP h)]
theorem W2:∀l:List an,ib l=true->fY iW l=l
 | [],_=>rfl
 | t::l,h=>by rw [fY,anu t (qk h).1,W2 l (qk h).2]
end
def jF (s:dn) (n:Int):an:=(ca n s).getD (iW n)
mutual
theorem w7 (s:dn):∀t:an,t.shape=true->t.put s=t.sub (jF s)
 | .mk k n x l,h=>by
   rw [an.put,an.sub];by_cases c:k=1
   . have aa:=GN h c;rw [if_pos c,if_pos c];unfold jF;cases aA:ca n s with
     | some u=>rfl
     | none=>
       simp only [Option.getD_none];rw [an.mk.injEq] at aa;rw [aa.2.2.2,dY,aa.1,aa.2.2.1]
   . rw [if_neg c,if_neg c,V1 s l (zP h)]
theorem V1 (s:dn):∀l:List an,ib l=true->dY s l=fY (jF s) l
 | [],_=>rfl
 | t::l,h=>by rw [dY,fY,w7 s t (qk h).1,V1 s l (qk h).2]
end
theorem FX {n k:Int} {u:an}:∀m:dn,ca n (m++[(k,u)])=(match ca n m with
 | some w=>some w
 | none=>if n=k then some u else none)
 | []=>by simp only [List.nil_append,ca]
 | (a,w)::m=>by
   simp only [List.cons_append,ca];by_cases c:n=a
   . rw [if_pos c,if_pos c]
   . rw [if_neg c,if_neg c];exact FX m
mutual
theorem UE:∀(t u:an) (m cj:dn),t.shape=true->u.shape=true->t.more u m=some cj->(∀n w,ca n m=some w->ca n cj=some w)/\∀σ:Int->an,(∀n w,ca n cj=some w->σ n=w)->t.sub σ=u
 | .mk k n x l,u,m,cj,au,hu,h=>by
   rw [an.more] at h;by_cases c:k=1
   . rw [if_pos c] at h;cases aA:ca n m with
     | some w=>
       rw [aA] at h;simp only at h
       split at h
       . rename_i aM;cases h;refine ⟨fun n w q=>q,fun σ o2=>?_⟩;rw [an.sub,if_pos c,o2 n w aA];exact (CE w u).1 aM
       . cases h
     | none=>
       rw [aA] at h;cases h;refine ⟨fun a w q=>by rw [FX,q],fun σ o2=>?_⟩;rw [an.sub,if_pos c];exact o2 n u (by rw [FX,aA];simp)
   . rw [if_neg c] at h
     split at h
     . rename_i aC;obtain ⟨aa,ad⟩:=UH l u.l m cj (zP au) (by rw [GP,Bool.and_eq_true] at hu;exact hu.2) h;refine ⟨aa,fun σ o2=>?_⟩;rw [an.sub,if_neg c,ad σ o2];cases u with
       | mk bo fW NC cG=>
         simp only [an.k,an.s,an.l] at aC ⊢;rw [GO au c,GO hu (by rw [aC.1];exact c),aC.1,aC.2]
     . cases h
theorem UH:∀(l cG:List an) (m cj:dn),ib l=true->ib cG=true->h8 l cG m=some cj->(∀n w,ca n m=some w->ca n cj=some w)/\∀σ:Int->an,(∀n w,ca n cj=some w->σ n=w)->fY σ l=cG
 | [],[],m,cj,_,_,h=>by rw [h8] at h;cases h;exact ⟨fun _ _ q=>q,fun _ _=>rfl⟩
 | t::l,u::cG,m,cj,au,hu,h=>by
   rw [h8] at h;cases aA:t.more u m with
   | none=>rw [aA] at h;cases h
   | some m2=>
     rw [aA] at h;obtain ⟨bN,a2⟩:=UE t u m m2 (qk au).1 (qk hu).1 aA;obtain ⟨cn,ch⟩:=UH l cG m2 cj (qk au).2 (qk hu).2 h;refine ⟨fun n w q=>cn n w (bN n w q),fun σ o2=>?_⟩;rw [fY,a2 σ (fun n w q=>o2 n w (cn n w q)),ch σ o2]
 | [],_::_,_,_,_,_,h=>by rw [h8] at h;cases h
 | _::_,[],_,_,_,_,h=>by rw [h8] at h;cases h
end
mutual
theorem UD (σ:Int->an):∀(t u:an) (m:dn),t.sub σ=u->(∀n w,ca n m=some w->σ n=w)->∃cj,t.more u m=some cj/\∀n w,ca n cj=some w->σ n=w
 | .mk k n x l,u,m,h,hm=>by
   rw [an.sub] at h;rw [an.more];by_cases c:k=1
   . rw [if_pos c] at h ⊢;cases aA:ca n m with
     | some w=>
       have:w=u:=(hm n w aA).symm.trans h;simp only;rw [if_pos ((CE w u).2 this)];exact ⟨m,rfl,hm⟩
     | none=>
       refine ⟨_,rfl,fun a w q=>?_⟩;rw [FX] at q;cases aV:ca a m with
       | some w'=>rw [aV] at q;cases q;exact hm a _ aV
       | none=>
         rw [aV] at q;simp only at q
         split at q
         . rename_i e;cases q;rw [e];exact h
         . cases q
   . rw [if_neg c] at h ⊢;subst h;simp only [an.k,an.s,an.l,and_self,if_true];exact UF σ l _ m rfl hm
theorem UF (σ:Int->an):∀(l cG:List an) (m:dn),fY σ l=cG->(∀n w,ca n m=some w->σ n=w)->∃cj,h8 l cG m=some cj/\∀n w,ca n cj=some w->σ n=w
 | [],cG,m,h,hm=>by rw [fY] at h;subst h;rw [h8];exact ⟨m,rfl,hm⟩
 | t::l,cG,m,h,hm=>by rw [fY] at h;subst h;rw [h8];obtain ⟨m2,bN,a2⟩:=UD σ t _ m rfl hm;rw [bN];exact UF σ l _ m2 rfl a2
end
theorem akp (t u:an):B_ t u=true↔t.check=0/\u.check=0/\∃σ:Int->an,t.sub σ=u:=by
 unfold B_;simp only [Bool.and_eq_true,decide_eq_true_eq,Option.isSome_iff_exists];constructor
 . rintro ⟨⟨aa,ad⟩,cj,aH⟩;refine ⟨aa,ad,jF cj,(UE t u [] cj (jt aa).1 (jt ad).1 aH).2 _ fun n w q=>?_⟩;unfold jF;rw [q];rfl
 . rintro ⟨aa,ad,σ,aH⟩;obtain ⟨cj,a,_⟩:=UD σ t u [] aH (fun n w q=>by cases q);exact ⟨⟨aa,ad⟩,cj,a⟩
theorem aoq {a b:Int} (h:iW a=iW b):a=b:=by rw [an.mk.injEq] at h;exact h.2.1
theorem Hi (σ:Int->an) (a:Int):(iW a).sub σ=σ a:=by rw [an.sub,if_pos rfl]
abbrev At (g:bm) (i:Nat) (t:an):Prop:=du g (fun a b=>a=b) i t
section
variable {g:bm} {E:List (Nat × Nat)}
theorem Rm:Part g (fun a b=>a=b):=⟨fun _=>rfl,fun h=>h.symm,fun h k=>h.trans k,fun a b aJ b7 h aV ae fh fH=>by subst h;rw [aV] at ae;cases ae;exact ⟨rfl,rfl,fun i x y ai a1=>by rw [ai] at a1;exact Option.some.inj a1⟩⟩
theorem qG {i:Nat} {t u:an} (h:At g i t) (k:At g i u):t=u:=h.uniq Rm rfl k
theorem x6 {i:Nat} {aJ:dy} (e:g.nodes[i]? =some aJ) (c:aJ.cd=false):At g i (.mk 1 aJ.n [] []):=
 .var rfl e c (fun x dP q h=>by subst q;rw [e] at h;cases h;exact c) (fun x dP q h=>by subst q;rw [e] at h;cases h;exact Int.le_refl _)
theorem qE (W:g.dz) {i:Nat} (aq:i<g.N):∃t,At g i t:=du.all Rm W (fun i aJ e c=>⟨_,x6 e c⟩) (i+1) i (Nat.lt_succ_self _) aq
theorem qF {i:Nat} {t:an} (h:At g i t):i<g.N:=by
 cases h with
 | var h ae=>subst h;exact (List.getElem?_eq_some_iff.1 ae).1
 | cd h ae=>subst h;exact (List.getElem?_eq_some_iff.1 ae).1
theorem vq {i:Nat} {aJ:dy} {t:an} (h:At g i t) (e:g.nodes[i]? =some aJ) (c:aJ.cd=true):∃l,t=.mk 2 0 aJ.s l/\l.length=aJ.kids.length/\∀(j y:Nat) (u:an),aJ.kids[j]? =some y->l[j]? =some u->At g y u:=by
 cases h with
 | var h ae aC=>subst h;rw [e] at ae;cases ae;rw [c] at aC;cases aC
 | cd h ae aC az aD=>
   subst h;rw [e] at ae;cases ae;exact ⟨_,rfl,az,aD⟩
theorem AH {aJ:dy} {l:List an} (az:l.length=aJ.kids.length) {j y:Nat} (a1:aJ.kids[j]? =some y):∃u,l[j]? =some u:=by have:=(List.getElem?_eq_some_iff.1 a1).1;exact ⟨_,List.getElem?_eq_getElem (by omega)⟩
theorem s6 {σ:Int->an}:∀(l:List an) (j:Nat),(fY σ l)[j]? =l[j]?.map (an.sub σ)
 | [],j=>by simp [fY]
 | t::l,0=>by simp [fY]
 | t::l,j+1=>by simp [fY,s6 l j]
theorem rz {σ:Int->an} (x:List UInt8) (l:List an):(an.mk 2 0 x l).sub σ=.mk 2 0 x (fY σ l):=by rw [an.sub];rw [if_neg (by omega)]
theorem sub_one {σ:Int->an} (n:Int):(an.mk 1 n [] []).sub σ=σ n:=by rw [an.sub,if_pos rfl]
def u6 (g:bm) (E:List (Nat × Nat)):Prop:=∀p ∈ E,p.1<g.N/\p.2<g.N
theorem abV (W:g.dz) (eB:u6 g E) {a b:Nat} (h:cD g E a b):a<g.N↔b<g.N:=by
 induction h with
 | base h=>exact ⟨fun _=>(eB _ h).2,fun _=>(eB _ h).1⟩
 | refl a=>exact Iff.rfl
 | symm _ bd=>exact bd.symm
 | trans _ _ i1 i2=>exact i1.trans i2
 | dO _ aV ae fh fH ai a1 bd=>exact ⟨fun _=>W.sD ae (List.mem_of_getElem? a1),fun _=>W.sD aV (List.mem_of_getElem? ai)⟩
def xX (g:bm) (E:List (Nat × Nat)) (σ:Int->an):Prop:=∀p ∈ E,∀t u,At g p.1 t->At g p.2 u->t.sub σ=u.sub σ
theorem Hf {σ:Int->an} (W:g.dz) (eB:u6 g E) (U:xX g E σ) {a b:Nat} (h:cD g E a b):∀t u,At g a t->At g b u->t.sub σ=u.sub σ:=by
 induction h with
 | base h=>exact U _ h
 | refl a=>intro t u h k;rw [qG h k]
 | symm _ bd=>intro t u h k;exact (bd u t k h).symm
 | trans aa ad i1 i2=>
   intro t u h k;obtain ⟨v,ba⟩:=qE W ((abV W eB aa).1 (qF h));exact (i1 t v h ba).trans (i2 v u ba k)
 | @dO a b x y i aJ b7 h aV ae fh fH ai a1 bd=>
   intro t u au hu;obtain ⟨G8,BG⟩:=qE W (List.getElem?_eq_some_iff.1 aV).1;obtain ⟨ou,mX⟩:=qE W (List.getElem?_eq_some_iff.1 ae).1;have e:=bd G8 ou BG mX;obtain ⟨uk,rfl,eD,bK⟩:=vq BG aV fh;obtain ⟨kn,rfl,fe,bT⟩:=vq mX ae fH;rw [rz,rz] at e;injection e with _ _ aN aZ
   obtain ⟨aoo,S_⟩:=AH eD ai;obtain ⟨aop,Ta⟩:=AH fe a1;have bJ:(fY σ uk)[i]? =(fY σ kn)[i]? :=by rw [aZ]
   rw [s6,s6,S_,Ta] at bJ;rw [qG au (bK i x aoo ai S_),qG hu (bT i y aop a1 Ta)];exact Option.some.inj bJ
theorem G5 {σ:Int->an}:∀l:List an,(fY σ l).length=l.length
 | []=>rfl
 | t::l=>by rw [fY,List.length_cons,List.length_cons,G5 l]
theorem aoh {σ:Int->an} (W:g.dz) (eB:u6 g E) (U:xX g E σ):¬iX g E:=by
 rintro ⟨a,b,aJ,b7,h,aV,ae,fh,fH,cR⟩;obtain ⟨G8,BG⟩:=qE W (List.getElem?_eq_some_iff.1 aV).1;obtain ⟨ou,mX⟩:=qE W (List.getElem?_eq_some_iff.1 ae).1;have e:=Hf W eB U h G8 ou BG mX;obtain ⟨uk,rfl,eD,_⟩:=vq BG aV fh;obtain ⟨kn,rfl,fe,_⟩:=vq mX ae fH;rw [rz,rz] at e;injection e with _ _ aN aZ
 have bJ:=congrArg List.length aZ;rw [G5,G5] at bJ;rcases cR with z | z
 . exact z aN
 . omega
theorem anJ {R:Nat->Nat->Prop} {aI:List Nat} (h:∀(i x:Nat),aI[i]? =some x->∃t,du g R x t):∃l:List an,l.length=aI.length/\∀(i y:Nat) (t:an),aI[i]? =some y->l[i]? =some t->du g R y t:=by have key:∀j:Fin aI.length,∃t,du g R aI[j.1] t:=fun j=>h j.1 _ (List.getElem?_eq_getElem j.2);obtain ⟨f,aB⟩:=Classical.axiomOfChoice key;refine ⟨List.ofFn f,by simp,fun j x t ai au=>?_⟩;obtain ⟨a6,rfl⟩:=List.getElem?_eq_some_iff.1 ai;rw [List.getElem?_ofFn,dif_pos a6] at au;cases au;exact aB ⟨j,a6⟩
theorem anM {σ:Int->an} (W:g.dz) (eB:u6 g E) (U:xX g E σ) {i:Nat} {t:an} (h:du g (cD g E) i t):∀u,At g i u->t.sub σ=u.sub σ:=by
 induction h with
 | @var a b aJ h ae aC hH bC=>
   intro u hu;have:=Hf W eB U h u _ hu (x6 ae aC);rw [this]
 | @cd a b aJ l h ae aC az aD bd=>
   intro u hu;obtain ⟨ou,mX⟩:=qE W (List.getElem?_eq_some_iff.1 ae).1;rw [Hf W eB U h u ou hu mX];obtain ⟨kn,rfl,fe,bT⟩:=vq mX ae aC;rw [rz,rz];congr 1;refine List.ext_getElem? fun j=>?_;rw [s6,s6];cases ai:aJ.kids[j]? with
   | none=>
     have:=List.getElem?_eq_none_iff.1 ai;rw [List.getElem?_eq_none (by omega),List.getElem?_eq_none (by omega)]
   | some x=>
     obtain ⟨v,ba⟩:=AH az ai;obtain ⟨c1,p2⟩:=AH fe ai;rw [ba,p2];simp only [Option.map_some];rw [bd j x v ai ba c1 (bT j x c1 ai p2)]
theorem Xq {σ:Int->an} (W:g.dz) (eB:u6 g E) (U:xX g E σ):∀(n i:Nat) (u:an),At g i u->(u.sub σ).size<=n->∃t,du g (cD g E) i t
 | 0,i,u,_,h=>by have:=rm (u.sub σ);omega
 | n+1,i,u,hu,aQ=>by
   by_cases c:∃(b:Nat) (aJ:dy),cD g E i b/\g.nodes[b]? =some aJ/\aJ.cd=true
   . obtain ⟨b,aJ,h,ae,aC⟩:=c;obtain ⟨ou,mX⟩:=qE W (List.getElem?_eq_some_iff.1 ae).1;have e:=Hf W eB U h u ou hu mX;obtain ⟨kn,rfl,fe,bT⟩:=vq mX ae aC;rw [rz] at e;obtain ⟨l,aa,ad⟩:=anJ (g:=g) (R:=cD g E) (aI:=aJ.kids) fun j x ai=>by
      obtain ⟨v,ba⟩:=AH fe ai;have hm:v.sub σ ∈ fY σ kn:=List.mem_of_getElem? (by rw [s6,ba];rfl);have:=uE hm;have bn:=size_eq (u.sub σ);rw [e] at bn aQ;simp only [an.l] at bn;exact Xq W eB U n x v (bT j x v ai ba) (by omega)
     exact ⟨_,.cd h ae aC aa ad⟩
   . have aq:=qF hu;have hH:∀(x:Nat) (dP:dy),cD g E i x->g.nodes[x]? =some dP->dP.cd=false:=fun x dP q e=>by
      cases z:dP.cd with
      | false=>rfl
      | true=>exact (c ⟨x,dP,q,e,z⟩).elim
     have cz:=List.getElem?_eq_getElem (l:=g.nodes) (i:=i) aq;have r1:=hH i _ (.refl i) cz;obtain ⟨m,⟨b,aJ,jy,mL,ap0⟩,eC⟩:=T6 (p:=fun m=>∃(b:Nat) (aJ:dy),cD g E i b/\g.nodes[b]? =some aJ/\aJ.n.toNat=m) _ ⟨i,_,.refl i,cz,rfl⟩;refine ⟨_,.var jy mL (hH b aJ jy mL) hH fun x dP q e=>?_⟩;have b0:=(W.var b aJ mL (hH b aJ jy mL)).2.2.1;have b1:=(W.var x dP e (hH x dP q e)).2.2.1;have:=eC dP.n.toNat;by_cases z:dP.n.toNat<m
     . exact ((this z) ⟨x,dP,q,e,rfl⟩).elim
     . omega
end
structure tp (a b:an) (τ:Int->an):Prop where
 un:a.sub τ=b.sub τ
 fix:∀n,(τ n).sub τ=τ n
 gen:∀σ:Int->an,a.sub σ=b.sub σ->∀n,(τ n).sub σ=σ n
 bC:∀n v,τ n=iW v->v<=n
 wf:∀n,(τ n).sub iW=τ n
theorem tp.symm {a b:an} {τ:Int->an} (H:tp a b τ):tp b a τ:=⟨H.un.symm,H.fix,fun σ h=>H.gen σ h.symm,H.bC,H.wf⟩
theorem akl {a b:an} {τ z8:Int->an} (H:tp a b τ) (K:tp a b z8) (n:Int):τ n=z8 n:=by
 have ade:∀v ∈ (τ n).wY,τ v=iW v:=W0 (τ n) ((H.fix n).trans (H.wf n).symm);have adf:∀v ∈ (τ n).wY,z8 v=iW v:=fun v ba=>by
  have aa:=ade v ba;have ad:=K.gen τ H.un v;rw [aa] at ad;have aH:∃c1,z8 v=iW c1:=by
   have hw:=K.wf v;generalize z8 v=x at ad hw;obtain ⟨k,m,s,l⟩:=x;by_cases c:k=1
   . rw [an.sub,if_pos c] at hw;exact ⟨m,hw.symm⟩
   . rw [an.sub,if_neg c] at ad;unfold iW at ad;injection ad with ad _ _ _
     exact (c ad).elim
  obtain ⟨c1,aH⟩:=aH;have eD:=K.bC v c1 aH;rw [aH,Hi] at ad;have fe:=H.bC c1 v ad;have:c1=v:=by omega
  rw [aH,this]
 have aN:=H.gen z8 K.un n;rw [<-aN,sub_congr (τ n) (τ:=iW) adf,H.wf n]
section
variable {g:bm} {E:List (Nat × Nat)}
open Classical in
theorem xk {i:Nat} (h:∃t,du g (cD g E) i t):du g (cD g E) i (lf g E i):=by unfold lf;rw [dif_pos h];exact h.choose_spec
def ot (g:bm) (E:List (Nat × Nat)) (n:Int):an:=match ca n g.vars with
 | some j=>lf g E j
 | none=>iW n
variable (W:g.dz) (P:Part g (cD g E)) (cK:∀i,i<g.N->∃t,du g (cD g E) i t)
theorem Xc (W:g.dz) {i:Nat} {aJ:dy} (e:g.nodes[i]? =some aJ) (c:aJ.cd=false):ot g E aJ.n=lf g E i:=by unfold ot;rw [(W.var i aJ e c).2.2.2]
include W P cK
theorem Ph {i:Nat} {u:an} (h:At g i u):u.sub (ot g E)=lf g E i:=by
 induction h with
 | @var a b aJ h ae aC hH bC=>
   subst h;rw [sub_one,Xc W ae aC]
 | @cd a b aJ l h ae aC az aD bd=>
   subst h;rw [rz];refine (Ha P (.cd (.refl a) ae aC (by rw [G5,az]) fun j x t ai au=>?_)).symm;rw [s6] at au;cases ba:l[j]? with
   | none=>rw [ba] at au;cases au
   | some v=>
     rw [ba] at au;cases au;rw [bd j x v ai ba];exact xk (cK x (W.sD ae (List.mem_of_getElem? ai)))
theorem anI {i:Nat} {t:an} (h:du g (cD g E) i t):t.sub (ot g E)=t:=by
 induction h with
 | @var a b aJ h ae aC hH bC=>
   rw [sub_one,Xc W ae aC];exact Ha P ((du.var h ae aC hH bC).rr P h)
 | @cd a b aJ l h ae aC az aD bd=>
   rw [rz];congr 1;refine List.ext_getElem? fun j=>?_;rw [s6];cases ba:l[j]? with
   | none=>rfl
   | some v=>
     have a6:=(List.getElem?_eq_some_iff.1 ba).1;have ai:aJ.kids[j]? =some aJ.kids[j]:=List.getElem?_eq_getElem (by omega);rw [Option.map_some,bd j _ v ai ba]
omit cK W P in
theorem anN {R:Nat->Nat->Prop} {i:Nat} {t:an} (h:du g R i t):t.sub iW=t:=by
 induction h with
 | var h ae aC hH bC=>exact sub_one _
 | @cd a b aJ l h ae aC az aD bd=>
   rw [rz];congr 1;refine List.ext_getElem? fun j=>?_;rw [s6];cases ba:l[j]? with
   | none=>rfl
   | some v=>
     have a6:=(List.getElem?_eq_some_iff.1 ba).1;have ai:aJ.kids[j]? =some aJ.kids[j]:=List.getElem?_eq_getElem (by omega);rw [Option.map_some,bd j _ v ai ba]
theorem anG {sV iD:Nat} {a b:an} (eB:E=[(sV,iD)]) (aV:At g sV a) (ae:At g iD b):tp a b (ot g E):=by
 have aed:u6 g E:=fun p af=>by rw [eB,List.mem_singleton] at af;subst af;exact ⟨qF aV,qF ae⟩
 have Hb:∀n,ot g E n=iW n\/∃(j:Nat) (aJ:dy),g.nodes[j]? =some aJ/\aJ.cd=false/\aJ.n=n/\ot g E n=lf g E j:=fun n=>by
  cases h:ca n g.vars with
  | none=>left;unfold ot;rw [h]
  | some j=>
    right;obtain ⟨aJ,aN,aZ,bJ⟩:=W.e7 n j h;exact ⟨j,aJ,aN,aZ,bJ,by unfold ot;rw [h]⟩
 refine ⟨?_,fun n=>?_,fun σ h n=>?_,fun n v h=>?_,fun n=>?_⟩
 . rw [Ph W P cK aV,Ph W P cK ae];have jV:cD g E sV iD:=.base (by rw [eB];exact List.mem_singleton.2 rfl);exact (Ha P ((xk (cK iD (qF ae))).rr P (P.symm jV)))
 . rcases Hb n with h | ⟨j,aJ,aN,aZ,bJ,h⟩
   . rw [h,Hi,h]
   . rw [h];exact anI W P cK (xk (cK j (List.getElem?_eq_some_iff.1 aN).1))
 . rcases Hb n with ab | ⟨j,aJ,aN,aZ,bJ,ab⟩
   . rw [ab,Hi]
   . have U:xX g E σ:=fun p af t u au hu=>by
      rw [eB,List.mem_singleton] at af;subst af;rw [qG au aV,qG hu ae];exact h
     rw [ab,anM W aed U (xk (cK j (List.getElem?_eq_some_iff.1 aN).1)) _ (x6 aN aZ),sub_one,bJ]
 . rcases Hb n with ab | ⟨j,aJ,aN,aZ,bJ,ab⟩
   . rw [ab] at h;have:=aoq h;omega
   . have au:=xk (cK j (List.getElem?_eq_some_iff.1 aN).1);rw [<-ab,h] at au;unfold iW at au;cases au with
     | var cC fb aC hH bC=>
       have:=bC j aJ (.refl j) aN;omega
 . rcases Hb n with h | ⟨j,aJ,aN,aZ,bJ,h⟩
   . rw [h,Hi]
   . rw [h];exact anN (xk (cK j (List.getElem?_eq_some_iff.1 aN).1))
end
end
end Go.Proofs.YthemdhlheglhoaaGreatDoor
