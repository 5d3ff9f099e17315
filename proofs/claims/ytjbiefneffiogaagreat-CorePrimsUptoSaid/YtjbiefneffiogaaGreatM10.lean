/- The chapter's functions, walked by the abstract machine: plain lemmas, no condition. Printed by a program from longer texts: names made short. -/
import Derived.Test.YtjbiefneffiogaaGreatM9
import Derived.Test.YtjbiefneffiogaaGreatM6
import Derived.Test.YtjbiefneffiogaaGreatM8
set_option linter.unusedSectionVars false
set_option linter.unusedSimpArgs false
set_option linter.unusedVariables false
namespace Go.Proofs.YtjbiefneffiogaaGreat
open Go bs
structure oE (af h:ai) (eD cH c_ an dU:aV) (f:Int→Int) (l:List Int):Prop where
 ext:Ext af h
 ns:h.get eD=.au [.map an] 0 false
 mP:h.get cH=.au [.map dU] 0 false
 pS:h.get c_=.au [.func 66 [.ptr eD 0,.ptr cH 0,.ptr c_ 0]] 0 false
 b5:∀b,b=eD∨b=cH∨b=c_∨b=an∨b=dU→Old h b∧af.next≤cx b
 lL:∀b,b=eD∨b=cH∨b=c_→b≠an∧b≠dU
 ta:an≠dU
 sJ:rf h an f
 out:h.get dU=.mp (hx l 0) l.length
 yq:l.Nodup
def qe (an dU:aV) (b:aV):Prop:=b=an∨b=dU
theorem oE.hb {af h J:ai} {eD cH c_ an dU:aV} {f:Int→Int} {l:List Int} (S:oE af h eD cH c_ an dU f l) (e:Ext h J):oE af J eD cH c_ an dU f l:=
 ⟨S.ext.trans e,by rw [e.get _ (S.b5 _ (by simp)).1];exact S.ns,by rw [e.get _ (S.b5 _ (by simp)).1];exact S.mP,by rw [e.get _ (S.b5 _ (by simp)).1];exact S.pS,
   fun b af=>⟨e.b5 (S.b5 b af).1,(S.b5 b af).2⟩,S.lL,S.ta,S.sJ.mod (e.get _ (S.b5 _ (by simp)).1) fun _=>rfl,by rw [e.get _ (S.b5 _ (by simp)).1];exact S.out,S.yq⟩
theorem oE.inc {af h:ai} {eD cH c_ an dU:aV} {f:Int→Int} {l:List Int} (S:oE af h eD cH c_ an dU f l) (k v:Int):
 ∃J,lp fH.int.eq h (.map an) (.int .i64 k) (.int .i64 v)=some J∧oE af J eD cH c_ an dU (fun n=>if n=k then v else f n) l∧J.next=h.next∧∀b,b≠an→J.get b=h.get b:=by
 obtain ⟨B,ad,ak⟩:=S.sJ.fc k v
 have bl:∀b,b≠an→(h.set an B).get b=h.get b:=fun b af=>by rw [dB,if_neg (fun e=>af e.symm)]
 refine ⟨_,ad,⟨?_,?_,?_,?_,fun b af=>⟨by have:=(S.b5 b af).1;unfold Old at this ⊢;rw [hf];exact this,(S.b5 b af).2⟩,S.lL,S.ta,ak,?_,S.yq⟩,hf _ _ _,bl⟩
 · exact S.ext.qZ (M:=fun q=>q=an) ((Mod.refl (fun q=>q=an) h).set (fun _=>rfl) _) (fun b af=>by rw [af];exact (S.b5 _ (by simp)).2)
 · rw [bl _ (S.lL _ (by simp)).1];exact S.ns
 · rw [bl _ (S.lL _ (by simp)).1];exact S.mP
 · rw [bl _ (S.lL _ (by simp)).1];exact S.pS
 · rw [bl _ (fun e=>S.ta e.symm)];exact S.out
theorem oE.add {af h:ai} {eD cH c_ an dU:aV} {f:Int→Int} {l:List Int} (S:oE af h eD cH c_ an dU f l) (k:Int):
 ∃J,lp fH.int.eq h (.map dU) (.int .i64 k) (.bool true)=some J∧oE af J eD cH c_ an dU f (oF l k)∧J.next=h.next∧∀b,b≠dU→J.get b=h.get b:=by
 have ad:=ago S.out k
 have bl:∀b,b≠dU→(h.set dU (.mp (hx (oF l k) 0) (oF l k).length)).get b=h.get b:=fun b af=>by rw [dB,if_neg (fun e=>af e.symm)]
 refine ⟨_,ad,⟨?_,?_,?_,?_,fun b af=>⟨by have:=(S.b5 b af).1;unfold Old at this ⊢;rw [hf];exact this,(S.b5 b af).2⟩,S.lL,S.ta,?_,by rw [dB,if_pos rfl],SI S.yq⟩,hf _ _ _,bl⟩
 · exact S.ext.qZ (M:=fun q=>q=dU) ((Mod.refl (fun q=>q=dU) h).set (fun _=>rfl) _) (fun b af=>by rw [af];exact (S.b5 _ (by simp)).2)
 · rw [bl _ (S.lL _ (by simp)).2];exact S.ns
 · rw [bl _ (S.lL _ (by simp)).2];exact S.mP
 · rw [bl _ (S.lL _ (by simp)).2];exact S.pS
 · exact S.sJ.mod (bl _ S.ta) fun _=>rfl
structure j8 (af h:ai) (eD cH c_ an dU:aV) (dR:List V) (J:ai) (f:Int→Int) (l:List Int):Prop where
 s:oE af J eD cH c_ an dU f l
 m:Mod (qe an dU) h J
 n:h.next<J.next
 b:J.get (ao h.next)=.au dR 0 false
 lh:∀b,qe an dU b→cx b<h.next
theorem j8.ne {af h:ai} {eD cH c_ an dU:aV} {dR:List V} {J:ai} {f:Int→Int} {l:List Int} (F:j8 af h eD cH c_ an dU dR J f l):ao h.next≠an∧ao h.next≠dU:=by
 constructor
 · intro e;have:=F.lh an (.inl rfl);rw [←e,c'] at this;omega
 · intro e;have:=F.lh dU (.inr rfl);rw [←e,c'] at this;omega
theorem j8.hb {af h:ai} {eD cH c_ an dU:aV} {dR:List V} {J fh:ai} {f:Int→Int} {l:List Int} (F:j8 af h eD cH c_ an dU dR J f l) (e:Ext J fh):j8 af h eD cH c_ an dU dR fh f l:=
 ⟨F.s.hb e,F.m.trans (e.mod _),Nat.lt_of_lt_of_le F.n e.next,by rw [e.get _ (dP F.n)];exact F.b,F.lh⟩
theorem j8.inc {af h:ai} {eD cH c_ an dU:aV} {dR:List V} {J:ai} {f:Int→Int} {l:List Int} (F:j8 af h eD cH c_ an dU dR J f l) (k v:Int):
 ∃fh,lp fH.int.eq J (.map an) (.int .i64 k) (.int .i64 v)=some fh∧j8 af h eD cH c_ an dU dR fh (fun n=>if n=k then v else f n) l∧Mod (qe an dU) J fh∧fh.next=J.next∧(∀b,b≠an→fh.get b=J.get b):=by
 obtain ⟨fh,ad,ak,aB,bw⟩:=F.s.inc k v
 have hm:Mod (qe an dU) J fh:=⟨by omega,fun b af a1=>bw b (fun e=>a1 (.inl e))⟩
 exact ⟨fh,ad,⟨ak,F.m.trans hm,by have:=F.n;omega,by rw [bw _ F.ne.1];exact F.b,F.lh⟩,hm,aB,bw⟩
theorem j8.add {af h:ai} {eD cH c_ an dU:aV} {dR:List V} {J:ai} {f:Int→Int} {l:List Int} (F:j8 af h eD cH c_ an dU dR J f l) (k:Int):
 ∃fh,lp fH.int.eq J (.map dU) (.int .i64 k) (.bool true)=some fh∧j8 af h eD cH c_ an dU dR fh f (oF l k)∧Mod (qe an dU) J fh∧fh.next=J.next∧(∀b,b≠dU→fh.get b=J.get b):=by
 obtain ⟨fh,ad,ak,aB,bw⟩:=F.s.add k
 have hm:Mod (qe an dU) J fh:=⟨by omega,fun b af a1=>bw b (fun e=>a1 (.inr e))⟩
 exact ⟨fh,ad,⟨ak,F.m.trans hm,by have:=F.n;omega,by rw [bw _ F.ne.2];exact F.b,F.lh⟩,hm,aB,bw⟩
theorem j8.call {af h:ai} {eD cH c_ an dU:aV} {dR:List V} {J fh:ai} {f g:Int→Int} {l m:List Int} (F:j8 af h eD cH c_ an dU dR J f l) (s:oE af fh eD cH c_ an dU g m) (hm:Mod (qe an dU) J fh):j8 af h eD cH c_ an dU dR fh g m:=
 ⟨s,F.m.trans hm,Nat.lt_of_lt_of_le F.n hm.next,by rw [hm.get _ (dP F.n) (fun e=>e.elim F.ne.1 F.ne.2)];exact F.b,F.lh⟩
theorem Tm {f:Int→Int} {k:Int} {l:List Int} {m:List Int} (h:m=l++[k]):(fun n=>if n=k then (f k + (l.count k:Int))+1 else f n + (l.count n:Int))=fun n=>f n + (m.count n:Int):=by
 funext n
 subst h
 rw [List.count_append,List.count_singleton]
 by_cases e:n=k
 · subst e;simp;omega
 · have:¬(k == n)=true:=by simpa using fun q=>e q.symm
   rw [if_neg e,if_neg this];simp
theorem V0 {f:Int→Int} {k:Int} {l:List Int} {m:List Int} (h:m=k::l):(fun n=>if n=k then (f k + (m.count k:Int))-1 else f n + (m.count n:Int))=fun n=>f n + (l.count n:Int):=by
 funext n
 subst h
 rw [List.count_cons,List.count_cons]
 by_cases e:n=k
 · subst e;simp;omega
 · have:¬(k == n)=true:=by simpa using fun q=>e q.symm
   rw [if_neg e,if_neg this];simp
theorem S4 {h:ai} {l:List At} {v:V} (H:cj h 3 v l.length (j9 l)) {k:IntKind} {i:Nat} (aH:i<l.length) {J:ai} (e:Ext h J):
 ∃b off,e8 3 v (.int k i)=some (.ptr b (off+i * 3))∧jl 3 (J.get b) (off+i * 3)=some (.agg [.int .i64 l[i].k,.int .i64 l[i].n,.str l[i].s]):=by
 obtain ⟨b,o,ad,ak,_⟩:=xB (H.ext e) (k:=k) aH
 exact ⟨b,o,ad,ak⟩
set_option maxHeartbeats 4000000 in
set_option maxRecDepth 20000 in
theorem Rh:∀(N:Nat) (c:aU),size c≤N→fit 1048576 c→q1 c→∀(ah:List V) (af:ai),ef af c ah→∀(h:ai) (eD cH c_ an dU:aV) (f:Int→Int) (l b:List Int),oE af h eD cH c_ an dU f l→
 (∀n,0≤f n∧f n + (order c).length≤1000000000)→(∀n,f n=0↔n ∉ b)→
 bB Tryz.prog 66 [.agg ah,.ptr eD 0,.ptr cH 0,.ptr c_ 0] h fun x J=>∃hd,oE af J eD cH c_ an dU f hd∧(∀z,z ∈ hd↔z ∈ l∨z ∈ free c b)∧Mod (qe an dU) h J
 | 0,c,aM,_,_,_,_,_,_,_,_,_,_,_,_,_,_,_,_,_=>by have:=size_pos c;omega
 | N+1,c,aM,ar,b8,ah,af,H,h,eD,cH,c_,an,dU,f,l,b,S,ur,qG=>by
   obtain ⟨f1,f2,f3,f4,f5⟩:=ar.kids
   have pU:=u2 c
   obtain ⟨aX,a6,az,rfl,dv,eL,cJ⟩:=H.open
   have vY:(c.k=8→1≤c.l.length)∧c.k≠14∧(dM c.k=true→c.l.length=2)∧r7 c.l:=by cases c;exact b8
   obtain ⟨bS,cF,gS,kL⟩:=vY
   have sZ:order c=ownNames c.k c.x c.l++iV (dM c.k) c.x c.l 0:=by cases c;rfl
   have pP:free c b=iJ b c.a++iP (dM c.k) c.x c.l (b++ownNames c.k c.x c.l) 0:=by cases c;rfl
   have G2:=congrArg List.length sZ
   rw [List.length_append] at G2
   refine UC rfl (bO ?_)
   unfold Mb
   have ck:Ext h (h.new (.au [.int .i64 c.k,.int .i64 c.x,.int .i64 c.n,.str c.s,aX,a6,az] 0 false)):=(Ext.refl h).new _
   have NQ:=(dv.ext (S.ext.trans ck)).len
   have C':∀q,qe an dU q→cx q<h.next:=fun q aZ=>by
    rcases aZ with rfl | rfl
    · exact (S.b5 _ (by simp)).1
    · exact (S.b5 _ (by simp)).1
   have jE:j8 af h eD cH c_ an dU [.int .i64 c.k,.int .i64 c.x,.int .i64 c.n,.str c.s,aX,a6,az] (h.new (.au [.int .i64 c.k,.int .i64 c.x,.int .i64 c.n,.str c.s,aX,a6,az] 0 false)) f l:=
    ⟨S.hb ck,ck.mod _,by rw [cY];omega,gz _,C'⟩
   simp +contextual only [NQ,↓ab,bf,cN.ends,eZ,oneOf,top,↓reduceIte,Nat.reduceEqDiff,Nat.reduceLeDiff,Nat.reduceAdd,Nat.reduceSub,Nat.reduceMul,reduceCtorEq,Int.reduceEq,Int.reduceLT,Int.reduceLE,Int.reduceNeg]
   generalize vG:h.new (.au [.int .i64 c.k,.int .i64 c.x,.int .i64 c.n,.str c.s,aX,a6,az] 0 false)=iA at *
   refine fV (fun r J=>r 1=.ptr eD 0∧r 2=.ptr cH 0∧r 3=.ptr c_ 0∧r 4=.ptr (ao h.next) 0∧r 16=aX∧r 17=.int .i64 c.a.length∧∃(i:Nat) (li:List Int),r 18=.int .i64 i∧i≤c.a.length∧j8 af h eD cH c_ an dU [.int .i64 c.k,.int .i64 c.x,.int .i64 c.n,.str c.s,aX,a6,az] J f li∧
    ∀z,(z ∈ li∨z ∈ iJ b (c.a.drop i))↔(z ∈ l∨z ∈ iJ b c.a)) (fun r J=>c.a.length - (r 18).gV) ?_ ?_
   · exact ⟨by simp only [↓ab,bf,↓reduceIte,Nat.reduceEqDiff,reduceCtorEq],by simp only [↓ab,bf,↓reduceIte,Nat.reduceEqDiff,reduceCtorEq],by simp only [↓ab,bf,↓reduceIte,Nat.reduceEqDiff,reduceCtorEq],by simp only [↓ab,bf,↓reduceIte,Nat.reduceEqDiff,reduceCtorEq],by simp only [↓ab,bf,↓reduceIte,Nat.reduceEqDiff,reduceCtorEq],by simp only [↓ab,bf,↓reduceIte,Nat.reduceEqDiff,reduceCtorEq],0,l,by simp only [↓ab,bf,↓reduceIte,Nat.reduceEqDiff,reduceCtorEq]<;>rfl,by omega,jE,fun z=>by rw [List.drop_zero]⟩
   · rintro r g ⟨aY,bn,cl,c2,Ba,Bb,i,li,Bc,aH,F,bD⟩
     unfold Mc
     by_cases a7:i<c.a.length
     · have bV:((i:Int) < (c.a.length:Int))=True:=eq_true (by omega)
       obtain ⟨dI,o,b9,gT⟩:=S4 dv (k:=.i64) a7 F.s.ext
       have hs:=g4 a7 (by omega)
       rw [List.drop_eq_getElem_cons a7,Rm] at bD
       generalize c.a[i]=q at *
       have aI:Ext g ((g.new (.au [.int .i64 0,.int .i64 0,.str []] 0 false)).set (ao g.next) (.au [.int .i64 q.k,.int .i64 q.n,.str q.s] 0 false)):=((Ext.refl g).new _).set (Nat.le_refl _) _
       have nD:=F.hb aI
       have la:=nD.s.sJ.look q.n
       obtain ⟨bM,gC,oq,gk,Bn,yN⟩:=nD.add q.n
       have yv:∀p,p=eD∨p=cH∨p=c_∨p=an∨p=dU→cx p<g.next:=fun p aQ=>(F.s.b5 p aQ).1
       have wJ:(ao g.next=eD)=False:=eq_false (fun e=>by have:=yv eD (by simp);rw [←e,c'] at this;omega)
       have wK:(ao g.next=cH)=False:=eq_false (fun e=>by have:=yv cH (by simp);rw [←e,c'] at this;omega)
       have DD:(g.next=h.next)=False:=eq_false (by have:=F.n;omega)
       by_cases aZ:q.k=1
       · have eq:=eq_true aZ
         by_cases aj:f q.n=0
         · have F2:=eq_true aj
           have oV:b.contains q.n=false:=by rw [←Bool.not_eq_true,List.contains_iff_mem];exact (qG _).1 aj
           rw [if_pos ⟨aZ,oV⟩] at bD
           simp +contextual only [aY,bn,cl,c2,Ba,Bb,Bc,bV,b9,gT,eq,F2,la,gC,wJ,wK,F.s.ns,F.s.mP,hs,↓ab,bf,cN.ends,eZ,oneOf,top,↓reduceIte,Nat.reduceEqDiff,Nat.reduceLeDiff,Nat.reduceAdd,Nat.reduceSub,Nat.reduceMul,reduceCtorEq,Int.reduceEq,Int.reduceLT,Int.reduceLE,Int.reduceNeg]
           exact ⟨⟨i+1,oF li q.n,rfl,a7,oq,fun z=>by rw [←bD z,ace];simp only [List.mem_append,List.mem_singleton];grind⟩,by omega⟩
         · have F2:=eq_false aj
           have oV:b.contains q.n=true:=by
            rw [List.contains_iff_mem]
            exact Decidable.byContradiction fun e=>aj ((qG _).2 e)
           rw [if_neg (fun p=>by rw [oV] at p;exact absurd p.2 (by simp)),List.nil_append] at bD
           simp +contextual only [aY,bn,cl,c2,Ba,Bb,Bc,bV,b9,gT,eq,F2,la,gC,wJ,wK,F.s.ns,F.s.mP,hs,↓ab,bf,cN.ends,eZ,oneOf,top,↓reduceIte,Nat.reduceEqDiff,Nat.reduceLeDiff,Nat.reduceAdd,Nat.reduceSub,Nat.reduceMul,reduceCtorEq,Int.reduceEq,Int.reduceLT,Int.reduceLE,Int.reduceNeg]
           exact ⟨⟨i+1,li,rfl,a7,nD,bD⟩,by omega⟩
       · have eq:=eq_false aZ
         rw [if_neg (fun p=>aZ p.1),List.nil_append] at bD
         simp +contextual only [aY,bn,cl,c2,Ba,Bb,Bc,bV,b9,gT,eq,la,gC,wJ,wK,F.s.ns,F.s.mP,hs,↓ab,bf,cN.ends,eZ,oneOf,top,↓reduceIte,Nat.reduceEqDiff,Nat.reduceLeDiff,Nat.reduceAdd,Nat.reduceSub,Nat.reduceMul,reduceCtorEq,Int.reduceEq,Int.reduceLT,Int.reduceLE,Int.reduceNeg]
         exact ⟨⟨i+1,li,rfl,a7,nD,bD⟩,by omega⟩
     · have bV:((i:Int) < (c.a.length:Int))=False:=eq_false (by omega)
       rw [List.drop_eq_nil_of_le (by omega),show iJ b []=[] from rfl] at bD
       simp +contextual only [aY,bn,cl,c2,Ba,Bb,Bc,bV,F.b,↓ab,bf,cN.ends,eZ,oneOf,top,↓reduceIte,Nat.reduceEqDiff,Nat.reduceLeDiff,Nat.reduceAdd,Nat.reduceSub,Nat.reduceMul,reduceCtorEq,Int.reduceEq,Int.reduceLT,Int.reduceLE,Int.reduceNeg]
       refine aS (Ki c _ _ (H.ext F.s.ext) ar bS cF) ?_
       rintro x bH ⟨hy,dn⟩
       have nD:=F.hb dn
       have Df:∀z,z ∈ li↔z ∈ l∨z ∈ iJ b c.a:=fun z=>by rw [←bD z];simp
       have we:∀p,x.bb p→¬qe an dU p:=fun p aP aA=>by
        have:=hy.base aP
        have:=C' p aA
        have:=F.n
        omega
       have G3:=hy.v
       have CX:=G3.len
       have rM:(ownNames c.k c.x c.l).length≤(order c).length:=by omega
       generalize nq:ownNames c.k c.x c.l=own at *
       have ah0:own.length≤1000000000:=by have:=ur 0;omega
       clear hy NQ bD bV a7 aH Bc
       simp +contextual only [CX,↓ab,bf,cN.ends,eZ,oneOf,top,↓reduceIte,Nat.reduceEqDiff,Nat.reduceLeDiff,Nat.reduceAdd,Nat.reduceSub,Nat.reduceMul,reduceCtorEq,Int.reduceEq,Int.reduceLT,Int.reduceLE,Int.reduceNeg]
       refine fV (fun r J=>r 1=.ptr eD 0∧r 2=.ptr cH 0∧r 3=.ptr c_ 0∧r 4=.ptr (ao h.next) 0∧r 7=x∧r 38=x∧r 39=.int .i64 own.length∧cj J 1 x own.length (cd own)∧∃(i:Nat),r 40=.int .i64 i∧i≤own.length∧j8 af h eD cH c_ an dU [.int .i64 c.k,.int .i64 c.x,.int .i64 c.n,.str c.s,aX,a6,az] J (fun n=>f n + ((own.take i).count n:Int)) li) (fun r J=>own.length - (r 40).gV) ?_ ?_
       · exact ⟨by simp only [aY,↓ab,bf,↓reduceIte,Nat.reduceEqDiff,reduceCtorEq],by simp only [bn,↓ab,bf,↓reduceIte,Nat.reduceEqDiff,reduceCtorEq],by simp only [cl,↓ab,bf,↓reduceIte,Nat.reduceEqDiff,reduceCtorEq],by simp only [c2,↓ab,bf,↓reduceIte,Nat.reduceEqDiff,reduceCtorEq],by simp only [↓ab,bf,↓reduceIte,Nat.reduceEqDiff,reduceCtorEq],by simp only [↓ab,bf,↓reduceIte,Nat.reduceEqDiff,reduceCtorEq],by simp only [↓ab,bf,↓reduceIte,Nat.reduceEqDiff,reduceCtorEq],G3,0,by simp only [↓ab,bf,↓reduceIte,Nat.reduceEqDiff,reduceCtorEq]<;>rfl,by omega,by simpa using nD⟩
       · clear aY bn cl c2 Ba Bb G3
         rintro r g ⟨aY,bn,cl,c2,gj,Iq,Ir,ax,i,Is,aH,F⟩
         unfold Md
         by_cases a7:i<own.length
         · have bV:((i:Int) < (own.length:Int))=True:=eq_true (by omega)
           obtain ⟨dI,o,b9,cG⟩:=ints_at ax (k:=.i64) a7
           have hs:=g4 a7 (by omega)
           have ma:own.take (i+1)=own.take i++[own[i]]:=by rw [List.take_add_one,List.getElem?_eq_getElem a7];rfl
           generalize own[i]=k at *
           have la:=F.s.sJ.look k
           have kg:(own.take i).count k≤own.length:=Nat.le_trans List.count_le_length (by rw [List.length_take];omega)
           have N5:=ur k
           have dH:IntKind.i64.wrap (f k + ((own.take i).count k:Int)+1)=f k + ((own.take i).count k:Int)+1:=wrap_i64 (by omega) (by omega)
           obtain ⟨bM,gC,oq,gk,Bn,yN⟩:=F.inc k (f k + ((own.take i).count k:Int)+1)
           rw [Tm ma] at oq
           simp +contextual only [aY,bn,cl,c2,gj,Iq,Ir,Is,bV,b9,cG,F.s.ns,la,dH,gC,hs,↓ab,bf,cN.ends,eZ,oneOf,top,↓reduceIte,Nat.reduceEqDiff,Nat.reduceLeDiff,Nat.reduceAdd,Nat.reduceSub,Nat.reduceMul,reduceCtorEq,Int.reduceEq,Int.reduceLT,Int.reduceLE,Int.reduceNeg]
           exact ⟨⟨ax.mod gk we,i+1,rfl,a7,oq⟩,by omega⟩
         · have bV:((i:Int) < (own.length:Int))=False:=eq_false (by omega)
           rw [List.take_of_length_le (by omega)] at F
           have NS:=(cJ.ext F.s.ext).len
           simp +contextual only [aY,bn,cl,c2,gj,Iq,Ir,Is,bV,F.b,NS,↓ab,bf,cN.ends,eZ,oneOf,top,↓reduceIte,Nat.reduceEqDiff,Nat.reduceLeDiff,Nat.reduceAdd,Nat.reduceSub,Nat.reduceMul,reduceCtorEq,Int.reduceEq,Int.reduceLT,Int.reduceLE,Int.reduceNeg]
           refine fV (fun r J=>r 1=.ptr eD 0∧r 2=.ptr cH 0∧r 3=.ptr c_ 0∧r 4=.ptr (ao h.next) 0∧r 7=x∧r 50=az∧r 51=.int .i64 c.l.length∧cj J 1 x own.length (cd own)∧∃(i:Nat) (li:List Int),r 52=.int .i64 i∧i≤c.l.length∧j8 af h eD cH c_ an dU [.int .i64 c.k,.int .i64 c.x,.int .i64 c.n,.str c.s,aX,a6,az] J (fun n=>f n + (own.count n:Int)) li∧
            ∀z,(z ∈ li∨z ∈ iP (dM c.k) c.x (c.l.drop i) (b++own) i)↔(z ∈ l∨z ∈ free c b)) (fun r J=>c.l.length - (r 52).gV) ?_ ?_
           · exact ⟨by simp only [aY,↓ab,bf,↓reduceIte,Nat.reduceEqDiff,reduceCtorEq],by simp only [bn,↓ab,bf,↓reduceIte,Nat.reduceEqDiff,reduceCtorEq],by simp only [cl,↓ab,bf,↓reduceIte,Nat.reduceEqDiff,reduceCtorEq],by simp only [c2,↓ab,bf,↓reduceIte,Nat.reduceEqDiff,reduceCtorEq],by simp only [gj,↓ab,bf,↓reduceIte,Nat.reduceEqDiff,reduceCtorEq],by simp only [↓ab,bf,↓reduceIte,Nat.reduceEqDiff,reduceCtorEq],by simp only [↓ab,bf,↓reduceIte,Nat.reduceEqDiff,reduceCtorEq],ax,0,li,by simp only [↓ab,bf,↓reduceIte,Nat.reduceEqDiff,reduceCtorEq]<;>rfl,by omega,F,fun z=>by rw [pP,List.drop_zero,Df z,List.mem_append];grind⟩
           · clear aY bn cl c2 gj Iq Ir Is ax F Df a7 bV aH nD CX NS
             rintro r g ⟨aY,bn,cl,c2,gj,uV,uW,ax,i,li,pa,aH,F,bD⟩
             unfold Me
             by_cases a7:i<c.l.length
             · have bV:((i:Int) < (c.l.length:Int))=True:=eq_true (by omega)
               obtain ⟨dI,o,u,b9,hu,jz⟩:=cJ.m9 (k:=.i64) a7
               have cG:=(jz g F.s.ext).1
               have hs:=g4 a7 (by omega)
               rw [List.drop_eq_getElem_cons a7,iP] at bD
               have jj:c.l[i]? =some c.l[i]:=List.getElem?_eq_getElem a7
               have Aq:=wQ (dM c.k) c.x c.l 0 i _ jj
               have gG:=r_ jj
               generalize sS:c.l[i]=d at *
               obtain ⟨cX,gy,cw,rfl,rh,rj,po⟩:=hu.open
               have dj:=rh.one.1
               have eW:=rj.one.1
               have fz:=po.one.1
               have aI:Ext g ((g.new (.au [.int .i64 0,.int .i64 0,.int .i64 0,.str [],.aw,.aw,.aw] 0 false)).set (ao g.next) (.au [.int .i64 d.k,.int .i64 d.x,.int .i64 d.n,.str d.s,cX,gy,cw] 0 false)):=((Ext.refl g).new _).set (Nat.le_refl _) _
               have nD:=F.hb aI
               have dn:=ax.ext aI
               have qz:((g.new (.au [.int .i64 0,.int .i64 0,.int .i64 0,.str [],.aw,.aw,.aw] 0 false)).set (ao g.next) (.au [.int .i64 d.k,.int .i64 d.x,.int .i64 d.n,.str d.s,cX,gy,cw] 0 false)).next=g.next+1:=by rw [hf,cY]
               have ik:((g.new (.au [.int .i64 0,.int .i64 0,.int .i64 0,.str [],.aw,.aw,.aw] 0 false)).set (ao g.next) (.au [.int .i64 d.k,.int .i64 d.x,.int .i64 d.n,.str d.s,cX,gy,cw] 0 false)).get (ao g.next)=.au [.int .i64 d.k,.int .i64 d.x,.int .i64 d.n,.str d.s,cX,gy,cw] 0 false:=by rw [dB,if_pos rfl]
               have yv:∀p,p=eD∨p=cH∨p=c_∨p=an∨p=dU→cx p<g.next:=fun p aQ=>(F.s.b5 p aQ).1
               have wJ:(ao g.next=eD)=False:=eq_false (fun e=>by have:=yv eD (by simp);rw [←e,c'] at this;omega)
               have yr:(ao g.next=c_)=False:=eq_false (fun e=>by have:=yv c_ (by simp);rw [←e,c'] at this;omega)
               have acq:ao g.next≠an:=fun e=>by have:=yv an (by simp);rw [←e,c'] at this;omega
               have DD:(g.next=h.next)=False:=eq_false (by have:=F.n;omega)
               have HY:(h.next=g.next)=False:=eq_false (by have:=F.n;omega)
               have eg:∀(g:ai) (fn:Int→Int) (li jb:List Int),j8 af h eD cH c_ an dU [.int .i64 c.k,.int .i64 c.x,.int .i64 c.n,.str c.s,aX,a6,az] g fn li→(∀n,0≤fn n∧fn n + (order d).length≤1000000000)→(∀n,fn n=0↔n ∉ jb)→
                bB Tryz.prog 66 [.agg [.int .i64 d.k,.int .i64 d.x,.int .i64 d.n,.str d.s,cX,gy,cw],.ptr eD 0,.ptr cH 0,.ptr c_ 0] g fun y bM=>∃hd,j8 af h eD cH c_ an dU [.int .i64 c.k,.int .i64 c.x,.int .i64 c.n,.str c.s,aX,a6,az] bM fn hd∧(∀z,z ∈ hd↔z ∈ li∨z ∈ free d jb)∧Mod (qe an dU) g bM:=
                fun g fn li jb F aP aA=>(Rh N d (by omega) (qy f5 jj) (AV kL jj) _ af hu g eD cH c_ an dU fn li jb F.s aP aA).mono fun y bM ⟨hd,s1,s2,h3⟩=>⟨hd,F.call s1 h3,s2,h3⟩
               have C2:∀n,(own.count n:Int)≤own.length:=fun n=>by have:=List.count_le_length (a:=n) (l:=own);omega
               have Hs:∀n,f n + (own.count n:Int)=0↔n ∉ b++own:=fun n=>by
                have ad:=qG n
                have ak:=(ur n).1
                have aB:own.count n=0↔n ∉ own:=List.count_eq_zero
                rw [List.mem_append]
                grind
               by_cases gP:dM c.k=true∧i=1
               · obtain ⟨vU,rfl⟩:=gP
                 have qF:(if (dM c.k&&(1:Nat) == 1)=true then b++own++[c.x] else b++own)=b++own++[c.x]:=by
                  rw [if_pos]
                  rw [vU];rfl
                 rw [qF] at bD
                 rw [vU] at Aq
                 have ahZ:(order d).length+1≤(iV (dM c.k) c.x c.l 0).length:=by rw [vU];exact Aq
                 have uq:(decide (c.k=2)||decide (c.k=11))=true:=by simpa [dM] using vU
                 have pQ:(((1:Nat):Int)=1)=True:=eq_true rfl
                 have la:=nD.s.sJ.look c.x
                 have N5:=ur c.x
                 have um:=C2 c.x
                 have dH:IntKind.i64.wrap (f c.x + (own.count c.x:Int)+1)=f c.x + (own.count c.x:Int)+1:=wrap_i64 (by omega) (by omega)
                 obtain ⟨bM,gC,oq,gk,Bn,yN⟩:=nD.inc c.x (f c.x + (own.count c.x:Int)+1)
                 have fR:=dn.mod gk we
                 have CO:=(yN _ acq).trans ik
                 simp +contextual only [aY,bn,cl,c2,gj,uV,uW,pa,bV,b9,cG,dj,eW,fz,DD,HY,wJ,yr,pQ,F.s.ns,F.b,uq,la,dH,gC,oq.b,oq.s.pS,CO,Bool.and_self,↓ab,bf,cN.ends,eZ,oneOf,top,↓reduceIte,Nat.reduceEqDiff,Nat.reduceLeDiff,Nat.reduceAdd,Nat.reduceSub,Nat.reduceMul,reduceCtorEq,Int.reduceEq,Int.reduceLT,Int.reduceLE,Int.reduceNeg]
                 refine aS (eg bM _ li (b++own++[c.x]) oq (fun n=>?_) (fun n=>?_)) ?_
                 · have:=ur n
                   have:=C2 n
                   split<;>omega
                 · have ad:=Hs n
                   rw [List.mem_append,List.mem_singleton]
                   by_cases e:n=c.x
                   · subst e
                     rw [if_pos rfl]
                     simp
                     omega
                   · rw [if_neg e,ad]
                     simp [e]
                 rintro y cT ⟨hd,tI,s2,h3⟩
                 have qQ:=fR.mod h3 we
                 have Pa:=tI.s.sJ.look c.x
                 rw [if_pos rfl] at Pa
                 have dq:IntKind.i64.wrap (f c.x + (own.count c.x:Int)+1-1)=f c.x + (own.count c.x:Int):=by rw [wrap_i64 (by omega) (by omega)];omega
                 obtain ⟨fF,bt,JF,a3,a4,a5⟩:=tI.inc c.x (f c.x + (own.count c.x:Int))
                 have XG:(fun n=>if n=c.x then f c.x + (own.count c.x:Int) else if n=c.x then f c.x + (own.count c.x:Int)+1 else f n + (own.count n:Int))=fun n=>f n + (own.count n:Int):=by
                  funext n
                  by_cases e:n=c.x
                  · subst e;rw [if_pos rfl]
                  · rw [if_neg e,if_neg e]
                 rw [XG] at JF
                 simp +contextual only [aY,bn,cl,c2,gj,uV,uW,pa,tI.s.ns,tI.b,Pa,dq,bt,hs,↓ab,bf,cN.ends,eZ,oneOf,top,↓reduceIte,Nat.reduceEqDiff,Nat.reduceLeDiff,Nat.reduceAdd,Nat.reduceSub,Nat.reduceMul,reduceCtorEq,Int.reduceEq,Int.reduceLT,Int.reduceLE,Int.reduceNeg]
                 exact ⟨⟨qQ.mod a3 we,2,hd,rfl,a7,JF,fun z=>by rw [←bD z,s2 z,List.mem_append];grind⟩,by omega⟩
               · have qF:(if (dM c.k&&i == 1)=true then b++own++[c.x] else b++own)=b++own:=by
                  rw [if_neg]
                  simp only [Bool.and_eq_true,beq_iff_eq]
                  exact gP
                 rw [qF] at bD
                 have uq:(decide ((i:Int)=1)&&(decide (c.k=2)||decide (c.k=11)))=false:=by
                  rw [←Bool.not_eq_true,Bool.and_eq_true,decide_eq_true_eq]
                  exact fun ⟨aP,aA⟩=>gP ⟨aA,by omega⟩
                 by_cases pQ:(i:Int)=1
                 · have bL:=eq_true pQ
                   have Xr:(decide (c.k=2)||decide (c.k=11))=false:=by
                    rw [decide_eq_true pQ,Bool.true_and] at uq
                    exact uq
                   simp +contextual only [aY,bn,cl,c2,gj,uV,uW,pa,bV,b9,cG,dj,eW,fz,DD,HY,wJ,yr,bL,Xr,F.s.ns,F.s.pS,F.b,↓ab,bf,cN.ends,eZ,oneOf,top,↓reduceIte,Nat.reduceEqDiff,Nat.reduceLeDiff,Nat.reduceAdd,Nat.reduceSub,Nat.reduceMul,reduceCtorEq,Int.reduceEq,Int.reduceLT,Int.reduceLE,Int.reduceNeg]
                   refine aS (eg _ _ li (b++own) nD (fun n=>?_) Hs) ?_
                   · have:=ur n
                     have:=C2 n
                     omega
                   rintro y cT ⟨hd,tI,s2,h3⟩
                   simp +contextual only [aY,bn,cl,c2,gj,uV,uW,pa,hs,↓ab,bf,cN.ends,eZ,oneOf,top,↓reduceIte,Nat.reduceEqDiff,Nat.reduceLeDiff,Nat.reduceAdd,Nat.reduceSub,Nat.reduceMul,reduceCtorEq,Int.reduceEq,Int.reduceLT,Int.reduceLE,Int.reduceNeg]
                   exact ⟨⟨dn.mod h3 we,i+1,hd,rfl,a7,tI,fun z=>by rw [←bD z,s2 z,List.mem_append];grind⟩,by omega⟩
                 · have bL:=eq_false pQ
                   simp +contextual only [aY,bn,cl,c2,gj,uV,uW,pa,bV,b9,cG,dj,eW,fz,DD,HY,wJ,yr,bL,F.s.ns,F.s.pS,F.b,↓ab,bf,cN.ends,eZ,oneOf,top,↓reduceIte,Nat.reduceEqDiff,Nat.reduceLeDiff,Nat.reduceAdd,Nat.reduceSub,Nat.reduceMul,reduceCtorEq,Int.reduceEq,Int.reduceLT,Int.reduceLE,Int.reduceNeg]
                   refine aS (eg _ _ li (b++own) nD (fun n=>?_) Hs) ?_
                   · have:=ur n
                     have:=C2 n
                     omega
                   rintro y cT ⟨hd,tI,s2,h3⟩
                   simp +contextual only [aY,bn,cl,c2,gj,uV,uW,pa,hs,↓ab,bf,cN.ends,eZ,oneOf,top,↓reduceIte,Nat.reduceEqDiff,Nat.reduceLeDiff,Nat.reduceAdd,Nat.reduceSub,Nat.reduceMul,reduceCtorEq,Int.reduceEq,Int.reduceLT,Int.reduceLE,Int.reduceNeg]
                   exact ⟨⟨dn.mod h3 we,i+1,hd,rfl,a7,tI,fun z=>by rw [←bD z,s2 z,List.mem_append];grind⟩,by omega⟩
             · have bV:((i:Int) < (c.l.length:Int))=False:=eq_false (by omega)
               rw [List.drop_eq_nil_of_le (by omega),iP] at bD
               have Df:∀z,z ∈ li↔z ∈ l∨z ∈ free c b:=fun z=>by rw [←bD z];simp
               have CX:=ax.len
               simp +contextual only [aY,bn,cl,c2,gj,uV,uW,pa,bV,CX,↓ab,bf,cN.ends,eZ,oneOf,top,↓reduceIte,Nat.reduceEqDiff,Nat.reduceLeDiff,Nat.reduceAdd,Nat.reduceSub,Nat.reduceMul,reduceCtorEq,Int.reduceEq,Int.reduceLT,Int.reduceLE,Int.reduceNeg]
               refine fV (fun r J=>r 1=.ptr eD 0∧r 85=x∧r 86=.int .i64 own.length∧cj J 1 x own.length (cd own)∧∃(i:Nat),r 87=.int .i64 i∧i≤own.length∧j8 af h eD cH c_ an dU [.int .i64 c.k,.int .i64 c.x,.int .i64 c.n,.str c.s,aX,a6,az] J (fun n=>f n + ((own.drop i).count n:Int)) li) (fun r J=>own.length - (r 87).gV) ?_ ?_
               · exact ⟨by simp only [aY,↓ab,bf,↓reduceIte,Nat.reduceEqDiff,reduceCtorEq],by simp only [↓ab,bf,↓reduceIte,Nat.reduceEqDiff,reduceCtorEq],by simp only [↓ab,bf,↓reduceIte,Nat.reduceEqDiff,reduceCtorEq],ax,0,by simp only [↓ab,bf,↓reduceIte,Nat.reduceEqDiff,reduceCtorEq]<;>rfl,by omega,by simpa using F⟩
               · clear aY bn cl c2 gj uV uW pa ax F aH a7 bV
                 rintro r g ⟨aY,Qj,Qk,ax,i,Ql,aH,F⟩
                 unfold Mf
                 by_cases a7:i<own.length
                 · have bV:((i:Int) < (own.length:Int))=True:=eq_true (by omega)
                   obtain ⟨dI,o,b9,cG⟩:=ints_at ax (k:=.i64) a7
                   have hs:=g4 a7 (by omega)
                   have ma:=List.drop_eq_getElem_cons a7
                   generalize own[i]=k at *
                   have la:=F.s.sJ.look k
                   have kg:(own.drop i).count k≤own.length:=Nat.le_trans List.count_le_length (by rw [List.length_drop];omega)
                   have um:1≤(own.drop i).count k:=by rw [ma,List.count_cons_self];omega
                   have N5:=ur k
                   have dH:IntKind.i64.wrap (f k + ((own.drop i).count k:Int)-1)=f k + ((own.drop i).count k:Int)-1:=wrap_i64 (by omega) (by omega)
                   obtain ⟨bM,gC,oq,gk,Bn,yN⟩:=F.inc k (f k + ((own.drop i).count k:Int)-1)
                   rw [V0 ma] at oq
                   simp +contextual only [aY,Qj,Qk,Ql,bV,b9,cG,F.s.ns,la,dH,gC,hs,↓ab,bf,cN.ends,eZ,oneOf,top,↓reduceIte,Nat.reduceEqDiff,Nat.reduceLeDiff,Nat.reduceAdd,Nat.reduceSub,Nat.reduceMul,reduceCtorEq,Int.reduceEq,Int.reduceLT,Int.reduceLE,Int.reduceNeg]
                   exact ⟨⟨ax.mod gk we,i+1,rfl,a7,oq⟩,by omega⟩
                 · have bV:((i:Int) < (own.length:Int))=False:=eq_false (by omega)
                   rw [List.drop_eq_nil_of_le (by omega)] at F
                   have XI:(fun n=>f n + (([]:List Int).count n:Int))=f:=by funext n;simp
                   rw [XI] at F
                   simp +contextual only [aY,Qj,Qk,Ql,bV,↓ab,bf,cN.ends,eZ,oneOf,top,↓reduceIte,Nat.reduceEqDiff,Nat.reduceLeDiff,Nat.reduceAdd,Nat.reduceSub,Nat.reduceMul,reduceCtorEq,Int.reduceEq,Int.reduceLT,Int.reduceLE,Int.reduceNeg]
                   exact ⟨li,F.s,Df,F.m⟩
mutual
def vars:aU→Prop
 | .mk k x n s a t l=>(∀q ∈ a,q.k=1→gl q.n=true)∧yO l
def yO:List aU→Prop
 | []=>True
 | c::cs=>vars c∧yO cs
end
theorem Rp {a:List At} (h:a.all gE=true):∀q ∈ a,q.k=1→gl q.n=true:=by
 intro q aZ al
 have:=List.all_eq_true.1 h q aZ
 rw [gE,if_pos al,Bool.and_eq_true] at this
 exact this.1
theorem PW {b:Bool} {c:aU} (h:c1 b c=true):c.a.all gE=true:=by
 unfold c1 at h
 split at h
 · cases h
 · simp only [Bool.and_eq_true] at h
   exact h.2
theorem adi {b:Bool} {c:aU} (c6:c.k=7) (h:c1 b c=true):c.l.length=1:=by
 unfold c1 at h
 have:fb c.k=some ⟨true,false,false,false,0,0,1,1⟩:=by rw [c6];rfl
 rw [this] at h
 simp only [Bool.and_eq_true,sn,decide_eq_true_eq] at h
 have:=h.1.1.2.1.2
 omega
mutual
theorem Es:∀(c:aU),may c1 c=true→vars c
 | .mk k x n s a t l,h=>by
   simp only [may] at h
   by_cases al:k=8
   · rw [if_pos al] at h
     simp only [Bool.and_eq_true,decide_eq_true_eq,tV] at h
     refine ⟨fun q aZ=>?_,Rr l h.2⟩
     have:a=[]:=h.1.1.2
     rw [this] at aZ;cases aZ
   · rw [if_neg al] at h
     simp only [Bool.and_eq_true] at h
     exact ⟨Rp (PW h.1),Rq l h.2⟩
theorem Rq:∀(l:List aU),iG c1 l=true→yO l
 | [],_=>trivial
 | c::cs,h=>by
   simp only [iG,Bool.and_eq_true] at h
   exact ⟨Es c h.1,Rq cs h.2⟩
theorem Rr:∀(l:List aU),hK c1 l=true→yO l
 | [],_=>trivial
 | [c],h=>by
   simp only [hK] at h
   exact ⟨Es c h,trivial⟩
 | c::d::cs,h=>by
   have J:((decide (c.k=7)&&c1 true c)&&lJ c1 c&&hK c1 (d::cs))=true:=by simpa only [hK] using h
   simp only [Bool.and_eq_true,decide_eq_true_eq] at J
   exact ⟨ags c J.1.1.1 J.1.1.2 J.1.2,Rr (d::cs) J.2⟩
theorem ags:∀(c:aU),c.k=7→c1 true c=true→lJ c1 c=true→vars c
 | .mk k x n s a t l,c6,bA,h=>by
   exact ⟨Rp (PW bA),agt l (adi c6 bA) (by simpa only [lJ] using h)⟩
theorem agt:∀(l:List aU),l.length=1→qY c1 l=true→yO l
 | [c],_,h=>⟨Es c (by simpa only [qY] using h),trivial⟩
 | [],aL,_=>by simp at aL
 | _::_::_,aL,_=>by simp at aL
end
theorem acf {b:List Int} {a:List At} {z:Int} (h:z ∈ iJ b a):∃q ∈ a,q.k=1∧q.n=z:=by
 unfold iJ at h
 obtain ⟨q,ad,ak⟩:=List.mem_map.1 h
 obtain ⟨aB,bw⟩:=List.mem_filter.1 ad
 simp only [Bool.and_eq_true,decide_eq_true_eq] at bw
 exact ⟨q,aB,bw.1,ak⟩
mutual
theorem Pt:∀(c:aU) (b:List Int) (z:Int),vars c→z ∈ free c b→gl z=true
 | .mk k x n s a t l,b,z,bh,h=>by
   simp only [free,List.mem_append] at h
   rcases h with h | h
   · obtain ⟨q,aP,aA,rfl⟩:=acf h
     exact bh.1 q aP aA
   · exact Pu l _ _ _ _ z bh.2 h
theorem Pu:∀(l:List aU) (late:Bool) (x:Int) (b:List Int) (i:Nat) (z:Int),yO l→z ∈ iP late x l b i→gl z=true
 | [],_,_,_,_,_,_,h=>by simp [iP] at h
 | c::cs,late,x,b,i,z,bh,h=>by
   simp only [iP,List.mem_append] at h
   rcases h with h | h
   · exact Pt c _ z bh.1 h
   · exact Pu cs late x b (i+1) z bh.2 h
end
def lA:List At→Nat
 | []=>0
 | q::a=>q.s.length / 100+lA a
mutual
def wt:aU→Nat
 | .mk k x n s a t l=>1+a.length+t.length+s.length / 100+lA a+jU l
def jU:List aU→Nat
 | []=>0
 | c::cs=>wt c+jU cs
end
mutual
theorem IS:∀c:aU,size c≤wt c
 | .mk k x n s a t l=>by
   have:=IT l
   simp only [size,wt]
   omega
theorem IT:∀l:List aU,pf l≤jU l
 | []=>Nat.le_refl _
 | c::cs=>by
   have:=IS c
   have:=IT cs
   simp only [pf,jU]
   omega
end
theorem agq (b:List Int) (a:List At):(iJ b a).length≤a.length:=by
 unfold iJ
 rw [List.length_map]
 exact List.length_filter_le _ _
mutual
theorem F9:∀(c:aU) (b:List Int),(free c b).length≤wt c
 | .mk k x n s a t l,b=>by
   have ad:=agq b a
   have ak:=NB l (dM k) x (b++ownNames k x l) 0
   simp only [free,wt,List.length_append]
   omega
theorem NB:∀(l:List aU) (late:Bool) (x:Int) (b:List Int) (i:Nat),(iP late x l b i).length≤jU l
 | [],_,_,_,_=>by simp [iP,jU]
 | c::cs,late,x,b,i=>by
   have ad:=F9 c (if late&&i == 1 then b++[x] else b)
   have ak:=NB cs late x b (i+1)
   simp only [iP,jU,List.length_append]
   omega
end
theorem agS:∀l:List aU,l.length≤jU l:=fun l=>by have:=QS l;have:=IT l;omega
theorem Ke:∀{a:List At} {q:At},q ∈ a→q.s.length / 100≤lA a
 | [],_,h=>by cases h
 | p::a,q,h=>by
   simp only [lA]
   rcases List.mem_cons.1 h with rfl | h
   · omega
   · have:=Ke h;omega
mutual
theorem pH:∀(c:aU),wt c≤400→fit 1048576 c
 | .mk k x n s a t l,h=>by
   simp only [wt] at h
   have:=agS l
   refine ⟨by omega,by omega,by omega,by omega,fun q aZ=>?_,Nw l (by omega)⟩
   have:=Ke aZ
   omega
theorem Nw:∀(l:List aU),jU l≤400→fits 1048576 l
 | [],_=>trivial
 | c::cs,h=>by
   simp only [jU] at h
   exact ⟨pH c (by omega),Nw cs (by omega)⟩
end
def Mg:bK:=
 .seq (.ag [eo 1 0,⟨some 2,.gu (.c .kN),none,[]⟩])
 (.seq (.ag [⟨some 3,.fn 129 [(.t 1)],none,[1]⟩,aa 2 3])
 (.ret))
theorem UD:cz 68 4 [.t 2] Mg:=cA Tryz.func68 (by kernel_rfl) (by kernel_rfl) rfl (by kernel_rfl) (by kernel_rfl)
theorem OU:∀(l:List Int) (n:Nat),n1 (hx l n)=some l
 | [],_=>rfl
 | x::l,n=>by simp only [hx,n1,OU l (n+1)]
theorem Pr {x:Int}:∀l:List Int,yo x l=l.contains x
 | []=>rfl
 | y::l=>by
   rw [yo,Pr l,List.contains_cons,pE]
   congr 1
theorem acA {l:List Int} (h:l.Nodup):uN l=true:=by
 induction l with
 | nil=>rfl
 | cons x l bJ=>
   obtain ⟨ad,ak⟩:=List.nodup_cons.1 h
   rw [uN,bJ ak,Pr]
   simp [ad]
theorem Km:∀(l:List Int) (n cm c:Nat),cm≤n→n+l.length≤c→tW c cm (hx l n)=true
 | [],_,_,_,_,_=>rfl
 | x::l,n,cm,c,ad,ak=>by
   simp only [List.length_cons] at ak
   rw [hx,tW,Km l (n+1) (n+1) c (Nat.le_refl _) (by omega)]
   have bt:Nat.ble cm n=true:=by rw [Nat.ble_eq];exact ad
   have b1:Nat.blt n c=true:=by rw [Nat.blt_eq];omega
   simp only [bt,b1];rfl
theorem agB {z:Int} (h:gl z=true):(Lit.int .i64 z).wf=true:=by
 simp only [gl,Bool.and_eq_true,decide_eq_true_eq] at h
 simp only [Lit.wf,Bool.and_eq_true,decide_eq_true_eq]
 have bt:IntKind.i64.min=-9223372036854775808:=by decide
 have b1:IntKind.i64.max=9223372036854775807:=by decide
 rw [bt,b1]
 omega
theorem agA {l:List Int} (h:∀z ∈ l,gl z=true):u6 l=true:=by
 induction l with
 | nil=>rfl
 | cons x l bJ=>
   rw [u6,agB (h x (by simp)),bJ fun z bD=>h z (by simp [bD])]
   rfl
theorem Ni:∀(l:List Int) (n:Nat),(hx l n).length=l.length
 | [],_=>rfl
 | x::l,n=>by simp only [hx,List.length_cons,Ni l (n+1)]
theorem afK {h:ai} {dI b:aV} {l:List Int} (ad:h.get dI=.au [.map b] 0 false) (ak:h.get b=.mp (hx l 0) l.length) (a1:l.Nodup) (bh:∀z ∈ l,gl z=true) (aL:l.length≤1000000):
 bB Tryz.prog 67 [.func 129 [.ptr dI 0]] h fun x J=>cn h.next J 1 x l.length (cd (iv l))∧Ext h J:=by
 have aQ:(iv l).length=l.length:=(sb l).length_eq
 have key:∃v J,(Bh 129).run [.func 129 [.ptr dI 0]] h=.val v J∧cn h.next J 1 v l.length (cd (iv l))∧Ext h J:=by
  have e:(Bh 129).run [.func 129 [.ptr dI 0]] h=Ed 129 dI h:=rfl
  rw [e]
  unfold Ed
  rw [ad]
  change ∃v J,(match h.get b with
   | .mp es clock=>(match n1 es with
     | some aE=>bif uN aE&&tW clock 0 es&&u6 aE&&Nat.ble es.length 1000000 then (match iv aE with
        | []=>bE.val .aw h
        | x::l=>(match ld h (cd (x::l)) 1 false with
          | some J=>bE.val (.ei (ao h.next) 0 (x::l).length 0) J
          | none=>bE.fail)) else bE.fail
     | none=>bE.fail)
   | _=>bE.fail)=bE.val v J∧_
  rw [ak]
  simp only [OU,acA a1,Km l 0 0 l.length (Nat.le_refl _) (by omega),agA bh,Ni,show Nat.ble l.length 1000000=true from by rw [Nat.ble_eq];exact aL,Bool.and_self,cond_true]
  cases aM:iv l with
  | nil=>
    rw [aM] at aQ
    exact ⟨_,_,rfl,⟨by simp [cd,←aQ],aQ.symm⟩,Ext.refl _⟩
  | cons x m=>
    rw [aM] at aQ
    have hlen:(cd (x::m)).length=l.length:=by rw [k_,aQ]
    have bo:ld h (cd (x::m)) 1 false=some (h.new (.au (cd (x::m)) 1 false)):=by
     unfold ld
     rw [show (Nat.ble (cd (x::m)).length top&&Nat.ble 1 1)=true from by rw [Bool.and_eq_true,Nat.ble_eq,Nat.ble_eq,hlen];unfold top;omega]
     rfl
    simp only [bo,aQ]
    refine ⟨_,_,rfl,?_,(Ext.refl h).new _⟩
    exact cn.grown (by rw [hlen];omega) (Nat.le_refl _)
 obtain ⟨v,J,he,aP,aA⟩:=key
 exact ⟨v,J,.inl ⟨⟨_,Tryz.func67,by kernel_rfl⟩,fun aR E w xs ax s=>QZ Tryz.underlying3 QY he aR E w xs ax s⟩,aP,aA⟩
theorem aaK (b:aV) (h:ai):bB Tryz.prog 68 [.map b] h fun x J=>x=.func 129 [.ptr (ao h.next) 0]∧J.get (ao h.next)=.au [.map b] 0 false∧Ext h J:=by
 refine UD rfl (bO ?_)
 unfold Mg
 simp +contextual only [↓ab,ae,simprocAttr]
 exact (Ext.refl h).new _
theorem Pz:∀{l m:List Int},l.Nodup→(∀z ∈ l,z ∈ m)→l.length≤m.length
 | [],_,_,_=>by simp
 | x::l,m,a1,h=>by
   obtain ⟨ad,ak⟩:=List.nodup_cons.1 a1
   have ax:=h x (by simp)
   have:=Pz (l:=l) (m:=m.erase x) ak fun z bD=>(List.mem_erase_of_ne (show z≠x from fun e=>ad (by rw [←e];exact bD))).2 (h z (by simp [bD]))
   rw [List.length_erase_of_mem ax] at this
   have:=List.length_pos_of_mem ax
   simp only [List.length_cons]
   omega
theorem Sl (c:aU) (ah:List V) (h:ai) (H:ef h c ah) (hw:wt c≤400) (hm:may c1 c=true) (b8:q1 c):
 bB Tryz.prog 46 [.agg ah] h fun x J=>cn h.next J 1 x (rising (free c [])).length (cd (rising (free c [])))∧Ext h J:=by
 obtain ⟨aX,a6,az,rfl,dv,eL,cJ⟩:=H.open
 have ar:=pH c hw
 refine Um rfl (bO ?_)
 unfold LO
 simp +contextual only [show ∀g:ai,qX none g=.val (.map (ao g.next)) (g.new (.mp [] 0)) from fun g=>rfl,↓ab,ae,simprocAttr]
 refine aS (Rh (size c) c (Nat.le_refl _) ar b8 _ h H _ _ _ _ (ao (h.next+1+2)) (ao (h.next+1)) (fun _=>0) [] [] ?S ?B ?Z) ?K
 case S=>
  have wL:∀n:Nat,(n+1=n)=False:=fun n=>eq_false (by omega)
  have uO:∀n:Nat,(n+1+1=n)=False:=fun n=>eq_false (by omega)
  have q0:∀n:Nat,(n+1+1+1=n)=False:=fun n=>eq_false (by omega)
  have tc:∀n:Nat,(n+1+1+1+1=n)=False:=fun n=>eq_false (by omega)
  refine ⟨?_,?_,?_,?_,?_,?_,?_,⟨[],0,?_,fun _=>rfl⟩,?_,List.nodup_nil⟩
  · exact ((((((((((Ext.refl h).new _).new _).new _).set (by omega) _).new _).new _).set (by omega) _).new _).set (by omega) _)
  · simp [dB,eG,cY,hf,gM,wL,uO,q0,tc]
  · simp [dB,eG,cY,hf,gM,wL,uO,q0,tc]
  · simp [dB,eG,cY,hf,gM,wL,uO,q0,tc]
  · rintro b (rfl | rfl | rfl | rfl | rfl)<;>exact ⟨by unfold Old;simp only [c',hf,cY];omega,by rw [c'];omega⟩
  · rintro b (rfl | rfl | rfl)<;>simp only [ne_eq,gM]<;>omega
  · simp only [ne_eq,gM];omega
  · simp [dB,eG,cY,hf,gM,pF,wL,uO,q0,tc]
  · simp [dB,eG,cY,hf,gM,hx,wL,uO,q0,tc]
 case B=>
  intro n
  have:=Ii c
  have:=IS c
  omega
 case Z=>intro n;simp
 case K=>
  rintro x J ⟨hd,S,bD,ahV⟩
  simp +contextual only [S.mP,↓ab,ae,simprocAttr]
  refine aS (aaK _ J) ?_
  rintro y ak ⟨rfl,bH,bo⟩
  have zh:=S.hb bo
  have e1:∀z,z ∈ hd↔z ∈ free c []:=fun z=>by rw [bD z];simp
  have hlen:hd.length≤(free c []).length:=Pz S.yq (fun z q=>(e1 z).1 q)
  have hJ:=F9 c []
  simp +contextual only [↓ab,ae,simprocAttr]
  refine aS (afK bH zh.out S.yq (fun z q=>Pt c [] z (Es c hm) ((e1 z).1 q)) (by omega)) ?_
  rintro y aB ⟨O,cp⟩
  have ba:iv hd=rising (free c []):=afL (Ec hd) (sb hd) S.yq e1
  have gF:hd.length=(rising (free c [])).length:=by rw [←ba,(sb hd).length_eq]
  rw [ba,gF] at O
  simp +contextual only [↓ab,ae,simprocAttr]
  exact ⟨O.mono (zh.ext.next),zh.ext.trans cp⟩
end Go.Proofs.YtjbiefneffiogaaGreat
namespace Go.Proofs.YtjbiefneffiogaaGreat
open Go bs Go.Sort
theorem adF {l:List Int} {c:Array Value} {o:Nat} (h:o+l.length≤c.size):Go.Sort.putCells (Value.int .i64) o l.toArray c=p0 c o (l.map (Value.int .i64)):=by
 apply Array.ext_getElem?
 intro j
 rw [Dq _ _ _ _ (by rw [List.length_map];exact h),List.length_map]
 unfold Go.Sort.putCells
 rw [Array.getElem?_mapIdx]
 by_cases bQ:o≤j∧j<o+l.length
 · rw [if_pos bQ,List.getElem?_map]
   have C7:j<c.size:=by omega
   have jM:j-o<l.length:=by omega
   simp only [Array.getElem?_eq_getElem C7,Option.map_some,List.size_toArray,if_pos bQ,List.getElem?_eq_getElem jM,Option.some.injEq,Value.int.injEq,true_and]
   simp [jM]
 · rw [if_neg bQ]
   cases aC:c[j]? with
   | none=>rfl
   | some y=>simp only [Option.map_some,List.size_toArray,if_neg bQ]
theorem QW {h J:ai} {b:aV} {off:Nat} {l:List Int} {ah:List V} {cS:Nat} {st:Bool} (bl:h.get b=.au ah cS st) (g_:(ah.drop off).take l.length=cd l) (aL:off+l.length≤ah.length) (gZ:l.length<4611686018427387904)
 (he:bs.lay h b off (cd (iv l))=some J) {v:V} (bh:(∃cap,v=.slice b off l.length cap)∨∃idx,v=.ei b off l.length idx):lr Tryz.prog 51 [v] h (.tuple []) J:=by
 refine .inl ⟨⟨_,Tryz.func51,by kernel_rfl⟩,fun aR E w xs ax s=>?_⟩
 simp only [bW] at ax
 obtain ⟨X,_,rfl,gB,rfl⟩:=ax
 have Xg:∃p cap,E b=some p∧X=.slice (some ⟨p.bb,p.base+off,none⟩) l.length cap:=by
  rcases bh with ⟨cap,rfl⟩ | ⟨idx,rfl⟩
  · simp only [Rel] at gB
    obtain ⟨p,ad,_,ak⟩:=gB
    exact ⟨p,_,ad,ak⟩
  · simp only [Rel] at gB
    obtain ⟨p,ad,_,ak⟩:=gB
    exact ⟨p,_,ad,ak⟩
 obtain ⟨p,cap,aQ,rfl⟩:=Xg
 have af:=s.at aQ
 rw [bl] at af
 obtain ⟨a1,q,c,el,cy,ad,ak,aB,bw,ej,gA,c6⟩:=af
 rw [aQ] at ad;cases ad
 have a7:=(Array.getElem?_eq_some_iff.1 aB).1
 have ahO:p.base+ah.length≤c.size:=c6.1
 have rF:Go.Sort.Holds (Value.int .i64) w p.bb (p.base+off) l.toArray:=by
  intro j bQ
  have C6:j<l.length:=by simpa using bQ
  have C7:p.base + (off+j)<c.size:=by omega
  have k9:=c6.2 (off+j) c[p.base + (off+j)] (by omega) (Array.getElem?_eq_getElem C7)
  have oQ:ah[off+j]? =some (.int .i64 l[j]):=by
   have e:((ah.drop off).take l.length)[j]? =(cd l)[j]? :=by rw [g_]
   rw [List.getElem?_take_of_lt C6,List.getElem?_drop] at e
   rw [e]
   simp [cd,C6]
  have GG:T.get .bad (ao (off+j)) (g1 .e 0 ah)=.int .i64 l[j]:=by
   have:=CP ah 0 (off+j) .e
   rw [Nat.zero_add] at this
   rw [this,if_pos (by omega),oQ];rfl
  rw [GG] at k9
  simp only [Rel] at k9
  constructor
  · simp only [World.cell?,aB]
    rw [show p.base+off+j=p.base + (off+j) from by omega,Array.getElem?_eq_getElem C7,k9]
    simp [C6]
  · simp only [World.frozen?,aB]
    rw [Bool.and_eq_false_iff]
    simp only [decide_eq_false_iff_not]
    omega
 refine (AnyM.slices_Sort_int Tryz.Eb p.bb (p.base+off) cap l w rF a7 gZ).mono fun e aT q=>?_
 obtain ⟨rfl,n,os,rfl⟩:=q
 rw [QV (List.Perm.refl l)]
 have pU:(iv l).length=l.length:=(sb l).length_eq
 obtain ⟨dH,aY,s1⟩:=yk (P:=Tryz.prog) s (HC E (iv l)) he aQ
 have bn:=D9 (P:=Tryz.prog) a7 el cy (p.base+off) ((iv l).map encZ) c 0 (fun v bh=>by
  obtain ⟨z,_,rfl⟩:=List.mem_map.1 bh
  rfl) (by rw [List.length_map];omega) bw
 rw [Je aB,Nat.add_zero] at bn
 rw [bn] at aY
 have Y6:dH=mv w p.bb (p0 c (p.base+off) ((iv l).map encZ)) el cy:=by injection aY with _ e;exact e.symm
 subst Y6
 refine ⟨E,_,rfl,fun _ _ q=>q,by simp only [Rel];exact ⟨_,rfl,rfl⟩,s1.below ⟨rfl,rfl,rfl,?_,fun k al=>?_⟩⟩
 · simp only [size_grow,Et,putRow,mapBlock,Sort.ahead,Array.size_modify];omega
 · rw [Et] at al
   have aI:(grow (putRow (Value.int .i64) (Sort.ahead w n) p.bb (p.base+off) (iv l).toArray) os).heap[k]? =(putRow (Value.int .i64) (Sort.ahead w n) p.bb (p.base+off) (iv l).toArray).heap[k]? :=by
    simp only [grow]
    rw [Array.getElem?_append_left]
    simp only [putRow,mapBlock,Sort.ahead,Array.size_modify]
    exact al
   rw [aI]
   simp only [putRow,mapBlock,Sort.ahead,Array.getElem?_modify]
   by_cases GL:p.bb=k
   · subst GL
     rw [if_pos rfl,aB,Bq a7]
     simp only [Option.map_some,onCells]
     rw [adF (by omega)]
   · rw [if_neg GL,Jd _ _ _ (fun e=>GL e.symm)]
theorem Q0 {A B:List V} (h:B.length=A.length):iw A 0 B=B:=by
 unfold iw
 rw [List.take_zero,List.nil_append,Nat.zero_add,List.drop_eq_nil_of_le (by omega),List.append_nil]
theorem afI {B:Nat} {h:ai} {v:V} {l:List Int} (O:cn B h 1 v l.length (cd l)) (aL:l.length≤8000000):
 bB Tryz.prog 51 [v] h fun x J=>x=.tuple []∧cn B J 1 v l.length (cd (iv l))∧Mod v.bb h J:=by
 have aM:(iv l).length=l.length:=(sb l).length_eq
 have nV:(cd (iv l)).length=l.length:=by rw [k_,aM]
 obtain ⟨aP,aA⟩:=O
 cases v<;>simp only at aA<;>try (exact aA.elim)
 case aw=>
  have:l=[]:=List.eq_nil_of_length_eq_zero aA
  subst this
  refine ⟨_,h,.inl ⟨⟨_,Tryz.func51,by kernel_rfl⟩,fun aR E w xs ax s=>?_⟩,rfl,⟨rfl,rfl⟩,Mod.refl _ _⟩
  simp only [bW,Rel] at ax
  obtain ⟨X,_,rfl,rfl,rfl⟩:=ax
  refine (AnyM.slices_Sort_int_none Tryz.Eb none 0 w).mono fun e aT q=>?_
  obtain ⟨rfl,rfl⟩:=q
  exact ⟨E,_,rfl,fun _ _ q=>q,by simp only [Rel];exact ⟨_,rfl,rfl⟩,s⟩
 case slice b off len cap=>
  obtain ⟨rfl,a2,b',da,eh,us,cS,st,eE,fa,hM⟩:=aA
  rw [k_] at hM
  have hw:Own h b us cS st:=eE
  have e:=hw.lay (off:=off) (ws:=cd (iv l)) (by rw [nV];omega) (yf _)
  refine ⟨_,_,QW eE hM (by omega) (by omega) e (.inl ⟨cap,rfl⟩),rfl,⟨by rw [nV];omega,rfl,a2,?_,da,eh,?_⟩,?_⟩
  · unfold Old;rw [hf];exact b'
  · refine ⟨_,cS,st,by rw [dB,if_pos rfl],by rw [u4 _ _ _ (by rw [nV];omega)];exact fa,?_⟩
    have:=yI us off 0 (cd l) (cd (iv l)) (by rw [k_];omega) (by rw [k_];exact hM) (by rw [nV,k_];omega)
    rw [nV]
    rw [k_,Nat.add_zero] at this
    rw [this,Q0 (by rw [nV,k_])]
  · exact (Mod.refl (fun q=>q=b) h).set (fun _=>rfl) _
 case ei b off len idx=>
  obtain ⟨rfl,a2,b',rfl,rfl,us,st,eE,fa,hM⟩:=aA
  rw [k_] at hM fa
  have hw:Own h b us 1 st:=eE
  have e:=hw.lay (off:=0) (ws:=cd (iv l)) (by rw [nV];omega) (yf _)
  refine ⟨_,_,QW eE (by rw [List.drop_zero];exact hM) (by omega) (by omega) e (.inr ⟨0,rfl⟩),rfl,⟨by rw [nV];omega,rfl,a2,?_,rfl,rfl,?_⟩,?_⟩
  · unfold Old;rw [hf];exact b'
  · refine ⟨_,st,by rw [dB,if_pos rfl],by rw [u4 _ _ _ (by rw [nV];omega),nV];exact fa,?_⟩
    have:=yI us 0 0 (cd l) (cd (iv l)) (by rw [k_];omega) (by rw [k_,List.drop_zero];exact hM) (by rw [nV,k_];omega)
    rw [nV]
    rw [k_,Nat.add_zero,List.drop_zero] at this
    rw [this,Q0 (by rw [nV,k_])]
  · exact (Mod.refl (fun q=>q=b) h).set (fun _=>rfl) _
end Go.Proofs.YtjbiefneffiogaaGreat
namespace Go.Proofs.YtjbiefneffiogaaGreat
open Go bs
theorem cn.tail {B:Nat} {h:ai} {v:V} {n:Nat} {ah:List V} (H:cn B h 1 v n ah) {m:Nat} (hm:m<n):
 ∃db,gI 1 v (some (.int .i64 m)) none none=some db∧oZ db=some (.int .i64 ((n-m:Nat):Int))∧∀j:Nat,m+j<n→e8 1 db (.int .i64 j)=e8 1 v (.int .i64 ((m+j:Nat):Int)):=by
 obtain ⟨aP,aA⟩:=H
 cases v<;>simp only at aA<;>try (first | omega | exact aA.elim)
 case slice b off len cap=>
  obtain ⟨rfl,a2,b',da,eh,us,cS,st,eE,fa,hM⟩:=aA
  have gQ:Nat.beq cap m=false:=by rw [←Bool.not_eq_true,Nat.beq_eq];omega
  refine ⟨.slice b (off+m * 1) (len-m) (cap-m),?_,rfl,fun j bQ=>?_⟩
  · simp only [gI,p',mI,m' (k:=.i64) (m:=m) (d:=0) (y:=len) (by omega),gQ,cond_false]
  · rw [yc,yc,if_pos (by omega),if_pos (by omega)]
    simp
    omega
 case ei b off len idx=>
  obtain ⟨rfl,a2,b',rfl,rfl,us,st,eE,fa,hM⟩:=aA
  have a7:Nat.blt m len=true:=by rw [Nat.blt_eq];exact hm
  refine ⟨.ei b (0+m * 1) (len-m) (0+m),?_,rfl,fun j bQ=>?_⟩
  · simp only [gI,pg,mI,m' (k:=.i64) (m:=m) (d:=0) (y:=len) (by omega),a7,cond_true]
  · rw [yb,yb,if_pos (by omega),if_pos (by omega)]
    simp
    omega
theorem Qs:∀n,(hN [.int .i64 0] n).length=n
 | 0=>rfl
 | n+1=>by rw [hN,List.length_append,Qs n];simp;omega
theorem Iw:∀n,gv (hN [.int .i64 0] n)=true
 | 0=>rfl
 | n+1=>by rw [hN];exact ac6 rfl (Iw n)
theorem Q1 {A W:List V} {m:Nat} (h:m+W.length=A.length):iw A m W=A.take m++W:=by
 unfold iw
 rw [h,List.drop_length,List.append_nil]
theorem cn.agE {B:Nat} {h:ai} {v:V} {n:Nat} {ah:List V} (H:cn B h 1 v n ah) {m:Nat} (hm:m<n):
 ∃db J,gI 1 v (some (.int .i64 m)) none none=some db∧t' [.int .i64 0] db h=.val (.tuple []) J∧(∃ws,cn B J 1 v n (ah.take m++ws))∧Mod v.bb h J:=by
 obtain ⟨aP,aA⟩:=H
 have rO:=Qs (n-m)
 have wa:(ah.take m++hN [.int .i64 0] (n-m)).length=ah.length:=by rw [List.length_append,rO,List.length_take];omega
 have gQ:Nat.beq (n-m) 0=false:=by rw [←Bool.not_eq_true,Nat.beq_eq];omega
 cases v<;>simp only at aA<;>try (first | omega | exact aA.elim)
 case slice b off len cap=>
  obtain ⟨rfl,a2,b',da,eh,us,cS,st,eE,fa,hM⟩:=aA
  have Yb:Nat.beq cap m=false:=by rw [←Bool.not_eq_true,Nat.beq_eq];omega
  have hw:Own h b us cS st:=eE
  have e:=hw.lay (off:=off+m) (ws:=hN [.int .i64 0] (len-m)) (by rw [rO];omega) (Iw _)
  refine ⟨.slice b (off+m * 1) (len-m) (cap-m),_,?_,?_,⟨hN [.int .i64 0] (len-m),by rw [wa];exact aP,rfl,a2,?_,da,eh,iw us (off+m) (hN [.int .i64 0] (len-m)),cS,st,by rw [dB,if_pos rfl],?_,?_⟩,(Mod.refl (fun q=>q=b) h).set (fun _=>rfl) _⟩
  · simp only [gI,p',mI,m' (k:=.i64) (m:=m) (d:=0) (y:=len) (by omega),Yb,cond_false]
  · simp only [t',gQ,cond_false,Nat.mul_one,e]
  · unfold Old;rw [hf];exact b'
  · rw [u4 _ _ _ (by rw [rO];omega)];exact fa
  · have:=yI us off m ah (hN [.int .i64 0] (len-m)) (by omega) hM (by rw [rO];omega)
    rw [wa,this,Q1 (by rw [rO];omega)]
 case ei b off len idx=>
  obtain ⟨rfl,a2,b',rfl,rfl,us,st,eE,fa,hM⟩:=aA
  have a7:Nat.blt m len=true:=by rw [Nat.blt_eq];exact hm
  have hw:Own h b us 1 st:=eE
  have e:=hw.lay (off:=0+m) (ws:=hN [.int .i64 0] (len-m)) (by rw [rO];omega) (Iw _)
  refine ⟨.ei b (0+m * 1) (len-m) (0+m),_,?_,?_,⟨hN [.int .i64 0] (len-m),by rw [wa];exact aP,rfl,a2,?_,rfl,rfl,iw us (0+m) (hN [.int .i64 0] (len-m)),st,by rw [dB,if_pos rfl],?_,?_⟩,(Mod.refl (fun q=>q=b) h).set (fun _=>rfl) _⟩
  · simp only [gI,pg,mI,m' (k:=.i64) (m:=m) (d:=0) (y:=len) (by omega),a7,cond_true]
  · simp only [t',gQ,cond_false,Nat.mul_one,e]
  · unfold Old;rw [hf];exact b'
  · rw [u4 _ _ _ (by rw [rO];omega),wa];exact fa
  · have:=yI us 0 m ah (hN [.int .i64 0] (len-m)) (by omega) (by rw [List.drop_zero];exact hM) (by rw [rO];omega)
    rw [List.drop_zero] at this
    rw [wa,this,Q1 (by rw [rO];omega)]
theorem VC {l:List Int} (h:l.length<2):t_ l=l:=by
 match l,h with
 | [],_=>rfl
 | [x],_=>rfl
theorem Rx {k:Nat} (ad:1≤k) (ak:k≤4611686018427387904):IntKind.i64.wrap ((k:Int)-1)=((k-1:Nat):Int):=by
 rw [wrap_i64 (by omega) (by omega)];omega
theorem Zv (l:List Int) (i:Nat) (x:Int):(cd l).set i (.int .i64 x)=cd (l.set i x):=by
 simp [cd,List.map_set]
set_option maxHeartbeats 1000000 in
theorem VB {B:Nat} {h:ai} {v:V} {l:List Int} (O:cn B h 1 v l.length (cd l)) (aL:l.length≤8000000):
 bB Tryz.prog 52 [v] h fun x J=>cn B J 1 x (t_ l).length (cd (t_ l))∧Mod v.bb h J∧∀b,x.bb b→v.bb b:=by
 refine Ur rfl (bO ?_)
 unfold LU
 have b6:=O.v.len
 by_cases ak:l.length<2
 · have bM:((l.length:Int)<2)=True:=eq_true (by omega)
   simp +contextual only [b6,bM,↓ab,ae,simprocAttr]
   rw [VC ak]
   exact ⟨O,Mod.refl _ _,fun b q=>trivial⟩
 have bM:((l.length:Int)<2)=False:=eq_false (by omega)
 simp +contextual only [b6,bM,↓ab,ae,simprocAttr]
 refine fV (fun r J=>J=h∧r 0=v∧∃k:Nat,r 3=.int .i64 k∧∃al:1≤k∧k≤l.length,l.take k++nL (l[k-1]'(by omega)) (l.drop k)=t_ l) (fun r J=>l.length - (r 3).gV) ?_ ?_
 · refine ⟨rfl,by simp only [↓ab,bf,simprocAttr],1,by simp only [↓ab,bf,simprocAttr]<;>rfl,⟨Nat.le_refl _,by omega⟩,?_⟩
   match l,ak with
   | x::l,_=>rfl
 · rintro r J ⟨rfl,bm,k,cl,⟨ki,XW⟩,aC⟩
   unfold LW
   by_cases a7:k<l.length
   · have bV:((k:Int) < (l.length:Int))=True:=eq_true (by omega)
     obtain ⟨b,o,b9,cG⟩:=ints_at O.v (k:=.i64) a7
     obtain ⟨bX,dj,cB,b7⟩:=ints_at O.v (k:=.i64) (show k-1<l.length by omega)
     have wd:=Rx ki (by omega)
     have hs:=g4 a7 (by omega)
     rw [List.drop_eq_getElem_cons a7,nL] at aC
     by_cases he:l[k]=l[k-1]
     · have FV:=eq_true he
       rw [if_pos he] at aC
       obtain ⟨v2,t1,t2,t3⟩:=cn.tail O a7
       simp +contextual only [bm,cl,b6,bV,b9,cG,wd,cB,b7,FV,t1,↓ab,ae,simprocAttr]
       refine fV (fun r ak=>Mod v.bb J ak∧r 0=v∧r 4=v2∧∃(bS j:Nat) (m:List Int),r 3=.int .i64 bS∧r 5=.int .i64 j∧cn B ak 1 v l.length (cd m)∧m.length=l.length∧1≤bS∧1≤j∧bS+1≤k+j∧∃bQ:k+j≤l.length,m.take bS++nL (l[k+j-1]'(by omega)) (l.drop (k+j))=t_ l∧∀q,k+j≤q+1→m[q]? =l[q]?) (fun r J=>l.length - (r 5).gV) ?_ ?_
       · refine ⟨Mod.refl _ _,by simp only [bm,↓ab,bf,simprocAttr],by simp only [↓ab,bf,simprocAttr],k,1,l,by simp only [cl,↓ab,bf,simprocAttr],by simp only [↓ab,bf,simprocAttr]<;>rfl,O,rfl,ki,Nat.le_refl _,Nat.le_refl _,a7,?_,fun q _=>rfl⟩
         rw [←aC]
         congr 2
       · clear bm cl
         rintro r ak ⟨hm,bm,c2,bS,j,m,cl,hz,Ca,GU,XV,jk,ahT,bQ,uo,aZ⟩
         unfold LV
         by_cases jM:k+j<l.length
         · have CQ:((j:Int) < ((l.length-k:Nat):Int))=True:=eq_true (by omega)
           have Cb:cj ak 1 v m.length (cd m):=by rw [GU];exact Ca.v
           obtain ⟨e5,fz,AA,rW⟩:=ints_at Cb (k:=.i64) (show k+j<m.length by omega)
           obtain ⟨g8,yx,Hu,HJ⟩:=ints_at Cb (k:=.i64) (show k + (j-1)<m.length by omega)
           obtain ⟨hE,yy,OF,aih⟩:=ints_at Cb (k:=.i64) (show bS<m.length by omega)
           have Xh:=Ft Cb (show bS<m.length by omega) OF
           rw [←t3 j (by omega)] at AA
           rw [←t3 (j-1) (by omega)] at Hu
           have YX:m[k+j]'(by omega)=l[k+j]:=by
            have:=aZ (k+j) (by omega)
            rw [List.getElem?_eq_getElem (by omega),List.getElem?_eq_getElem jM] at this
            exact Option.some.inj this
           have Y2:m[k + (j-1)]'(by omega)=l[k+j-1]'(by omega):=by
            have:=aZ (k+j-1) (by omega)
            rw [List.getElem?_eq_getElem (by omega),List.getElem?_eq_getElem (by omega)] at this
            have e:k + (j-1)=k+j-1:=by omega
            simp only [e]
            exact Option.some.inj this
           rw [YX] at rW
           rw [Y2] at HJ
           have Rz:=Rx jk (by omega)
           have RC:=g4 (i:=j) (n:=l.length) (by omega) (by omega)
           have agD:=g4 (i:=bS) (n:=l.length) (by omega) (by omega)
           rw [List.drop_eq_getElem_cons jM,nL] at uo
           have GJ:k + (j+1)-1=k+j:=by omega
           by_cases gQ:l[k+j]=l[k+j-1]
           · have e6:=eq_true gQ
             rw [if_pos gQ] at uo
             simp +contextual only [bm,cl,c2,hz,t2,CQ,AA,rW,Rz,Hu,HJ,e6,RC,↓ab,ae,simprocAttr]
             refine ⟨⟨hm,bS,j+1,m,rfl,rfl,Ca,GU,XV,by omega,by omega,jM,?_,fun q pT=>aZ q (by omega)⟩,by omega⟩
             simp only [GJ,gQ]
             exact uo
           · have e6:=eq_false gQ
             rw [if_neg gQ] at uo
             obtain ⟨K,b_,ch,cI,ga⟩:=Ca.Im Xh (c:=bS * 1) (y:=.int .i64 l[k+j]) (by rw [k_];omega) rfl rfl
             rw [Nat.mul_one,Zv] at cI
             have GR:Mod v.bb J (ak.set hE K):=hm.set (fun _=>ga) _
             simp +contextual only [bm,cl,c2,hz,t2,CQ,AA,rW,Rz,Hu,HJ,e6,OF,b_,RC,agD,↓ab,ae,simprocAttr]
             refine ⟨⟨GR,bS+1,j+1,m.set bS l[k+j],rfl,rfl,cI,by rw [List.length_set];exact GU,by omega,by omega,by omega,jM,?_,fun q pT=>?_⟩,by omega⟩
             · simp only [GJ]
               rw [←uo,List.take_succ_eq_append_getElem (by rw [List.length_set];omega),List.getElem_set_self,List.take_set_of_le (Nat.le_refl _)]
               simp only [List.append_assoc,List.cons_append,List.nil_append]
               rfl
             · rw [List.getElem?_set_ne (by omega)]
               exact aZ q (by omega)
         · have CQ:((j:Int) < ((l.length-k:Nat):Int))=False:=eq_false (by omega)
           rw [List.drop_eq_nil_of_le (by omega),nL,List.append_nil] at uo
           obtain ⟨v3,aB,pk,rb,⟨ws,re⟩,w6⟩:=cn.agE Ca (m:=bS) (by omega)
           obtain ⟨v4,fk,fe,z3⟩:=re.cut (k:=.i64) (m:=bS) (by omega) (by omega)
           rw [Nat.mul_one,Dj,List.take_append_of_le_length (by rw [k_,List.length_take];omega),Dj,List.take_take,Nat.min_self,uo] at fe
           have sV:bS=(t_ l).length:=by rw [←uo,List.length_take];omega
           simp +contextual only [bm,cl,c2,hz,t2,CQ,pk,rb,fk,ZQ,↓ab,ae,simprocAttr]
           rw [←sV]
           exact ⟨fe,hm.trans w6,z3⟩
     · have FV:=eq_false he
       rw [if_neg he] at aC
       simp +contextual only [bm,cl,b6,bV,b9,cG,wd,cB,b7,FV,hs,↓ab,ae,simprocAttr]
       refine ⟨⟨k+1,rfl,⟨by omega,a7⟩,?_⟩,by omega⟩
       rw [←aC,List.take_succ_eq_append_getElem a7]
       simp only [List.append_assoc,List.cons_append,List.nil_append,Nat.add_sub_cancel]
   · have bV:((k:Int) < (l.length:Int))=False:=eq_false (by omega)
     rw [List.drop_eq_nil_of_le (by omega),nL,List.append_nil,List.take_of_length_le (by omega)] at aC
     simp +contextual only [bm,cl,b6,bV,↓ab,ae,simprocAttr]
     rw [←aC]
     exact ⟨O,Mod.refl _ _,fun b q=>trivial⟩
def tX (c:aU):List Int:=if may c1 c then rising (order c) else []
def xU (c:aU):List Int:=if may c1 c then rising (free c []) else []
def qp (c:aU):Int:=if !may c1 c then 2 else if (order c).length≠(rising (order c)).length then 7 else if 0 < (rising (free c [])).length then 6 else 0
theorem Dz {c:aU} (hw:wt c≤400):may (fun b c=>ea b c) c=may c1 c:=(DA c (Nn (m:=1048576) (by omega) c (pH c hw))).symm
theorem yz {c:aU} (hw:wt c≤400) (h:may c1 c=true):q1 c:=DK c (by rw [Dz hw];exact h)
theorem A3 {c:aU} (hw:wt c≤400):(order c).length≤1200:=by have:=Ii c;have:=IS c;omega
def nH (h J:ai) (l:List Int) (x:V):Prop:=cn h.next J 1 x l.length (cd l)∧Ext h J
theorem nH.nil (h:ai):nH h h [] .aw:=⟨⟨rfl,rfl⟩,Ext.refl _⟩
theorem nH.from {h ad J:ai} {l:List Int} {x:V} (H:nH ad J l x) (e:Ext h ad):nH h J l x:=⟨H.1.mono e.next,e.trans H.2⟩
section
variable (c:aU) (ah:List V) (h:ai) (H:ef h c ah) (hw:wt c≤400)
include H hw
theorem Pm:bB Tryz.prog 44 [.agg ah] h fun x J=>x=.bool (may c1 c)∧Ext h J:=HU (size c) c (Nat.le_refl _) (pH c hw) ah h H
theorem IC:bB Tryz.prog 47 [.agg ah] h fun x J=>x=.bool (may c1 c)∧Ext h J:=
 (ID (size c) c (Nat.le_refl _) (pH c hw) ah h H).mono fun x J q=>by rw [Dz hw] at q;exact q
theorem RP:bB Tryz.prog 25 [.agg ah] h fun x J=>nH h J (tX c) x:=by
 have rM:=A3 hw
 obtain ⟨aX,a6,az,rfl,dv,eL,cJ⟩:=H.open
 refine Uf rfl (bO ?_)
 unfold LD
 have ck:Ext h (h.new (.au [.int .i64 c.k,.int .i64 c.x,.int .i64 c.n,.str c.s,aX,a6,az] 0 false)):=(Ext.refl h).new _
 have fo:(h.new (.au [.int .i64 c.k,.int .i64 c.x,.int .i64 c.n,.str c.s,aX,a6,az] 0 false)).get (ao h.next)=.au [.int .i64 c.k,.int .i64 c.x,.int .i64 c.n,.str c.s,aX,a6,az] 0 false:=gz _
 simp +contextual only [↓ab,ae,simprocAttr]
 refine aS (Pm c _ _ (H.ext ck) hw) ?_
 rintro x ad ⟨rfl,aI⟩
 have dR:ad.get (ao h.next)=.au [.int .i64 c.k,.int .i64 c.x,.int .i64 c.n,.str c.s,aX,a6,az] 0 false:=by rw [aI.get _ (dP (by rw [cY];omega))];exact fo
 unfold tX
 cases hm:may c1 c with
 | false=>
   simp +contextual only [↓ab,ae,simprocAttr]
   exact (nH.nil ad).from (ck.trans aI)
 | true=>
   simp +contextual only [dR,↓ab,ae,simprocAttr]
   refine aS (J1 c _ _ (H.ext (ck.trans aI)) (pH c hw) (yz hw hm) (by omega)) ?_
   rintro x ak ⟨kX,bo⟩
   simp +contextual only [↓ab,ae,simprocAttr]
   refine aS (afI kX (by omega)) ?_
   rintro y aB ⟨rfl,qf,gh⟩
   have pU:(iv (order c)).length=(order c).length:=(sb _).length_eq
   rw [←pU] at qf
   simp +contextual only [↓ab,ae,simprocAttr]
   refine aS (VB qf (by omega)) ?_
   rintro z bw ⟨qg,r0,g8⟩
   rw [VD (Ec (order c)) (sb _)] at qg
   simp +contextual only [↓ab,ae,simprocAttr]
   have eA:Ext ad bw:=bo.qZ (gh.trans r0) (fun b q=>kX.base q)
   exact nH.from ⟨qg,eA⟩ (ck.trans aI)
theorem adM:bB Tryz.prog 26 [.agg ah] h fun x J=>nH h J (tX c) x:=by
 have rM:=A3 hw
 obtain ⟨aX,a6,az,rfl,dv,eL,cJ⟩:=H.open
 refine Ug rfl (bO ?_)
 unfold LF
 have ck:Ext h (h.new (.au [.int .i64 c.k,.int .i64 c.x,.int .i64 c.n,.str c.s,aX,a6,az] 0 false)):=(Ext.refl h).new _
 have fo:(h.new (.au [.int .i64 c.k,.int .i64 c.x,.int .i64 c.n,.str c.s,aX,a6,az] 0 false)).get (ao h.next)=.au [.int .i64 c.k,.int .i64 c.x,.int .i64 c.n,.str c.s,aX,a6,az] 0 false:=gz _
 simp +contextual only [↓ab,ae,simprocAttr]
 refine aS (IC c _ _ (H.ext ck) hw) ?_
 rintro x ad ⟨rfl,aI⟩
 have dR:ad.get (ao h.next)=.au [.int .i64 c.k,.int .i64 c.x,.int .i64 c.n,.str c.s,aX,a6,az] 0 false:=by rw [aI.get _ (dP (by rw [cY];omega))];exact fo
 unfold tX
 cases hm:may c1 c with
 | false=>
   simp +contextual only [↓ab,ae,simprocAttr]
   exact (nH.nil ad).from (ck.trans aI)
 | true=>
   simp +contextual only [dR,↓ab,ae,simprocAttr]
   refine aS (IF (size c) c (Nat.le_refl _) (pH c hw) (yz hw hm) _ ad (H.ext (ck.trans aI)) ad [] .aw (Ext.refl _) ⟨rfl,rfl⟩ (by simp;omega)) ?_
   rintro x ak fu
   have kX:=fu.own
   rw [List.nil_append] at kX
   simp +contextual only [↓ab,ae,simprocAttr]
   refine aS (Qz (order c) x ak kX.v (by omega)) ?_
   rintro z bw ⟨qg,eA⟩
   simp +contextual only [↓ab,ae,simprocAttr]
   exact nH.from ⟨qg,eA⟩ ((ck.trans aI).trans fu.ext)
theorem adP:bB Tryz.prog 28 [.agg ah] h fun x J=>nH h J (xU c) x:=by
 have rM:=A3 hw
 have hJ:=F9 c []
 obtain ⟨aX,a6,az,rfl,dv,eL,cJ⟩:=H.open
 refine Uh rfl (bO ?_)
 unfold LG
 have ck:Ext h (h.new (.au [.int .i64 c.k,.int .i64 c.x,.int .i64 c.n,.str c.s,aX,a6,az] 0 false)):=(Ext.refl h).new _
 have fo:(h.new (.au [.int .i64 c.k,.int .i64 c.x,.int .i64 c.n,.str c.s,aX,a6,az] 0 false)).get (ao h.next)=.au [.int .i64 c.k,.int .i64 c.x,.int .i64 c.n,.str c.s,aX,a6,az] 0 false:=gz _
 simp +contextual only [↓ab,ae,simprocAttr]
 refine aS (IC c _ _ (H.ext ck) hw) ?_
 rintro x ad ⟨rfl,aI⟩
 have dR:ad.get (ao h.next)=.au [.int .i64 c.k,.int .i64 c.x,.int .i64 c.n,.str c.s,aX,a6,az] 0 false:=by rw [aI.get _ (dP (by rw [cY];omega))];exact fo
 unfold xU
 cases hm:may c1 c with
 | false=>
   simp +contextual only [↓ab,ae,simprocAttr]
   exact (nH.nil ad).from (ck.trans aI)
 | true=>
   simp +contextual only [dR,↓ab,ae,simprocAttr]
   refine aS (Qx (size c) c (Nat.le_refl _) (pH c hw) (yz hw hm) _ ad (H.ext (ck.trans aI)) ad [] .aw [] .aw (Ext.refl _) ⟨rfl,rfl⟩ ⟨rfl,rfl⟩ (fun b q=>q.elim) (by simp;omega) (by simp;omega)) ?_
   rintro x ak fu
   have kX:=fu.own
   rw [List.nil_append] at kX
   simp +contextual only [↓ab,ae,simprocAttr]
   refine aS (Qz (free c []) x ak kX.v (by omega)) ?_
   rintro z bw ⟨qg,eA⟩
   simp +contextual only [↓ab,ae,simprocAttr]
   exact nH.from ⟨qg,eA⟩ ((ck.trans aI).trans fu.ext)
end
end Go.Proofs.YtjbiefneffiogaaGreat
namespace Go.Proofs.YtjbiefneffiogaaGreat
open Go bs
section
variable (c:aU) (ah:List V) (h:ai) (H:ef h c ah) (hw:wt c≤400)
include H hw
theorem RU:bB Tryz.prog 20 [.agg ah] h fun x J=>x=.int .i64 (qp c)∧Ext h J:=by
 have rM:=A3 hw
 obtain ⟨aX,a6,az,rfl,dv,eL,cJ⟩:=H.open
 refine Ud rfl (bO ?_)
 unfold LB
 have ck:Ext h (h.new (.au [.int .i64 c.k,.int .i64 c.x,.int .i64 c.n,.str c.s,aX,a6,az] 0 false)):=(Ext.refl h).new _
 have fo:(h.new (.au [.int .i64 c.k,.int .i64 c.x,.int .i64 c.n,.str c.s,aX,a6,az] 0 false)).get (ao h.next)=(.au [.int .i64 c.k,.int .i64 c.x,.int .i64 c.n,.str c.s,aX,a6,az] 0 false):=gz _
 simp +contextual only [↓ab,ae,simprocAttr]
 refine aS (Pm c _ _ (H.ext ck) hw) ?_
 rintro x ad ⟨rfl,aI⟩
 have h6:=ck.trans aI
 have dR:ad.get (ao h.next)=(.au [.int .i64 c.k,.int .i64 c.x,.int .i64 c.n,.str c.s,aX,a6,az] 0 false):=by rw [aI.get _ (dP (by rw [cY];omega))];exact fo
 have dL:h.next<ad.next:=by have:=aI.next;rw [cY] at this;omega
 unfold qp
 cases hm:may c1 c with
 | false=>
   simp +contextual only [↓ab,ae,simprocAttr]
   exact h6
 | true=>
   have af:tX c=rising (order c):=by rw [tX,if_pos hm]
   have sT:xU c=rising (free c []):=by rw [xU,if_pos hm]
   simp +contextual only [dR,↓ab,ae,simprocAttr]
   refine aS (J1 c _ _ (H.ext h6) (pH c hw) (yz hw hm) (by omega)) ?_
   rintro x ak ⟨kX,bo⟩
   skip
   have kY:ak.get (ao h.next)=(.au [.int .i64 c.k,.int .i64 c.x,.int .i64 c.n,.str c.s,aX,a6,az] 0 false):=by rw [bo.get _ (dP dL)];exact dR
   have eJ:h.next<ak.next:=Nat.lt_of_lt_of_le dL bo.next
   have eI:=kX.v.len
   simp +contextual only [dR,kY,eI,↓ab,ae,simprocAttr]
   refine aS (RP c _ _ (H.ext (h6.trans bo)) hw) ?_
   rintro y aB ⟨qf,cp⟩
   rw [af] at qf
   have oJ:aB.get (ao h.next)=(.au [.int .i64 c.k,.int .i64 c.x,.int .i64 c.n,.str c.s,aX,a6,az] 0 false):=by rw [cp.get _ (dP eJ)];exact kY
   have lG:=qf.v.len
   have qd:=(h6.trans bo).trans cp
   by_cases gQ:(order c).length=(rising (order c)).length
   · have bH:(((order c).length:Int)=((rising (order c)).length:Int))=True:=eq_true (by omega)
     have sP:((order c).length=(rising (order c)).length)=True:=eq_true gQ
     simp +contextual only [dR,kY,oJ,eI,lG,bH,↓ab,ae,simprocAttr]
     refine aS (Sl c _ _ (H.ext qd) hw hm (yz hw hm)) ?_
     rintro z bw ⟨qg,eA⟩
     skip
     have mU:=qg.v.len
     have kz:=qd.trans eA
     by_cases ar:0 < (rising (free c [])).length
     · have bM:((0:Int) < ((rising (free c [])).length:Int))=True:=eq_true (by omega)
       have vB:(0 < (rising (free c [])).length)=True:=eq_true ar
       simp +contextual only [mU,bM,sP,vB,ne_eq,↓ab,ae,simprocAttr]
       exact kz
     · have bM:((0:Int) < ((rising (free c [])).length:Int))=False:=eq_false (by omega)
       have vB:(0 < (rising (free c [])).length)=False:=eq_false ar
       simp +contextual only [mU,bM,sP,vB,ne_eq,↓ab,ae,simprocAttr]
       exact kz
   · have bH:(((order c).length:Int)=((rising (order c)).length:Int))=False:=eq_false (by omega)
     have sP:((order c).length=(rising (order c)).length)=False:=eq_false gQ
     simp +contextual only [dR,kY,oJ,eI,lG,bH,sP,ne_eq,↓ab,ae,simprocAttr]
     exact qd
theorem adO:bB Tryz.prog 21 [.agg ah] h fun x J=>x=.int .i64 (qp c)∧Ext h J:=by
 have rM:=A3 hw
 obtain ⟨aX,a6,az,rfl,dv,eL,cJ⟩:=H.open
 refine Ue rfl (bO ?_)
 unfold LC
 have ck:Ext h (h.new (.au [.int .i64 c.k,.int .i64 c.x,.int .i64 c.n,.str c.s,aX,a6,az] 0 false)):=(Ext.refl h).new _
 have fo:(h.new (.au [.int .i64 c.k,.int .i64 c.x,.int .i64 c.n,.str c.s,aX,a6,az] 0 false)).get (ao h.next)=(.au [.int .i64 c.k,.int .i64 c.x,.int .i64 c.n,.str c.s,aX,a6,az] 0 false):=gz _
 simp +contextual only [↓ab,ae,simprocAttr]
 refine aS (IC c _ _ (H.ext ck) hw) ?_
 rintro x ad ⟨rfl,aI⟩
 have h6:=ck.trans aI
 have dR:ad.get (ao h.next)=(.au [.int .i64 c.k,.int .i64 c.x,.int .i64 c.n,.str c.s,aX,a6,az] 0 false):=by rw [aI.get _ (dP (by rw [cY];omega))];exact fo
 have dL:h.next<ad.next:=by have:=aI.next;rw [cY] at this;omega
 unfold qp
 cases hm:may c1 c with
 | false=>
   simp +contextual only [↓ab,ae,simprocAttr]
   exact h6
 | true=>
   have af:tX c=rising (order c):=by rw [tX,if_pos hm]
   have sT:xU c=rising (free c []):=by rw [xU,if_pos hm]
   simp +contextual only [dR,↓ab,ae,simprocAttr]
   refine aS (IF (size c) c (Nat.le_refl _) (pH c hw) (yz hw hm) _ ad (H.ext h6) ad [] .aw (Ext.refl _) ⟨rfl,rfl⟩ (by simp;omega)) ?_
   rintro x ak fu
   have kX:=fu.own;rw [List.nil_append] at kX;have bo:=fu.ext
   have kY:ak.get (ao h.next)=(.au [.int .i64 c.k,.int .i64 c.x,.int .i64 c.n,.str c.s,aX,a6,az] 0 false):=by rw [bo.get _ (dP dL)];exact dR
   have eJ:h.next<ak.next:=Nat.lt_of_lt_of_le dL bo.next
   have eI:=kX.v.len
   simp +contextual only [dR,kY,eI,↓ab,ae,simprocAttr]
   refine aS (adM c _ _ (H.ext (h6.trans bo)) hw) ?_
   rintro y aB ⟨qf,cp⟩
   rw [af] at qf
   have oJ:aB.get (ao h.next)=(.au [.int .i64 c.k,.int .i64 c.x,.int .i64 c.n,.str c.s,aX,a6,az] 0 false):=by rw [cp.get _ (dP eJ)];exact kY
   have lG:=qf.v.len
   have qd:=(h6.trans bo).trans cp
   by_cases gQ:(order c).length=(rising (order c)).length
   · have bH:(((order c).length:Int)=((rising (order c)).length:Int))=True:=eq_true (by omega)
     have sP:((order c).length=(rising (order c)).length)=True:=eq_true gQ
     simp +contextual only [dR,kY,oJ,eI,lG,bH,↓ab,ae,simprocAttr]
     refine aS (adP c _ _ (H.ext qd) hw) ?_
     rintro z bw ⟨qg,eA⟩
     rw [sT] at qg
     have mU:=qg.v.len
     have kz:=qd.trans eA
     by_cases ar:0 < (rising (free c [])).length
     · have bM:((0:Int) < ((rising (free c [])).length:Int))=True:=eq_true (by omega)
       have vB:(0 < (rising (free c [])).length)=True:=eq_true ar
       simp +contextual only [mU,bM,sP,vB,ne_eq,↓ab,ae,simprocAttr]
       exact kz
     · have bM:((0:Int) < ((rising (free c [])).length:Int))=False:=eq_false (by omega)
       have vB:(0 < (rising (free c [])).length)=False:=eq_false ar
       simp +contextual only [mU,bM,sP,vB,ne_eq,↓ab,ae,simprocAttr]
       exact kz
   · have bH:(((order c).length:Int)=((rising (order c)).length:Int))=False:=eq_false (by omega)
     have sP:((order c).length=(rising (order c)).length)=False:=eq_false gQ
     simp +contextual only [dR,kY,oJ,eI,lG,bH,sP,ne_eq,↓ab,ae,simprocAttr]
     exact qd
end
end Go.Proofs.YtjbiefneffiogaaGreat
namespace Go.Proofs.YtjbiefneffiogaaGreat
open Go bs
noncomputable def Bg (h:ai) (an:aV):Nat:=match hU (h.get an) 4 with
 | some (.int _ n)=>n.toNat
 | _=>0
theorem h5.box {aj:ai} {b:aV} {c:aU} {ah:List V} (bl:aj.get b=.au ah 0 false) (bA:Old aj b) (H:ef aj c ah):h5 aj (.ptr b 0) c:=by
 refine ⟨b,0,ah,rfl,H,fun J e=>?_⟩
 have aL:=H.len
 rw [e.get b bA,bl]
 refine ⟨by rw [HL,if_pos (by omega),List.drop_zero,List.take_of_length_le (by omega)],fun j bQ=>by rw [qU,Nat.zero_add]⟩
def lz (B:Nat) (h:ai) (l:rn) (x:V):Prop:=∃bj,x=.agg [.int .i64 l.e6,.int .i64 l.fp,.int .i64 l.read,.int .i64 l.steps,bj]∧cn B h 1 bj l.out.length (dt l.out)
theorem lz.ext {B:Nat} {h J:ai} {l:rn} {x:V} (H:lz B h l x) (e:Ext h J):lz B J l x:=by
 obtain ⟨bj,aP,aA⟩:=H
 exact ⟨bj,aP,aA.ext e⟩
set_option maxHeartbeats 4000000 in
theorem VT (c:aU) (ah:List V) (h:ai) (H:ef h c ah) (Hn:iL [] c) {aO:V} {aN:List UInt8} (en:cj h 1 aO aN.length (dt aN)) (hlen:aN.length≤1073741824) {steps:Int} (Gg:0≤steps) (aM:steps≤100000):
 bB Tryz.prog 40 [.agg ah,.aw,aO,.int .i64 steps] h fun x J=>∃l,yV c aN steps l∧lz h.next J l x∧Ext h J:=by
 obtain ⟨aX,a6,az,rfl,dv,eL,cJ⟩:=H.open
 refine Ui rfl (bO ?_)
 unfold LH
 have jQ:=dv.one
 have jR:=eL.one
 have ol:=cJ.one
 have ku:=en.one
 simp +contextual only [jQ.1,jQ.2.1,jR.1,jR.2.1,ol.1,ol.2.1,↓ab,ae,simprocAttr]
 have aI:Ext h ((h.new (.au [.int .i64 c.k,.int .i64 c.x,.int .i64 c.n,.str c.s,aX,a6,az] 0 false)).new (.au [.int .i64 0,.int .i64 0,.int .i64 0,.int .i64 0,.aw] 0 false)):=((Ext.refl h).new _).new _
 have bH:((h.new (.au [.int .i64 c.k,.int .i64 c.x,.int .i64 c.n,.str c.s,aX,a6,az] 0 false)).new (.au [.int .i64 0,.int .i64 0,.int .i64 0,.int .i64 0,.aw] 0 false)).get (ao h.next)=.au [.int .i64 c.k,.int .i64 c.x,.int .i64 c.n,.str c.s,aX,a6,az] 0 false:=by
  rw [eG,if_neg (by rw [gM,cY];omega),gz]
 have fk:((h.new (.au [.int .i64 c.k,.int .i64 c.x,.int .i64 c.n,.str c.s,aX,a6,az] 0 false)).new (.au [.int .i64 0,.int .i64 0,.int .i64 0,.int .i64 0,.aw] 0 false)).get (ao (h.next+1))=.au [.int .i64 0,.int .i64 0,.int .i64 0,.int .i64 0,.aw] 0 false:=by
  rw [eG,if_pos (by rw [cY])]
 have dL:((h.new (.au [.int .i64 c.k,.int .i64 c.x,.int .i64 c.n,.str c.s,aX,a6,az] 0 false)).new (.au [.int .i64 0,.int .i64 0,.int .i64 0,.int .i64 0,.aw] 0 false)).next=h.next+2:=by rw [cY,cY]
 generalize ((h.new (.au [.int .i64 c.k,.int .i64 c.x,.int .i64 c.n,.str c.s,aX,a6,az] 0 false)).new (.au [.int .i64 0,.int .i64 0,.int .i64 0,.int .i64 0,.aw] 0 false))=H1 at *
 refine aS (VU H1) ?_
 rintro pm aj ⟨D,bo⟩
 have sY:=bo.next
 have Ic:pm.one=true∧pm.cells=[pm]∧pm.e7=true:=by
  obtain ⟨_,_,_,_,_,_,_,_,_,rfl,_⟩:=D
  exact ⟨rfl,rfl,rfl⟩
 have ky:=aI.trans bo
 have bV:aj.get (ao h.next)=.au [.int .i64 c.k,.int .i64 c.x,.int .i64 c.n,.str c.s,aX,a6,az] 0 false:=by rw [bo.get _ (dP (by omega))];exact bH
 have z0:aj.get (ao (h.next+1))=.au [.int .i64 0,.int .i64 0,.int .i64 0,.int .i64 0,.aw] 0 false:=by rw [bo.get _ (dP (by omega))];exact fk
 have EL:=en.ext ky
 have EC:h5 aj (.ptr (ao h.next) 0) c:=h5.box bV (dP (by omega)) (H.ext ky)
 simp +contextual only [ku.1,ku.2.1,ku.2.2,Ic.1,Ic.2.1,Ic.2.2,↓ab,ae,simprocAttr]
 have gf:ed aj (aj.new (.au [aO,.int .i64 0,.int .i64 0,.int .i64 0,.int .i64 0,.aw,.bool false,.ptr (ao h.next) 0,.cc,.aw,.aw,pm] 0 false)) (ao aj.next) (jF (fun _=>.no) (fun b=>b=ao aj.next) .n2) [] aO pm (start c) 0 (.ptr (ao h.next) 0) .cc .aw .aw:=by
  refine ⟨⟨(Ext.refl aj).new _,fun b af=>?_,rfl,fun i v q=>(by cases i<;>simp [start] at q)⟩,mD rfl,gz _,EC,.nil,⟨[],⟨rfl,rfl⟩,fun b q=>q.elim,rfl,fun i a u q=>(by simp [start] at q)⟩,⟨rfl,rfl⟩,fun b q=>q.elim⟩
  by_cases q:b=ao aj.next
  · subst q;rw [c',cY];omega
  · rw [mC (p:=fun b=>b=ao aj.next) q] at af;exact absurd rfl af
 generalize kK:ao aj.next=an at *
 generalize (aj.new (.au [aO,.int .i64 0,.int .i64 0,.int .i64 0,.int .i64 0,.aw,.bool false,.ptr (ao h.next) 0,.cc,.aw,.aw,pm] 0 false))=ez at *
 refine fV (fun r J=>r 9=.ptr an 0∧r 3=.int .i64 steps∧r 8=.ptr (ao (h.next+1)) 0∧∃i:Nat,(∀j,j<i→((start c).nth aN j).fJ=false)∧(i:Int)≤steps∧∃aK aJ,dr aj J an aK aJ aO pm ((start c).nth aN i) i) (fun r J=>steps.toNat-Bg J an) ?_ ?_
 · exact ⟨by simp only [↓ab,bf,simprocAttr],by simp only [↓ab,bf,simprocAttr],by simp only [↓ab,bf,simprocAttr],0,fun j q=>(by omega),Gg,_,_,_,_,_,_,gf⟩
 · rintro r J ⟨iI,cl,iH,i,pR,aH,aK,aJ,jt,eq,fB,c5,M⟩
   unfold LI
   have cE:=M.get
   have pU:Bg J an=i:=by unfold Bg;rw [cE,qU];simp
   have W:=c9.nth (aN:=aN) Hn i
   have Bt:J.get (ao (h.next+1))=.au [.int .i64 0,.int .i64 0,.int .i64 0,.int .i64 0,.aw] 0 false:=by rw [M.rep.ext.get _ (dP (by omega))];exact z0
   have AL:(an=ao (h.next+1))=False:=eq_false fun q=>by have:=M.b5.1;rw [q,c'] at this;omega
   have Bv:(ao (h.next+1)=an)=False:=eq_false fun q=>by have:=M.b5.1;rw [←q,c'] at this;omega
   have dx:=M.de.one
   have mM:∀(aK:fl) (aJ:List aV) (S:av) (g:ai) (jt eq fB c5:V) (k:cL),ed aj g an aK aJ aO pm S i jt eq fB c5→cn h.next (g.set (ao (h.next+1)) k) 1 c5 S.out.length (dt S.out)∧Ext h (g.set (ao (h.next+1)) k):=by
    intro aK aJ S g jt eq fB c5 k M
    refine ⟨(M.de.1.mono (by omega)).mod ((Mod.refl (fun b=>b=ao (h.next+1)) g).set (fun _=>rfl) k) fun b q e=>?_,(ky.trans M.rep.ext).set (by omega) _⟩
    have:=M.de.1.base q
    rw [e,c'] at this
    omega
   cases bA:((start c).nth aN i).fJ with
   | true=>
     rw [bA] at cE
     simp +contextual only [iI,cl,iH,cE,bA,Bt,AL,Bv,dx.1,dx.2.1,↓ab,ae,simprocAttr]
     have ar:=mM aK aJ _ J jt eq fB c5 (.au [.int .i64 ((start c).nth aN i).e6,.int .i64 ((start c).nth aN i).fp,.int .i64 ((start c).nth aN i).read,.int .i64 i,c5] 0 false) M
     exact ⟨⟨((start c).nth aN i).e6,((start c).nth aN i).fp,((start c).nth aN i).read,i,((start c).nth aN i).out⟩,⟨i,pR,aH,.inl bA,by rw [if_pos bA]⟩,⟨c5,rfl,ar.1⟩,ar.2⟩
   | false=>
     rw [bA] at cE
     by_cases a7:(i:Int)<steps
     · have rI:=eq_true a7
       have w:IntKind.i64.wrap ((i:Int)+1)=((i+1:Nat):Int):=by rw [wrap_i64 (by omega) (by omega)];rfl
       have aD:=M.next ((start c).nth aN i) ((i+1:Nat):Int) jt eq fB c5 rfl M.co M.dy M.wr M.de
       rw [bA] at aD
       simp +contextual only [iI,cl,iH,cE,bA,rI,w,↓ab,ae,simprocAttr]
       obtain ⟨tu,al,bh⟩:=W.c.shape
       refine aS (afQ ⟨_,_,_,_,aD⟩ (W.ok (by omega)) (by have:=W.wl;omega) tu bh al D EL hlen W.read) ?_
       rintro x ak ⟨er,gg,M2⟩
       simp +contextual only [iI,cl,iH,↓ab,ae,simprocAttr]
       have vm:=M2
       obtain ⟨_,_,_,_,vm⟩:=vm
       have Hd:Bg ak an=i+1:=by unfold Bg;rw [vm.get,qU];simp
       refine ⟨⟨i+1,fun j bQ=>?_,by omega,er,gg,M2⟩,by rw [pU,Hd];omega⟩
       by_cases e:j=i
       · subst e;exact bA
       · exact pR j (by omega)
     · have rI:=eq_false a7
       simp +contextual only [iI,cl,iH,cE,bA,rI,Bt,AL,Bv,dx.1,dx.2.1,↓ab,ae,simprocAttr]
       have aD:=M.next {(start c).nth aN i with e6:=4} i jt eq fB c5 rfl M.co M.dy M.wr M.de
       have ar:=mM aK aJ _ _ jt eq fB c5 (.au [.int .i64 4,.int .i64 ((start c).nth aN i).fp,.int .i64 ((start c).nth aN i).read,.int .i64 i,c5] 0 false) aD
       simp only [bA] at ar
       exact ⟨⟨4,((start c).nth aN i).fp,((start c).nth aN i).read,i,((start c).nth aN i).out⟩,⟨i,pR,aH,.inr (by omega),by rw [bA];rfl⟩,⟨c5,rfl,ar.1⟩,ar.2⟩
def qm (c:aU) (aN:List UInt8) (steps:Int) (l:rn):Prop:=if qp c≠0∨steps<0 then l=⟨5,0,0,0,[]⟩ else yV c aN steps l
theorem afl {c:aU} {aO:List UInt8} {steps:Int} {l m:rn} (h:qm c aO steps l) (J:qm c aO steps m):l=m:=by
 unfold qm at h J
 split at h
 · rename_i q
   rw [if_pos q] at J
   rw [h,J]
 · rename_i q
   rw [if_neg q] at J
   exact VV h J
theorem RB {c:aU} (hm:may (fun b c=>ea b c) c=may c1 c) (ar:fit 1048576 c) (h:qp c=0):iL [] c:=by
 unfold qp at h
 by_cases ad:may c1 c=true
 · rw [ad] at h
   simp only [Bool.not_true,Bool.false_eq_true,if_false] at h
   split at h
   · omega
   · split at h
     · omega
     · rename_i q
       refine ⟨by rw [hm];exact ad,?_,ar⟩
       cases aZ:free c [] with
       | nil=>rfl
       | cons z l=>
         have:z ∈ rising (free c []):=HW.2 (by rw [aZ];simp)
         have:=List.length_pos_of_mem this
         omega
 · rw [Bool.not_eq_true] at ad
   rw [ad] at h
   simp only [Bool.not_false,if_true] at h
   omega
set_option maxHeartbeats 2000000 in
theorem afk (c:aU) (ah:List V) (h:ai) (H:ef h c ah) (hw:wt c≤400) {aO:V} {aN:List UInt8} (en:cj h 1 aO aN.length (dt aN)) (hlen:aN.length≤1073741824) {steps:Int} (aM:steps≤100000):
 bB Tryz.prog 13 [.agg ah,aO,.int .i64 steps] h fun x J=>∃l,qm c aN steps l∧lz h.next J l x∧Ext h J:=by
 obtain ⟨aX,a6,az,rfl,dv,eL,cJ⟩:=H.open
 refine TU rfl (bO ?_)
 unfold K6
 have jQ:=dv.one
 have jR:=eL.one
 have ol:=cJ.one
 have aI:Ext h ((h.new (.au [.int .i64 c.k,.int .i64 c.x,.int .i64 c.n,.str c.s,aX,a6,az] 0 false)).new (.au [.int .i64 0,.int .i64 0,.int .i64 0,.int .i64 0,.aw] 0 false)):=((Ext.refl h).new _).new _
 have bH:((h.new (.au [.int .i64 c.k,.int .i64 c.x,.int .i64 c.n,.str c.s,aX,a6,az] 0 false)).new (.au [.int .i64 0,.int .i64 0,.int .i64 0,.int .i64 0,.aw] 0 false)).get (ao h.next)=.au [.int .i64 c.k,.int .i64 c.x,.int .i64 c.n,.str c.s,aX,a6,az] 0 false:=by
  rw [eG,if_neg (by rw [gM,cY];omega),gz]
 have fk:((h.new (.au [.int .i64 c.k,.int .i64 c.x,.int .i64 c.n,.str c.s,aX,a6,az] 0 false)).new (.au [.int .i64 0,.int .i64 0,.int .i64 0,.int .i64 0,.aw] 0 false)).get (ao (h.next+1))=.au [.int .i64 0,.int .i64 0,.int .i64 0,.int .i64 0,.aw] 0 false:=by
  rw [eG,if_pos (by rw [cY])]
 have dL:((h.new (.au [.int .i64 c.k,.int .i64 c.x,.int .i64 c.n,.str c.s,aX,a6,az] 0 false)).new (.au [.int .i64 0,.int .i64 0,.int .i64 0,.int .i64 0,.aw] 0 false)).next=h.next+2:=by rw [cY,cY]
 simp +contextual only [jQ.1,jQ.2.1,jR.1,jR.2.1,ol.1,ol.2.1,↓ab,ae,simprocAttr]
 generalize ((h.new (.au [.int .i64 c.k,.int .i64 c.x,.int .i64 c.n,.str c.s,aX,a6,az] 0 false)).new (.au [.int .i64 0,.int .i64 0,.int .i64 0,.int .i64 0,.aw] 0 false))=H1 at *
 refine aS (RU c _ H1 (H.ext aI) hw) ?_
 rintro x ak ⟨rfl,bo⟩
 have sY:=bo.next
 have bM:ak.get (ao h.next)=.au [.int .i64 c.k,.int .i64 c.x,.int .i64 c.n,.str c.s,aX,a6,az] 0 false:=by rw [bo.get _ (dP (by omega))];exact bH
 have fe:ak.get (ao (h.next+1))=.au [.int .i64 0,.int .i64 0,.int .i64 0,.int .i64 0,.aw] 0 false:=by rw [bo.get _ (dP (by omega))];exact fk
 have ff:=aI.trans bo
 have Bu:∀(k:cL),Ext h (ak.set (ao (h.next+1)) k):=fun k=>ff.set (by omega) _
 have no:∀k:cL,cn h.next (ak.set (ao (h.next+1)) k) 1 .aw 0 (dt []):=fun k=>⟨rfl,rfl⟩
 by_cases aC:qp c=0
 · have nk:=eq_true aC
   by_cases bD:steps<0
   · have e1:=eq_true bD
     simp +contextual only [nk,e1,bM,fe,↓ab,ae,simprocAttr]
     exact ⟨⟨5,0,0,0,[]⟩,(by unfold qm;rw [if_pos (.inr bD)]),⟨.aw,rfl,no _⟩,Bu _⟩
   · have e1:=eq_false bD
     simp +contextual only [nk,e1,bM,fe,↓ab,ae,simprocAttr]
     have ar:=pH c hw
     refine aS (VT c _ ak (H.ext ff) (RB (Dz hw) ar aC) (en.ext ff) hlen (by omega) aM) ?_
     rintro x aB ⟨l,aL,⟨bj,rfl,O⟩,cp⟩
     have z3:aB.get (ao (h.next+1))=.au [.int .i64 0,.int .i64 0,.int .i64 0,.int .i64 0,.aw] 0 false:=by rw [cp.get _ (dP (by omega))];exact fe
     have dx:=O.v.one
     simp +contextual only [z3,dx.1,dx.2.1,↓ab,ae,simprocAttr]
     refine ⟨l,(by unfold qm;rw [if_neg (by intro q;rcases q with q | q;exact q aC;exact bD q)];exact aL),⟨bj,rfl,?_⟩,(ff.trans cp).set (by omega) _⟩
     refine (O.mono (by omega)).mod ((Mod.refl (fun b=>b=ao (h.next+1)) aB).set (fun _=>rfl) _) fun b q e=>?_
     have:=O.base q
     rw [e,c'] at this
     omega
 · have nk:=eq_false aC
   simp +contextual only [nk,bM,fe,↓ab,ae,simprocAttr]
   exact ⟨⟨5,0,0,0,[]⟩,(by unfold qm;rw [if_pos (.inl aC)]),⟨.aw,rfl,no _⟩,Bu _⟩
def own (c:aU):Nat:=1+c.a.length+c.t.length+c.s.length / 100+lA c.a
inductive jV (F:aV→Prop) (h:ai):aU→List V→Prop
 | mk {k x n:Int} {s:List UInt8} {a:List At} {t:List Int} {l:List aU} {aX a6 az:V} {us:List (List V)} (bT:cj h 3 aX a.length (j9 a)) (aF:cj h 1 a6 t.length (cd t))
   (ba:wU az) (aL:cj h 7 az l.length us.flatten) (hu:us.length=l.length) (kids:∀(i:Nat) (c:aU) (u:List V),l[i]? =some c→us[i]? =some u→jV F h c u)
   (cX:∀b,aX.bb b→F b) (gy:∀b,a6.bb b→F b) (cw:∀b,az.bb b→F b):
   jV F h (.mk k x n s a t l) [.int .i64 k,.int .i64 x,.int .i64 n,.str s,aX,a6,az]
theorem jV.co {F:aV→Prop} {h:ai} {c:aU} {ah:List V} (H:jV F h c ah):ef h c ah:=by
 induction H with
 | mk bT aF ba aL hu kids cX gy cw bJ=>exact .mk bT aF ba aL hu bJ
theorem jV.mod {F iz M:aV→Prop} {h J:ai} (m:Mod M h J) (eS:∀b,F b→Old h b→¬M b∧iz b) {c:aU} {ah:List V} (H:jV F h c ah):jV iz J c ah:=by
 induction H with
 | mk bT aF ba aL hu kids cX gy cw bJ=>
   exact .mk (bT.mod m fun b q=>(eS b (cX b q) (bT.b5 q)).1) (aF.mod m fun b q=>(eS b (gy b q) (aF.b5 q)).1) ba (aL.mod m fun b q=>(eS b (cw b q) (aL.b5 q)).1) hu bJ
    (fun b q=>(eS b (cX b q) (bT.b5 q)).2) (fun b q=>(eS b (gy b q) (aF.b5 q)).2) (fun b q=>(eS b (cw b q) (aL.b5 q)).2)
theorem S5:bs.I2 ctx 100000 11 []=true:=by kernel_rfl
theorem xC (h:ai):bB Tryz.prog 11 [] h fun x J=>x=.bool true∧J=h:=
 ⟨_,_,Vy (fun E x ax=>by simpa only [Rel] using ax) ⟨_,Tryz.func11,by kernel_rfl⟩ (fun w hw=>age (C:=ctx) follows HX hw adw S5) h,rfl,rfl⟩
structure ag8 (A B:Nat) (ah us:List V) (g:ai):Prop where
 ail:A<g.next
 lL:B<g.next
 a:g.get (ao A)=.au ah 0 false
 b:g.get (ao B)=.au us 0 false
def o8 (l:List Int) (n:Int):Int:=match l.findIdx? (fun m=>decide (m=n)) with
 | some i=>i
 | none=>-1
theorem adt (m n:Int) (l:List Int):o8 (m::l) n=if m=n then 0 else if o8 l n=-1 then -1 else o8 l n+1:=by
 unfold o8
 rw [List.findIdx?_cons]
 by_cases h:m=n
 · simp [h]
 · simp only [h,decide_false,if_false,Bool.false_eq_true]
   cases l.findIdx? (fun m=>decide (m=n)) with
   | none=>simp
   | some i=>simp
theorem P4 (l:List Int) (n:Int) (v:V) (h:ai) (H:cj h 1 v l.length (cd l)) (aL:l.length≤4611686018427387904):
 bB Tryz.prog 76 [v,.int .i64 n] h fun x J=>x=.int .i64 (o8 l n)∧J=h:=by
 refine UI rfl (bO ?_)
 unfold Mm
 simp +contextual only [↓ab,ae,simprocAttr]
 refine fV (fun r J=>J=h∧r 0=v∧r 1=.int .i64 n∧∃i:Nat,r 5=.int .i64 i∧i≤l.length∧o8 l n=if o8 (l.drop i) n=-1 then -1 else o8 (l.drop i) n+i) (fun r J=>l.length - (r 5).gV) ?_ ?_
 · exact ⟨rfl,by simp only [↓ab,bf,simprocAttr],by simp only [↓ab,bf,simprocAttr],0,by simp only [↓ab,bf,simprocAttr]<;>rfl,by omega,by rw [List.drop_zero];split<;>omega⟩
 · rintro r J ⟨rfl,bm,aY,i,hz,aH,b8⟩
   unfold Mn
   have b6:=H.len
   by_cases a7:i<l.length
   · have bV:((i:Int) < (l.length:Int))=True:=eq_true (by omega)
     obtain ⟨b,o,b9,cG⟩:=ints_at H (k:=.i64) a7
     rw [List.drop_eq_getElem_cons a7,adt] at b8
     have w:=g4 a7 aL
     by_cases aC:l[i]=n
     · have e:=eq_true aC
       simp +contextual only [bm,aY,hz,b6,bV,b9,cG,e,↓ab,ae,simprocAttr]
       rw [b8,if_pos aC]
       simp
     · have e:=eq_false aC
       rw [if_neg aC] at b8
       simp +contextual only [bm,aY,hz,b6,bV,b9,cG,e,w,↓ab,ae,simprocAttr]
       refine ⟨⟨i+1,rfl,a7,?_⟩,by omega⟩
       rw [b8]
       by_cases aQ:o8 (l.drop (i+1)) n=-1
       · rw [if_pos aQ,if_pos aQ,if_pos rfl]
       · rw [if_neg aQ,if_neg aQ]
         have N8:0≤o8 (l.drop (i+1)) n:=by
          unfold o8 at aQ ⊢
          split<;>simp_all
         rw [if_neg (by omega)]
         omega
   · have bV:((i:Int) < (l.length:Int))=False:=eq_false (by omega)
     rw [List.drop_eq_nil_of_le (by omega)] at b8
     simp +contextual only [bm,aY,hz,b6,bV,↓ab,ae,simprocAttr]
     rw [b8]
     rfl
inductive JA (h:ai):(aV→Prop)→aU→List V→Prop
 | mk {F:aV→Prop} {k x n:Int} {s:List UInt8} {a:List At} {t:List Int} {l:List aU} {aX a6 az:V} {us:List (List V)} (G:Nat→aV→Prop) (bT:cn 0 h 3 aX a.length (j9 a)) (aF:cn 0 h 1 a6 t.length (cd t))
   (aL:cn 0 h 7 az l.length us.flatten) (hu:us.length=l.length) (kids:∀(i:Nat) (c:aU) (u:List V),l[i]? =some c→us[i]? =some u→JA h (G i) c u)
   (cX:∀b,aX.bb b→F b) (gy:∀b,a6.bb b→F b) (cw:∀b,az.bb b→F b) (Wn:∀i b,i<l.length→G i b→F b∧¬az.bb b∧¬aX.bb b∧¬a6.bb b)
   (dl:∀b,az.bb b→¬aX.bb b∧¬a6.bb b) (ahr:∀b,a6.bb b→¬aX.bb b) (ahs:∀i j b,i<l.length→j<l.length→i≠j→G i b→¬G j b):
   JA h F (.mk k x n s a t l) [.int .i64 k,.int .i64 x,.int .i64 n,.str s,aX,a6,az]
structure ahe (h:ai) (pm ta:aV) (f:Int→Int):Prop where
 aiq:Old h pm
 air:Old h ta
 ah3:h.get pm=.au [.map ta] 0 false
 sJ:rf h ta f
structure ahc (h:ai) (dR:List V) (c:aU) (agT:Int) (oi:V) (g:ai) (Ry wl:V):Prop where
 ext:Ext h g
 n:h.next+3≤g.next
 cD:g.get (ao h.next)=.au dR 0 false
 g8:g.get (ao (h.next+1))=.au [.int .i64 0,.int .i64 0,.int .i64 0,.str [],.aw,.aw,.aw] 0 false
 hE:g.get (ao (h.next+2))=.au [.int .i64 c.k,.int .i64 agT,.int .i64 c.n,.str c.s,Ry,oi,wl] 0 false
 aiu:cn (h.next+3) g 1 oi c.t.length (cd c.t)
 aht:∀b,oi.bb b→¬Ry.bb b∧¬wl.bb b
structure ahd (h:ai) (dR:List V) (g:ai):Prop where
 ext:Ext h g
 n:h.next+2≤g.next
 e5:g.get (ao h.next)=.au dR 0 false
 jr:g.get (ao (h.next+1))=.au [.int .i64 0,.int .i64 0,.int .i64 0,.str [],.aw,.aw,.aw] 0 false
def V7 (c:aU) (CL:Int):Int:=if qp c≠0 then qp c else if CL<0∨1048576-CL < (order c).length then 2 else 0
end Go.Proofs.YtjbiefneffiogaaGreat
namespace Go.Proofs.YtjbiefneffiogaaGreat
section
variable {g:Int→Int} (bl:∀a b,g a=g b→a=b)
include bl
end
section
variable (g:Int→Int)
end
section
variable {g:Int→Int} (bl:∀a b,g a=g b→a=b)
include bl
end
end Go.Proofs.YtjbiefneffiogaaGreat
namespace Go.Proofs.YtjbiefneffiogaaGreat
section
variable (f:Int→Int)
end
section
variable {g:Int→Int} (bl:∀a b,g a=g b→a=b)
include bl
end
section
variable (f:Int→Int)
end
section
variable {c:aU} {CL:Int} (hw:wt c≤400) (he:V7 c CL=0)
include hw he
end
end Go.Proofs.YtjbiefneffiogaaGreat
namespace Go.Proofs.YtjbiefneffiogaaGreat
def M' (n:Int):Prop:=n=0∨n=1∨n=6
structure ag_ (S T:av):Prop where
 read:S.read≤T.read
 out:S.out <+:T.out
 e6:M' S.e6→M' T.e6
section
variable (S:av)
end
end Go.Proofs.YtjbiefneffiogaaGreat
namespace Go.Proofs.YtjbiefneffiogaaGreat
open Go bs
def Lj:bK:=
 .seq (.ag [eo 2 0,eo 3 1,e9 4])
 (.seq (.ag [eP 5 2,aG 6 5,eP 7 3,aG 8 7,pq 9 6 8,aa 10 9,mB 11 2 10,dg 12 11 10,mB 13 3 10,dg 14 13 10,xh 15 12 14 10,c3 16 10 15,aa 17 16,m6 18 2 17,dg 19 18 17,m6 20 3 17,dg 21 20 17,xh 22 19 21 17,c3 23 17 22,aa 24 23,tK 25 2 24,dg 26 25 24,tK 27 3 24,dg 28 27 24,xh 29 26 28 24,c3 30 24 29,aa 31 30,nE 32 2 31,dg 33 32 31,nE 34 3 31,dg 35 34 31,⟨some 36,.call 17 [(.t 33),(.t 35)],(some (31,true)),[33,35,31]⟩,c3 37 31 36,aa 4 37])
 (.ret))
theorem T7:cz 15 38 [.t 4] Lj:=cA Tryz.func15 (by kernel_rfl) (by kernel_rfl) rfl (by kernel_rfl) (by kernel_rfl)
def Lw:bK:=
 .seq (.ag [e9 4])
 (.seq (.ag [aa 5 0,⟨some 6,.ju .str (.t 5),none,[5]⟩,aa 7 1,⟨some 8,.ju .str (.t 7),none,[7]⟩,⟨some 9,.bin (.str .eql) (.t 6) (.t 8),none,[6,8]⟩,aa 4 9])
 (.ret))
theorem Ua:cz 17 10 [.t 4] Lw:=cA Tryz.func17 (by kernel_rfl) (by kernel_rfl) rfl (by kernel_rfl) (by kernel_rfl)
def Ly:bK:=
 .seq (.ag [fg 4])
 (.seq (.seq (.ag [aa 5 1,⟨some 6,.bin (.int .lss) (.t 5) (.c (.int .i64 1)),none,[5]⟩])
 (.cond (.t 6)
 (.seq (.ag [fg 4])
 (.ret))
 (.skip)))
 (.seq (.ag [aa 7 0,aa 8 1,⟨some 9,.bin (.int .rem) (.t 7) (.t 8),none,[7,8]⟩,aa 0 9])
 (.seq (.seq (.ag [aa 10 0,B4 11 10])
 (.cond (.t 11)
 (.ag [aa 12 0,aa 13 1,vi 14 12 13,aa 0 14])
 (.skip)))
 (.seq (.ag [aa 15 0,aa 4 15])
 (.ret)))))
theorem Ub:cz 18 16 [.t 4] Ly:=cA Tryz.func18 (by kernel_rfl) (by kernel_rfl) rfl (by kernel_rfl) (by kernel_rfl)
def Lp:bK:=
 .seq (.ag [kA 2])
 (.seq (.ag [aa 3 0,⟨some 4,.build [(.int .i64 0),(.int .i64 0),(.str []),(.int .i64 0),(.int .i64 0),(.int .i64 0),(.str []),.aw,.aw,.aw,.cc,.aw,(.bool false)] [(0,1,(.c (.int .i64 1))),(1,1,(.t 3))],none,[3]⟩,eo 5 4,aa 2 5])
 (.ret))
theorem T4:cz 154 6 [.t 2] Lp:=cA Tryz.func154 (by kernel_rfl) (by kernel_rfl) rfl (by kernel_rfl) (by kernel_rfl)
def KN:bK:=
 .seq (.ag [kA 4])
 (.seq (.ag [aa 5 0,aa 6 1,⟨some 7,.build [(.int .i64 0),(.int .i64 0),(.str []),(.int .i64 0),(.int .i64 0),(.int .i64 0),(.str []),.aw,.aw,.aw,.cc,.aw,(.bool false)] [(0,1,(.c (.int .i64 4))),(1,1,(.t 5)),(11,1,(.t 6))],none,[5,6]⟩,eo 8 7,aa 4 8])
 (.ret))
theorem TC:cz 112 9 [.t 4] KN:=cA Tryz.func112 (by kernel_rfl) (by kernel_rfl) rfl (by kernel_rfl) (by kernel_rfl)
def Lq:bK:=
 .seq (.ag [fg 2])
 (.seq (.ag [aa 3 0,⟨some 4,.bin (.int .rem) (.t 3) (.c (.int .i64 2147483648)),none,[3]⟩,aa 0 4])
 (.seq (.seq (.ag [aa 5 0,⟨some 6,.bin (.int .gtr) (.t 5) (.c (.int .i64 1073741823)),none,[5]⟩])
 (.cond (.t 6)
 (.ag [aa 7 0,⟨some 8,.bin (.int .sub) (.t 7) (.c (.int .i64 2147483648)),none,[7]⟩,aa 0 8])
 (.skip)))
 (.seq (.seq (.ag [aa 9 0,⟨some 10,.bin (.int .lss) (.t 9) (.c (.int .i64 (-1073741824))),none,[9]⟩])
 (.cond (.t 10)
 (.ag [aa 11 0,⟨some 12,.bin (.int .add) (.t 11) (.c (.int .i64 2147483648)),none,[11]⟩,aa 0 12])
 (.skip)))
 (.seq (.ag [aa 13 0,aa 2 13])
 (.ret)))))
theorem T5:cz 156 14 [.t 2] Lq:=cA Tryz.func156 (by kernel_rfl) (by kernel_rfl) rfl (by kernel_rfl) (by kernel_rfl)
def Lo:bK:=
 .seq (.seq (.ag [aa 5 0,bC 6 5,eP 7 6,aG 8 7,aa 9 1,tJ 10 8 9])
 (.cond (.t 10)
 (.skip)
 (.exit 0)))
 (.block 1 (.ag [aa 11 0,bC 12 11,e' 13 12,aG 14 13,aa 0 14]))
def Ln:bK:=
 .seq (.ag [kA 4])
 (.seq (.block 0 (.loop Lo))
 (.seq (.ag [aa 15 0,bC 16 15,cO 17 16,aG 18 17,aa 4 18])
 (.ret)))
theorem T3:cz 153 19 [.t 4] Ln:=cA Tryz.func153 (by kernel_rfl) (by kernel_rfl) rfl (by kernel_rfl) (by kernel_rfl)
def KJ:bK:=
 .seq (.ag [eo 3 1,kA 4])
 (.seq (.seq (.ag [eP 5 3,aG 6 5])
 (.block 0 (.seq (.ag [ox 8 6,aa 7 8])
 (.cond (.t 7)
 (.seq (.draw [aa 9 0,bC 10 9,pr 11 10,aG 12 11,cO 13 3,aG 14 13,⟨some 15,.call 153 [(.t 12),(.t 14)],none,[12,14]⟩,aa 4 15] [(3,[6]),(5,[6])])
 (.ret))
 (.seq (.ag [nF 17 6,aa 16 17])
 (.cond (.t 16)
 (.seq (.ag [cO 18 3,aG 19 18,rm 20 19,aa 4 20])
 (.ret))
 (.skip)))))))
 (.seq (.ag [e' 21 3,aG 22 21,JR 23 22,eo 24 23,aa 4 24])
 (.ret)))
theorem Tz:cz 109 25 [.t 4] KJ:=cA Tryz.func109 (by kernel_rfl) (by kernel_rfl) rfl (by kernel_rfl) (by kernel_rfl)
def KO:bK:=
 .seq (.ag [aa 4 0,bC 5 4,kB 6 5,⟨none,.st 1 (.t 6) (.c (.bool true)),none,[6]⟩])
 (.ag [aa 7 0,aa 8 1,bC 9 7,e' 10 9,eP 11 10,⟨none,.st 1 (.t 11) (.t 8),none,[11,8]⟩])
theorem TD:cz 113 12 [] KO:=cA Tryz.func113 (by kernel_rfl) (by kernel_rfl) rfl (by kernel_rfl) (by kernel_rfl)
def KL:bK:=
 .seq (.seq (.ag [aa 5 0,bC 6 5,cO 7 6,aG 8 7,dQ 9 8,BE 10 9])
 (.cond (.t 10)
 (.skip)
 (.exit 0)))
 (.block 1 (.seq (.draw [aa 11 0,bC 12 11,cO 13 12,aG 14 13,aa 15 0,bC 16 15,cO 17 16,aG 18 17,dQ 19 18,jo 20 19,B6 21 14 20,⟨some 22,.gT 8 (.t 21),none,[21]⟩,JS 4,⟨none,.st 8 (.t 4) (.t 22),none,[4,22]⟩] [(3,[13]),(7,[13]),(11,[13])])
 (.seq (.draw [aa 23 0,aa 24 0,bC 25 24,cO 26 25,aG 27 26,aa 28 0,bC 29 28,cO 30 29,aG 31 30,dQ 32 31,jo 33 32,⟨some 34,.g2 8 (.t 27) none (some (.t 33)) none,none,[27,33]⟩,bC 35 23,cO 36 35,⟨none,.st 1 (.t 36) (.t 34),none,[36,34]⟩] [(4,[14]),(8,[14])])
 (.seq (.ag [eP 37 4,eP 38 37,aG 39 38,nF 40 39])
 (.cond (.t 40)
 (.seq (.ag [aa 41 0,eP 42 4,eQ 43 42,aG 44 43,y5 45 44,dc 46 45,bC 47 41,kV 48 47,⟨none,.st 7 (.t 48) (.t 46),none,[48,46]⟩])
 (.seq (.ag [aa 49 0,eP 50 4,cO 51 50,aG 52 51,aa 53 1,kB 54 4,aG 55 54,xj 56 52 53 55,eo 57 56,bC 58 49,pr 59 58,⟨none,.st 1 (.t 59) (.t 57),none,[59,57]⟩])
 (.ret)))
 (.skip))))))
def KK:bK:=
 .seq (.block 0 (.loop KL))
 (.ag [aa 60 0,⟨some 61,.call 113 [(.t 60),(.c (.int .i64 0))],none,[60]⟩])
theorem TA:cz 110 62 [] KK:=cA Tryz.func110 (by kernel_rfl) (by kernel_rfl) rfl (by kernel_rfl) (by kernel_rfl)
def KV:bK:=
 .seq (.seq (.ag [aa 5 0,bC 6 5,cO 7 6,aG 8 7,dQ 9 8,BE 10 9])
 (.cond (.t 10)
 (.skip)
 (.exit 0)))
 (.block 1 (.seq (.draw [aa 11 0,bC 12 11,cO 13 12,aG 14 13,aa 15 0,bC 16 15,cO 17 16,aG 18 17,dQ 19 18,jo 20 19,B6 21 14 20,⟨some 22,.gT 8 (.t 21),none,[21]⟩,JS 4,⟨none,.st 8 (.t 4) (.t 22),none,[4,22]⟩] [(3,[13]),(7,[13]),(11,[13])])
 (.seq (.draw [aa 23 0,aa 24 0,bC 25 24,cO 26 25,aG 27 26,aa 28 0,bC 29 28,cO 30 29,aG 31 30,dQ 32 31,jo 33 32,⟨some 34,.g2 8 (.t 27) none (some (.t 33)) none,none,[27,33]⟩,bC 35 23,cO 36 35,⟨none,.st 1 (.t 36) (.t 34),none,[36,34]⟩] [(4,[14]),(8,[14])])
 (.seq (.ag [eP 37 4,eP 38 37,aG 39 38,vk 40 39])
 (.cond (.t 40)
 (.seq (.ag [aa 41 0,eP 42 4,eQ 43 42,aG 44 43,y5 45 44,dc 46 45,bC 47 41,kV 48 47,⟨none,.st 7 (.t 48) (.t 46),none,[48,46]⟩])
 (.seq (.ag [aa 49 0,eP 50 4,cO 51 50,aG 52 51,aa 53 1,kB 54 4,aG 55 54,xj 56 52 53 55,eo 57 56,bC 58 49,pr 59 58,⟨none,.st 1 (.t 59) (.t 57),none,[59,57]⟩])
 (.ret)))
 (.skip))))))
def KU:bK:=
 .seq (.block 0 (.loop KV))
 (.seq (.seq (.ag [aa 60 1,bC 61 60,eP 62 61,aG 63 62,y_ 64 63])
 (.cond (.t 64)
 (.seq (.ag [aa 65 0,xp 66 65])
 (.ret))
 (.skip)))
 (.seq (.ag [aa 67 0,⟨some 68,.call 113 [(.t 67),(.c (.int .i64 1))],none,[67]⟩])
 (.ag [aa 69 0,aa 70 1,bC 71 70,cO 72 71,aG 73 72,bC 74 69,e' 75 74,cO 76 75,⟨none,.st 1 (.t 76) (.t 73),none,[76,73]⟩])))
theorem TH:cz 118 77 [] KU:=cA Tryz.func118 (by kernel_rfl) (by kernel_rfl) rfl (by kernel_rfl) (by kernel_rfl)
def qo:bK:=
 .seq (.ag [kA 6,e9 7])
 (.seq (.seq (.ag [aa 8 0])
 (.block 0 (.seq (.ag [⟨some 10,.bin (.str .eql) (.t 8) (.c (.str [97,100,100])),none,[8]⟩,aa 9 10])
 (.cond (.t 9)
 (.seq (.ag [aa 11 1,aa 12 2,vi 13 11 12,xq 14 13,rm 15 14,aa 6 15,m7 7])
 (.ret))
 (.seq (.ag [⟨some 17,.bin (.str .eql) (.t 8) (.c (.str [115,117,98])),none,[8]⟩,aa 16 17])
 (.cond (.t 16)
 (.seq (.ag [aa 18 1,aa 19 2,⟨some 20,.bin (.int .sub) (.t 18) (.t 19),none,[18,19]⟩,xq 21 20,rm 22 21,aa 6 22,m7 7])
 (.ret))
 (.seq (.ag [⟨some 24,.bin (.str .eql) (.t 8) (.c (.str [109,117,108])),none,[8]⟩,aa 23 24])
 (.cond (.t 23)
 (.seq (.ag [aa 25 1,aa 26 2,⟨some 27,.bin (.int .mul) (.t 25) (.t 26),none,[25,26]⟩,xq 28 27,rm 29 28,aa 6 29,m7 7])
 (.ret))
 (.seq (.ag [⟨some 31,.bin (.str .eql) (.t 8) (.c (.str [101,113])),none,[8]⟩,aa 30 31])
 (.cond (.t 30)
 (.seq (.ag [aa 32 1,aa 33 2,pq 34 32 33,⟨some 35,.call 170 [(.t 34)],none,[34]⟩,aa 6 35,m7 7])
 (.ret))
 (.seq (.ag [⟨some 37,.bin (.str .eql) (.t 8) (.c (.str [108,116])),none,[8]⟩,aa 36 37])
 (.cond (.t 36)
 (.seq (.ag [aa 38 1,aa 39 2,gn 40 38 39,⟨some 41,.call 170 [(.t 40)],none,[40]⟩,aa 6 41,m7 7])
 (.ret))
 (.seq (.ag [⟨some 43,.bin (.str .eql) (.t 8) (.c (.str [108,101])),none,[8]⟩,aa 42 43])
 (.cond (.t 42)
 (.seq (.ag [aa 44 1,aa 45 2,⟨some 46,.bin (.int .leq) (.t 44) (.t 45),none,[44,45]⟩,⟨some 47,.call 170 [(.t 46)],none,[46]⟩,aa 6 47,m7 7])
 (.ret))
 (.skip)))))))))))))))
 (.seq (.seq (.ag [aa 48 2,y3 49 48])
 (.cond (.t 49)
 (.seq (.ag [kA 6,e9 7])
 (.ret))
 (.skip)))
 (.seq (.seq (.ag [aa 50 0,⟨some 51,.bin (.str .eql) (.t 50) (.c (.str [100,105,118])),none,[50]⟩])
 (.cond (.t 51)
 (.seq (.ag [aa 52 1,aa 53 2,⟨some 54,.bin (.int .quo) (.t 52) (.t 53),none,[52,53]⟩,xq 55 54,rm 56 55,aa 6 56,m7 7])
 (.ret))
 (.skip)))
 (.seq (.ag [aa 57 1,aa 58 2,⟨some 59,.bin (.int .rem) (.t 57) (.t 58),none,[57,58]⟩,xq 60 59,rm 61 60,aa 6 61,m7 7])
 (.ret)))))
theorem rz:cz 159 62 [.t 6,.t 7] qo:=cA Tryz.func159 (by kernel_rfl) (by kernel_rfl) rfl (by kernel_rfl) (by kernel_rfl)
def Lx:bK:=
 .seq (.ag [kA 2])
 (.seq (.seq (.ag [aa 3 0])
 (.cond (.t 3)
 (.seq (.ag [⟨some 4,.call 112 [(.c (.int .i64 1)),(.c .aw)],none,[]⟩,aa 2 4])
 (.ret))
 (.skip)))
 (.seq (.ag [B7 5,aa 2 5])
 (.ret)))
theorem T_:cz 170 6 [.t 2] Lx:=cA Tryz.func170 (by kernel_rfl) (by kernel_rfl) rfl (by kernel_rfl) (by kernel_rfl)
def Lr:bK:=
 .seq (.ag [kA 2])
 (.seq (.ag [aa 3 0,JR 4 3,eo 5 4,aa 2 5])
 (.ret))
theorem T6:cz 157 6 [.t 2] Lr:=cA Tryz.func157 (by kernel_rfl) (by kernel_rfl) rfl (by kernel_rfl) (by kernel_rfl)
def KM:bK:=
 .seq (.seq (.ag [aa 11 7,aa 12 2,dQ 13 12,gn 14 11 13])
 (.cond (.t 14)
 (.skip)
 (.exit 0)))
 (.seq (.block 1 (.ag [aa 17 6,aa 18 2,aa 19 7,iB 20 18 19,aG 21 20,bC 22 21,eP 23 22,aG 24 23,oy 25 24,iC 26 17 25,aa 6 26]))
 (.ag [aa 15 7,fK 16 15,aa 7 16]))
def iM:bK:=
 .seq (.ag [⟨some 10,.h9 0 1 [(.int .i64 0)] [],none,[]⟩,aa 6 10])
 (.seq (.seq (.ag [fg 7])
 (.block 0 (.loop KM)))
 (.seq (.seq (.ag [aa 27 1,aa 28 6,⟨some 29,.call 155 [(.t 27),(.t 28)],none,[27,28]⟩,gD 30 29])
 (.cond (.t 30)
 (.seq (.ag [aa 31 0,xp 32 31])
 (.ret))
 (.skip)))
 (.seq (.ag [aa 33 1])
 (.block 2 (.seq (.ag [BT 60 33,aa 59 60])
 (.cond (.t 59)
 (.ag [aa 61 0,aa 62 2,fL 63 62,aG 64 63,bC 65 64,cO 66 65,aG 67 66,⟨some 68,.un .neg (.t 67),none,[67]⟩,xq 69 68,rm 70 69,l0 71 61 70])
 (.seq (.ag [BU 73 33,aa 72 73])
 (.cond (.t 72)
 (.seq (.seq (.draw [aa 74 0,bC 75 74,e' 76 75,e' 77 76,aG 78 77,aa 79 0,bC 80 79,eP 81 80,aG 82 81,dQ 83 82,pq 84 78 83] [])
 (.cond (.t 84)
 (.seq (.ag [aa 85 0,⟨some 86,.call 154 [(.c (.int .i64 (-1)))],none,[]⟩,l0 87 85 86])
 (.ret))
 (.skip)))
 (.seq (.ag [aa 88 0,bC 89 88,e' 90 89,e' 91 90,aG 92 91,fK 93 92,bC 94 88,e' 95 94,e' 96 95,⟨none,.st 1 (.t 96) (.t 93),none,[96,93]⟩])
 (.draw [aa 97 0,aa 98 0,bC 99 98,eP 100 99,aG 101 100,aa 102 0,bC 103 102,e' 104 103,e' 105 104,aG 106 105,jo 107 106,iB 108 101 107,aG 109 108,y' 110 109,rm 111 110,l0 112 97 111] [(4,[14]),(9,[14]),(12,[14]),(13,[14])])))
 (.seq (.ag [BV 114 33,aa 113 114])
 (.cond (.t 113)
 (.seq (.draw [aa 115 0,aa 116 0,bC 117 116,e' 118 117,kU 119 118,aG 120 119,aa 121 2,fL 122 121,aG 123 122,bC 124 123,cO 125 124,aG 126 125,⟨some 127,.bin (.int .and) (.t 126) (.c (.int .i64 255)),none,[126]⟩,B2 128 127,B3 129 128,iC 130 120 129,bC 131 115,e' 132 131,kU 133 132,⟨none,.st 1 (.t 133) (.t 130),none,[133,130]⟩] [(5,[15]),(8,[15]),(11,[15]),(13,[15])])
 (.ag [aa 134 0,B7 135,l0 136 134 135]))
 (.seq (.ag [BW 138 33,aa 137 138])
 (.cond (.t 137)
 (.seq (.draw [aa 139 0,aa 140 0,bC 141 140,e' 142 141,kU 143 142,aG 144 143,aa 145 2,fL 146 145,aG 147 146,bC 148 147,e' 149 148,aG 150 149,iC 151 144 150,bC 152 139,e' 153 152,kU 154 153,⟨none,.st 1 (.t 154) (.t 151),none,[154,151]⟩] [(5,[12]),(8,[12]),(11,[12])])
 (.ag [aa 155 0,B7 156,l0 157 155 156]))
 (.seq (.ag [BX 159 33,aa 158 159])
 (.cond (.t 158)
 (.ag [aa 160 0,aa 161 2,fL 162 161,aG 163 162,bC 164 163,e' 165 164,aG 166 165,⟨some 167,.len .str (.t 166),none,[166]⟩,rm 168 167,l0 169 160 168])
 (.seq (.ag [BY 171 33,aa 170 171])
 (.cond (.t 170)
 (.ag [aa 172 0,aa 173 2,fL 174 173,aG 175 174,bC 176 175,cO 177 176,aG 178 177,⟨some 179,.bin (.int .and) (.t 178) (.c (.int .i64 255)),none,[178]⟩,B2 180 179,B3 181 180,⟨some 182,.ju .str (.t 181),none,[181]⟩,⟨some 183,.call 157 [(.t 182)],none,[182]⟩,l0 184 172 183])
 (.seq (.seq (.ag [y7 186 33,aa 185 186])
 (.cond (.t 185)
 (.skip)
 (.seq (.ag [y9 187 33,aa 185 187])
 (.cond (.t 185)
 (.skip)
 (.ag [y8 188 33,aa 185 188])))))
 (.cond (.t 185)
 (.ag [aa 189 0,aa 190 1,aa 191 2,⟨some 192,.call 158 [(.t 189),(.t 190),(.t 191)],none,[189,190,191]⟩])
 (.seq (.ag [E5 194 33,aa 193 194])
 (.cond (.t 193)
 (.seq (.seq (.ag [aa 195 2,fL 196 195,aG 197 196,bC 198 197,cO 199 198,aG 200 199,BG 201 200,aa 202 201,hj 203 2 202,xm 204 203 202,gK 205 204 202,rl 206 205 202,⟨some 207,.cX 11 (.t 206),(some (202,false)),[206,202]⟩,gK 208 207 202,m5 209 208 202,⟨some 210,.bin (.int .neq) (.t 209) (.c (.int .i64 1)),(some (202,false)),[209,202]⟩,g6 211 202 210])
 (.cond (.t 211)
 (.seq (.ag [aa 212 0,xp 213 212])
 (.ret))
 (.skip)))
 (.seq (.draw [aa 214 2,fL 215 214,aG 216 215,bC 217 216,zd 218 217,aG 219 218,aa 220 2,lZ 221 220,aG 222 221,fL 223 219,⟨none,.st 1 (.t 223) (.t 222),none,[223,222]⟩] [(2,[10]),(5,[10]),(8,[10])])
 (.ag [aa 224 0,B7 225,l0 226 224 225])))
 (.seq (.draw [aa 35 1,aa 36 2,fL 37 36,aG 38 37,bC 39 38,cO 40 39,aG 41 40,aa 42 2,lZ 43 42,aG 44 43,bC 45 44,cO 46 45,aG 47 46,⟨some 48,.call 159 [(.t 35),(.t 41),(.t 47)],none,[35,41,47]⟩,aa 34 48,⟨some 49,.ext (.t 34) 0,none,[34]⟩,⟨some 50,.ext (.t 34) 1,none,[34]⟩,aa 8 49,aa 9 50] [(3,[13]),(6,[13]),(9,[13]),(12,[13])])
 (.seq (.seq (.ag [aa 51 9,gD 52 51])
 (.cond (.t 52)
 (.seq (.ag [aa 53 0,⟨some 54,.call 112 [(.c (.int .i64 1)),(.c .aw)],none,[]⟩,⟨some 55,.call 118 [(.t 53),(.t 54)],none,[53,54]⟩])
 (.ret))
 (.skip)))
 (.ag [aa 56 0,aa 57 8,l0 58 56 57])))))))))))))))))))))))
theorem lB:cz 111 227 [] iM:=cA Tryz.func111 (by kernel_rfl) (by kernel_rfl) rfl (by kernel_rfl) (by kernel_rfl)
def Co:bK:=
 .seq (.ag [aa 7 2,fL 8 7,aG 9 8,bC 10 9,e' 11 10,aG 12 11,aa 6 12])
 (.block 0 (.seq (.ag [aa 17 1,y8 18 17,aa 19 18,ep 20 6 19,xg 21 20 19,ep 22 2 19,su 23 22 19,dg 24 23 19,ss 25 24 19,m6 26 25 19,dg 27 26 19,xg 28 27 19,⟨some 29,.bin (.int .add) (.t 21) (.t 28),(some (19,true)),[21,28,19]⟩,EX 30 29 19,c3 31 19 30,aa 16 31])
 (.cond (.t 16)
 (.ag [aa 32 0,aa 33 6,aa 34 2,lZ 35 34,aG 36 35,bC 37 36,e' 38 37,aG 39 38,⟨some 40,.bin (.str .add) (.t 33) (.t 39),none,[33,39]⟩,⟨some 41,.call 157 [(.t 40)],none,[40]⟩,l0 42 32 41])
 (.seq (.ag [aa 44 1,y7 45 44,aa 46 45,ep 47 2 46,su 48 47 46,dg 49 48 46,ss 50 49 46,mB 51 50 46,dg 52 51 46,BS 53 52 46,c3 54 46 53,aa 55 54,ep 56 2 55,su 57 56 55,dg 58 57 55,ss 59 58 55,mB 60 59 55,dg 61 60 55,ep 62 6 55,xg 63 62 55,BP 64 61 63 55,c3 65 55 64,aa 43 65])
 (.cond (.t 43)
 (.ag [aa 66 0,aa 67 6,aa 68 2,lZ 69 68,aG 70 69,bC 71 70,cO 72 71,aG 73 72,⟨some 74,.uE (.t 67) (.t 73),none,[67,73]⟩,y' 75 74,rm 76 75,l0 77 66 76])
 (.seq (.draw [aa 79 1,y9 80 79,aa 81 80,ep 82 2 81,su 83 82 81,dg 84 83 81,ss 85 84 81,mB 86 85 81,dg 87 86 81,BS 88 87 81,c3 89 81 88,aa 90 89,ep 91 2 90,E' 92 91 90,dg 93 92 90,ss 94 93 90,mB 95 94 90,dg 96 95 90,BS 97 96 90,c3 98 90 97,aa 99 98,ep 100 2 99,su 101 100 99,dg 102 101 99,ss 103 102 99,mB 104 103 99,dg 105 104 99,ep 106 2 99,E' 107 106 99,dg 108 107 99,ss 109 108 99,mB 110 109 99,dg 111 110 99,⟨some 112,.bin (.int .add) (.t 105) (.t 111),(some (99,true)),[105,111,99]⟩,ep 113 6 99,xg 114 113 99,⟨some 115,.bin (.int .leq) (.t 112) (.t 114),(some (99,true)),[112,114,99]⟩,c3 116 99 115,aa 78 116] [])
 (.cond (.t 78)
 (.draw [aa 117 0,aa 118 6,aa 119 2,lZ 120 119,aG 121 120,bC 122 121,cO 123 122,aG 124 123,aa 125 2,lZ 126 125,aG 127 126,bC 128 127,cO 129 128,aG 130 129,aa 131 2,⟨some 132,.b9 1 (.t 131) (.c (.int .i64 2)),none,[131]⟩,aG 133 132,bC 134 133,cO 135 134,aG 136 135,vi 137 130 136,⟨some 138,.u3 (.t 118) (some (.t 124)) (some (.t 137)) none,none,[118,124,137]⟩,⟨some 139,.call 157 [(.t 138)],none,[138]⟩,l0 140 117 139] [(4,[22]),(7,[22]),(10,[22]),(13,[22]),(16,[22]),(19,[22])])
 (.ag [aa 13 0,⟨some 14,.call 112 [(.c (.int .i64 2)),(.c .aw)],none,[]⟩,⟨some 15,.call 118 [(.t 13),(.t 14)],none,[13,14]⟩]))))))))
theorem FH:cz 158 141 [] Co:=cA Tryz.func158 (by kernel_rfl) (by kernel_rfl) rfl (by kernel_rfl) (by kernel_rfl)
def kZ:bK:=
 .seq (.ag [e9 4])
 (.seq (.seq (.ag [aa 5 0])
 (.block 0 (.seq (.ag [BU 7 5,aa 6 7])
 (.cond (.t 6)
 (.seq (.ag [m7 4])
 (.ret))
 (.seq (.seq (.ag [BT 9 5,aa 8 9])
 (.cond (.t 8)
 (.skip)
 (.seq (.ag [BV 10 5,aa 8 10])
 (.cond (.t 8)
 (.skip)
 (.ag [BY 11 5,aa 8 11])))))
 (.cond (.t 8)
 (.seq (.ag [aa 12 1,fL 13 12,aG 14 13,ox 15 14,aa 4 15])
 (.ret))
 (.seq (.seq (.ag [BW 17 5,aa 16 17])
 (.cond (.t 16)
 (.skip)
 (.ag [BX 18 5,aa 16 18])))
 (.cond (.t 16)
 (.seq (.ag [aa 19 1,fL 20 19,aG 21 20,nF 22 21,aa 4 22])
 (.ret))
 (.seq (.ag [y7 24 5,aa 23 24])
 (.cond (.t 23)
 (.seq (.ag [aa 25 1,fL 26 25,aG 27 26,nF 28 27,aa 29 28,ep 30 1 29,su 31 30 29,dg 32 31 29,y6 33 32 29,c3 34 29 33,aa 4 34])
 (.ret))
 (.seq (.ag [y9 36 5,aa 35 36])
 (.cond (.t 35)
 (.seq (.ag [aa 37 1,fL 38 37,aG 39 38,nF 40 39,aa 41 40,ep 42 1 41,su 43 42 41,dg 44 43 41,y6 45 44 41,c3 46 41 45,aa 47 46,ep 48 1 47,E' 49 48 47,dg 50 49 47,y6 51 50 47,c3 52 47 51,aa 4 52])
 (.ret))
 (.seq (.ag [y8 54 5,aa 53 54])
 (.cond (.t 53)
 (.seq (.ag [aa 55 1,fL 56 55,aG 57 56,nF 58 57,aa 59 58,ep 60 1 59,su 61 60 59,dg 62 61 59,BM 63 62 59,c3 64 59 63,aa 4 64])
 (.ret))
 (.seq (.ag [E5 66 5,aa 65 66])
 (.cond (.t 65)
 (.seq (.ag [aa 67 1,fL 68 67,aG 69 68,BR 70 69,aa 4 70])
 (.ret))
 (.skip)))))))))))))))))
 (.seq (.ag [aa 71 1,fL 72 71,aG 73 72,ox 74 73,aa 75 74,ep 76 1 75,su 77 76 75,dg 78 77 75,y6 79 78 75,c3 80 75 79,aa 4 80])
 (.ret)))
theorem lC:cz 155 81 [.t 4] kZ:=cA Tryz.func155 (by kernel_rfl) (by kernel_rfl) rfl (by kernel_rfl) (by kernel_rfl)
def FE:bK:=
 .seq (.ag [eo 4 1])
 (.seq (.ag [⟨some 6,.gu (.c (.int .i64 4)),none,[]⟩])
 (.seq (.seq (.ag [eP 8 4,aG 9 8,y2 10 9])
 (.cond (.t 10)
 (.ag [BJ 6])
 (.skip)))
 (.seq (.draw [sq 11 4,aG 12 11,aa 13 2,bC 14 13,cO 15 14,aG 16 15,⟨some 17,.call 76 [(.t 12),(.t 16)],none,[12,16]⟩,aa 7 17] [(1,[6]),(5,[6])])
 (.seq (.seq (.ag [aa 18 7,B4 19 18])
 (.cond (.t 19)
 (.ag [sq 20 4,aG 21 20,dQ 22 21,aa 7 22])
 (.skip)))
 (.seq (.seq (.ag [aa 23 2,bC 24 23,eP 25 24,aG 26 25,aa 27 6,tJ 28 26 27,aa 29 28,hj 30 7 29,vf 31 4 29,gK 32 31 29,m5 33 32 29,zc 34 30 33 29,g6 35 29 34])
 (.cond (.t 35)
 (.seq (.ag [aa 36 0,xp 37 36])
 (.ret))
 (.skip)))
 (.ag [aa 38 0,eQ 39 4,aG 40 39,aa 41 7,j6 42 40 41,dc 43 42,bC 44 38,kV 45 44,⟨none,.st 7 (.t 45) (.t 43),none,[45,43]⟩]))))))
theorem KT:cz 117 46 [] FE:=cA Tryz.func117 (by kernel_rfl) (by kernel_rfl) rfl (by kernel_rfl) (by kernel_rfl)
def KR:bK:=
 .seq (.seq (.ag [aa 8 5,eQ 9 3,aG 10 9,dQ 11 10,jo 12 11,gn 13 8 12])
 (.cond (.t 13)
 (.skip)
 (.exit 0)))
 (.seq (.block 1 (.seq (.draw [eQ 16 3,aG 17 16,aa 18 5,j6 19 17 18,cO 20 19,aG 21 20,eQ 22 3,aG 23 22,aa 24 5,j6 25 23 24,eQ 26 25,aG 27 26,tN 28 27,dc 29 28,⟨some 30,.build [(.int .i64 0),(.int .i64 0),(.str []),(.int .i64 0),(.int .i64 0),(.int .i64 0),(.str []),.aw,.aw,.aw,.cc,.aw,(.bool false)] [(0,1,(.c (.int .i64 3))),(1,1,(.t 21)),(3,7,(.t 29))],none,[21,29]⟩,eo 31 30,aa 6 31] [(1,[17]),(5,[17]),(7,[17]),(11,[17]),(13,[17])])
 (.seq (.ag [aa 32 4,aa 33 6,xn 34 33,iC 35 32 34,aa 4 35])
 (.draw [aa 36 0,eQ 37 3,aG 38 37,aa 39 5,j6 40 38 39,e' 41 40,aG 42 41,aa 43 6,aa 44 0,bC 45 44,pr 46 45,aG 47 46,xj 48 42 43 47,eo 49 48,bC 50 36,pr 51 50,⟨none,.st 1 (.t 51) (.t 49),none,[51,49]⟩] [(2,[16]),(6,[16]),(11,[16])]))))
 (.ag [aa 14 5,fK 15 14,aa 5 15]))
def KS:bK:=
 .seq (.seq (.ag [aa 52 7,aa 53 4,dQ 54 53,gn 55 52 54])
 (.cond (.t 55)
 (.skip)
 (.exit 2)))
 (.seq (.block 3 (.draw [aa 58 4,aa 59 7,iB 60 58 59,aG 61 60,aa 62 0,bC 63 62,pr 64 63,aG 65 64,bC 66 61,⟨some 67,.cX 10 (.t 66),none,[66]⟩,⟨none,.st 1 (.t 67) (.t 65),none,[67,65]⟩] [(3,[10]),(7,[10])]))
 (.ag [aa 56 7,fK 57 56,aa 7 57]))
def KQ:bK:=
 .seq (.ag [eo 3 1])
 (.seq (.ag [jX 4])
 (.seq (.seq (.ag [fg 5])
 (.block 0 (.loop KR)))
 (.seq (.seq (.ag [fg 7])
 (.block 2 (.loop KS)))
 (.ag [aa 68 0,eQ 69 3,aG 70 69,eQ 71 3,aG 72 71,dQ 73 72,jo 74 73,j6 75 70 74,dc 76 75,bC 77 68,kV 78 77,⟨none,.st 7 (.t 78) (.t 76),none,[78,76]⟩]))))
theorem TG:cz 115 79 [] KQ:=cA Tryz.func115 (by kernel_rfl) (by kernel_rfl) rfl (by kernel_rfl) (by kernel_rfl)
def TF:bK:=
 .seq (.seq (.ag [aa 53 6,aa 54 1,bC 55 54,zd 56 55,aG 57 56,dQ 58 57,gn 59 53 58])
 (.cond (.t 59)
 (.skip)
 (.exit 0)))
 (.seq (.block 1 (.draw [aa 62 0,aa 63 6,⟨some 64,.bin (.int .add) (.c (.int .i64 1)) (.t 63),none,[63]⟩,aa 65 1,bC 66 65,zd 67 66,aG 68 67,aa 69 6,iB 70 68 69,aG 71 70,aa 72 0,bC 73 72,pr 74 73,aG 75 74,xj 76 64 71 75,eo 77 76,bC 78 62,pr 79 78,⟨none,.st 1 (.t 79) (.t 77),none,[79,77]⟩] [(6,[18]),(9,[18]),(13,[18])]))
 (.ag [aa 60 6,fK 61 60,aa 6 61]))
def KP:bK:=
 .seq (.seq (.ag [aa 7 1,bC 8 7,⟨some 9,.cX 12 (.t 8),none,[8]⟩,aG 10 9,gD 11 10])
 (.cond (.t 11)
 (.seq (.ag [aa 12 0,aa 13 1,bC 14 13,ov 15 14,dc 16 15,bC 17 12,kV 18 17,⟨none,.st 7 (.t 18) (.t 16),none,[18,16]⟩])
 (.seq (.draw [aa 19 0,aa 20 1,bC 21 20,cO 22 21,aG 23 22,aa 24 2,aa 25 1,bC 26 25,⟨some 27,.cX 10 (.t 26),none,[26]⟩,aG 28 27,xj 29 23 24 28,eo 30 29,bC 31 19,pr 32 31,⟨none,.st 1 (.t 32) (.t 30),none,[32,30]⟩] [(4,[14]),(9,[14])])
 (.ret)))
 (.skip)))
 (.seq (.draw [aa 33 0,aa 34 0,bC 35 34,⟨some 36,.cX 16 (.t 35),none,[35]⟩,aG 37 36,aa 38 1,bC 39 38,cO 40 39,aG 41 40,B6 42 37 41,cO 43 42,dc 44 43,bC 45 33,kV 46 45,⟨none,.st 7 (.t 46) (.t 44),none,[46,44]⟩] [(4,[14]),(8,[14]),(11,[14])])
 (.seq (.ag [aa 47 0,aa 48 2,⟨some 49,.build [(.int .i64 0),.cc,.cc] [(0,1,(.c (.int .i64 0))),(1,1,(.t 48))],none,[48]⟩,eo 50 49,bC 51 47,pr 52 51,⟨none,.st 1 (.t 52) (.t 50),none,[52,50]⟩])
 (.seq (.ag [fg 6])
 (.block 0 (.loop TF)))))
theorem TE:cz 114 80 [] KP:=cA Tryz.func114 (by kernel_rfl) (by kernel_rfl) rfl (by kernel_rfl) (by kernel_rfl)
def L5:bK:=
 .seq (.seq (.ag [aa 10 4,kU 11 2,aG 12 11,dQ 13 12,gn 14 10 13])
 (.cond (.t 14)
 (.skip)
 (.exit 0)))
 (.seq (.block 1 (.seq (.ag [aa 17 0,kU 18 2,aG 19 18,aa 20 4,vj 21 19 20,lx 22 21,⟨some 23,.call 109 [(.t 17),(.t 22)],none,[17,22]⟩,aa 5 23])
 (.ag [aa 24 3,aa 25 5,xn 26 25,iC 27 24 26,aa 3 27])))
 (.ag [aa 15 4,fK 16 15,aa 4 16]))
def L4:bK:=
 .seq (.ag [aa 6 0,bC 7 6,kV 8 7,dc 9 8,ou 2,⟨none,.st 7 (.t 2) (.t 9),none,[2,9]⟩])
 (.seq (.ag [jX 3])
 (.seq (.seq (.ag [fg 4])
 (.block 0 (.loop L5)))
 (.seq (.ag [eP 28 2,aG 29 28])
 (.block 2 (.seq (.ag [ox 31 29,aa 30 31])
 (.cond (.t 30)
 (.ag [aa 32 0,aa 33 3,fL 34 33,aG 35 34,l0 36 32 35])
 (.seq (.seq (.ag [nF 38 29,aa 37 38])
 (.cond (.t 37)
 (.skip)
 (.ag [vk 39 29,aa 37 39])))
 (.cond (.t 37)
 (.seq (.draw [aa 40 0,aa 41 0,bC 42 41,cO 43 42,aG 44 43,dc 45 2,aa 46 0,bC 47 46,pr 48 47,aG 49 48,⟨some 50,.build [(.int .i64 0),(.int .i64 0),(.int .i64 0),(.str []),.aw,.aw,.aw,.cc] [(0,7,(.t 45)),(7,1,(.t 49))],none,[45,49]⟩,⟨some 51,.h9 1 8 [(.int .i64 0),(.int .i64 0),(.int .i64 0),(.str []),.aw,.aw,.aw,.cc] [(0,8,(.t 50))],none,[50]⟩,⟨some 52,.app 8 (.t 44) (.t 51),none,[44,51]⟩,bC 53 40,cO 54 53,⟨none,.st 1 (.t 54) (.t 52),none,[54,52]⟩] [(4,[12]),(5,[12]),(9,[12])])
 (.ag [aa 55 0,eQ 56 2,aG 57 56,tN 58 57,dc 59 58,bC 60 55,kV 61 60,⟨none,.st 7 (.t 61) (.t 59),none,[61,59]⟩]))
 (.seq (.ag [xb 63 29,aa 62 63])
 (.cond (.t 62)
 (.ag [aa 64 0,ov 65 2,aG 66 65,aa 67 3,⟨some 68,.call 111 [(.t 64),(.t 66),(.t 67)],none,[64,66,67]⟩])
 (.seq (.ag [BR 70 29,aa 69 70])
 (.cond (.t 69)
 (.ag [aa 71 0,e' 72 2,aG 73 72,aa 74 3,⟨some 75,.call 112 [(.t 73),(.t 74)],none,[73,74]⟩,l0 76 71 75])
 (.seq (.ag [BK 78 29,aa 77 78])
 (.cond (.t 77)
 (.seq (.seq (.draw [aa 79 3,fL 80 79,aG 81 80,bC 82 81,eP 83 82,aG 84 83,y_ 85 84,aa 86 85,w_ 87 2 86,gK 88 87 86,hj 89 3 86,xm 90 89 86,gK 91 90 86,rl 92 91 86,⟨some 93,.cX 11 (.t 92),(some (86,false)),[92,86]⟩,gK 94 93 86,m5 95 94 86,zc 96 88 95 86,g6 97 86 96] [])
 (.cond (.t 97)
 (.seq (.ag [aa 98 0,xp 99 98])
 (.ret))
 (.skip)))
 (.draw [aa 100 0,aa 101 3,fL 102 101,aG 103 102,bC 104 103,zd 105 104,aG 106 105,e' 107 2,aG 108 107,iB 109 106 108,aG 110 109,l0 111 100 110] [(3,[11]),(6,[11]),(8,[11]),(10,[11])]))
 (.seq (.ag [E3 113 29,aa 112 113])
 (.cond (.t 112)
 (.seq (.seq (.ag [aa 114 3,fL 115 114,aG 116 115,bC 117 116,eP 118 117,aG 119 118,⟨some 120,.bin (.int .neq) (.t 119) (.c (.int .i64 3)),none,[119]⟩])
 (.cond (.t 120)
 (.seq (.ag [aa 121 0,xp 122 121])
 (.ret))
 (.skip)))
 (.draw [aa 123 0,aa 124 3,fL 125 124,aG 126 125,aa 127 3,lZ 128 127,aG 129 128,⟨some 130,.call 114 [(.t 123),(.t 126),(.t 129)],none,[123,126,129]⟩] [(3,[7]),(6,[7])]))
 (.seq (.ag [xc 132 29,aa 131 132])
 (.cond (.t 131)
 (.draw [aa 133 0,cO 134 2,aG 135 134,eQ 136 2,aG 137 136,tN 138 137,dc 139 138,aa 140 0,bC 141 140,pr 142 141,aG 143 142,⟨some 144,.build [(.int .i64 0),(.int .i64 0),(.str []),(.int .i64 0),(.int .i64 0),(.int .i64 0),(.str []),.aw,.aw,.aw,.cc,.aw,(.bool false)] [(0,1,(.c (.int .i64 3))),(1,1,(.t 135)),(3,7,(.t 139)),(10,1,(.t 143))],none,[135,139,143]⟩,eo 145 144,l0 146 133 145] [(2,[13]),(4,[13]),(6,[13]),(10,[13])])
 (.seq (.ag [xd 148 29,aa 147 148])
 (.cond (.t 147)
 (.ag [aa 149 0,dc 150 2,⟨some 151,.call 115 [(.t 149),(.t 150)],none,[149,150]⟩])
 (.seq (.ag [⟨some 153,.bin (.int .eql) (.t 29) (.c (.int .i64 13)),none,[29]⟩,aa 152 153])
 (.cond (.t 152)
 (.ag [aa 154 0,e' 155 2,aG 156 155,aa 157 3,⟨some 158,.build [(.int .i64 0),(.int .i64 0),(.str []),(.int .i64 0),(.int .i64 0),(.int .i64 0),(.str []),.aw,.aw,.aw,.cc,.aw,(.bool false)] [(0,1,(.c (.int .i64 3))),(1,1,(.t 156)),(11,1,(.t 157)),(12,1,(.c (.bool true)))],none,[156,157]⟩,eo 159 158,l0 160 154 159])
 (.seq (.ag [EP 162 29,aa 161 162])
 (.cond (.t 161)
 (.ag [aa 163 0,dc 164 2,aa 165 3,⟨some 166,.call 116 [(.t 163),(.t 164),(.t 165)],none,[163,164,165]⟩])
 (.seq (.seq (.ag [E4 168 29,aa 167 168])
 (.cond (.t 167)
 (.skip)
 (.ag [y2 169 29,aa 167 169])))
 (.cond (.t 167)
 (.draw [aa 170 0,dc 171 2,aa 172 3,fL 173 172,aG 174 173,⟨some 175,.call 117 [(.t 170),(.t 171),(.t 174)],none,[170,171,174]⟩] [(1,[5]),(4,[5])])
 (.seq (.ag [E1 177 29,aa 176 177])
 (.cond (.t 176)
 (.ag [aa 178 0,aa 179 3,fL 180 179,aG 181 180,⟨some 182,.call 118 [(.t 178),(.t 181)],none,[178,181]⟩])
 (.skip)))))))))))))))))))))))))))))
theorem Uv:cz 60 183 [] L4:=cA Tryz.func60 (by kernel_rfl) (by kernel_rfl) rfl (by kernel_rfl) (by kernel_rfl)
def Lb:bK:=
 .seq (.ag [eo 3 0,tO 6])
 (.seq (.seq (.ag [dc 7 3,⟨some 8,.call 21 [(.t 7)],none,[7]⟩,BG 9 8,aa 10 9,hj 11 2 10,E9 12 11 10,g6 13 10 12])
 (.cond (.t 13)
 (.seq (.ag [JQ 14,⟨none,.st 5 (.t 6) (.t 14),none,[6,14]⟩])
 (.ret))
 (.skip)))
 (.seq (.ag [dc 15 3,aa 16 1,aa 17 2,⟨some 18,.call 41 [(.t 15),(.c .aw),(.t 16),(.t 17)],none,[15,16,17]⟩,⟨none,.st 5 (.t 6) (.t 18),none,[6,18]⟩])
 (.ret)))
theorem T0:cz 14 19 [.k1 6 5] Lb:=cA Tryz.func14 (by kernel_rfl) (by kernel_rfl) rfl (by kernel_rfl) (by kernel_rfl)
def LK:bK:=
 .seq (.seq (.ag [aa 15 9,bC 16 15,kB 17 16,aG 18 17,gD 19 18,aa 20 19,ep 21 9 20,ss 22 21 20,m6 23 22 20,tK 24 23 20,dg 25 24 20,ep 26 3 20,BP 27 25 26 20,c3 28 20 27])
 (.cond (.t 28)
 (.skip)
 (.exit 0)))
 (.block 1 (.seq (.ag [aa 29 9,bC 30 29,e' 31 30,ov 32 31,aG 33 32,fK 34 33,bC 35 29,e' 36 35,ov 37 36,⟨none,.st 1 (.t 37) (.t 34),none,[37,34]⟩])
 (.ag [aa 38 9,⟨some 39,.call 60 [(.t 38)],none,[38]⟩])))
def LJ:bK:=
 .seq (.ag [eo 4 0,tO 8])
 (.seq (.ag [aa 10 2,dc 11 4,aa 12 1,⟨some 13,.build [.aw,.aw,(.int .i64 0),(.int .i64 0),(.int .i64 0),(.int .i64 0),.aw,(.bool false),(.int .i64 0),(.int .i64 0),(.int .i64 0),(.str []),.aw,.aw,.aw,.cc,.aw] [(0,1,(.t 10)),(8,7,(.t 11)),(16,1,(.t 12))],none,[10,11,12]⟩,eo 14 13,aa 9 14])
 (.seq (.block 0 (.loop LK))
 (.seq (.seq (.ag [aa 40 9,bC 41 40,kB 42 41,aG 43 42,gD 44 43])
 (.cond (.t 44)
 (.ag [aa 45 9,bC 46 45,e' 47 46,eP 48 47,⟨none,.st 1 (.t 48) (.c (.int .i64 4)),none,[48]⟩])
 (.skip)))
 (.seq (.ag [aa 49 9,bC 50 49,e' 51 50,xo 52 51,⟨none,.st 5 (.t 8) (.t 52),none,[8,52]⟩])
 (.ret)))))
theorem Uj:cz 41 53 [.k1 8 5] LJ:=cA Tryz.func41 (by kernel_rfl) (by kernel_rfl) rfl (by kernel_rfl) (by kernel_rfl)
theorem afo {h:ai} {v w:V} {n m:Nat} {a b:List UInt8} (dv:cj h 1 v n (dt a)) (RZ:cj h 1 w m (dt b)):bB Tryz.prog 17 [v,w] h fun x J=>x=.bool (decide (a=b))∧J=h:=by
 refine Ua rfl (bO ?_)
 unfold Lw
 simp +contextual only [MU dv,MU RZ,QM,↓ab,ae,simprocAttr]
theorem lz.open {B:Nat} {h:ai} {l:rn} {x:V} (H:lz B h l x):∃bj,x=.agg [.int .i64 l.e6,.int .i64 l.fp,.int .i64 l.read,.int .i64 l.steps,bj]∧cn B h 1 bj l.out.length (dt l.out)∧bj.one=true∧bj.cells=[bj]∧bj.e7=true:=by
 obtain ⟨bj,aP,aA⟩:=H
 exact ⟨bj,aP,aA,aA.v.one⟩
deriving instance DecidableEq for rn
set_option maxHeartbeats 1000000 in
theorem afp {h:ai} {B Bx:Nat} {l m:rn} {x y:V} (R0:lz B h l x) (R1:lz Bx h m y):bB Tryz.prog 15 [x,y] h fun z J=>z=.bool (decide (l=m))∧Ext h J:=by
 obtain ⟨v,rfl,V,mg⟩:=R0.open
 obtain ⟨w,rfl,W,dx⟩:=R1.open
 obtain ⟨bc,eI,lG,mU,aif⟩:=l
 obtain ⟨ym,Dw,gh,r0,Pe⟩:=m
 simp only at V W
 refine T7 rfl (bO ?_)
 unfold Lj
 have ck:Ext h ((h.new (.au [.int .i64 bc,.int .i64 eI,.int .i64 lG,.int .i64 mU,v] 0 false)).new (.au [.int .i64 ym,.int .i64 Dw,.int .i64 gh,.int .i64 r0,w] 0 false)):=((Ext.refl h).new _).new _
 by_cases ad:bc=ym
 rotate_left
 · have dZ:=eq_false ad
   simp +contextual only [mg.1,mg.2.1,dx.1,dx.2.1,dZ,↓ab,ae,simprocAttr]
   exact ⟨by simp [ad],ck⟩
 have dZ:=eq_true ad
 by_cases ak:eI=Dw
 rotate_left
 · have k4:=eq_false ak
   simp +contextual only [mg.1,mg.2.1,dx.1,dx.2.1,dZ,k4,↓ab,ae,simprocAttr]
   exact ⟨by simp [ak],ck⟩
 have k4:=eq_true ak
 by_cases aB:lG=gh
 rotate_left
 · have k5:=eq_false aB
   simp +contextual only [mg.1,mg.2.1,dx.1,dx.2.1,dZ,k4,k5,↓ab,ae,simprocAttr]
   exact ⟨by simp [aB],ck⟩
 have k5:=eq_true aB
 by_cases bw:mU=r0
 rotate_left
 · have l8:=eq_false bw
   simp +contextual only [mg.1,mg.2.1,dx.1,dx.2.1,dZ,k4,k5,l8,↓ab,ae,simprocAttr]
   exact ⟨by simp [bw],ck⟩
 have l8:=eq_true bw
 simp +contextual only [mg.1,mg.2.1,dx.1,dx.2.1,dZ,k4,k5,l8,↓ab,ae,simprocAttr]
 refine aS (afo (V.v.ext ck) (W.v.ext ck)) ?_
 rintro z ej ⟨rfl,rfl⟩
 simp +contextual only [↓ab,ae,simprocAttr]
 refine ⟨?_,ck⟩
 congr 1
 simp [ad,ak,aB,bw]
def jc:bK:=
 .seq (.ag [eo 3 0,e9 6])
 (.seq (.seq (.ag [dc 11 3,⟨some 12,.call 10 [(.t 11),(.c (.int .i64 400))],none,[11]⟩,aa 13 12,hj 14 1 13,m5 15 14 13,⟨some 16,.bin (.int .gtr) (.t 15) (.c (.int .i64 100)),(some (13,false)),[15,13]⟩,g6 17 13 16,aa 18 17,hj 19 2 18,⟨some 20,.bin (.int .gtr) (.t 19) (.c (.int .i64 2000)),(some (18,false)),[19,18]⟩,g6 21 18 20])
 (.cond (.t 21)
 (.seq (.ag [⟨some 22,.call 11 [],none,[]⟩,aa 6 22])
 (.ret))
 (.skip)))
 (.seq (.ag [dc 23 3,⟨some 24,.call 12 [(.t 23)],none,[23]⟩,⟨some 25,.h9 0 1 [(.int .u8 0)] [],none,[]⟩,aa 26 1,iC 27 25 26,ou 7,⟨none,.st 7 (.t 7) (.t 24),none,[7,24]⟩,aa 8 27])
 (.seq (.ag [dc 28 7,aa 29 8,aa 30 2,⟨some 31,.call 13 [(.t 28),(.t 29),(.t 30)],none,[28,29,30]⟩,tO 9,⟨none,.st 5 (.t 9) (.t 31),none,[9,31]⟩])
 (.seq (.ag [dc 32 3,aa 33 1,aa 34 2,⟨some 35,.call 14 [(.t 32),(.t 33),(.t 34)],none,[32,33,34]⟩,tO 10,⟨none,.st 5 (.t 10) (.t 35),none,[10,35]⟩])
 (.seq (.ag [xo 36 9,xo 37 10,⟨some 38,.call 15 [(.t 36),(.t 37)],none,[36,37]⟩,aa 39 38,ow 40 7 39,ow 41 3 39,⟨some 42,.call 16 [(.t 40),(.t 41)],(some (39,true)),[40,41,39]⟩,c3 43 39 42,aa 44 43,ep 45 8 44,ep 46 1 44,⟨some 47,.call 17 [(.t 45),(.t 46)],(some (44,true)),[45,46,44]⟩,c3 48 44 47,aa 49 48,⟨some 50,.call 11 [],(some (49,true)),[49]⟩,c3 51 49 50,aa 6 51])
 (.ret))))))
def j_:bK:=
 .seq (.ag [e9 8])
 (.seq (.seq (.ag [aa 18 1,⟨some 19,.bin (.int .lss) (.t 18) (.c (.int .i64 (-1073741824))),none,[18]⟩,aa 20 19,hj 21 1 20,⟨some 22,.bin (.int .gtr) (.t 21) (.c (.int .i64 1073741823)),(some (20,false)),[21,20]⟩,g6 23 20 22,aa 24 23,hj 25 2 24,⟨some 26,.bin (.int .lss) (.t 25) (.c (.int .i64 (-1073741824))),(some (24,false)),[25,24]⟩,g6 27 24 26,aa 28 27,hj 29 2 28,⟨some 30,.bin (.int .gtr) (.t 29) (.c (.int .i64 1073741823)),(some (28,false)),[29,28]⟩,g6 31 28 30,aa 32 31,hj 33 3 32,B5 34 33 32,⟨some 35,.bin (.int .gtr) (.t 34) (.c (.int .i64 4096)),(some (32,false)),[34,32]⟩,g6 36 32 35])
 (.cond (.t 36)
 (.seq (.ag [⟨some 37,.call 11 [],none,[]⟩,aa 8 37])
 (.ret))
 (.skip)))
 (.seq (.ag [⟨some 38,.h9 18 1 [(.str [])] [(0,1,(.c (.str [97,100,100]))),(1,1,(.c (.str [115,117,98]))),(2,1,(.c (.str [109,117,108]))),(3,1,(.c (.str [100,105,118]))),(4,1,(.c (.str [109,111,100]))),(5,1,(.c (.str [110,101,103]))),(6,1,(.c (.str [101,113]))),(7,1,(.c (.str [108,116]))),(8,1,(.c (.str [108,101]))),(9,1,(.c (.str [99,104,114]))),(10,1,(.c (.str [112,117,116,99]))),(11,1,(.c (.str [98,121,116,101]))),(12,1,(.c (.str [99,117,116]))),(13,1,(.c (.str [106,111,105,110]))),(14,1,(.c (.str [115,105,122,101]))),(15,1,(.c (.str [112,117,116,115]))),(16,1,(.c (.str [115,101,116]))),(17,1,(.c (.str [103,101,116,99])))],none,[]⟩,aa 9 38])
 (.seq (.ag [aa 39 9,aa 40 0,aa 41 9,dQ 42 41,⟨some 43,.call 18 [(.t 40),(.t 42)],none,[40,42]⟩,iB 44 39 43,aG 45 44,aa 10 45])
 (.seq (.ag [aa 46 1,JT 47 46,aa 48 2,JT 49 48,aa 50 3,⟨some 51,.build [(.int .i64 0),(.int .i64 0),(.str [])] [(0,1,(.c (.int .i64 3))),(2,1,(.t 50))],none,[50]⟩,xe 11,xe 12,xe 13,⟨none,.st 3 (.t 11) (.t 47),none,[11,47]⟩,⟨none,.st 3 (.t 12) (.t 49),none,[12,49]⟩,⟨none,.st 3 (.t 13) (.t 51),none,[13,51]⟩])
 (.seq (.ag [lx 52 11,lx 53 12,y0 54 52 53,aa 14 54])
 (.seq (.seq (.ag [aa 55 10])
 (.block 0 (.seq (.seq (.ag [BT 57 55,aa 56 57])
 (.cond (.t 56)
 (.skip)
 (.seq (.ag [BY 58 55,aa 56 58])
 (.cond (.t 56)
 (.skip)
 (.seq (.ag [BV 59 55,aa 56 59])
 (.cond (.t 56)
 (.skip)
 (.ag [BU 60 55,aa 56 60])))))))
 (.cond (.t 56)
 (.ag [lx 61 11,B8 62 61,aa 14 62])
 (.seq (.ag [y7 64 55,aa 63 64])
 (.cond (.t 63)
 (.ag [lx 65 13,lx 66 11,y0 67 65 66,aa 14 67])
 (.seq (.ag [y9 69 55,aa 68 69])
 (.cond (.t 68)
 (.ag [lx 70 13,lx 71 11,lx 72 12,⟨some 73,.h9 3 3 [(.int .i64 0),(.int .i64 0),(.str [])] [(0,3,(.t 70)),(3,3,(.t 71)),(6,3,(.t 72))],none,[70,71,72]⟩,aa 14 73])
 (.seq (.ag [y8 75 55,aa 74 75])
 (.cond (.t 74)
 (.ag [lx 76 13,lx 77 13,y0 78 76 77,aa 14 78])
 (.seq (.seq (.ag [BX 80 55,aa 79 80])
 (.cond (.t 79)
 (.skip)
 (.ag [BW 81 55,aa 79 81])))
 (.cond (.t 79)
 (.ag [lx 82 13,B8 83 82,aa 14 83])
 (.skip)))))))))))))
 (.seq (.ag [aa 84 10,aa 85 14,⟨some 86,.build [(.int .i64 0),(.int .i64 0),(.int .i64 0),(.str []),.aw,.aw,.aw] [(0,1,(.c (.int .i64 3))),(3,1,(.t 84)),(4,1,(.t 85))],none,[84,85]⟩,⟨some 87,.call 19 [],none,[]⟩,B9 88 86 87,⟨some 89,.build [(.int .i64 0),(.int .i64 0),(.int .i64 0),(.str []),.aw,.aw,.aw] [(0,1,(.c (.int .i64 2))),(1,1,(.c (.int .i64 1))),(6,1,(.t 88))],none,[88]⟩,ou 15,⟨none,.st 7 (.t 15) (.t 89),none,[15,89]⟩])
 (.seq (.draw [dc 90 15,⟨some 91,.h9 1 1 [(.int .u8 0)] [(0,1,(.c (.int .u8 7)))],none,[]⟩,dc 93 15,⟨some 94,.h9 1 1 [(.int .u8 0)] [(0,1,(.c (.int .u8 7)))],none,[]⟩,tO 16,tO 17,⟨some 92,.call 13 [(.t 90),(.t 91),(.c (.int .i64 40))],none,[90,91]⟩,⟨some 95,.call 14 [(.t 93),(.t 94),(.c (.int .i64 40))],none,[93,94]⟩,⟨none,.st 5 (.t 16) (.t 92),none,[16,92]⟩,⟨none,.st 5 (.t 17) (.t 95),none,[17,95]⟩] [(0,[6]),(2,[6,7])])
 (.seq (.ag [xo 96 16,xo 97 17,⟨some 98,.call 15 [(.t 96),(.t 97)],none,[96,97]⟩,aa 99 98,⟨some 100,.call 11 [],(some (99,true)),[99]⟩,c3 101 99 100,aa 8 101])
 (.ret))))))))))
theorem Up:cz 4 102 [.t 8] j_:=cA Tryz.func4 (by kernel_rfl) (by kernel_rfl) rfl (by kernel_rfl) (by kernel_rfl)
def LA:bK:=
 .seq (.seq (.ag [aa 11 3,⟨some 12,.bin (.int .geq) (.t 11) (.c (.int .i64 1)),none,[11]⟩])
 (.cond (.t 12)
 (.skip)
 (.exit 0)))
 (.seq (.block 1 (.seq (.ag [aa 15 3,E_ 16 15,jo 17 16,JU 18 17,⟨some 19,.build [(.int .i64 0),(.int .i64 0),(.str [])] [(0,1,(.c (.int .i64 2))),(1,1,(.c (.int .i64 256)))],none,[]⟩,y0 20 18 19,⟨some 21,.build [(.int .i64 0),(.int .i64 0),(.int .i64 0),(.str []),.aw,.aw,.aw] [(0,1,(.c (.int .i64 3))),(3,1,(.c (.str [100,105,118]))),(4,1,(.t 20))],none,[20]⟩,ou 4,⟨none,.st 7 (.t 4) (.t 21),none,[4,21]⟩])
 (.seq (.ag [aa 22 3,E_ 23 22,jo 24 23,JU 25 24,B8 26 25,JV 27 26,ou 5,⟨none,.st 7 (.t 5) (.t 27),none,[5,27]⟩])
 (.ag [aa 28 3,⟨some 29,.bin (.int .add) (.c (.int .i64 20)) (.t 28),none,[28]⟩,dc 30 5,aa 31 3,E_ 32 31,dc 33 4,dc 34 2,B9 35 33 34,JW 36 32 35,B9 37 30 36,JW 38 29 37,⟨none,.st 7 (.t 2) (.t 38),none,[2,38]⟩]))))
 (.ag [aa 13 3,jo 14 13,aa 3 14]))
def Lz:bK:=
 .seq (.ag [ou 0])
 (.seq (.ag [⟨some 7,.build [(.int .i64 0),(.int .i64 0),(.str [])] [(0,1,(.c (.int .i64 1))),(1,1,(.c (.int .i64 1)))],none,[]⟩,xe 1,⟨none,.st 3 (.t 1) (.t 7),none,[1,7]⟩])
 (.seq (.ag [⟨some 8,.build [(.int .i64 0),(.int .i64 0),(.str [])] [(0,1,(.c (.int .i64 1))),(1,1,(.c (.int .i64 9)))],none,[]⟩,B8 9 8,JV 10 9,ou 2,⟨none,.st 7 (.t 2) (.t 10),none,[2,10]⟩])
 (.seq (.seq (.ag [⟨some 3,.gu (.c (.int .i64 3)),none,[]⟩])
 (.block 0 (.loop LA)))
 (.seq (.ag [lx 39 1,⟨some 40,.build [(.int .i64 0),(.int .i64 0),(.str [])] [(0,1,(.c (.int .i64 2)))],none,[]⟩,y0 41 39 40,⟨some 42,.build [(.int .i64 0),(.int .i64 0),(.int .i64 0),(.str []),.aw,.aw,.aw] [(0,1,(.c (.int .i64 3))),(3,1,(.c (.str [97,100,100]))),(4,1,(.t 41))],none,[41]⟩,ou 6,⟨none,.st 7 (.t 6) (.t 42),none,[6,42]⟩])
 (.seq (.ag [dc 43 6,dc 44 2,B9 45 43 44,⟨some 46,.build [(.int .i64 0),(.int .i64 0),(.int .i64 0),(.str []),.aw,.aw,.aw] [(0,1,(.c (.int .i64 2))),(1,1,(.c (.int .i64 6))),(6,1,(.t 45))],none,[45]⟩,⟨none,.st 7 (.t 0) (.t 46),none,[0,46]⟩])
 (.ret))))))
theorem Uc:cz 19 47 [.k1 0 7] Lz:=cA Tryz.func19 (by kernel_rfl) (by kernel_rfl) rfl (by kernel_rfl) (by kernel_rfl)
structure Has (h:ai) (n:Nat) (l:List V):Prop where
 lt:n<h.next
 g:h.get (ao n)=.au l 0 false
theorem Has.ext {h J:ai} {n:Nat} {l:List V} (B:Has h n l) (e:Ext h J):Has J n l:=⟨Nat.lt_of_lt_of_le B.lt e.next,(e.get _ (dP B.lt)).trans B.g⟩
theorem xF (h:ai) (l:List V):∃H,h.new (.au l 0 false)=H∧Ext h H∧Has H h.next l:=⟨_,rfl,(Ext.refl h).new _,by rw [cY];omega,gz _⟩
theorem xG (h:ai) (z l:List V):∃H,(h.new (.au z 0 false)).set (ao h.next) (.au l 0 false)=H∧Ext h H∧Has H h.next l:=
 ⟨_,rfl,((Ext.refl h).new _).set (Nat.le_refl _) _,by rw [hf,cY];omega,by rw [dB,if_pos rfl]⟩
def sA:mF where
 Fk aj v cw bZ cs:=match v with
  | .int n=>cs=[.int .i64 1,.int .i64 n,.str [],.int .i64 0,.int .i64 0,.int .i64 0,.str [],.aw,.aw,.aw,.cc,.aw,.bool false]
  | .text s=>cs=[.int .i64 2,.int .i64 0,.str s,.int .i64 0,.int .i64 0,.int .i64 0,.str [],.aw,.aw,.aw,.cc,.aw,.bool false]
  | .fn x c _=>∃a t l,ef aj c [.int .i64 c.k,.int .i64 c.x,.int .i64 c.n,.str c.s,a,t,l]∧cs=[.int .i64 3,.int .i64 x,.str [],.int .i64 c.k,.int .i64 c.x,.int .i64 c.n,.str c.s,a,t,l,bZ,.aw,.bool false]
  | .df t _=>cs=[.int .i64 4,.int .i64 t,.str [],.int .i64 0,.int .i64 0,.int .i64 0,.str [],.aw,.aw,.aw,.cc,cw,.bool false]
 xu aj a p u:=∃d' lj aX a6 az,ef aj d' [.int .i64 d'.k,.int .i64 d'.x,.int .i64 d'.n,.str d'.s,aX,a6,az]∧d'.k=(if a.jT=true then 11 else 2)∧d'.x=a.x∧d'.l=[lj,a.c]∧u=[.int .i64 d'.k,.int .i64 d'.x,.int .i64 d'.n,.str d'.s,aX,a6,az,p]
 nA:=8
 i' _ _ _:=True
 lay _ _ _ _ _ _ _ _ _ _ _:=[]
def o9:eF→Option (List V)
 | .int n=>some [.int .i64 1,.int .i64 n,.str [],.int .i64 0,.int .i64 0,.int .i64 0,.str [],.aw,.aw,.aw,.cc,.aw,.bool false]
 | .text s=>some [.int .i64 2,.int .i64 0,.str s,.int .i64 0,.int .i64 0,.int .i64 0,.str [],.aw,.aw,.aw,.cc,.aw,.bool false]
 | .df t []=>some [.int .i64 4,.int .i64 t,.str [],.int .i64 0,.int .i64 0,.int .i64 0,.str [],.aw,.aw,.aw,.cc,.aw,.bool false]
 | _=>none
structure ee (aj h:ai) (an:aV) (K:fl) (aq:List aV) (aO pm:V) (S:av) (steps:Int) (aX a6 az bZ b4 bj:V):Prop where
 rep:hR sA aj h K aq S.st
 dp:K an=.n2
 get:h.get an=.au [aO,b4,.int .i64 S.e6,.int .i64 S.fp,.int .i64 S.read,.int .i64 steps,bj,.bool S.fJ,.int .i64 S.c.k,.int .i64 S.c.x,.int .i64 S.c.n,.str S.c.s,aX,a6,az,bZ,.aw] 0 false
 co:ef aj S.c [.int .i64 S.c.k,.int .i64 S.c.x,.int .i64 S.c.n,.str S.c.s,aX,a6,az]
 dy:ev h K aq bZ S.e
 wr:mH sA aj h K aq S.w b4
 de:qh aj h K S.out bj
def dW (aj h:ai) (an:aV) (K:fl) (aq:List aV) (aO pm:V) (S:av) (steps:Int):Prop:=∃aX a6 az bZ b4 bj,ee aj h an K aq aO pm S steps aX a6 az bZ b4 bj
theorem ef.parts {aj:ai} {c:aU} {a t l:V} (H:ef aj c [.int .i64 c.k,.int .i64 c.x,.int .i64 c.n,.str c.s,a,t,l]):cj aj 3 a c.a.length (j9 c.a)∧cj aj 1 t c.t.length (cd c.t)∧i_ aj c.l l:=by
 obtain ⟨cC,ph,hd,e,q⟩:=H.open
 simp only [List.cons.injEq,true_and,and_true] at e
 obtain ⟨rfl,rfl,rfl⟩:=e
 exact q
theorem i_.pC {aj:ai} {l:List aU} {v:V} (H:i_ aj l v) {k:IntKind} {i:Nat} (aH:i<l.length):∃b off a t m,e8 7 v (.int k i)=some (.ptr b off)∧ef aj l[i] [.int .i64 l[i].k,.int .i64 l[i].x,.int .i64 l[i].n,.str l[i].s,a,t,m]∧Old aj b∧
 ∀J,Ext aj J→jl 7 (J.get b) off=some (.agg [.int .i64 l[i].k,.int .i64 l[i].x,.int .i64 l[i].n,.str l[i].s,a,t,m])∧hU (J.get b) (off+1)=some (.int .i64 l[i].x)∧hU (J.get b) (off+2)=some (.int .i64 l[i].n)∧hU (J.get b) (off+6)=some m:=by
 obtain ⟨ba,us,ad,ak,aB⟩:=H
 have oT:=i_.lens ak aB
 have Ad:i<us.length:=by omega
 have hu:=List.getElem?_eq_getElem Ad
 obtain ⟨b,off,aI,bo⟩:=ad.b9 (k:=k) aH
 have ar:=CJ us i _ oT hu
 have hJ:=xT us oT
 have aC:=aB i _ _ (List.getElem?_eq_getElem aH) hu
 obtain ⟨a,t,m,YT,_⟩:=aC.open
 rw [YT] at aC ar
 have oQ:=fun (J:ai) (e:Ext aj J) (j:Nat) (bQ:j<7)=>(bo.ext e).cell ar (by omega) bQ
 refine ⟨b,off+i * 7,a,t,m,aI,aC,bo.1,fun J e=>⟨?_,oQ J e 1 (by omega),oQ J e 2 (by omega),oQ J e 6 (by omega)⟩⟩
 rw [(bo.ext e).gT (i:=i * 7) (n:=7) (by omega),ar]
section
variable {aj h J:ai} {an:aV} {K aK:fl} {d_:oB→Prop} {aq aJ:List aV} {aO pm:V} {S cR:av} {steps mq:Int} {aX a6 az bZ b4 bj sk oi sm fS ft jA:V}
theorem ee.next (M:ee aj h an K aq aO pm S steps aX a6 az bZ b4 bj) (cR:av) (mq:Int) (sk oi sm fS ft jA:V) (di:cR.st=S.st) (vM:ef aj cR.c [.int .i64 cR.c.k,.int .i64 cR.c.x,.int .i64 cR.c.n,.str cR.c.s,sk,oi,sm]) (vO:ev h K aq fS cR.e) (wb:mH sA aj h K aq cR.w ft) (km:qh aj h K cR.out jA):
 ee aj (h.set an (.au [aO,ft,.int .i64 cR.e6,.int .i64 cR.fp,.int .i64 cR.read,.int .i64 mq,jA,.bool cR.fJ,.int .i64 cR.c.k,.int .i64 cR.c.x,.int .i64 cR.c.n,.str cR.c.s,sk,oi,sm,fS,.aw] 0 false)) an K aq aO pm cR mq sk oi sm fS ft jA:=by
 have a1:=M.rep.new an (by rw [M.dp];simp)
 have t:c8 aj K h aq K (h.set an (.au [aO,ft,.int .i64 cR.e6,.int .i64 cR.fp,.int .i64 cR.read,.int .i64 mq,jA,.bool cR.fJ,.int .i64 cR.c.k,.int .i64 cR.c.x,.int .i64 cR.c.n,.str cR.c.s,sk,oi,sm,fS,.aw] 0 false)) aq (·=.n2):=c8.td M.dp a1.1
 refine ⟨?_,M.dp,by rw [dB,if_pos rfl],vM,vO.cu t (by simp),wb.cu t (by simp) (by simp),km.cu t (by simp)⟩
 rw [di]
 exact M.rep.cu t (by simp) (by simp) (by simp)
theorem ee.cu (M:ee aj h an K aq aO pm S steps aX a6 az bZ b4 bj) (t:c8 aj K h aq aK J aq d_) (ad:∀i,¬d_ (.val i)) (ak:∀i,¬d_ (.lE i)) (aB:¬d_ .env) (bw:¬d_ .n2) (ej:¬d_ .jU) (gA:¬d_ .out):ee aj J an aK aq aO pm S steps aX a6 az bZ b4 bj:=by
 have hm:K an≠.no:=by rw [M.dp];simp
 exact ⟨M.rep.cu t ad ak aB,by rw [t.role an hm,M.dp],by rw [t.get an hm (by rw [M.dp];exact bw),M.get],M.co,M.dy.cu t aB,M.wr.cu t ej aB,M.de.cu t gA⟩
theorem ee.b5 (M:ee aj h an K aq aO pm S steps aX a6 az bZ b4 bj):aj.next≤cx an∧cx an<h.next:=M.rep.new an (by rw [M.dp];simp)
theorem ee.ext (M:ee aj h an K aq aO pm S steps aX a6 az bZ b4 bj) (e:Ext h J):ee aj J an K aq aO pm S steps aX a6 az bZ b4 bj:=by
 refine M.cu (d_:=fun _=>False) (c8.Ia e (fun b af=>(M.rep.new b af).2) M.rep.ext.next) ?_ ?_ ?_ ?_ ?_ ?_<;>simp
theorem ee.tmp (M:ee aj h an K aq aO pm S steps aX a6 az bZ b4 bj) {b:aV} {k:cL} (af:K b=.no) (fj:aj.next≤cx b):ee aj (h.set b k) an K aq aO pm S steps aX a6 az bZ b4 bj:=by
 refine M.cu (c8.uP af fj) ?_ ?_ ?_ ?_ ?_ ?_<;>simp
theorem ee.env (M:ee aj h an K aq aO pm S steps aX a6 az bZ b4 bj) (e:Ext h J) {b:aV} (af:h.next≤cx b) (bA:Old J b) {x:Int} {j:Nat} {p:V} {L:ig} (bl:J.get b=.au [.int .i64 x,cV aq j,p] 0 false) (aQ:ev h K aq p L) (bQ:j<aq.length):
 ∃aK,ee aj J an aK aq aO pm S steps aX a6 az bZ b4 bj∧ev J aK aq (.ptr b 0) ((x,j)::L)∧c8 aj K h aq aK J aq (fun _=>False):=by
 have t:=M.rep.role e (fun q=>q=b) .env [] (fun q aZ=>by subst aZ;exact ⟨af,bA⟩)
 rw [List.append_nil] at t
 refine ⟨jF K (fun q=>q=b) .env,?_,.cons (mD rfl) bl bQ (aQ.cu t id),t⟩
 refine M.cu t ?_ ?_ ?_ ?_ ?_ ?_<;>simp
theorem ee.lay {aK:fl} {aJ:List aV} {cR:av} {mq:Int} {sk oi sm fS ft jA:V} (R:hR sA aj J aK aJ cR.st) (dp:aK an=.n2) (vM:ef aj cR.c [.int .i64 cR.c.k,.int .i64 cR.c.x,.int .i64 cR.c.n,.str cR.c.s,sk,oi,sm]) (vO:ev J aK aJ fS cR.e) (wb:mH sA aj J aK aJ cR.w ft) (km:qh aj J aK cR.out jA):
 ee aj (J.set an (.au [aO,ft,.int .i64 cR.e6,.int .i64 cR.fp,.int .i64 cR.read,.int .i64 mq,jA,.bool cR.fJ,.int .i64 cR.c.k,.int .i64 cR.c.x,.int .i64 cR.c.n,.str cR.c.s,sk,oi,sm,fS,.aw] 0 false)) an aK aJ aO pm cR mq sk oi sm fS ft jA:=by
 have a1:=R.new an (by rw [dp];simp)
 have t:c8 aj aK J aJ aK (J.set an (.au [aO,ft,.int .i64 cR.e6,.int .i64 cR.fp,.int .i64 cR.read,.int .i64 mq,jA,.bool cR.fJ,.int .i64 cR.c.k,.int .i64 cR.c.x,.int .i64 cR.c.n,.str cR.c.s,sk,oi,sm,fS,.aw] 0 false)) aJ (·=.n2):=c8.td dp a1.1
 exact ⟨R.cu t (by simp) (by simp) (by simp),dp,by rw [dB,if_pos rfl],vM,vO.cu t (by simp),wb.cu t (by simp) (by simp),km.cu t (by simp)⟩
theorem ee.wrote (M:ee aj h an K aq aO pm S steps aX a6 az bZ b4 bj) {v:V} {out:List UInt8} (c0:cn aj.next J 1 v out.length (dt out)) (hm:Mod bj.bb h J) (af:∀b,v.bb b→bj.bb b∨h.next≤cx b):
 ∃aK,ee aj (J.set an (.au [aO,b4,.int .i64 S.e6,.int .i64 S.fp,.int .i64 S.read,.int .i64 steps,v,.bool S.fJ,.int .i64 S.c.k,.int .i64 S.c.x,.int .i64 S.c.n,.str S.c.s,aX,a6,az,bZ,.aw] 0 false)) an aK aq aO pm {S with out:=out} steps aX a6 az bZ b4 v:=by
 have t:c8 aj K h aq (jF K (fun b=>v.bb b∧h.next≤cx b) .out) J aq (·=.out):=by
  refine ⟨hm.next,fun b ew=>?_,fun b ew iR=>?_,fun b ew aC=>?_,fun b ew=>?_,[],by simp⟩
  · exact mC fun q=>ew (M.rep.tmp q.2)
  · by_cases q:v.bb b∧h.next≤cx b
    · exact ⟨q.2,c0.v.b5 q.1⟩
    · rw [mC q] at iR;exact absurd ew iR
  · exact hm.get b (M.rep.new b ew).2 fun q=>aC (M.de.2 b q)
  · refine hm.get b (Nat.lt_of_lt_of_le ew M.rep.ext.next) fun q=>?_
    have:=M.de.1.base q
    omega
 have kK:K an≠.no:=by rw [M.dp];simp
 refine ⟨_,ee.lay (cR:={S with out:=out}) (M.rep.cu t (by simp) (by simp) (by simp)) (by rw [t.role an kK,M.dp]) M.co (M.dy.cu t (by simp)) (M.wr.cu t (by simp) (by simp)) ⟨c0,fun b q=>?_⟩⟩
 rcases af b q with r | r
 · have:=M.de.2 b r
   rw [t.role b (by rw [this];simp),this]
 · exact mD ⟨q,r⟩
theorem ee.zS (M:ee aj h an K aq aO pm S steps aX a6 az bZ b4 bj) (hm:Mod bj.bb h J):J.get an=h.get an:=by
 refine hm.get an M.b5.2 fun q=>?_
 have:=M.de.2 an q
 rw [M.dp] at this
 cases this
theorem ee.r3 (M:ee aj h an K aq aO pm S steps aX a6 az bZ b4 bj) {P:aV→Prop} (m:Mod P h J) (jx:∀b,P b→K b=.no∧aj.next≤cx b):ee aj J an K aq aO pm S steps aX a6 az bZ b4 bj:=by
 refine M.cu (M.rep.r3 m jx) ?_ ?_ ?_ ?_ ?_ ?_<;>simp
theorem ee.make (M:ee aj h an K aq aO pm S steps aX a6 az bZ b4 bj) {x:V} {cs:List V} (F:gX h J x cs) {v:eF} (bh:o9 v=some cs):
 ∃aK aJ,ee aj J an aK aJ aO pm (S.fW v) steps aX a6 az bZ b4 bj∧x=cV aJ S.st.length∧S.st.length<aJ.length∧c8 aj K h aq aK J aJ (fun _=>False):=by
 obtain ⟨b,rfl,e,af,bA,bl⟩:=F
 have t:=M.rep.role e (fun q=>q=b) (.val S.st.length) [b] (fun q aZ=>by subst aZ;exact ⟨af,bA⟩)
 have ji:dX (aq++[b]) S.st.length=b:=by
  unfold dX
  rw [List.getD_eq_getElem?_getD,List.getElem?_append_right (by rw [M.rep.len];exact Nat.le_refl _),M.rep.len,Nat.sub_self]
  rfl
 have fi:hR sA aj J (jF K (fun q=>q=b) (.val S.st.length)) (aq++[b]) (S.fW v).st:=by
  refine M.rep.push t (by simp) (by simp) (by simp) ?_
  refine ⟨by rw [ji];exact mD rfl,.aw,.cc,cs,by rw [ji];exact bl,?_,?_,?_⟩
  · cases v with
    | int n=>simp only [o9,Option.some.injEq] at bh;exact bh.symm
    | text n=>simp only [o9,Option.some.injEq] at bh;exact bh.symm
    | fn _ _ _=>cases bh
    | df t bg=>cases bg<;>simp only [o9,Option.some.injEq,reduceCtorEq] at bh;exact bh.symm
  · cases v<;>first | trivial | skip
    rename_i t bg
    cases bg<;>simp only [o9,Option.some.injEq,reduceCtorEq] at bh
    exact ⟨⟨rfl,rfl⟩,fun b q=>q.elim,fun j q=>by cases q⟩
  · cases v<;>first | trivial | cases bh
 have hm:K an≠.no:=by rw [M.dp];simp
 have E:=M.dy.cu t id
 have W:=M.wr.cu t id id
 have O:=M.de.cu t id
 refine ⟨_,_,⟨fi,by rw [t.role an hm,M.dp],by rw [t.get an hm id,M.get];rfl,M.co,E,W,O⟩,by unfold cV;rw [ji],by rw [List.length_append,M.rep.len];simp,t⟩
theorem ee.p8 (M:ee aj h an K aq aO pm S steps aX a6 az bZ b4 bj) (dd:∀b,K b≠.no→aK b=K b) (a1:∀b,aK b≠.no→aj.next≤cx b∧cx b<h.next):ee aj h an aK aq aO pm S steps aX a6 az bZ b4 bj:=by
 obtain ⟨us,aP,aA,a2,b'⟩:=M.wr
 refine ⟨M.rep.p8 dd a1,by rw [dd _ (by rw [M.dp];simp),M.dp],M.get,M.co,M.dy.p8 dd,⟨us,aP,fun b af=>by rw [dd _ (by rw [aA b af];simp),aA b af],a2,fun i a u aI bo=>?_⟩,M.de.1,fun b af=>by rw [dd _ (by rw [M.de.2 b af];simp),M.de.2 b af]⟩
 obtain ⟨bt,b1,p,a3,a4⟩:=b' i a u aI bo
 exact ⟨bt,b1,p,a3,a4.p8 dd⟩
theorem ee.val (M:ee aj h an K aq aO pm S steps aX a6 az bZ b4 bj) {j:Nat} (bQ:j<aq.length):∃cw k x n s a t l hT,h.get (dX aq j)=.au [.int .i64 (cP (S.val j)),.int .i64 (dD (S.val j)),.str (e3 (S.val j)),k,x,n,s,a,t,l,hT,cw,.bool false] 0 false∧K (dX aq j)=.val j∧
 ri aj h K aq j (S.val j) cw∧∀y c e,S.val j=.fn y c e→k=.int .i64 c.k∧x=.int .i64 c.x∧n=.int .i64 c.n∧s=.str c.s∧ef aj c [.int .i64 c.k,.int .i64 c.x,.int .i64 c.n,.str c.s,a,t,l]∧ev h K aq hT e:=by
 have vS:j<S.st.length:=by rw [←M.rep.len];exact bQ
 obtain ⟨k,cw,bZ,cs,g,v,f,e⟩:=M.rep.val j _ (av.Ep vS)
 generalize bh:S.val j=zj at *
 cases zj with
 | int n=>cases v;exact ⟨_,_,_,_,_,_,_,_,_,g,k,trivial,fun _ _ _ q=>by cases q⟩
 | text s=>cases v;exact ⟨_,_,_,_,_,_,_,_,_,g,k,trivial,fun _ _ _ q=>by cases q⟩
 | fn x c L=>obtain ⟨a,t,l,aP,rfl⟩:=v;exact ⟨_,_,_,_,_,_,_,_,_,g,k,trivial,fun _ _ _ q=>by cases q;exact ⟨rfl,rfl,rfl,rfl,aP,e⟩⟩
 | df t bg=>cases v;exact ⟨_,_,_,_,_,_,_,_,_,g,k,f,fun _ _ _ q=>by cases q⟩
theorem ee.oH (M:ee aj h an K aq aO pm S steps aX a6 az bZ b4 bj) {j:Nat} (bQ:j<aq.length):Old h (dX aq j)∧dX aq j≠an:=by
 obtain ⟨_,_,_,_,_,_,_,_,_,_,k,_⟩:=M.val bQ
 refine ⟨(M.rep.new _ (by rw [k];simp)).2,fun q=>?_⟩
 have:=M.dp
 rw [←q,k] at this
 cases this
theorem ee.arg (M:ee aj h an K aq aO pm S steps aX a6 az bZ b4 bj) {bu:List Nat} {w2:V} (A:ek h aq bu w2) (n:Int) (i j:Nat) (a1:n=i) (bQ:bu[i]? =some j):
 j<aq.length∧∃b o cw aP aA a2 b' da eh eE hT,e8 1 w2 (.int .i64 n)=some (.ptr b o)∧ri aj h K aq j (S.val j) cw∧∀J,Ext h J→hU (J.get b) o=some (.ptr (dX aq j) 0)∧J.get (dX aq j)=.au [.int .i64 (cP (S.val j)),.int .i64 (dD (S.val j)),.str (e3 (S.val j)),aP,aA,a2,b',da,eh,eE,hT,cw,.bool false] 0 false:=by
 subst a1
 have aH:i<bu.length:=(List.getElem?_eq_some_iff.1 bQ).1
 have ca:bu.getD i 0=j:=by rw [List.getD_eq_getElem?_getD,bQ];rfl
 obtain ⟨b,o,aI,bo,cp⟩:=A.at (k:=.i64) aH
 rw [ca] at bo cp
 obtain ⟨cw,aP,aA,a2,b',da,eh,eE,hT,g,_,q,_⟩:=M.val cp
 refine ⟨cp,b,o,cw,aP,aA,a2,b',da,eh,eE,hT,aI,q,fun J e=>⟨bo J e,?_⟩⟩
 rw [e.get _ (M.oH cp).1,g]
theorem ee.AJ (M:ee aj h an K aq aO pm S steps aX a6 az bZ b4 bj) {x:Int} {tT sf uG hT y:V} {c:aU} {e:ig} (F:gX h J y [.int .i64 3,.int .i64 x,.str [],.int .i64 c.k,.int .i64 c.x,.int .i64 c.n,.str c.s,tT,sf,uG,hT,.aw,.bool false]) (af:ef aj c [.int .i64 c.k,.int .i64 c.x,.int .i64 c.n,.str c.s,tT,sf,uG]) (al:ev h K aq hT e):
 ∃aK aJ,ee aj J an aK aJ aO pm (S.fW (.fn x c e)) steps aX a6 az bZ b4 bj∧y=cV aJ S.st.length∧S.st.length<aJ.length∧c8 aj K h aq aK J aJ (fun _=>False):=by
 obtain ⟨b,rfl,aI,qE,bA,bl⟩:=F
 have t:=M.rep.role aI (fun q=>q=b) (.val S.st.length) [b] (fun q aZ=>by subst aZ;exact ⟨qE,bA⟩)
 have ji:dX (aq++[b]) S.st.length=b:=by
  unfold dX
  rw [List.getD_eq_getElem?_getD,List.getElem?_append_right (by rw [M.rep.len];exact Nat.le_refl _),M.rep.len,Nat.sub_self]
  rfl
 have fi:hR sA aj J (jF K (fun q=>q=b) (.val S.st.length)) (aq++[b]) (S.fW (.fn x c e)).st:=by
  refine M.rep.push t (by simp) (by simp) (by simp) ?_
  exact ⟨by rw [ji];exact mD rfl,.aw,hT,_,by rw [ji];exact bl,⟨tT,sf,uG,af,rfl⟩,trivial,al.cu t id⟩
 have hm:K an≠.no:=by rw [M.dp];simp
 have E:=M.dy.cu t id
 have W:=M.wr.cu t id id
 have O:=M.de.cu t id
 refine ⟨_,_,⟨fi,by rw [t.role an hm,M.dp],by rw [t.get an hm id,M.get];rfl,M.co,E,W,O⟩,by unfold cV;rw [ji],by rw [List.length_append,M.rep.len];simp,t⟩
theorem ee.HQ (M:ee aj h an K aq aO pm S steps aX a6 az bZ b4 bj) {t:Int} {bg:List Nat} {cw y:V} (F:gX h J y [.int .i64 4,.int .i64 t,.str [],.int .i64 0,.int .i64 0,.int .i64 0,.str [],.aw,.aw,.aw,.cc,cw,.bool false]) (hJ:cn aj.next h 1 cw bg.length (bg.map (cV aq))) (hn:∀b,cw.bb b→K b=.no) (jL:∀j ∈ bg,j<aq.length):
 ∃aK aJ,ee aj J an aK aJ aO pm (S.fW (.df t bg)) steps aX a6 az bZ b4 bj∧y=cV aJ S.st.length∧S.st.length<aJ.length:=by
 obtain ⟨b,rfl,aI,qE,bA,bl⟩:=F
 have gf:ee aj h an (jF K (fun q=>cw.bb q) (.lE S.st.length)) aq aO pm S steps aX a6 az bZ b4 bj:=by
  refine M.p8 (fun c aC=>mC fun q=>aC (hn c q)) fun c aC=>?_
  by_cases q:cw.bb c
  · exact ⟨hJ.base q,hJ.v.b5 q⟩
  · rw [mC q] at aC;exact M.rep.new c aC
 have GC:∀c,cw.bb c→(jF K (fun q=>cw.bb q) (.lE S.st.length)) c=.lE S.st.length:=fun c q=>mD q
 generalize jF K (fun q=>cw.bb q) (.lE S.st.length)=jq at *
 have t1:=gf.rep.role aI (fun q=>q=b) (.val S.st.length) [b] (fun q aZ=>by subst aZ;exact ⟨qE,bA⟩)
 have ji:dX (aq++[b]) S.st.length=b:=by
  unfold dX
  rw [List.getD_eq_getElem?_getD,List.getElem?_append_right (by rw [M.rep.len];exact Nat.le_refl _),M.rep.len,Nat.sub_self]
  rfl
 have fi:hR sA aj J (jF jq (fun q=>q=b) (.val S.st.length)) (aq++[b]) (S.fW (.df t bg)).st:=by
  refine gf.rep.push t1 (by simp) (by simp) (by simp) ?_
  have qA:ri aj h jq aq S.st.length (.df t bg) cw:=⟨hJ,GC,jL⟩
  exact ⟨by rw [ji];exact mD rfl,cw,.cc,_,by rw [ji];exact bl,rfl,qA.cu t1 id,trivial⟩
 have hm:jq an≠.no:=by rw [gf.dp];simp
 have E:=gf.dy.cu t1 id
 have W:=gf.wr.cu t1 id id
 have O:=gf.de.cu t1 id
 exact ⟨_,_,⟨fi,by rw [t1.role an hm,gf.dp],by rw [t1.get an hm id,gf.get];rfl,gf.co,E,W,O⟩,by unfold cV;rw [ji],by rw [List.length_append,M.rep.len];simp⟩
theorem ee.waited (M:ee aj h an K aq aO pm S steps aX a6 az bZ b4 bj) {v p tT sf uG:V} {d' lj:aU} {a:jZ} {us:List V} (aZ:ef aj d' [.int .i64 d'.k,.int .i64 d'.x,.int .i64 d'.n,.str d'.s,tT,sf,uG]) (al:d'.k=(if a.jT=true then 11 else 2)) (ax:d'.x=a.x) (aL:d'.l=[lj,a.c]) (aQ:ev h K aq p a.e) (Hi:cn aj.next h 8 b4 S.w.length us)
 (c0:cn aj.next J 8 v (S.w.length+1) (us++[.int .i64 d'.k,.int .i64 d'.x,.int .i64 d'.n,.str d'.s,tT,sf,uG,p])) (hm:Mod b4.bb h J) (af:∀b,v.bb b→b4.bb b∨h.next≤cx b) (hu:∃nz:List (List V),us=nz.flatten∧nz.length=S.w.length∧∀(i:Nat) (a:jZ) (u:List V),S.w.reverse[i]? =some a→nz[i]? =some u→u.length=8∧gv u=true∧∃p,sA.xu aj a p u∧ev h K aq p a.e):
 ∃aK,ee aj (J.set an (.au [aO,v,.int .i64 S.e6,.int .i64 S.fp,.int .i64 S.read,.int .i64 steps,bj,.bool S.fJ,.int .i64 S.c.k,.int .i64 S.c.x,.int .i64 S.c.n,.str S.c.s,aX,a6,az,bZ,.aw] 0 false)) an aK aq aO pm {S with w:=a::S.w} steps aX a6 az bZ v bj:=by
 have Az:∀b,b4.bb b→K b=.jU:=by obtain ⟨_,_,aA,_⟩:=M.wr;exact aA
 have t:c8 aj K h aq (jF K (fun b=>v.bb b∧h.next≤cx b) .jU) J aq (·=.jU):=by
  refine ⟨hm.next,fun b ew=>?_,fun b ew iR=>?_,fun b ew aC=>?_,fun b ew=>?_,[],by simp⟩
  · exact mC fun q=>ew (M.rep.tmp q.2)
  · by_cases q:v.bb b∧h.next≤cx b
    · exact ⟨q.2,c0.v.b5 q.1⟩
    · rw [mC q] at iR;exact absurd ew iR
  · exact hm.get b (M.rep.new b ew).2 fun q=>aC (Az b q)
  · refine hm.get b (Nat.lt_of_lt_of_le ew M.rep.ext.next) fun q=>?_
    have:=Hi.base q
    omega
 have kK:K an≠.no:=by rw [M.dp];simp
 obtain ⟨nz,rfl,g3,gk⟩:=hu
 have op:=aQ.one
 have c5:=aZ.parts
 refine ⟨_,ee.lay (cR:={S with w:=a::S.w}) (M.rep.cu t (by simp) (by simp) (by simp)) (by rw [t.role an kK,M.dp]) M.co (M.dy.cu t (by simp)) ⟨nz++[[.int .i64 d'.k,.int .i64 d'.x,.int .i64 d'.n,.str d'.s,tT,sf,uG,p]],?_,fun b r=>?_,by simp [g3],fun i cC u aI bo=>?_⟩ (M.de.cu t (by simp))⟩
 · rw [Ny];exact c0
 · rcases af b r with s | s
   · have:=Az b s
     rw [t.role b (by rw [this];simp),this]
   · exact mD ⟨r,s⟩
 · simp only [List.reverse_cons] at aI
   by_cases aH:i<nz.length
   · rw [List.getElem?_append_left aH] at bo
     rw [List.getElem?_append_left (by rw [List.length_reverse];omega)] at aI
     obtain ⟨bx,fC,nt,om,p_⟩:=gk i cC u aI bo
     exact ⟨bx,fC,nt,om,p_.cu t (by simp)⟩
   · have qH:i=nz.length:=by
      have:=(List.getElem?_eq_some_iff.1 bo).1
      simp only [List.length_append,List.length_cons,List.length_nil] at this
      omega
     subst qH
     rw [List.getElem?_append_right (Nat.le_refl _),Nat.sub_self] at bo
     rw [List.getElem?_append_right (by rw [List.length_reverse];omega),List.length_reverse,g3,Nat.sub_self] at aI
     simp only [List.getElem?_cons_zero,Option.some.injEq] at aI bo
     subst aI bo
     exact ⟨rfl,by simp only [gv,c5.1.one.1,c5.2.1.one.1,c5.2.2.one.1,op.1,Bool.and_self];rfl,p,⟨d',lj,tT,sf,uG,aZ,al,ax,aL,rfl⟩,aQ.cu t (by simp)⟩
end
end Go.Proofs.YtjbiefneffiogaaGreat
namespace Go.Proofs.YtjbiefneffiogaaGreat
open Go bs
theorem ad7 (h:ai) (K:fl) (aq:List aV) (n:Int) (p:V) (L:ig) (H:ev h K aq p L) (a1:n ∈ L.map Prod.fst):bB Tryz.prog 153 [p,.int .i64 n] h fun x J=>x=cV aq (mn L n)∧J=h∧mn L n<aq.length:=by
 refine T3 rfl (bO ?_)
 unfold Ln
 simp +contextual only [↓ab,ae,simprocAttr]
 refine fV (fun r J=>J=h∧r 1=.int .i64 n∧∃M,ev h K aq (r 0) M∧n ∈ M.map Prod.fst∧mn M n=mn L n) (fun r J=>sN h K aq (r 0)) ?_ ?_
 · exact ⟨rfl,by simp only [↓ab,bf,simprocAttr],L,by simpa only [↓ab,bf,simprocAttr] using H,a1,rfl⟩
 · rintro r J ⟨rfl,aY,M,yY,eS,aM⟩
   unfold Lo
   generalize aZ:r 0=q at *
   have aL:=yY.sN
   cases yY with
   | nil=>simp at eS
   | @cons b m j nt tP dd bl bQ ba=>
     have nW:=ba.sN
     by_cases e:m=n
     · subst e
       simp +contextual only [aY,aZ,bl,↓ab,ae,simprocAttr]
       simp only [mn,if_true] at aM
       rw [←aM]
       exact ⟨rfl,bQ⟩
     · have fM:=eq_false e
       simp +contextual only [aY,aZ,bl,fM,↓ab,ae,simprocAttr]
       simp only [mn,if_neg e] at aM
       simp only [List.map_cons,List.mem_cons] at eS
       refine ⟨⟨tP,ba,?_,aM⟩,?_⟩
       · rcases eS with eS | eS
         · exact absurd eS.symm e
         · exact eS
       · rw [aL,nW,List.length_cons];omega
theorem q' (h:ai) (n:Int):bB Tryz.prog 154 [.int .i64 n] h fun x J=>gX h J x [.int .i64 1,.int .i64 n,.str [],.int .i64 0,.int .i64 0,.int .i64 0,.str [],.aw,.aw,.aw,.cc,.aw,.bool false]:=by
 refine T4 rfl (bO ?_)
 unfold Lp
 simp +contextual only [↓ab,ae,simprocAttr]
 exact pI _ _
theorem ob (h:ai) (n:Int) (v:V) (bh:v.one=true∧v.cells=[v]∧v.e7=true):bB Tryz.prog 112 [.int .i64 n,v] h fun x J=>gX h J x [.int .i64 4,.int .i64 n,.str [],.int .i64 0,.int .i64 0,.int .i64 0,.str [],.aw,.aw,.aw,.cc,v,.bool false]:=by
 refine TC rfl (bO ?_)
 unfold KN
 simp +contextual only [bh.1,bh.2.1,bh.2.2,↓ab,ae,simprocAttr]
 exact pI _ _
theorem IG (h:ai) (s:List UInt8):bB Tryz.prog 157 [.str s] h fun x J=>gX h J x [.int .i64 2,.int .i64 0,.str s,.int .i64 0,.int .i64 0,.int .i64 0,.str [],.aw,.aw,.aw,.cc,.aw,.bool false]:=by
 refine T6 rfl (bO ?_)
 unfold Lr
 simp +contextual only [↓ab,ae,simprocAttr]
 exact pI _ _
theorem IH (h:ai) (b:Bool):bB Tryz.prog 170 [.bool b] h fun x J=>gX h J x [.int .i64 4,.int .i64 (if b=true then 1 else 0),.str [],.int .i64 0,.int .i64 0,.int .i64 0,.str [],.aw,.aw,.aw,.cc,.aw,.bool false]:=by
 refine T_ rfl (bO ?_)
 unfold Lx
 cases b with
 | true=>
   simp +contextual only [↓ab,ae,simprocAttr]
   refine aS (ob h 1 .aw ⟨rfl,rfl,rfl⟩) ?_
   rintro x ad H
   simp +contextual only [↓ab,ae,simprocAttr]
   exact H
 | false=>
   simp +contextual only [↓ab,ae,simprocAttr]
   refine aS (ob h 0 .aw ⟨rfl,rfl,rfl⟩) ?_
   rintro x ad H
   simp +contextual only [↓ab,ae,simprocAttr]
   exact H
theorem yF (n:Int) (h:ai) (a1:-2305843009213693952≤n∧n≤2305843009213693952):lr Tryz.prog 156 [.int .i64 n] h (.int .i64 (wr n)) h:=by
 refine tk (T5 rfl (bO ?_))
 unfold Lq
 have k:(e4.int .rem).run Tryz.prog (.int .i64 n) (.int .i64 2147483648)=some (.int .i64 (n.tmod 2147483648)):=Dm .i64 n 2147483648 (by decide)
 have hm:n.tmod 2147483648=n % 2147483648∨n.tmod 2147483648=n % 2147483648-2147483648:=by
  rw [Int.tmod_eq_emod]
  split
  · left;omega
  · right;simp
 have GR:-2147483648<n.tmod 2147483648∧n.tmod 2147483648<2147483648:=by
  have ad:(n.tmod 2147483648).natAbs<2147483648:=by rw [Int.natAbs_tmod];exact Nat.mod_lt _ (by decide)
  omega
 generalize n.tmod 2147483648=m at *
 by_cases ad:1073741823<m
 · have dZ:=eq_true ad
   have dH:IntKind.i64.wrap (m-2147483648)=m-2147483648:=wrap_i64 (by omega) (by omega)
   have k4:(m-2147483648 < -1073741824)=False:=eq_false (by omega)
   have e:wr n=m-2147483648:=by unfold wr;omega
   simp +contextual only [k,dZ,dH,k4,e,↓ab,ae,simprocAttr]
 · have dZ:=eq_false ad
   by_cases ak:m < -1073741824
   · have k4:=eq_true ak
     have dH:IntKind.i64.wrap (m+2147483648)=m+2147483648:=wrap_i64 (by omega) (by omega)
     have e:wr n=m+2147483648:=by unfold wr;omega
     simp +contextual only [k,dZ,dH,k4,e,↓ab,ae,simprocAttr]
   · have k4:=eq_false ak
     have e:wr n=m:=by unfold wr;omega
     simp +contextual only [k,dZ,k4,e,↓ab,ae,simprocAttr]
section
variable {aj h J:ai} {an:aV} {K:fl} {aq:List aV} {aO pm:V} {S:av} {steps:Int} {aX a6 az bZ b4 bj:V}
theorem mm (M:dW aj h an K aq aO pm S steps) (qK:Int):bB Tryz.prog 113 [.ptr an 0,.int .i64 qK] h fun x J=>dW aj J an K aq aO pm (S.ends qK) steps:=by
 obtain ⟨aX,a6,az,bZ,b4,bj,M⟩:=M
 have aD:=M.next {S with fJ:=true} steps aX a6 az bZ b4 bj rfl M.co M.dy M.wr M.de
 have M2:=aD.next (S.ends qK) steps aX a6 az bZ b4 bj rfl aD.co aD.dy aD.wr aD.de
 have g:=M.get
 have bH:=aD.get
 refine TD rfl (bO ?_)
 unfold KO
 simp +contextual only [g,bH,↓ab,ae,simprocAttr]
 exact ⟨_,_,_,_,_,_,M2⟩
noncomputable def D' (h:ai) (an:aV):Nat:=match hU (h.get an) 1 with
 | some v=>match oZ v with
   | some (.int _ n)=>n.toNat
   | _=>0
 | none=>0
theorem ee.oj (M:ee aj h an K aq aO pm S steps aX a6 az bZ b4 bj):D' h an=S.w.length:=by
 unfold D'
 rw [M.get,qU]
 simp only [List.getElem?_cons_succ,List.getElem?_cons_zero,M.wr.len,Int.toNat_natCast]
set_option maxHeartbeats 4000000 in
theorem jS (M:dW aj h an K aq aO pm S steps) (dF:S.w.length≤4294967296) {j:Nat} (bQ:j<aq.length):bB Tryz.prog 110 [.ptr an 0,cV aq j] h fun x J=>∃aK,dW aj J an aK aq aO pm (S.m1 j) steps:=by
 refine TA rfl (bO ?_)
 unfold KK
 simp +contextual only [↓ab,ae,simprocAttr]
 refine fV (fun r J=>r 0=.ptr an 0∧r 1=cV aq j∧∃w,dW aj J an K aq aO pm {S with w:=w} steps∧w.length≤4294967296∧S.si j w=S.m1 j) (fun r J=>D' J an) ?_ ?_
 · exact ⟨by simp only [↓ab,bf,simprocAttr],by simp only [↓ab,bf,simprocAttr],S.w,M,dF,rfl⟩
 · rintro r h ⟨bm,aY,w,M,dF,aM⟩
   unfold KL
   obtain ⟨aX,a6,az,bZ,b4,bj,M⟩:=M
   have oX:=M.oj
   have g:=M.get
   have aL:=M.wr.len
   cases w with
   | nil=>
     simp only [List.length_nil] at aL
     have z0:((0:Int) < ((0:Nat):Int))=False:=eq_false (by omega)
     simp +contextual only [bm,aY,g,aL,z0,↓ab,ae,simprocAttr]
     refine aS (mm ⟨_,_,_,_,_,_,M⟩ 0) ?_
     rintro x ak bI
     simp +contextual only [bm,aY,↓ab,ae,simprocAttr]
     rw [←aM]
     exact ⟨K,bI⟩
   | cons a w=>
     have W:=M.wr
     simp only at W
     obtain ⟨u,p,b,off,ft,bt,b1,⟨d',lj,hO,hP,ht,aP,aA,a2,b',rfl⟩,a4,a5,jH,vo,tS,a9,ru⟩:=W.pop (by decide)
     simp only [List.length_cons] at aL dF oX
     have z0:((0:Int) < ((w.length+1:Nat):Int))=True:=eq_true (by omega)
     have dH:IntKind.i64.wrap (((w.length+1:Nat):Int)-1)=(w.length:Int):=by rw [wrap_i64 (by omega) (by omega)];omega
     have hold:Old h an:=M.b5.2
     have eB:(ao h.next=an)=False:=gi hold (Nat.le_refl _)
     have gr:(an=ao h.next)=False:=lM hold (Nat.le_refl _)
     have lL:(ao h.next=b)=False:=gi jH (Nat.le_refl _)
     have vp:e8 8 b4 (.int .i64 w.length)=some (.ptr b off):=vo
     have vq:gI 8 b4 none (some (.int .i64 w.length)) none=some ft:=a9
     have cG:jl 8 (h.get b) off=some (.agg [.int .i64 d'.k,.int .i64 d'.x,.int .i64 d'.n,.str d'.s,hO,hP,ht,p]):=tS h rfl
     obtain ⟨cr,va,m2⟩:=aP.parts
     have jQ:=cr.one
     have jR:=va.one
     have ol:=m2.one
     have op:=a4.one
     have dx:=ru.one
     have aI:Ext h (h.new (.au [.int .i64 0,.int .i64 0,.int .i64 0,.str [],.aw,.aw,.aw,.cc] 0 false)):=(Ext.refl h).new _
     have hn:K (ao h.next)=.no:=M.rep.tmp (by rw [c'];exact Nat.le_refl _)
     have fj:aj.next≤cx (ao h.next):=by rw [c'];exact M.rep.ext.next
     cases bT:a.jT with
     | false=>
       rw [bT] at aA
       simp only [Bool.false_eq_true,if_false,if_true] at aA
       rw [aA,a2] at cG
       have aD:=(M.ext aI).tmp (b:=ao h.next) (k:=.au [.int .i64 2,.int .i64 a.x,.int .i64 d'.n,.str d'.s,hO,hP,ht,p] 0 false) hn fj
       have t1:c8 aj K h aq K ((h.new (.au [.int .i64 0,.int .i64 0,.int .i64 0,.str [],.aw,.aw,.aw,.cc] 0 false)).set (ao h.next) (.au [.int .i64 2,.int .i64 a.x,.int .i64 d'.n,.str d'.s,hO,hP,ht,p] 0 false)) aq (fun _=>False):=(M.rep.ex aI).trans (c8.uP hn fj)
       have M2:=aD.next {S with w:=w} steps aX a6 az bZ ft bj rfl aD.co aD.dy (ru.cu t1 id id) aD.de
       have h6:=a4.cu t1 id
       have ff:=h6.set (k:=.au [aO,ft,.int .i64 S.e6,.int .i64 S.fp,.int .i64 S.read,.int .i64 steps,bj,.bool S.fJ,.int .i64 S.c.k,.int .i64 S.c.x,.int .i64 S.c.n,.str S.c.s,aX,a6,az,bZ,.aw] 0 false) aD.dp (by simp)
       obtain ⟨fo,vw,mx,mz,my,i1,i2,io,i3⟩:=m2.pC (k:=.i64) (i:=1) (by rw [b'];exact Nat.lt_succ_self 1)
       have e0:d'.l[1]'(by rw [b'];exact Nat.lt_succ_self 1)=a.c:=by simp [b']
       rw [e0] at i2 i3
       have Ht:e8 7 ht (.int .i64 1)=some (.ptr fo vw):=i1
       have gH:=(i3 _ M.rep.ext).1
       have cg:(an=fo)=False:=eq_false fun q=>by have:=M.b5.1;rw [q] at this;unfold Old at io;omega
       have dk:(ao h.next=fo)=False:=gi (M.rep.ext.b5 io) (Nat.le_refl _)
       obtain ⟨qa,oo,qb⟩:=i2.parts
       have A4:=qa.one
       have A_:=oo.one
       have A9:=qb.one
       have bI:=M2.next {S with w:=w,c:=a.c} steps mx mz my bZ ft bj rfl i2 M2.dy M2.wr M2.de
       have qd:=ff.set (k:=.au [aO,ft,.int .i64 S.e6,.int .i64 S.fp,.int .i64 S.read,.int .i64 steps,bj,.bool S.fJ,.int .i64 a.c.k,.int .i64 a.c.x,.int .i64 a.c.n,.str a.c.s,mx,mz,my,bZ,.aw] 0 false) M2.dp (by simp)
       have eA:=fun k=>(Ext.refl _).new (h:=(((((h.new (.au [.int .i64 0,.int .i64 0,.int .i64 0,.str [],.aw,.aw,.aw,.cc] 0 false)).set (ao h.next) (.au [.int .i64 2,.int .i64 a.x,.int .i64 d'.n,.str d'.s,hO,hP,ht,p] 0 false)).set an (.au [aO,ft,.int .i64 S.e6,.int .i64 S.fp,.int .i64 S.read,.int .i64 steps,bj,.bool S.fJ,.int .i64 S.c.k,.int .i64 S.c.x,.int .i64 S.c.n,.str S.c.s,aX,a6,az,bZ,.aw] 0 false)).set an (.au [aO,ft,.int .i64 S.e6,.int .i64 S.fp,.int .i64 S.read,.int .i64 steps,bj,.bool S.fJ,.int .i64 a.c.k,.int .i64 a.c.x,.int .i64 a.c.n,.str a.c.s,mx,mz,my,bZ,.aw] 0 false)))) k
       obtain ⟨aK,bz,kz,t4⟩:=bI.env (eA (.au [.int .i64 a.x,cV aq j,p] 0 false)) (b:=ao (h.next+1)) (by simp only [hf,cY,c'];exact Nat.le_refl _) (dP (by simp only [hf,cY];omega)) (by rw [eG,if_pos (by simp only [hf,cY])]) qd bQ
       have oz:=bz.next {S with w:=w,c:=a.c,e:=(a.x,j)::a.e} steps mx mz my (.ptr (ao (h.next+1)) 0) ft bj rfl bz.co (kz) bz.wr bz.de
       have dL:(ao (h.next+1)=an)=False:=gi hold (by omega)
       have eJ:(an=ao (h.next+1))=False:=lM hold (by omega)
       simp +contextual only [cV,bm,aY,g,aL,z0,dH,eB,gr,dL,eJ,lL,vp,vq,cG,jQ.1,jQ.2.1,jR.1,jR.2.1,ol.1,ol.2.1,op.1,op.2.1,op.2.2,dx.1,dx.2.1,Ht,gH,cg,dk,A4.1,A4.2.1,A_.1,A_.2.1,A9.1,A9.2.1,↓ab,ae,simprocAttr]
       rw [←aM]
       simp only [av.si,bT]
       exact ⟨aK,_,_,_,_,_,_,oz⟩
     | true=>
       rw [bT] at aA
       simp only [Bool.false_eq_true,if_false,if_true] at aA
       rw [aA,a2] at cG
       have aD:=(M.ext aI).tmp (b:=ao h.next) (k:=.au [.int .i64 11,.int .i64 a.x,.int .i64 d'.n,.str d'.s,hO,hP,ht,p] 0 false) hn fj
       have t1:c8 aj K h aq K ((h.new (.au [.int .i64 0,.int .i64 0,.int .i64 0,.str [],.aw,.aw,.aw,.cc] 0 false)).set (ao h.next) (.au [.int .i64 11,.int .i64 a.x,.int .i64 d'.n,.str d'.s,hO,hP,ht,p] 0 false)) aq (fun _=>False):=(M.rep.ex aI).trans (c8.uP hn fj)
       have M2:=aD.next {S with w:=w} steps aX a6 az bZ ft bj rfl aD.co aD.dy (ru.cu t1 id id) aD.de
       simp +contextual only [cV,bm,aY,g,aL,z0,dH,eB,gr,lL,vp,vq,cG,jQ.1,jQ.2.1,jR.1,jR.2.1,ol.1,ol.2.1,op.1,op.2.1,op.2.2,dx.1,dx.2.1,↓ab,ae,simprocAttr]
       refine ⟨⟨w,⟨_,_,_,_,_,_,M2⟩,by omega,?_⟩,?_⟩
       · rw [←aM];simp only [av.si,bT];rfl
       · rw [oX,M2.oj];simp only;omega
set_option maxHeartbeats 4000000 in
theorem ts (M:dW aj h an K aq aO pm S steps) (dF:S.w.length≤4294967296) {j:Nat} (bQ:j<aq.length):bB Tryz.prog 118 [.ptr an 0,cV aq j] h fun x J=>∃aK,dW aj J an aK aq aO pm (S.p7 j) steps:=by
 refine TH rfl (bO ?_)
 unfold KU
 simp +contextual only [↓ab,ae,simprocAttr]
 refine fV (fun r J=>r 0=.ptr an 0∧r 1=cV aq j∧∃w,dW aj J an K aq aO pm {S with w:=w} steps∧w.length≤4294967296∧S.ln j w=S.p7 j) (fun r J=>D' J an) ?_ ?_
 · exact ⟨by simp only [↓ab,bf,simprocAttr],by simp only [↓ab,bf,simprocAttr],S.w,M,dF,rfl⟩
 · rintro r h ⟨bm,aY,w,M,dF,aM⟩
   unfold KV
   obtain ⟨aX,a6,az,bZ,b4,bj,M⟩:=M
   have oX:=M.oj
   have g:=M.get
   have aL:=M.wr.len
   cases w with
   | nil=>
     simp only [List.length_nil] at aL
     have z0:((0:Int) < ((0:Nat):Int))=False:=eq_false (by omega)
     obtain ⟨cw,v1,v2,v3,v4,v5,v6,tB,hT,fs,kM,_,_⟩:=M.val bQ
     have qP:av.val {S with w:=[]} j=S.val j:=rfl
     rw [qP] at fs
     have aQ:cV aq j=.ptr (dX aq j) 0:=rfl
     rw [aQ] at aY
     by_cases bw:cP (S.val j)=4
     · have l8:=eq_true bw
       simp +contextual only [bm,aY,g,aL,z0,fs,l8,bw,↓ab,ae,simprocAttr]
       refine aS (mm ⟨_,_,_,_,_,_,M⟩ 1) ?_
       rintro x ak ⟨_,_,_,_,_,_,bI⟩
       have cT:=bI.get
       obtain ⟨_,_,_,_,_,_,_,_,_,zU,_⟩:=bI.val bQ
       have Hk:av.val (av.ends {S with w:=[]} 1) j=S.val j:=rfl
       rw [Hk] at zU
       simp +contextual only [bm,aY,cT,zU,↓ab,ae,simprocAttr]
       rw [←aM]
       cases bh:S.val j with
       | df t bg=>
         simp only [av.ln,bh]
         have bz:=bI.next {av.ends {S with w:=[]} 1 with fp:=t} steps _ _ _ _ _ _ rfl bI.co bI.dy bI.wr bI.de
         exact ⟨K,_,_,_,_,_,_,bz⟩
       | int n=>rw [bh] at bw;cases bw
       | text n=>rw [bh] at bw;cases bw
       | fn _ _ _=>rw [bh] at bw;cases bw
     · have l8:=eq_false bw
       simp +contextual only [bm,aY,g,aL,z0,fs,l8,↓ab,ae,simprocAttr]
       refine aS (mm ⟨_,_,_,_,_,_,M⟩ 6) ?_
       rintro x ak bI
       simp +contextual only [bm,aY,↓ab,ae,simprocAttr]
       rw [←aM]
       cases bh:S.val j with
       | df t bg=>rw [bh] at bw;exact absurd rfl bw
       | int n=>simp only [av.ln,bh];exact ⟨K,bI⟩
       | text n=>simp only [av.ln,bh];exact ⟨K,bI⟩
       | fn _ _ _=>simp only [av.ln,bh];exact ⟨K,bI⟩
   | cons a w=>
     have W:=M.wr
     simp only at W
     obtain ⟨u,p,b,off,ft,bt,b1,⟨d',lj,hO,hP,ht,aP,aA,a2,b',rfl⟩,a4,a5,jH,vo,tS,a9,ru⟩:=W.pop (by decide)
     simp only [List.length_cons] at aL dF oX
     have z0:((0:Int) < ((w.length+1:Nat):Int))=True:=eq_true (by omega)
     have dH:IntKind.i64.wrap (((w.length+1:Nat):Int)-1)=(w.length:Int):=by rw [wrap_i64 (by omega) (by omega)];omega
     have hold:Old h an:=M.b5.2
     have eB:(ao h.next=an)=False:=gi hold (Nat.le_refl _)
     have gr:(an=ao h.next)=False:=lM hold (Nat.le_refl _)
     have lL:(ao h.next=b)=False:=gi jH (Nat.le_refl _)
     have vp:e8 8 b4 (.int .i64 w.length)=some (.ptr b off):=vo
     have vq:gI 8 b4 none (some (.int .i64 w.length)) none=some ft:=a9
     have cG:jl 8 (h.get b) off=some (.agg [.int .i64 d'.k,.int .i64 d'.x,.int .i64 d'.n,.str d'.s,hO,hP,ht,p]):=tS h rfl
     obtain ⟨cr,va,m2⟩:=aP.parts
     have jQ:=cr.one
     have jR:=va.one
     have ol:=m2.one
     have op:=a4.one
     have dx:=ru.one
     have aI:Ext h (h.new (.au [.int .i64 0,.int .i64 0,.int .i64 0,.str [],.aw,.aw,.aw,.cc] 0 false)):=(Ext.refl h).new _
     have hn:K (ao h.next)=.no:=M.rep.tmp (by rw [c'];exact Nat.le_refl _)
     have fj:aj.next≤cx (ao h.next):=by rw [c'];exact M.rep.ext.next
     cases bT:a.jT with
     | true=>
       rw [bT] at aA
       simp only [Bool.false_eq_true,if_false,if_true] at aA
       rw [aA,a2] at cG
       have aD:=(M.ext aI).tmp (b:=ao h.next) (k:=.au [.int .i64 11,.int .i64 a.x,.int .i64 d'.n,.str d'.s,hO,hP,ht,p] 0 false) hn fj
       have t1:c8 aj K h aq K ((h.new (.au [.int .i64 0,.int .i64 0,.int .i64 0,.str [],.aw,.aw,.aw,.cc] 0 false)).set (ao h.next) (.au [.int .i64 11,.int .i64 a.x,.int .i64 d'.n,.str d'.s,hO,hP,ht,p] 0 false)) aq (fun _=>False):=(M.rep.ex aI).trans (c8.uP hn fj)
       have M2:=aD.next {S with w:=w} steps aX a6 az bZ ft bj rfl aD.co aD.dy (ru.cu t1 id id) aD.de
       have h6:=a4.cu t1 id
       have ff:=h6.set (k:=.au [aO,ft,.int .i64 S.e6,.int .i64 S.fp,.int .i64 S.read,.int .i64 steps,bj,.bool S.fJ,.int .i64 S.c.k,.int .i64 S.c.x,.int .i64 S.c.n,.str S.c.s,aX,a6,az,bZ,.aw] 0 false) aD.dp (by simp)
       obtain ⟨fo,vw,mx,mz,my,i1,i2,io,i3⟩:=m2.pC (k:=.i64) (i:=1) (by rw [b'];exact Nat.lt_succ_self 1)
       have e0:d'.l[1]'(by rw [b'];exact Nat.lt_succ_self 1)=a.c:=by simp [b']
       rw [e0] at i2 i3
       have Ht:e8 7 ht (.int .i64 1)=some (.ptr fo vw):=i1
       have gH:=(i3 _ M.rep.ext).1
       have cg:(an=fo)=False:=eq_false fun q=>by have:=M.b5.1;rw [q] at this;unfold Old at io;omega
       have dk:(ao h.next=fo)=False:=gi (M.rep.ext.b5 io) (Nat.le_refl _)
       obtain ⟨qa,oo,qb⟩:=i2.parts
       have A4:=qa.one
       have A_:=oo.one
       have A9:=qb.one
       have bI:=M2.next {S with w:=w,c:=a.c} steps mx mz my bZ ft bj rfl i2 M2.dy M2.wr M2.de
       have qd:=ff.set (k:=.au [aO,ft,.int .i64 S.e6,.int .i64 S.fp,.int .i64 S.read,.int .i64 steps,bj,.bool S.fJ,.int .i64 a.c.k,.int .i64 a.c.x,.int .i64 a.c.n,.str a.c.s,mx,mz,my,bZ,.aw] 0 false) M2.dp (by simp)
       have eA:=fun k=>(Ext.refl _).new (h:=(((((h.new (.au [.int .i64 0,.int .i64 0,.int .i64 0,.str [],.aw,.aw,.aw,.cc] 0 false)).set (ao h.next) (.au [.int .i64 11,.int .i64 a.x,.int .i64 d'.n,.str d'.s,hO,hP,ht,p] 0 false)).set an (.au [aO,ft,.int .i64 S.e6,.int .i64 S.fp,.int .i64 S.read,.int .i64 steps,bj,.bool S.fJ,.int .i64 S.c.k,.int .i64 S.c.x,.int .i64 S.c.n,.str S.c.s,aX,a6,az,bZ,.aw] 0 false)).set an (.au [aO,ft,.int .i64 S.e6,.int .i64 S.fp,.int .i64 S.read,.int .i64 steps,bj,.bool S.fJ,.int .i64 a.c.k,.int .i64 a.c.x,.int .i64 a.c.n,.str a.c.s,mx,mz,my,bZ,.aw] 0 false)))) k
       obtain ⟨aK,bz,kz,t4⟩:=bI.env (eA (.au [.int .i64 a.x,cV aq j,p] 0 false)) (b:=ao (h.next+1)) (by simp only [hf,cY,c'];exact Nat.le_refl _) (dP (by simp only [hf,cY];omega)) (by rw [eG,if_pos (by simp only [hf,cY])]) qd bQ
       have oz:=bz.next {S with w:=w,c:=a.c,e:=(a.x,j)::a.e} steps mx mz my (.ptr (ao (h.next+1)) 0) ft bj rfl bz.co (kz) bz.wr bz.de
       have dL:(ao (h.next+1)=an)=False:=gi hold (by omega)
       have eJ:(an=ao (h.next+1))=False:=lM hold (by omega)
       simp +contextual only [cV,bm,aY,g,aL,z0,dH,eB,gr,dL,eJ,lL,vp,vq,cG,jQ.1,jQ.2.1,jR.1,jR.2.1,ol.1,ol.2.1,op.1,op.2.1,op.2.2,dx.1,dx.2.1,Ht,gH,cg,dk,A4.1,A4.2.1,A_.1,A_.2.1,A9.1,A9.2.1,↓ab,ae,simprocAttr]
       rw [←aM]
       simp only [av.ln,bT]
       exact ⟨aK,_,_,_,_,_,_,oz⟩
     | false=>
       rw [bT] at aA
       simp only [Bool.false_eq_true,if_false,if_true] at aA
       rw [aA,a2] at cG
       have aD:=(M.ext aI).tmp (b:=ao h.next) (k:=.au [.int .i64 2,.int .i64 a.x,.int .i64 d'.n,.str d'.s,hO,hP,ht,p] 0 false) hn fj
       have t1:c8 aj K h aq K ((h.new (.au [.int .i64 0,.int .i64 0,.int .i64 0,.str [],.aw,.aw,.aw,.cc] 0 false)).set (ao h.next) (.au [.int .i64 2,.int .i64 a.x,.int .i64 d'.n,.str d'.s,hO,hP,ht,p] 0 false)) aq (fun _=>False):=(M.rep.ex aI).trans (c8.uP hn fj)
       have M2:=aD.next {S with w:=w} steps aX a6 az bZ ft bj rfl aD.co aD.dy (ru.cu t1 id id) aD.de
       simp +contextual only [cV,bm,aY,g,aL,z0,dH,eB,gr,lL,vp,vq,cG,jQ.1,jQ.2.1,jR.1,jR.2.1,ol.1,ol.2.1,op.1,op.2.1,op.2.2,dx.1,dx.2.1,↓ab,ae,simprocAttr]
       refine ⟨⟨w,⟨_,_,_,_,_,_,M2⟩,by omega,?_⟩,?_⟩
       · rw [←aM];simp only [av.ln,bT];rfl
       · rw [oX,M2.oj];simp only;omega
end
end Go.Proofs.YtjbiefneffiogaaGreat
namespace Go.Proofs.YtjbiefneffiogaaGreat
open Go bs
theorem P2 (l:List Int) (n:Int):o8 l n=if n ∈ l then (av.ll l n:Int) else -1:=by
 unfold o8
 induction l with
 | nil=>rfl
 | cons t l bJ=>
   rw [List.findIdx?_cons]
   by_cases h:t=n
   · subst h;simp [av.ll]
   · have J:¬n=t:=fun q=>h q.symm
     simp only [decide_eq_false h,Bool.false_eq_true,if_false,av.ll,if_neg h,List.mem_cons,J,false_or]
     cases aZ:l.findIdx? (fun m=>decide (m=n)) with
     | none=>
       rw [aZ] at bJ
       simp only [Option.map_none] at bJ ⊢
       by_cases hm:n ∈ l
       · rw [if_pos hm] at bJ;omega
       · rw [if_neg hm]
     | some i=>
       rw [aZ] at bJ
       simp only [Option.map_some] at bJ ⊢
       by_cases hm:n ∈ l
       · rw [if_pos hm] at bJ ⊢;omega
       · rw [if_neg hm] at bJ;omega
theorem P3 {l:List Int} {n:Int} (h:n ∉ l):av.ll l n=l.length:=by
 induction l with
 | nil=>rfl
 | cons t l bJ=>
   simp only [List.mem_cons,not_or] at h
   simp only [av.ll,if_neg (fun q:t=n=>h.1 q.symm),bJ h.2,List.length_cons]
section
variable {aj h J:ai} {an:aV} {K:fl} {aq:List aV} {aO pm:V} {S:av} {steps:Int} {aX a6 az bZ b4 bj:V}
set_option maxHeartbeats 1000000 in
theorem adX (M:dW aj h an K aq aO pm S steps) {f v:Nat} (ar:f<aq.length) (bh:v<aq.length) (rH:cP (S.val f)=3):bB Tryz.prog 114 [.ptr an 0,cV aq f,cV aq v] h fun x J=>∃aK aJ,dW aj J an aK aJ aO pm (S.call f v) steps:=by
 obtain ⟨aX,a6,az,bZ,b4,bj,M⟩:=M
 obtain ⟨cw,v1,v2,v3,v4,v5,v6,tB,hT,fs,kM,_,vP⟩:=M.val ar
 have cE:=M.get
 have eC:cV aq f=.ptr (dX aq f) 0:=rfl
 refine TE rfl (bO ?_)
 unfold KP
 rw [eC]
 cases fT:S.val f with
 | int n=>rw [fT] at rH;cases rH
 | text n=>rw [fT] at rH;cases rH
 | df t l=>rw [fT] at rH;cases rH
 | fn x c L=>
   obtain ⟨rfl,rfl,rfl,rfl,aC,he⟩:=vP x c L fT
   rw [fT] at fs
   simp only [cP,dD,e3] at fs
   obtain ⟨vn,qi,qj⟩:=aC.parts
   have dj:=vn.one
   have eW:=qi.one
   have fz:=qj.one
   have fr:=he.one
   have hold:Old h an:=M.b5.2
   have eB:(ao h.next=an)=False:=gi hold (Nat.le_refl _)
   have gr:(an=ao h.next)=False:=lM hold (Nat.le_refl _)
   have ne:(an=dX aq f)=False:=eq_false fun q=>(M.oH ar).2 q.symm
   have lf:(ao h.next=dX aq f)=False:=gi (M.oH ar).1 (Nat.le_refl _)
   have M2:=M.next {S with c:=c} steps v5 v6 tB bZ b4 bj rfl aC M.dy M.wr M.de
   have fO:=he.set (k:=.au [aO,b4,.int .i64 S.e6,.int .i64 S.fp,.int .i64 S.read,.int .i64 steps,bj,.bool S.fJ,.int .i64 c.k,.int .i64 c.x,.int .i64 c.n,.str c.s,v5,v6,tB,bZ,.aw] 0 false) M.dp (by simp)
   have eA:=fun k=>(Ext.refl _).new (h:=(h.set an (.au [aO,b4,.int .i64 S.e6,.int .i64 S.fp,.int .i64 S.read,.int .i64 steps,bj,.bool S.fJ,.int .i64 c.k,.int .i64 c.x,.int .i64 c.n,.str c.s,v5,v6,tB,bZ,.aw] 0 false))) k
   obtain ⟨aK,bz,kz,t4⟩:=M2.env (eA (.au [.int .i64 x,cV aq v,hT] 0 false)) (b:=ao h.next) (by simp only [hf,c'];exact Nat.le_refl _) (dP (by simp only [hf,cY];omega)) (by rw [eG,if_pos (by simp only [hf])]) fO bh
   have oz:=bz.next {S with c:=c,e:=(x,v)::L} steps v5 v6 tB (.ptr (ao h.next) 0) b4 bj rfl bz.co kz bz.wr bz.de
   simp +contextual only [cV,cE,fs,eB,gr,ne,lf,dj.1,dj.2.1,eW.1,eW.2.1,fz.1,fz.2.1,fr.1,fr.2.1,fr.2.2,↓ab,ae,simprocAttr]
   refine ⟨aK,aq,?_⟩
   simp only [av.call,fT]
   exact ⟨_,_,_,_,_,_,oz⟩
set_option maxHeartbeats 2000000 in
theorem adY (M:dW aj h an K aq aO pm S steps) (al:S.c.k=10) (aC:ef aj S.c [.int .i64 10,.int .i64 S.c.x,.int .i64 S.c.n,.str S.c.s,aX,a6,az]) {v:Nat} (bh:v<aq.length) (aF:S.c.t.length≤1048576) (aL:S.c.l.length≤1048577):
 bB Tryz.prog 117 [.ptr an 0,.agg [.int .i64 10,.int .i64 S.c.x,.int .i64 S.c.n,.str S.c.s,aX,a6,az],cV aq v] h fun x J=>dW aj J an K aq aO pm (S.hX true v) steps:=by
 obtain ⟨bt,t1,bc,bZ,b4,bj,M⟩:=M
 rw [←al] at aC
 obtain ⟨vn,qi,qj⟩:=aC.parts
 have dj:=vn.one
 have eW:=qi.one
 have fz:=qj.one
 have eC:cV aq v=.ptr (dX aq v) 0:=rfl
 have mR:=qi.len
 have e0:=qj.len
 have aI:Ext h (h.new (.au [.int .i64 10,.int .i64 S.c.x,.int .i64 S.c.n,.str S.c.s,aX,a6,az] 0 false)):=(Ext.refl h).new _
 have bX:(h.new (.au [.int .i64 10,.int .i64 S.c.x,.int .i64 S.c.n,.str S.c.s,aX,a6,az] 0 false)).get (ao h.next)=.au [.int .i64 10,.int .i64 S.c.x,.int .i64 S.c.n,.str S.c.s,aX,a6,az] 0 false:=gz _
 have aD:=M.ext aI
 obtain ⟨cw,v1,v2,v3,v4,v5,v6,tB,hT,fs,kM,_,_⟩:=M.val bh
 have lf:(ao h.next=dX aq v)=False:=gi (M.oH bh).1 (Nat.le_refl _)
 have nh:=(aI.get _ (M.oH bh).1).trans fs
 have dY:=aD.get
 have Fe:=qi.ext (M.rep.ext.trans aI)
 have ne:(an=ao h.next)=False:=lM M.b5.2 (Nat.le_refl _)
 have eB:(ao h.next=an)=False:=gi M.b5.2 (Nat.le_refl _)
 refine KT rfl (bO ?_)
 unfold FE
 rw [eC]
 have wv:cP (S.val v)=1→S.hX true v=S.h_ (av.ll S.c.t (dD (S.val v))):=by
  intro al
  obtain ⟨t,fT⟩:=hc al
  simp only [av.hX,fT,dD,Bool.false_eq_true,if_true,if_false]
 have AD:cP (S.val v)≠1→S.hX true v=S.gb:=by
  intro al
  cases fT:S.val v<;>first | (simp only [av.hX,fT]<;>rfl) | (rw [fT] at al;exact (al rfl).elim)
 have pl:=P2 S.c.t (dD (S.val v))
 simp +contextual only [dj.1,dj.2.1,eW.1,eW.2.1,fz.1,fz.2.1,fs,lf,↓ab,ae,simprocAttr]
 generalize h.new (.au [.int .i64 10,.int .i64 S.c.x,.int .i64 S.c.n,.str S.c.s,aX,a6,az] 0 false)=H1 at *
 refine aS (P4 S.c.t (dD (S.val v)) a6 H1 Fe (by omega)) ?_
 rintro x ak ⟨rfl,rfl⟩
 by_cases hm:dD (S.val v) ∈ S.c.t
 · rw [if_pos hm] at pl
   generalize aQ:av.ll S.c.t (dD (S.val v))=p at *
   have z:((p:Int)<0)=False:=eq_false (by omega)
   by_cases gq:cP (S.val v)=1
   · have dJ:=eq_true gq
     rw [wv gq]
     by_cases nY:(S.c.l.length:Int)≤(p:Int)
     · have k8:=eq_true nY
       simp +contextual only [bX,fs,nh,dY,ne,eB,lf,dJ,pl,z,e0,k8,↓ab,ae,simprocAttr]
       refine aS (mm ⟨_,_,_,_,_,_,aD⟩ 6) ?_
       rintro y aB bz
       simp +contextual only [↓ab,ae,simprocAttr]
       have fU:S.h_ p=S.gb:=by simp only [av.h_];rw [List.getElem?_eq_none (by omega)]
       rw [fU]
       exact bz
     · have k8:=eq_false nY
       obtain ⟨fo,vw,mx,mz,my,i1,i2,io,i3⟩:=qj.pC (k:=.i64) (i:=p) (by omega)
       have gH:=(i3 _ aD.rep.ext).1
       obtain ⟨qa,oo,qb⟩:=i2.parts
       have gC:=qa.one
       have g3:=oo.one
       have gk:=qb.one
       simp +contextual only [bX,fs,nh,dY,ne,eB,lf,dJ,pl,z,e0,k8,i1,gH,gC.1,gC.2.1,g3.1,g3.2.1,gk.1,gk.2.1,↓ab,ae,simprocAttr]
       have rQ:S.h_ p={S with c:=S.c.l[p]'(by omega)}:=by simp only [av.h_];rw [List.getElem?_eq_getElem (by omega)]
       rw [rQ]
       exact ⟨_,_,_,_,_,_,aD.next {S with c:=S.c.l[p]'(by omega)} steps mx mz my bZ b4 bj rfl i2 aD.dy aD.wr aD.de⟩
   · have dJ:=eq_false gq
     simp +contextual only [bX,fs,nh,dY,ne,eB,lf,dJ,pl,z,e0,↓ab,ae,simprocAttr]
     refine aS (mm ⟨_,_,_,_,_,_,aD⟩ 6) ?_
     rintro y aB bz
     simp +contextual only [↓ab,ae,simprocAttr]
     rw [AD gq]
     exact bz
 · rw [if_neg hm] at pl
   have aQ:=P3 hm
   have z:((-1:Int)<0)=True:=eq_true (by omega)
   rw [aQ] at wv
   by_cases gq:cP (S.val v)=1
   · have dJ:=eq_true gq
     rw [wv gq]
     by_cases nY:(S.c.l.length:Int)≤(S.c.t.length:Int)
     · have k8:=eq_true nY
       simp +contextual only [bX,fs,nh,dY,ne,eB,lf,dJ,pl,z,mR,e0,k8,↓ab,ae,simprocAttr]
       refine aS (mm ⟨_,_,_,_,_,_,aD⟩ 6) ?_
       rintro y aB bz
       simp +contextual only [↓ab,ae,simprocAttr]
       have fU:S.h_ S.c.t.length=S.gb:=by simp only [av.h_];rw [List.getElem?_eq_none (by omega)]
       rw [fU]
       exact bz
     · have k8:=eq_false nY
       obtain ⟨fo,vw,mx,mz,my,i1,i2,io,i3⟩:=qj.pC (k:=.i64) (i:=S.c.t.length) (by omega)
       have gH:=(i3 _ aD.rep.ext).1
       obtain ⟨qa,oo,qb⟩:=i2.parts
       have gC:=qa.one
       have g3:=oo.one
       have gk:=qb.one
       simp +contextual only [bX,fs,nh,dY,ne,eB,lf,dJ,pl,z,mR,e0,k8,i1,gH,gC.1,gC.2.1,g3.1,g3.2.1,gk.1,gk.2.1,↓ab,ae,simprocAttr]
       have rQ:S.h_ S.c.t.length={S with c:=S.c.l[S.c.t.length]'(by omega)}:=by simp only [av.h_];rw [List.getElem?_eq_getElem (by omega)]
       rw [rQ]
       exact ⟨_,_,_,_,_,_,aD.next {S with c:=S.c.l[S.c.t.length]'(by omega)} steps mx mz my bZ b4 bj rfl i2 aD.dy aD.wr aD.de⟩
   · have dJ:=eq_false gq
     simp +contextual only [bX,fs,nh,dY,ne,eB,lf,dJ,pl,z,mR,e0,↓ab,ae,simprocAttr]
     refine aS (mm ⟨_,_,_,_,_,_,aD⟩ 6) ?_
     rintro y aB bz
     simp +contextual only [↓ab,ae,simprocAttr]
     rw [AD gq]
     exact bz
set_option maxHeartbeats 2000000 in
theorem ae2 (M:dW aj h an K aq aO pm S steps) (al:S.c.k=9) (aC:ef aj S.c [.int .i64 9,.int .i64 S.c.x,.int .i64 S.c.n,.str S.c.s,aX,a6,az]) {v:Nat} (bh:v<aq.length) (aF:S.c.t.length≤1048576) (aL:S.c.l.length≤1048577):
 bB Tryz.prog 117 [.ptr an 0,.agg [.int .i64 9,.int .i64 S.c.x,.int .i64 S.c.n,.str S.c.s,aX,a6,az],cV aq v] h fun x J=>dW aj J an K aq aO pm (S.hX false v) steps:=by
 obtain ⟨bt,t1,bc,bZ,b4,bj,M⟩:=M
 rw [←al] at aC
 obtain ⟨vn,qi,qj⟩:=aC.parts
 have dj:=vn.one
 have eW:=qi.one
 have fz:=qj.one
 have eC:cV aq v=.ptr (dX aq v) 0:=rfl
 have mR:=qi.len
 have e0:=qj.len
 have aI:Ext h (h.new (.au [.int .i64 9,.int .i64 S.c.x,.int .i64 S.c.n,.str S.c.s,aX,a6,az] 0 false)):=(Ext.refl h).new _
 have bX:(h.new (.au [.int .i64 9,.int .i64 S.c.x,.int .i64 S.c.n,.str S.c.s,aX,a6,az] 0 false)).get (ao h.next)=.au [.int .i64 9,.int .i64 S.c.x,.int .i64 S.c.n,.str S.c.s,aX,a6,az] 0 false:=gz _
 have aD:=M.ext aI
 obtain ⟨cw,v1,v2,v3,v4,v5,v6,tB,hT,fs,kM,_,_⟩:=M.val bh
 have lf:(ao h.next=dX aq v)=False:=gi (M.oH bh).1 (Nat.le_refl _)
 have nh:=(aI.get _ (M.oH bh).1).trans fs
 have dY:=aD.get
 have Fe:=qi.ext (M.rep.ext.trans aI)
 have ne:(an=ao h.next)=False:=lM M.b5.2 (Nat.le_refl _)
 have eB:(ao h.next=an)=False:=gi M.b5.2 (Nat.le_refl _)
 refine KT rfl (bO ?_)
 unfold FE
 rw [eC]
 have wv:cP (S.val v)=4→S.hX false v=S.h_ (av.ll S.c.t (dD (S.val v))):=by
  intro al
  obtain ⟨t,l,fT⟩:=wz al
  simp only [av.hX,fT,dD,Bool.false_eq_true,if_true,if_false]
 have AD:cP (S.val v)≠4→S.hX false v=S.gb:=by
  intro al
  cases fT:S.val v<;>first | (simp only [av.hX,fT]<;>rfl) | (rw [fT] at al;exact (al rfl).elim)
 have pl:=P2 S.c.t (dD (S.val v))
 simp +contextual only [dj.1,dj.2.1,eW.1,eW.2.1,fz.1,fz.2.1,fs,lf,↓ab,ae,simprocAttr]
 generalize h.new (.au [.int .i64 9,.int .i64 S.c.x,.int .i64 S.c.n,.str S.c.s,aX,a6,az] 0 false)=H1 at *
 refine aS (P4 S.c.t (dD (S.val v)) a6 H1 Fe (by omega)) ?_
 rintro x ak ⟨rfl,rfl⟩
 by_cases hm:dD (S.val v) ∈ S.c.t
 · rw [if_pos hm] at pl
   generalize aQ:av.ll S.c.t (dD (S.val v))=p at *
   have z:((p:Int)<0)=False:=eq_false (by omega)
   by_cases gq:cP (S.val v)=4
   · have dJ:=eq_true gq
     rw [wv gq]
     by_cases nY:(S.c.l.length:Int)≤(p:Int)
     · have k8:=eq_true nY
       simp +contextual only [bX,fs,nh,dY,ne,eB,lf,dJ,pl,z,e0,k8,↓ab,ae,simprocAttr]
       refine aS (mm ⟨_,_,_,_,_,_,aD⟩ 6) ?_
       rintro y aB bz
       simp +contextual only [↓ab,ae,simprocAttr]
       have fU:S.h_ p=S.gb:=by simp only [av.h_];rw [List.getElem?_eq_none (by omega)]
       rw [fU]
       exact bz
     · have k8:=eq_false nY
       obtain ⟨fo,vw,mx,mz,my,i1,i2,io,i3⟩:=qj.pC (k:=.i64) (i:=p) (by omega)
       have gH:=(i3 _ aD.rep.ext).1
       obtain ⟨qa,oo,qb⟩:=i2.parts
       have gC:=qa.one
       have g3:=oo.one
       have gk:=qb.one
       simp +contextual only [bX,fs,nh,dY,ne,eB,lf,dJ,pl,z,e0,k8,i1,gH,gC.1,gC.2.1,g3.1,g3.2.1,gk.1,gk.2.1,↓ab,ae,simprocAttr]
       have rQ:S.h_ p={S with c:=S.c.l[p]'(by omega)}:=by simp only [av.h_];rw [List.getElem?_eq_getElem (by omega)]
       rw [rQ]
       exact ⟨_,_,_,_,_,_,aD.next {S with c:=S.c.l[p]'(by omega)} steps mx mz my bZ b4 bj rfl i2 aD.dy aD.wr aD.de⟩
   · have dJ:=eq_false gq
     simp +contextual only [bX,fs,nh,dY,ne,eB,lf,dJ,pl,z,e0,↓ab,ae,simprocAttr]
     refine aS (mm ⟨_,_,_,_,_,_,aD⟩ 6) ?_
     rintro y aB bz
     simp +contextual only [↓ab,ae,simprocAttr]
     rw [AD gq]
     exact bz
 · rw [if_neg hm] at pl
   have aQ:=P3 hm
   have z:((-1:Int)<0)=True:=eq_true (by omega)
   rw [aQ] at wv
   by_cases gq:cP (S.val v)=4
   · have dJ:=eq_true gq
     rw [wv gq]
     by_cases nY:(S.c.l.length:Int)≤(S.c.t.length:Int)
     · have k8:=eq_true nY
       simp +contextual only [bX,fs,nh,dY,ne,eB,lf,dJ,pl,z,mR,e0,k8,↓ab,ae,simprocAttr]
       refine aS (mm ⟨_,_,_,_,_,_,aD⟩ 6) ?_
       rintro y aB bz
       simp +contextual only [↓ab,ae,simprocAttr]
       have fU:S.h_ S.c.t.length=S.gb:=by simp only [av.h_];rw [List.getElem?_eq_none (by omega)]
       rw [fU]
       exact bz
     · have k8:=eq_false nY
       obtain ⟨fo,vw,mx,mz,my,i1,i2,io,i3⟩:=qj.pC (k:=.i64) (i:=S.c.t.length) (by omega)
       have gH:=(i3 _ aD.rep.ext).1
       obtain ⟨qa,oo,qb⟩:=i2.parts
       have gC:=qa.one
       have g3:=oo.one
       have gk:=qb.one
       simp +contextual only [bX,fs,nh,dY,ne,eB,lf,dJ,pl,z,mR,e0,k8,i1,gH,gC.1,gC.2.1,g3.1,g3.2.1,gk.1,gk.2.1,↓ab,ae,simprocAttr]
       have rQ:S.h_ S.c.t.length={S with c:=S.c.l[S.c.t.length]'(by omega)}:=by simp only [av.h_];rw [List.getElem?_eq_getElem (by omega)]
       rw [rQ]
       exact ⟨_,_,_,_,_,_,aD.next {S with c:=S.c.l[S.c.t.length]'(by omega)} steps mx mz my bZ b4 bj rfl i2 aD.dy aD.wr aD.de⟩
   · have dJ:=eq_false gq
     simp +contextual only [bX,fs,nh,dY,ne,eB,lf,dJ,pl,z,mR,e0,↓ab,ae,simprocAttr]
     refine aS (mm ⟨_,_,_,_,_,_,aD⟩ 6) ?_
     rintro y aB bz
     simp +contextual only [↓ab,ae,simprocAttr]
     rw [AD gq]
     exact bz
end
end Go.Proofs.YtjbiefneffiogaaGreat
namespace Go.Proofs.YtjbiefneffiogaaGreat
open Go bs
theorem J7 {P:Program} {a:Int} (bT:gw a):(e4.int .and).run P (.int .i64 a) (.int .i64 255)=some (.int .i64 (a % 256)):=by
 have ad:(BitVec.ofInt 64 a&&& BitVec.ofInt 64 255).toNat=(a % 256).toNat:=by
  rw [BitVec.toNat_and,BitVec.toNat_ofInt,BitVec.toNat_ofInt]
  have ak:((255:Int) % ((2 ^ 64:Nat):Int)).toNat=2 ^ 8-1:=by decide
  rw [ak,Nat.and_two_pow_sub_one_eq_mod]
  omega
 have aB:(e4.int .and).run P (.int .i64 a) (.int .i64 255)=some (.int .i64 (IntKind.i64.wrap (BitVec.ofInt 64 a&&& BitVec.ofInt 64 255).toNat)):=rfl
 rw [aB,ad,wrap_i64 (by omega) (by omega)]
 congr 2
 omega
theorem Kr (a:Int):av.byteOf (a % 256)=av.byteOf a:=by unfold av.byteOf;congr 2;omega
theorem ic {h:ai} {aE:List Int} {v:V} {n:Nat} (H:cj h 1 v n (cd aE)) (a1:n=aE.length) (z:Int) (i:Nat) (bD:z=i) (aH:i<aE.length):∃b o,e8 1 v (.int .i64 z)=some (.ptr b o)∧hU (h.get b) o=some (.int .i64 (aE[i]'aH)):=by
 subst bD;subst a1
 obtain ⟨b,o,aI,bo⟩:=ints_at H (k:=.i64) aH
 exact ⟨b,_,aI,bo⟩
def lk:List (List UInt8):=[[97,100,100],[115,117,98],[109,117,108],[100,105,118],[109,111,100],[101,113],[108,116],[108,101],[98,121,116,101],[106,111,105,110],[115,101,116],[110,101,103],[103,101,116,99],[112,117,116,99],[112,117,116,115],[115,105,122,101],[99,104,114],[99,117,116]]
theorem adq:∀n:Fin 18,(lk.getD n.1 []=[97,100,100]↔n.1=0)∧(lk.getD n.1 []=[115,117,98]↔n.1=1)∧(lk.getD n.1 []=[109,117,108]↔n.1=2)∧(lk.getD n.1 []=[100,105,118]↔n.1=3)∧(lk.getD n.1 []=[109,111,100]↔n.1=4)∧(lk.getD n.1 []=[101,113]↔n.1=5)∧(lk.getD n.1 []=[108,116]↔n.1=6)∧(lk.getD n.1 []=[108,101]↔n.1=7)∧(lk.getD n.1 []=[98,121,116,101]↔n.1=8)∧(lk.getD n.1 []=[106,111,105,110]↔n.1=9)∧(lk.getD n.1 []=[115,101,116]↔n.1=10)∧(lk.getD n.1 []=[110,101,103]↔n.1=11)∧(lk.getD n.1 []=[103,101,116,99]↔n.1=12)∧(lk.getD n.1 []=[112,117,116,99]↔n.1=13)∧(lk.getD n.1 []=[112,117,116,115]↔n.1=14)∧(lk.getD n.1 []=[115,105,122,101]↔n.1=15)∧(lk.getD n.1 []=[99,104,114]↔n.1=16)∧(lk.getD n.1 []=[99,117,116]↔n.1=17):=by decide +kernel
theorem eC (n:Nat) (a1:n<18) {s:List UInt8} (aM:s=lk.getD n []):(s=[97,100,100])=(n=0)∧(s=[115,117,98])=(n=1)∧(s=[109,117,108])=(n=2)∧(s=[100,105,118])=(n=3)∧(s=[109,111,100])=(n=4)∧(s=[101,113])=(n=5)∧(s=[108,116])=(n=6)∧(s=[108,101])=(n=7)∧(s=[98,121,116,101])=(n=8)∧(s=[106,111,105,110])=(n=9)∧(s=[115,101,116])=(n=10)∧(s=[110,101,103])=(n=11)∧(s=[103,101,116,99])=(n=12)∧(s=[112,117,116,99])=(n=13)∧(s=[112,117,116,115])=(n=14)∧(s=[115,105,122,101])=(n=15)∧(s=[99,104,114])=(n=16)∧(s=[99,117,116])=(n=17):=by
 subst aM
 obtain ⟨aj,ad,ak,aB,bw,ej,gA,c6,hH,ia,il,jg,ni,ui,uj,xW,xX,xY⟩:=adq ⟨n,a1⟩
 exact ⟨propext aj,propext ad,propext ak,propext aB,propext bw,propext ej,propext gA,propext c6,propext hH,propext ia,propext il,propext jg,propext ni,propext ui,propext uj,propext xW,propext xX,propext xY⟩
theorem aeK {s:List UInt8} (aM:s=[97,100,100]) (dC bS:Int) {v:V} {h:ai} (H:cj h 1 v 2 (cd [dC,bS])):bB Tryz.prog 155 [.str s,v] h fun x J=>x=.bool (decide (dC=1)&&(decide (bS=1)&&true))∧J=h:=by
 have E:=eC 0 (by decide) aM
 obtain ⟨cQ,ey,i0,a8⟩:=ic H rfl 0 0 rfl (by simp)
 simp only [List.getElem_cons_zero,List.getElem_cons_succ] at a8
 obtain ⟨bX,dj,i1,bc⟩:=ic H rfl 1 1 rfl (by simp)
 simp only [List.getElem_cons_zero,List.getElem_cons_succ] at bc
 refine lC rfl (bO ?_)
 unfold kZ
 by_cases aj:dC=1
 · have c4:=eq_true aj
   by_cases ad:bS=1
   · have dZ:=eq_true ad
     simp +contextual only [i0,a8,i1,bc,c4,dZ,E,decide_true,Bool.and_self,↓ab,ae,simprocAttr]
   · have dZ:=eq_false ad
     simp +contextual only [i0,a8,i1,bc,c4,dZ,E,decide_true,decide_false,Bool.false_and,Bool.true_and,Bool.and_self,↓ab,ae,simprocAttr]
 · have c4:=eq_false aj
   simp +contextual only [i0,a8,i1,bc,c4,E,decide_true,decide_false,Bool.false_and,Bool.true_and,Bool.and_self,↓ab,ae,simprocAttr]
theorem ae1 {s:List UInt8} (aM:s=[115,117,98]) (dC bS:Int) {v:V} {h:ai} (H:cj h 1 v 2 (cd [dC,bS])):bB Tryz.prog 155 [.str s,v] h fun x J=>x=.bool (decide (dC=1)&&(decide (bS=1)&&true))∧J=h:=by
 have E:=eC 1 (by decide) aM
 obtain ⟨cQ,ey,i0,a8⟩:=ic H rfl 0 0 rfl (by simp)
 simp only [List.getElem_cons_zero,List.getElem_cons_succ] at a8
 obtain ⟨bX,dj,i1,bc⟩:=ic H rfl 1 1 rfl (by simp)
 simp only [List.getElem_cons_zero,List.getElem_cons_succ] at bc
 refine lC rfl (bO ?_)
 unfold kZ
 by_cases aj:dC=1
 · have c4:=eq_true aj
   by_cases ad:bS=1
   · have dZ:=eq_true ad
     simp +contextual only [i0,a8,i1,bc,c4,dZ,E,decide_true,Bool.and_self,↓ab,ae,simprocAttr]
   · have dZ:=eq_false ad
     simp +contextual only [i0,a8,i1,bc,c4,dZ,E,decide_true,decide_false,Bool.false_and,Bool.true_and,Bool.and_self,↓ab,ae,simprocAttr]
 · have c4:=eq_false aj
   simp +contextual only [i0,a8,i1,bc,c4,E,decide_true,decide_false,Bool.false_and,Bool.true_and,Bool.and_self,↓ab,ae,simprocAttr]
theorem aeV {s:List UInt8} (aM:s=[109,117,108]) (dC bS:Int) {v:V} {h:ai} (H:cj h 1 v 2 (cd [dC,bS])):bB Tryz.prog 155 [.str s,v] h fun x J=>x=.bool (decide (dC=1)&&(decide (bS=1)&&true))∧J=h:=by
 have E:=eC 2 (by decide) aM
 obtain ⟨cQ,ey,i0,a8⟩:=ic H rfl 0 0 rfl (by simp)
 simp only [List.getElem_cons_zero,List.getElem_cons_succ] at a8
 obtain ⟨bX,dj,i1,bc⟩:=ic H rfl 1 1 rfl (by simp)
 simp only [List.getElem_cons_zero,List.getElem_cons_succ] at bc
 refine lC rfl (bO ?_)
 unfold kZ
 by_cases aj:dC=1
 · have c4:=eq_true aj
   by_cases ad:bS=1
   · have dZ:=eq_true ad
     simp +contextual only [i0,a8,i1,bc,c4,dZ,E,decide_true,Bool.and_self,↓ab,ae,simprocAttr]
   · have dZ:=eq_false ad
     simp +contextual only [i0,a8,i1,bc,c4,dZ,E,decide_true,decide_false,Bool.false_and,Bool.true_and,Bool.and_self,↓ab,ae,simprocAttr]
 · have c4:=eq_false aj
   simp +contextual only [i0,a8,i1,bc,c4,E,decide_true,decide_false,Bool.false_and,Bool.true_and,Bool.and_self,↓ab,ae,simprocAttr]
theorem aeO {s:List UInt8} (aM:s=[100,105,118]) (dC bS:Int) {v:V} {h:ai} (H:cj h 1 v 2 (cd [dC,bS])):bB Tryz.prog 155 [.str s,v] h fun x J=>x=.bool (decide (dC=1)&&(decide (bS=1)&&true))∧J=h:=by
 have E:=eC 3 (by decide) aM
 obtain ⟨cQ,ey,i0,a8⟩:=ic H rfl 0 0 rfl (by simp)
 simp only [List.getElem_cons_zero,List.getElem_cons_succ] at a8
 obtain ⟨bX,dj,i1,bc⟩:=ic H rfl 1 1 rfl (by simp)
 simp only [List.getElem_cons_zero,List.getElem_cons_succ] at bc
 refine lC rfl (bO ?_)
 unfold kZ
 by_cases aj:dC=1
 · have c4:=eq_true aj
   by_cases ad:bS=1
   · have dZ:=eq_true ad
     simp +contextual only [i0,a8,i1,bc,c4,dZ,E,decide_true,Bool.and_self,↓ab,ae,simprocAttr]
   · have dZ:=eq_false ad
     simp +contextual only [i0,a8,i1,bc,c4,dZ,E,decide_true,decide_false,Bool.false_and,Bool.true_and,Bool.and_self,↓ab,ae,simprocAttr]
 · have c4:=eq_false aj
   simp +contextual only [i0,a8,i1,bc,c4,E,decide_true,decide_false,Bool.false_and,Bool.true_and,Bool.and_self,↓ab,ae,simprocAttr]
theorem aeU {s:List UInt8} (aM:s=[109,111,100]) (dC bS:Int) {v:V} {h:ai} (H:cj h 1 v 2 (cd [dC,bS])):bB Tryz.prog 155 [.str s,v] h fun x J=>x=.bool (decide (dC=1)&&(decide (bS=1)&&true))∧J=h:=by
 have E:=eC 4 (by decide) aM
 obtain ⟨cQ,ey,i0,a8⟩:=ic H rfl 0 0 rfl (by simp)
 simp only [List.getElem_cons_zero,List.getElem_cons_succ] at a8
 obtain ⟨bX,dj,i1,bc⟩:=ic H rfl 1 1 rfl (by simp)
 simp only [List.getElem_cons_zero,List.getElem_cons_succ] at bc
 refine lC rfl (bO ?_)
 unfold kZ
 by_cases aj:dC=1
 · have c4:=eq_true aj
   by_cases ad:bS=1
   · have dZ:=eq_true ad
     simp +contextual only [i0,a8,i1,bc,c4,dZ,E,decide_true,Bool.and_self,↓ab,ae,simprocAttr]
   · have dZ:=eq_false ad
     simp +contextual only [i0,a8,i1,bc,c4,dZ,E,decide_true,decide_false,Bool.false_and,Bool.true_and,Bool.and_self,↓ab,ae,simprocAttr]
 · have c4:=eq_false aj
   simp +contextual only [i0,a8,i1,bc,c4,E,decide_true,decide_false,Bool.false_and,Bool.true_and,Bool.and_self,↓ab,ae,simprocAttr]
theorem aeP {s:List UInt8} (aM:s=[101,113]) (dC bS:Int) {v:V} {h:ai} (H:cj h 1 v 2 (cd [dC,bS])):bB Tryz.prog 155 [.str s,v] h fun x J=>x=.bool (decide (dC=1)&&(decide (bS=1)&&true))∧J=h:=by
 have E:=eC 5 (by decide) aM
 obtain ⟨cQ,ey,i0,a8⟩:=ic H rfl 0 0 rfl (by simp)
 simp only [List.getElem_cons_zero,List.getElem_cons_succ] at a8
 obtain ⟨bX,dj,i1,bc⟩:=ic H rfl 1 1 rfl (by simp)
 simp only [List.getElem_cons_zero,List.getElem_cons_succ] at bc
 refine lC rfl (bO ?_)
 unfold kZ
 by_cases aj:dC=1
 · have c4:=eq_true aj
   by_cases ad:bS=1
   · have dZ:=eq_true ad
     simp +contextual only [i0,a8,i1,bc,c4,dZ,E,decide_true,Bool.and_self,↓ab,ae,simprocAttr]
   · have dZ:=eq_false ad
     simp +contextual only [i0,a8,i1,bc,c4,dZ,E,decide_true,decide_false,Bool.false_and,Bool.true_and,Bool.and_self,↓ab,ae,simprocAttr]
 · have c4:=eq_false aj
   simp +contextual only [i0,a8,i1,bc,c4,E,decide_true,decide_false,Bool.false_and,Bool.true_and,Bool.and_self,↓ab,ae,simprocAttr]
theorem aeT {s:List UInt8} (aM:s=[108,116]) (dC bS:Int) {v:V} {h:ai} (H:cj h 1 v 2 (cd [dC,bS])):bB Tryz.prog 155 [.str s,v] h fun x J=>x=.bool (decide (dC=1)&&(decide (bS=1)&&true))∧J=h:=by
 have E:=eC 6 (by decide) aM
 obtain ⟨cQ,ey,i0,a8⟩:=ic H rfl 0 0 rfl (by simp)
 simp only [List.getElem_cons_zero,List.getElem_cons_succ] at a8
 obtain ⟨bX,dj,i1,bc⟩:=ic H rfl 1 1 rfl (by simp)
 simp only [List.getElem_cons_zero,List.getElem_cons_succ] at bc
 refine lC rfl (bO ?_)
 unfold kZ
 by_cases aj:dC=1
 · have c4:=eq_true aj
   by_cases ad:bS=1
   · have dZ:=eq_true ad
     simp +contextual only [i0,a8,i1,bc,c4,dZ,E,decide_true,Bool.and_self,↓ab,ae,simprocAttr]
   · have dZ:=eq_false ad
     simp +contextual only [i0,a8,i1,bc,c4,dZ,E,decide_true,decide_false,Bool.false_and,Bool.true_and,Bool.and_self,↓ab,ae,simprocAttr]
 · have c4:=eq_false aj
   simp +contextual only [i0,a8,i1,bc,c4,E,decide_true,decide_false,Bool.false_and,Bool.true_and,Bool.and_self,↓ab,ae,simprocAttr]
theorem aeS {s:List UInt8} (aM:s=[108,101]) (dC bS:Int) {v:V} {h:ai} (H:cj h 1 v 2 (cd [dC,bS])):bB Tryz.prog 155 [.str s,v] h fun x J=>x=.bool (decide (dC=1)&&(decide (bS=1)&&true))∧J=h:=by
 have E:=eC 7 (by decide) aM
 obtain ⟨cQ,ey,i0,a8⟩:=ic H rfl 0 0 rfl (by simp)
 simp only [List.getElem_cons_zero,List.getElem_cons_succ] at a8
 obtain ⟨bX,dj,i1,bc⟩:=ic H rfl 1 1 rfl (by simp)
 simp only [List.getElem_cons_zero,List.getElem_cons_succ] at bc
 refine lC rfl (bO ?_)
 unfold kZ
 by_cases aj:dC=1
 · have c4:=eq_true aj
   by_cases ad:bS=1
   · have dZ:=eq_true ad
     simp +contextual only [i0,a8,i1,bc,c4,dZ,E,decide_true,Bool.and_self,↓ab,ae,simprocAttr]
   · have dZ:=eq_false ad
     simp +contextual only [i0,a8,i1,bc,c4,dZ,E,decide_true,decide_false,Bool.false_and,Bool.true_and,Bool.and_self,↓ab,ae,simprocAttr]
 · have c4:=eq_false aj
   simp +contextual only [i0,a8,i1,bc,c4,E,decide_true,decide_false,Bool.false_and,Bool.true_and,Bool.and_self,↓ab,ae,simprocAttr]
theorem aeL {s:List UInt8} (aM:s=[98,121,116,101]) (dC bS:Int) {v:V} {h:ai} (H:cj h 1 v 2 (cd [dC,bS])):bB Tryz.prog 155 [.str s,v] h fun x J=>x=.bool (decide (dC=2)&&(decide (bS=1)&&true))∧J=h:=by
 have E:=eC 8 (by decide) aM
 obtain ⟨cQ,ey,i0,a8⟩:=ic H rfl 0 0 rfl (by simp)
 simp only [List.getElem_cons_zero,List.getElem_cons_succ] at a8
 obtain ⟨bX,dj,i1,bc⟩:=ic H rfl 1 1 rfl (by simp)
 simp only [List.getElem_cons_zero,List.getElem_cons_succ] at bc
 refine lC rfl (bO ?_)
 unfold kZ
 by_cases aj:dC=2
 · have c4:=eq_true aj
   by_cases ad:bS=1
   · have dZ:=eq_true ad
     simp +contextual only [i0,a8,i1,bc,c4,dZ,E,decide_true,Bool.and_self,↓ab,ae,simprocAttr]
   · have dZ:=eq_false ad
     simp +contextual only [i0,a8,i1,bc,c4,dZ,E,decide_true,decide_false,Bool.false_and,Bool.true_and,Bool.and_self,↓ab,ae,simprocAttr]
 · have c4:=eq_false aj
   simp +contextual only [i0,a8,i1,bc,c4,E,decide_true,decide_false,Bool.false_and,Bool.true_and,Bool.and_self,↓ab,ae,simprocAttr]
theorem aeR {s:List UInt8} (aM:s=[106,111,105,110]) (dC bS:Int) {v:V} {h:ai} (H:cj h 1 v 2 (cd [dC,bS])):bB Tryz.prog 155 [.str s,v] h fun x J=>x=.bool (decide (dC=2)&&(decide (bS=2)&&true))∧J=h:=by
 have E:=eC 9 (by decide) aM
 obtain ⟨cQ,ey,i0,a8⟩:=ic H rfl 0 0 rfl (by simp)
 simp only [List.getElem_cons_zero,List.getElem_cons_succ] at a8
 obtain ⟨bX,dj,i1,bc⟩:=ic H rfl 1 1 rfl (by simp)
 simp only [List.getElem_cons_zero,List.getElem_cons_succ] at bc
 refine lC rfl (bO ?_)
 unfold kZ
 by_cases aj:dC=2
 · have c4:=eq_true aj
   by_cases ad:bS=2
   · have dZ:=eq_true ad
     simp +contextual only [i0,a8,i1,bc,c4,dZ,E,decide_true,Bool.and_self,↓ab,ae,simprocAttr]
   · have dZ:=eq_false ad
     simp +contextual only [i0,a8,i1,bc,c4,dZ,E,decide_true,decide_false,Bool.false_and,Bool.true_and,Bool.and_self,↓ab,ae,simprocAttr]
 · have c4:=eq_false aj
   simp +contextual only [i0,a8,i1,bc,c4,E,decide_true,decide_false,Bool.false_and,Bool.true_and,Bool.and_self,↓ab,ae,simprocAttr]
theorem aeZ {s:List UInt8} (aM:s=[115,101,116]) (dC bS:Int) {v:V} {h:ai} (H:cj h 1 v 2 (cd [dC,bS])):bB Tryz.prog 155 [.str s,v] h fun x J=>x=.bool (decide (dC=4)&&true)∧J=h:=by
 have E:=eC 10 (by decide) aM
 obtain ⟨cQ,ey,i0,a8⟩:=ic H rfl 0 0 rfl (by simp)
 simp only [List.getElem_cons_zero,List.getElem_cons_succ] at a8
 refine lC rfl (bO ?_)
 unfold kZ
 by_cases aj:dC=4
 · have c4:=eq_true aj
   simp +contextual only [i0,a8,c4,E,decide_true,Bool.and_self,↓ab,ae,simprocAttr]
 · have c4:=eq_false aj
   simp +contextual only [i0,a8,c4,E,decide_true,decide_false,Bool.false_and,Bool.true_and,Bool.and_self,↓ab,ae,simprocAttr]
theorem aeW {s:List UInt8} (aM:s=[110,101,103]) (dC:Int) {v:V} {h:ai} (H:cj h 1 v 1 (cd [dC])):bB Tryz.prog 155 [.str s,v] h fun x J=>x=.bool (decide (dC=1)&&true)∧J=h:=by
 have E:=eC 11 (by decide) aM
 obtain ⟨cQ,ey,i0,a8⟩:=ic H rfl 0 0 rfl (by simp)
 simp only [List.getElem_cons_zero,List.getElem_cons_succ] at a8
 refine lC rfl (bO ?_)
 unfold kZ
 by_cases aj:dC=1
 · have c4:=eq_true aj
   simp +contextual only [i0,a8,c4,E,decide_true,Bool.and_self,↓ab,ae,simprocAttr]
 · have c4:=eq_false aj
   simp +contextual only [i0,a8,c4,E,decide_true,decide_false,Bool.false_and,Bool.true_and,Bool.and_self,↓ab,ae,simprocAttr]
theorem aeQ {s:List UInt8} (aM:s=[103,101,116,99]) (dC:Int) {v:V} {h:ai} (H:cj h 1 v 1 (cd [dC])):bB Tryz.prog 155 [.str s,v] h fun x J=>x=.bool (true)∧J=h:=by
 have E:=eC 12 (by decide) aM
 refine lC rfl (bO ?_)
 unfold kZ
 simp +contextual only [E,decide_true,Bool.and_self,↓ab,ae,simprocAttr]
theorem aeX {s:List UInt8} (aM:s=[112,117,116,99]) (dC:Int) {v:V} {h:ai} (H:cj h 1 v 1 (cd [dC])):bB Tryz.prog 155 [.str s,v] h fun x J=>x=.bool (decide (dC=1)&&true)∧J=h:=by
 have E:=eC 13 (by decide) aM
 obtain ⟨cQ,ey,i0,a8⟩:=ic H rfl 0 0 rfl (by simp)
 simp only [List.getElem_cons_zero,List.getElem_cons_succ] at a8
 refine lC rfl (bO ?_)
 unfold kZ
 by_cases aj:dC=1
 · have c4:=eq_true aj
   simp +contextual only [i0,a8,c4,E,decide_true,Bool.and_self,↓ab,ae,simprocAttr]
 · have c4:=eq_false aj
   simp +contextual only [i0,a8,c4,E,decide_true,decide_false,Bool.false_and,Bool.true_and,Bool.and_self,↓ab,ae,simprocAttr]
theorem aeY {s:List UInt8} (aM:s=[112,117,116,115]) (dC:Int) {v:V} {h:ai} (H:cj h 1 v 1 (cd [dC])):bB Tryz.prog 155 [.str s,v] h fun x J=>x=.bool (decide (dC=2)&&true)∧J=h:=by
 have E:=eC 14 (by decide) aM
 obtain ⟨cQ,ey,i0,a8⟩:=ic H rfl 0 0 rfl (by simp)
 simp only [List.getElem_cons_zero,List.getElem_cons_succ] at a8
 refine lC rfl (bO ?_)
 unfold kZ
 by_cases aj:dC=2
 · have c4:=eq_true aj
   simp +contextual only [i0,a8,c4,E,decide_true,Bool.and_self,↓ab,ae,simprocAttr]
 · have c4:=eq_false aj
   simp +contextual only [i0,a8,c4,E,decide_true,decide_false,Bool.false_and,Bool.true_and,Bool.and_self,↓ab,ae,simprocAttr]
theorem ae0 {s:List UInt8} (aM:s=[115,105,122,101]) (dC:Int) {v:V} {h:ai} (H:cj h 1 v 1 (cd [dC])):bB Tryz.prog 155 [.str s,v] h fun x J=>x=.bool (decide (dC=2)&&true)∧J=h:=by
 have E:=eC 15 (by decide) aM
 obtain ⟨cQ,ey,i0,a8⟩:=ic H rfl 0 0 rfl (by simp)
 simp only [List.getElem_cons_zero,List.getElem_cons_succ] at a8
 refine lC rfl (bO ?_)
 unfold kZ
 by_cases aj:dC=2
 · have c4:=eq_true aj
   simp +contextual only [i0,a8,c4,E,decide_true,Bool.and_self,↓ab,ae,simprocAttr]
 · have c4:=eq_false aj
   simp +contextual only [i0,a8,c4,E,decide_true,decide_false,Bool.false_and,Bool.true_and,Bool.and_self,↓ab,ae,simprocAttr]
theorem aeM {s:List UInt8} (aM:s=[99,104,114]) (dC:Int) {v:V} {h:ai} (H:cj h 1 v 1 (cd [dC])):bB Tryz.prog 155 [.str s,v] h fun x J=>x=.bool (decide (dC=1)&&true)∧J=h:=by
 have E:=eC 16 (by decide) aM
 obtain ⟨cQ,ey,i0,a8⟩:=ic H rfl 0 0 rfl (by simp)
 simp only [List.getElem_cons_zero,List.getElem_cons_succ] at a8
 refine lC rfl (bO ?_)
 unfold kZ
 by_cases aj:dC=1
 · have c4:=eq_true aj
   simp +contextual only [i0,a8,c4,E,decide_true,Bool.and_self,↓ab,ae,simprocAttr]
 · have c4:=eq_false aj
   simp +contextual only [i0,a8,c4,E,decide_true,decide_false,Bool.false_and,Bool.true_and,Bool.and_self,↓ab,ae,simprocAttr]
theorem aeN {s:List UInt8} (aM:s=[99,117,116]) (dC bS cF:Int) {v:V} {h:ai} (H:cj h 1 v 3 (cd [dC,bS,cF])):bB Tryz.prog 155 [.str s,v] h fun x J=>x=.bool (decide (dC=2)&&(decide (bS=1)&&(decide (cF=1)&&true)))∧J=h:=by
 have E:=eC 17 (by decide) aM
 obtain ⟨cQ,ey,i0,a8⟩:=ic H rfl 0 0 rfl (by simp)
 simp only [List.getElem_cons_zero,List.getElem_cons_succ] at a8
 obtain ⟨bX,dj,i1,bc⟩:=ic H rfl 1 1 rfl (by simp)
 simp only [List.getElem_cons_zero,List.getElem_cons_succ] at bc
 obtain ⟨cD,eW,i2,eI⟩:=ic H rfl 2 2 rfl (by simp)
 simp only [List.getElem_cons_zero,List.getElem_cons_succ] at eI
 refine lC rfl (bO ?_)
 unfold kZ
 by_cases aj:dC=2
 · have c4:=eq_true aj
   by_cases ad:bS=1
   · have dZ:=eq_true ad
     by_cases ak:cF=1
     · have k4:=eq_true ak
       simp +contextual only [i0,a8,i1,bc,i2,eI,c4,dZ,k4,E,decide_true,Bool.and_self,↓ab,ae,simprocAttr]
     · have k4:=eq_false ak
       simp +contextual only [i0,a8,i1,bc,i2,eI,c4,dZ,k4,E,decide_true,decide_false,Bool.false_and,Bool.true_and,Bool.and_self,↓ab,ae,simprocAttr]
   · have dZ:=eq_false ad
     simp +contextual only [i0,a8,i1,bc,i2,eI,c4,dZ,E,decide_true,decide_false,Bool.false_and,Bool.true_and,Bool.and_self,↓ab,ae,simprocAttr]
 · have c4:=eq_false aj
   simp +contextual only [i0,a8,i1,bc,i2,eI,c4,E,decide_true,decide_false,Bool.false_and,Bool.true_and,Bool.and_self,↓ab,ae,simprocAttr]
theorem aea {s:List UInt8} (aM:s=[97,100,100]) (a b:Int) (h:ai) (bT:gw a) (af:gw b):bB Tryz.prog 159 [.str s,.int .i64 a,.int .i64 b] h fun x J=>∃y cs,x=.tuple [y,.bool true]∧o9 (.int (wr (a+b)))=some cs∧gX h J y cs:=by
 have E:=eC 0 (by decide) aM
 refine rz rfl (bO ?_)
 unfold qo
 have ba:-2305843009213693952≤a+b∧a+b≤2305843009213693952:=by obtain ⟨bt,b1⟩:=bT;obtain ⟨bX,cD⟩:=af;constructor<;>omega
 have w:IntKind.i64.wrap (a+b)=a+b:=wrap_i64 (by omega) (by omega)
 simp +contextual only [w,E,↓ab,ae,simprocAttr]
 refine ih (yF (a+b) h ba) ?_
 simp +contextual only [w,E,↓ab,ae,simprocAttr]
 refine aS (q' h (wr (a+b))) ?_
 rintro y ad F
 simp +contextual only [w,E,↓ab,ae,simprocAttr]
 exact ⟨y,_,rfl,rfl,F⟩
theorem aej {s:List UInt8} (aM:s=[115,117,98]) (a b:Int) (h:ai) (bT:gw a) (af:gw b):bB Tryz.prog 159 [.str s,.int .i64 a,.int .i64 b] h fun x J=>∃y cs,x=.tuple [y,.bool true]∧o9 (.int (wr (a-b)))=some cs∧gX h J y cs:=by
 have E:=eC 1 (by decide) aM
 refine rz rfl (bO ?_)
 unfold qo
 have ba:-2305843009213693952≤a-b∧a-b≤2305843009213693952:=by obtain ⟨bt,b1⟩:=bT;obtain ⟨bX,cD⟩:=af;constructor<;>omega
 have w:IntKind.i64.wrap (a-b)=a-b:=wrap_i64 (by omega) (by omega)
 simp +contextual only [w,E,↓ab,ae,simprocAttr]
 refine ih (yF (a-b) h ba) ?_
 simp +contextual only [w,E,↓ab,ae,simprocAttr]
 refine aS (q' h (wr (a-b))) ?_
 rintro y ad F
 simp +contextual only [w,E,↓ab,ae,simprocAttr]
 exact ⟨y,_,rfl,rfl,F⟩
theorem aei {s:List UInt8} (aM:s=[109,117,108]) (a b:Int) (h:ai) (bT:gw a) (af:gw b):bB Tryz.prog 159 [.str s,.int .i64 a,.int .i64 b] h fun x J=>∃y cs,x=.tuple [y,.bool true]∧o9 (.int (wr (a * b)))=some cs∧gX h J y cs:=by
 have E:=eC 2 (by decide) aM
 refine rz rfl (bO ?_)
 unfold qo
 have ba:-2305843009213693952≤a * b∧a * b≤2305843009213693952:=by exact QD bT af
 have w:IntKind.i64.wrap (a * b)=a * b:=wrap_i64 (by omega) (by omega)
 simp +contextual only [w,E,↓ab,ae,simprocAttr]
 refine ih (yF (a * b) h ba) ?_
 simp +contextual only [w,E,↓ab,ae,simprocAttr]
 refine aS (q' h (wr (a * b))) ?_
 rintro y ad F
 simp +contextual only [w,E,↓ab,ae,simprocAttr]
 exact ⟨y,_,rfl,rfl,F⟩
theorem aed {s:List UInt8} (aM:s=[101,113]) (a b:Int) (h:ai) (bT:gw a) (af:gw b):bB Tryz.prog 159 [.str s,.int .i64 a,.int .i64 b] h fun x J=>∃y cs,x=.tuple [y,.bool true]∧o9 (av.ny (decide (a=b)))=some cs∧gX h J y cs:=by
 have E:=eC 5 (by decide) aM
 refine rz rfl (bO ?_)
 unfold qo
 simp +contextual only [E,↓ab,ae,simprocAttr]
 refine aS (IH h (decide (a=b))) ?_
 rintro y ad F
 simp +contextual only [E,↓ab,ae,simprocAttr]
 exact ⟨y,_,rfl,rfl,F⟩
theorem aef {s:List UInt8} (aM:s=[108,116]) (a b:Int) (h:ai) (bT:gw a) (af:gw b):bB Tryz.prog 159 [.str s,.int .i64 a,.int .i64 b] h fun x J=>∃y cs,x=.tuple [y,.bool true]∧o9 (av.ny (decide (a<b)))=some cs∧gX h J y cs:=by
 have E:=eC 6 (by decide) aM
 refine rz rfl (bO ?_)
 unfold qo
 simp +contextual only [E,↓ab,ae,simprocAttr]
 refine aS (IH h (decide (a<b))) ?_
 rintro y ad F
 simp +contextual only [E,↓ab,ae,simprocAttr]
 exact ⟨y,_,rfl,rfl,F⟩
theorem aee {s:List UInt8} (aM:s=[108,101]) (a b:Int) (h:ai) (bT:gw a) (af:gw b):bB Tryz.prog 159 [.str s,.int .i64 a,.int .i64 b] h fun x J=>∃y cs,x=.tuple [y,.bool true]∧o9 (av.ny (decide (a≤b)))=some cs∧gX h J y cs:=by
 have E:=eC 7 (by decide) aM
 refine rz rfl (bO ?_)
 unfold qo
 simp +contextual only [E,↓ab,ae,simprocAttr]
 refine aS (IH h (decide (a≤b))) ?_
 rintro y ad F
 simp +contextual only [E,↓ab,ae,simprocAttr]
 exact ⟨y,_,rfl,rfl,F⟩
theorem aeb {s:List UInt8} (aM:s=[100,105,118]) (a b:Int) (h:ai) (bT:gw a) (af:gw b) (aj:b≠0):bB Tryz.prog 159 [.str s,.int .i64 a,.int .i64 b] h fun x J=>∃y cs,x=.tuple [y,.bool true]∧o9 (.int (wr (a.tdiv b)))=some cs∧gX h J y cs:=by
 have E:=eC 3 (by decide) aM
 refine rz rfl (bO ?_)
 unfold qo
 have ba:=QB bT aj
 have k:(e4.int .quo).run Tryz.prog (.int .i64 a) (.int .i64 b)=some (.int .i64 (a.tdiv b)):=by
  rw [OR .i64 a b aj,wrap_i64 (by omega) (by omega)]
 have z:(b=0)=False:=eq_false aj
 simp +contextual only [k,z,E,↓ab,ae,simprocAttr]
 refine ih (yF (a.tdiv b) h ⟨by omega,by omega⟩) ?_
 simp +contextual only [k,z,E,↓ab,ae,simprocAttr]
 refine aS (q' h (wr (a.tdiv b))) ?_
 rintro y ad F
 simp +contextual only [k,z,E,↓ab,ae,simprocAttr]
 exact ⟨y,_,rfl,rfl,F⟩
theorem aec {s:List UInt8} (aM:s=[100,105,118]) (a:Int) (h:ai):bB Tryz.prog 159 [.str s,.int .i64 a,.int .i64 0] h fun x J=>x=.tuple [.cc,.bool false]∧J=h:=by
 have E:=eC 3 (by decide) aM
 refine rz rfl (bO ?_)
 unfold qo
 simp +contextual only [E,↓ab,ae,simprocAttr]
theorem aeg {s:List UInt8} (aM:s=[109,111,100]) (a b:Int) (h:ai) (bT:gw a) (af:gw b) (aj:b≠0):bB Tryz.prog 159 [.str s,.int .i64 a,.int .i64 b] h fun x J=>∃y cs,x=.tuple [y,.bool true]∧o9 (.int (wr (a.tmod b)))=some cs∧gX h J y cs:=by
 have E:=eC 4 (by decide) aM
 refine rz rfl (bO ?_)
 unfold qo
 have ba:=QC (a:=a) af aj
 have k:(e4.int .rem).run Tryz.prog (.int .i64 a) (.int .i64 b)=some (.int .i64 (a.tmod b)):=by
  rw [Dm .i64 a b aj]
 have z:(b=0)=False:=eq_false aj
 simp +contextual only [k,z,E,↓ab,ae,simprocAttr]
 refine ih (yF (a.tmod b) h ⟨by omega,by omega⟩) ?_
 simp +contextual only [k,z,E,↓ab,ae,simprocAttr]
 refine aS (q' h (wr (a.tmod b))) ?_
 rintro y ad F
 simp +contextual only [k,z,E,↓ab,ae,simprocAttr]
 exact ⟨y,_,rfl,rfl,F⟩
theorem aeh {s:List UInt8} (aM:s=[109,111,100]) (a:Int) (h:ai):bB Tryz.prog 159 [.str s,.int .i64 a,.int .i64 0] h fun x J=>x=.tuple [.cc,.bool false]∧J=h:=by
 have E:=eC 4 (by decide) aM
 refine rz rfl (bO ?_)
 unfold qo
 simp +contextual only [E,↓ab,ae,simprocAttr]
end Go.Proofs.YtjbiefneffiogaaGreat
