/- The chapter's functions, walked by the abstract machine: plain lemmas, no condition. Printed by a program from longer texts: names made short. -/
import Derived.Test.YtjbiefneffiogaaGreatM9
import Derived.Test.YtjbiefneffiogaaGreatM8
set_option linter.unusedSectionVars false
set_option linter.unusedSimpArgs false
set_option linter.unusedVariables false
namespace Go.Proofs.YtjbiefneffiogaaGreat
open Go ba
theorem M7 {P:Program} {n:Nat} (h:n≤4611686018427387904):(dO.int .quo).run P (.int .i64 (n:Int)) (.int .i64 100)=some (.int .i64 ((n / 100:Nat):Int)):=by
 simp only [dO.run,j5,tD,V.dD]
 rw [show (lk .i64 .i64&&!Int.hR 100 0)=true from rfl,cond_true]
 rw [show (n:Int).tdiv 100=((n / 100:Nat):Int) from by rw [Int.tdiv_eq_ediv_of_nonneg (by omega)];rfl,wrap_i64 (by omega) (by omega)]
theorem Hd {m:Nat}:∀(a:List At),(∀q ∈ a,q.s.length≤m)→lM a≤a.length * (m / 100)
 | [],_=>by simp [lM]
 | q::a,h=>by
   have ab:=Hd a fun p aH=>h p (by simp [aH])
   have af:=Nat.div_le_div_right (c:=100) (h q (by simp))
   simp only [lM,List.length_cons,Nat.add_mul]
   omega
def own (c:aw):Nat:=1+c.a.length+c.t.length+c.s.length / 100+lM c.a
theorem adA (c:aw):wt c=own c+gj c.l:=by cases c;rfl
theorem aaA {c:aw} (au:fit 1048576 c):own c≤20000000000:=by
 obtain ⟨k,x,n,s,a,t,l⟩:=c
 obtain ⟨ab,af,aK,bM,e8,fZ⟩:=au
 have cn:=Hd a e8
 have er:a.length * (1048576 / 100)≤1048576 * (1048576 / 100):=Nat.mul_le_mul_right _ af
 simp only [own,aw.a,aw.t,aw.s]
 omega
set_option maxHeartbeats 1000000 in
theorem Jx:∀(N:Nat) (c:aw),size c≤N→fit 1048576 c→∀(ad:List V) (h:ag),eF h c ad→∀(m:Nat),m≤1000→
 bR Tryz.prog 39 [.agg ad,.int .i64 m] h fun x aa=>(∃n:Nat,x=.int .i64 n∧n≤m+20000000000∧(wt c≤m→n=wt c)∧(m<wt c→m<n))∧Ext h aa
 | 0,c,bk,_,_,_,_,_,_=>by have:=size_pos c;omega
 | N+1,c,bk,au,ad,h,H,m,hm=>by
   obtain ⟨f1,f2,f3,f4,f5⟩:=au.kids
   have oW:=sw c
   have r_:=aaA au
   have aeV:=adA c
   have UN:∀q ∈ c.a,q.s.length≤1048576:=by cases c;exact au.2.2.2.2.1
   obtain ⟨bl,bs,aY,rfl,cX,ea,cQ⟩:=H.open
   refine Rp rfl (b9 ?_)
   unfold Ik
   have b5:Ext h (h.new (.ar [.int .i64 c.k,.int .i64 c.x,.int .i64 c.n,.str c.s,bl,bs,aY] 0 false)):=(Ext.refl h).new _
   have gR:(h.new (.ar [.int .i64 c.k,.int .i64 c.x,.int .i64 c.n,.str c.s,bl,bs,aY] 0 false)).get (ak h.next)=.ar [.int .i64 c.k,.int .i64 c.x,.int .i64 c.n,.str c.s,bl,bs,aY] 0 false:=gT _
   have oZ:=(cX.ext b5).len
   have lt:=(ea.ext b5).len
   have q8:=(cQ.ext b5).len
   have eE:IntKind.i64.wrap (1 + (c.a.length:Int))=((1+c.a.length:Nat):Int):=by rw [wrap_i64 (by omega) (by omega)];push_cast;rfl
   have di:=wrap_add (a:=1+c.a.length) (b:=c.t.length) (by omega)
   have iW:=wrap_add (a:=1+c.a.length+c.t.length) (b:=c.s.length / 100) (by omega)
   have aG:=M7 (P:=Tryz.prog) (n:=c.s.length) (by omega)
   have fb:h.next < (h.new (.ar [.int .i64 c.k,.int .i64 c.x,.int .i64 c.n,.str c.s,bl,bs,aY] 0 false)).next:=by rw [cH];omega
   simp +contextual only [oZ,lt,q8,eE,di,iW,aG,↓ai,aq,simprocAttr]
   generalize h.new (.ar [.int .i64 c.k,.int .i64 c.x,.int .i64 c.n,.str c.s,bl,bs,aY] 0 false)=uB at *
   refine gz (fun r aa=>aa=uB∧r 1=.int .i64 m∧r 2=.ptr (ak h.next) 0∧∃(i n:Nat),r 6=.int .i64 i∧i≤c.a.length∧r 5=.int .i64 n∧n+lM (c.a.drop i)=own c) (fun r aa=>c.a.length - (r 6).hf) ?_ ?_
   · exact ⟨rfl,by simp only [↓ai,a2,simprocAttr],by simp only [↓ai,a2,simprocAttr],0,1+c.a.length+c.t.length+c.s.length / 100,by simp only [↓ai,a2,simprocAttr]<;>rfl,by omega,by simp only [↓ai,a2,simprocAttr],by rw [List.drop_zero];rfl⟩
   · rintro r aa ⟨rfl,bf,bV,i,n,m2,ax,e0,aX⟩
     unfold Il
     by_cases aS:i<c.a.length
     · have bP:((i:Int) < (c.a.length:Int))=True:=eq_true (by omega)
       obtain ⟨b,o,cl,gd,c7⟩:=uS (cX.ext b5) (k:=.i64) aS
       have gb:=c7 2 (by omega)
       have gi:=hg aS (by omega)
       rw [List.drop_eq_getElem_cons aS,lM] at aX
       have aeQ:=UN _ (List.getElem_mem aS)
       generalize c.a[i]=q at *
       rw [show q.enc[2]? =some (.str q.s) from rfl] at gb
       have az:=M7 (P:=Tryz.prog) (n:=q.s.length) (by omega)
       have m':=wrap_add (a:=n) (b:=q.s.length / 100) (by omega)
       simp +contextual only [bf,bV,e0,m2,gR,oZ,bP,cl,gb,az,m',gi,↓ai,aq,simprocAttr]
       exact ⟨⟨i+1,n+q.s.length / 100,rfl,aS,rfl,by omega⟩,by omega⟩
     · have bP:((i:Int) < (c.a.length:Int))=False:=eq_false (by omega)
       rw [List.drop_eq_nil_of_le (by omega),lM] at aX
       obtain rfl:n=own c:=by omega
       simp +contextual only [bf,bV,e0,m2,gR,oZ,bP,↓ai,aq,simprocAttr]
       refine gz (fun r af=>Ext aa af∧r 1=.int .i64 m∧r 2=.ptr (ak h.next) 0∧∃(i n:Nat),r 7=.int .i64 i∧i≤c.l.length∧r 5=.int .i64 n∧n≤m+20000000000∧(wt c≤m→n+gj (c.l.drop i)=wt c)∧(m<wt c→m<n+gj (c.l.drop i))) (fun r aa=>c.l.length - (r 7).hf) ?_ ?_
       · exact ⟨Ext.refl _,by simp only [bf,↓ai,a2,simprocAttr],by simp only [bV,↓ai,a2,simprocAttr],0,own c,by simp only [↓ai,a2,simprocAttr]<;>rfl,by omega,by simp only [e0,↓ai,a2,simprocAttr],by omega,fun _=>by rw [List.drop_zero];omega,fun _=>by rw [List.drop_zero];omega⟩
       · clear bf bV e0 m2
         rintro r af ⟨an,bf,bV,i,n,fU,ax,e0,ji,pH,oT⟩
         unfold Im
         have eb:af.get (ak h.next)=.ar [.int .i64 c.k,.int .i64 c.x,.int .i64 c.n,.str c.s,bl,bs,aY] 0 false:=by rw [an.get _ (dC fb)];exact gR
         by_cases aS:i<c.l.length
         · have bP:((i:Int) < (c.l.length:Int))=True:=eq_true (by omega)
           by_cases hle:n≤m
           · have bF:((n:Int)≤(m:Int))=True:=eq_true (by omega)
             obtain ⟨b,o,u,cl,hu,o1⟩:=cQ.rM (k:=.i64) aS
             have c7:=(o1 af (b5.trans an)).1
             have g9:c.l[i]? =some c.l[i]:=List.getElem?_eq_getElem aS
             have eC:=rl g9
             have gi:=hg aS (by omega)
             have ws:IntKind.i64.wrap ((m:Int) - (n:Int))=((m-n:Nat):Int):=by rw [wrap_i64 (by omega) (by omega)];omega
             rw [List.drop_eq_getElem_cons aS,gj] at pH oT
             simp +contextual only [bf,bV,e0,fU,eb,q8,bP,bF,cl,c7,ws,↓ai,aq,simprocAttr]
             refine bm (Jx N c.l[i] (by omega) (oF f5 g9) u af (hu.ext (b5.trans an)) (m-n) (by omega)) ?_
             rintro x aK ⟨⟨eS,rfl,b_,b1,cy⟩,c6⟩
             have m':=wrap_add (a:=n) (b:=eS) (by omega)
             simp +contextual only [bf,bV,e0,fU,m',gi,↓ai,aq,simprocAttr]
             refine ⟨⟨an.trans c6,i+1,n+eS,rfl,aS,rfl,by omega,fun q=>?_,fun q=>?_⟩,by omega⟩
             · have:=pH q
               have:=b1 (by omega)
               omega
             · have:=oT q
               by_cases aA:wt c.l[i]≤m-n
               · have:=b1 aA;omega
               · have:=cy (by omega);omega
           · have bF:((n:Int)≤(m:Int))=False:=eq_false (by omega)
             simp +contextual only [bf,bV,e0,fU,eb,q8,bP,bF,↓ai,aq,simprocAttr]
             exact ⟨⟨n,rfl,ji,fun q=>by have:=pH q;omega,fun q=>by omega⟩,b5.trans an⟩
         · have bP:((i:Int) < (c.l.length:Int))=False:=eq_false (by omega)
           rw [List.drop_eq_nil_of_le (by omega),gj] at pH oT
           simp +contextual only [bf,bV,e0,fU,eb,q8,bP,↓ai,aq,simprocAttr]
           exact ⟨⟨n,rfl,ji,fun q=>by have:=pH q;omega,fun q=>by have:=oT q;omega⟩,b5.trans an⟩
theorem YR (c:aw) (au:fit 1048576 c) (ad:List V) (h:ag) (H:eF h c ad):bR Tryz.prog 10 [.agg ad,.int .i64 400] h fun x aa=>x=.bool (decide (400<wt c))∧Ext h aa:=by
 obtain ⟨bl,bs,aY,rfl,cX,ea,cQ⟩:=H.open
 refine Q0 rfl (b9 ?_)
 unfold Hx
 have b5:Ext h (h.new (.ar [.int .i64 c.k,.int .i64 c.x,.int .i64 c.n,.str c.s,bl,bs,aY] 0 false)):=(Ext.refl h).new _
 simp +contextual only [↓ai,aq,simprocAttr]
 refine bm (Jx (size c) c (Nat.le_refl _) au _ _ (H.ext b5) 400 (by omega)) ?_
 rintro x ab ⟨⟨n,rfl,b_,b1,cy⟩,aL⟩
 by_cases hw:400<wt c
 · have aX:=cy hw
   have g:((400:Int) < (n:Int))=True:=eq_true (by omega)
   have dK:=eq_true hw
   simp +contextual only [g,dK,↓ai,aq,simprocAttr]
   exact b5.trans aL
 · have aX:=b1 (by omega)
   have g:((400:Int) < (n:Int))=False:=eq_false (by omega)
   have dK:=eq_false hw
   simp +contextual only [g,dK,↓ai,aq,simprocAttr]
   exact b5.trans aL
inductive GB (F:aN→Prop) (h:ag):aw→List V→Prop
 | mk {k x n:Int} {s:List UInt8} {a:List At} {t:List Int} {l:List aw} {bl bs aY:V} {us:List (List V)} (bH:cF h 3 bl a.length (gG a)) (aI:cF h 1 bs t.length (cC t))
   (aT:ym aY) (aB:cF h 7 aY l.length us.flatten) (hu:us.length=l.length) (kids:∀(i:Nat) (c:aw) (u:List V),l[i]? =some c→us[i]? =some u→GB F h c u)
   (cf:∀b,bl.a_ b→F b) (ef:∀b,bs.a_ b→F b) (cu:∀b,aY.a_ b→F b):
   GB F h (.mk k x n s a t l) [.int .i64 k,.int .i64 x,.int .i64 n,.str s,bl,bs,aY]
theorem Tv (us:List (List V)) (u:List V):(us++[u]).flatten=us.flatten++u:=by simp
theorem abz {B:Nat} {h:ag} {size n:Nat} {v:V} {ad:List V} (H:ca B h size v n ad):ym v:=by
 intro b off l c e
 exact cF.Se H b off l c e
theorem yv:∀{ms:List Nat},(∀(i k:Nat),ms[i]? =some k→1≤k)→ms.length≤ms.sum
 | [],_=>Nat.le_refl _
 | m::ms,h=>by
   have ao:=h 0 m rfl
   have:=yv (ms:=ms) fun i k q=>h (i+1) k (by simpa using q)
   simp only [List.length_cons,List.sum_cons]
   omega
theorem F3:∀{ms:List Nat} {i k:Nat},ms[i]? =some k→k≤ms.sum
 | [],_,_,h=>by simp at h
 | m::ms,0,k,h=>by simp only [List.getElem?_cons_zero,Option.some.injEq] at h;subst h;simp only [List.sum_cons];omega
 | m::ms,i+1,k,h=>by
   have:=F3 (ms:=ms) (i:=i) (k:=k) (by simpa using h)
   simp only [List.sum_cons];omega
theorem C3:Tryz.prog.cellsOf 41=3:=by kernel_rfl
theorem C2:Tryz.prog.cellsOf 26=7:=by kernel_rfl
theorem Sg:Tryz.prog.cellsOf 22=1:=by kernel_rfl
theorem Sh:Tryz.prog.cellsOf 23=1:=by kernel_rfl
theorem Si:Tryz.prog.cellsOf 24=1:=by kernel_rfl
theorem zo:Tryz.prog.cellsOf 3=1:=by kernel_rfl
theorem Jn:Tryz.prog.cellsOf 9=1:=by kernel_rfl
theorem zd:∀l:List At,l.flatMap At.enc=gG l
 | []=>rfl
 | a::l=>by rw [List.flatMap_cons,zd l];rfl
theorem Lm:∀l:List Int,l.flatMap (fun i=>[V.int .i64 i])=cC l
 | []=>rfl
 | a::l=>by rw [List.flatMap_cons,Lm l];rfl
set_option maxRecDepth 10000 in
theorem aah {h:ag} {n m:Nat} {ad:List V} (H:de Tryz.prog h n m 41 ad):∃a:At,ad=a.enc∧a.s.length≤m:=by
 obtain ⟨eS,rfl,aB,ms,ab,af,aK⟩:=H.struct Tryz.underlying41
 rw [C3] at aB
 match ad,aB with
 | [v0,v1,v2],_=>
   have jE:ms.length=3:=ab
   clear ab
   match ms,jE with
   | [EX,nV,o3],_=>
     have f0:=(aK 0 _ _ rfl rfl).2
     have f1:=(aK 1 _ _ rfl rfl).2
     have f2:=(aK 2 _ _ rfl rfl).2
     simp only [zo,Jn] at f0 f1 f2
     obtain ⟨i0,b5,_⟩:=f0.int Tryz.underlying3
     obtain ⟨i1,aL,_⟩:=f1.int Tryz.underlying3
     obtain ⟨s,bo,bk⟩:=f2.str Tryz.underlying9
     simp only [List.drop_zero,List.drop_succ_cons,List.take_succ_cons,List.take_zero,List.cons.injEq,and_true] at b5 aL bo
     subst b5 aL bo
     simp only [List.sum_cons,List.sum_nil] at af
     exact ⟨⟨i0,i1,s⟩,rfl,by simp only;omega⟩
theorem aai {h:ag} {n m:Nat} {v:V} {len:Nat} (H:wK h 3 v len m (fun k=>de Tryz.prog h n k 41)):∃a:List At,cF h 3 v a.length (gG a)∧a.length≤m∧∀q ∈ a,q.s.length≤m:=by
 obtain ⟨_,_,_,_,_,us,ms,ab,af,aK,bM⟩:=H
 have Ep:=yv fun i k q=>(bM i k q).1
 obtain ⟨ho,bF,bz,b6⟩:=collect At.enc 3 (fun a=>a.s.length≤m) len us ab.1 (fun i ax=>by
  obtain ⟨k,al⟩:∃k,ms[i]? =some k:=⟨_,List.getElem?_eq_getElem (by omega)⟩
  obtain ⟨a,e,q⟩:=aah (bM i k al).2
  have:=F3 al
  exact ⟨a,e,by omega⟩)
 subst bF
 rw [bz,zd] at ab
 exact ⟨ho,ab,by omega,b6⟩
theorem open_ints {h:ag} {n m:Nat} {v:V} {len:Nat} (H:wK h 1 v len m (fun k=>de Tryz.prog h n k 3)):∃a:List Int,cF h 1 v a.length (cC a)∧a.length≤m:=by
 obtain ⟨_,_,_,_,_,us,ms,ab,af,aK,bM⟩:=H
 have Ep:=yv fun i k q=>(bM i k q).1
 obtain ⟨ho,bF,bz,b6⟩:=collect (fun i=>[V.int .i64 i]) 1 (fun _=>True) len us ab.1 (fun i ax=>by
  obtain ⟨k,al⟩:∃k,ms[i]? =some k:=⟨_,List.getElem?_eq_getElem (by omega)⟩
  obtain ⟨a,e,q⟩:=(bM i k al).2.int Tryz.underlying3
  exact ⟨a,e,trivial⟩)
 subst bF
 rw [bz,Lm] at ab
 exact ⟨ho,ab,by omega⟩
theorem zL {m:Nat}:∀{l:List aw},(∀c ∈ l,fit m c)→fits m l
 | [],_=>trivial
 | c::cs,h=>⟨h c (by simp),zL fun d bE=>h d (by simp [bE])⟩
theorem fit.up {m l3:Nat} (h:m≤l3):∀c:aw,fit m c→fit l3 c:=by
 have both:∀N,(∀c:aw,size c≤N→fit m c→fit l3 c):=by
  intro N
  induction N with
  | zero=>intro c bk;have:=size_pos c;omega
  | succ N bb=>
    rintro ⟨k,x,n,s,a,t,l⟩ bk ⟨ab,af,aK,bM,e8,fZ⟩
    refine ⟨by omega,by omega,by omega,by omega,fun q aM=>Nat.le_trans (e8 q aM) h,zL fun d bE=>?_⟩
    obtain ⟨i,ax⟩:=List.getElem?_of_mem bE
    refine bb d ?_ (oF fZ ax)
    have:=v8 bE
    simp only [size] at bk
    omega
 exact fun c=>both (size c) c (Nat.le_refl _)
set_option maxRecDepth 10000 in
theorem Ms:∀(n:Nat) {m:Nat} {h:ag} {ad:List V},de Tryz.prog h n m 26 ad→∃c,eF h c ad∧fit m c
 | 0,m,h,ad,H=>H.elim
 | n+1,m,h,ad,H=>by
   obtain ⟨eS,e,aB,ms,ab,af,aK⟩:=H.struct Tryz.underlying26
   obtain rfl:n=eS:=by omega
   rw [C2] at aB
   match ad,aB with
   | [v0,v1,v2,v3,v4,v5,v6],_=>
     have jE:ms.length=7:=ab
     clear ab
     match ms,jE with
     | [EX,nV,o3,dV,jM,vD,LS],_=>
       have f0:=(aK 0 _ _ rfl rfl).2
       have f1:=(aK 1 _ _ rfl rfl).2
       have f2:=(aK 2 _ _ rfl rfl).2
       have f3:=(aK 3 _ _ rfl rfl).2
       have f4:=(aK 4 _ _ rfl rfl).2
       have f5:=(aK 5 _ _ rfl rfl).2
       have f6:=(aK 6 _ _ rfl rfl).2
       simp only [zo,Jn,Sg,Sh,Si] at f0 f1 f2 f3 f4 f5 f6
       obtain ⟨i0,b5,_⟩:=f0.int Tryz.underlying3
       obtain ⟨i1,aL,_⟩:=f1.int Tryz.underlying3
       obtain ⟨i2,bo,_⟩:=f2.int Tryz.underlying3
       obtain ⟨s,c6,bk⟩:=f3.str Tryz.underlying9
       obtain ⟨ZB,m',nS,dr,jB,jY⟩:=f4.slice Tryz.underlying22 (by rw [C3];decide)
       obtain ⟨n5,ade,YH,e0,qF,jZ⟩:=f5.slice Tryz.underlying23 (by rw [zo];decide)
       obtain ⟨n6,adf,YI,m2,qG,G2⟩:=f6.slice Tryz.underlying24 (by rw [C2];decide)
       simp only [List.drop_zero,List.drop_succ_cons,List.take_succ_cons,List.take_zero,List.cons.injEq,and_true] at b5 aL bo c6 jB qF qG
       subst b5 aL bo c6 jB qF qG
       simp only [List.sum_cons,List.sum_nil] at af
       rw [C3] at jY
       rw [zo] at jZ
       rw [C2] at G2
       obtain ⟨a,cX,g8,qK⟩:=aai jY
       obtain ⟨t,ea,K_⟩:=open_ints jZ
       obtain ⟨_,_,_,_,aT,us,ay,bT,b8,fp,h8⟩:=G2
       have Ep:=yv fun i k q=>(h8 i k q).1
       obtain ⟨bX,bF,bz,b6⟩:=collect (α:=aw × List V) Prod.snd 7 (fun p=>eF h p.1 p.2∧fit m p.1) YI us bT.1 (fun i ax=>by
        obtain ⟨k,al⟩:∃k,ay[i]? =some k:=⟨_,List.getElem?_eq_getElem (by omega)⟩
        have VQ:=(h8 i k al).2
        obtain rfl:n=n6+1:=m2
        obtain ⟨c,oM,DK⟩:=Ms n6 VQ
        have:=F3 al
        exact ⟨(c,_),rfl,oM,fit.up (by omega) c DK⟩)
       refine ⟨.mk i0 i1 i2 s a t (bX.map Prod.fst),.mk cX ea aT (us:=bX.map Prod.snd) ?_ (by simp) ?_,⟨by omega,by omega,by omega,by rw [List.length_map];omega,fun q aM=>by have:=qK q aM;omega,zL ?_⟩⟩
       · rw [List.length_map,bF,←List.flatMap_def,←bz]
         exact bT
       · intro i c u aG az
         rw [List.getElem?_map] at aG az
         cases aH:bX[i]? with
         | none=>rw [aH] at aG;cases aG
         | some p=>
           rw [aH] at aG az
           simp only [Option.map_some,Option.some.injEq] at aG az
           subst aG az
           exact (b6 p (List.mem_of_getElem? aH)).1
       · intro c aA
         obtain ⟨p,aH,rfl⟩:=List.mem_map.1 aA
         exact (b6 p aH).2
theorem Qt:ba.F6 ctx 100000 11 []=true:=by kernel_rfl
theorem Qs (h:ag):bR Tryz.prog 11 [] h fun x aa=>x=.bool true∧aa=h:=
 ⟨_,_,SE (fun E x an=>by simpa only [Rel] using an) ⟨_,Tryz.func11,by kernel_rfl⟩ (fun w hw=>acS (C:=ctx) follows E4 hw aaI Qt) h,rfl,rfl⟩
structure yK (A B:Nat) (ad us:List V) (g:ag):Prop where
 L9:A<g.next
 kY:B<g.next
 a:g.get (ak A)=.ar ad 0 false
 b:g.get (ak B)=.ar us 0 false
theorem yK.ext {A B:Nat} {ad us:List V} {g dK:ag} (H:yK A B ad us g) (e:Ext g dK):yK A B ad us dK:=
 ⟨Nat.lt_of_lt_of_le H.L9 e.next,Nat.lt_of_lt_of_le H.kY e.next,by rw [e.get _ (dC H.L9)];exact H.a,by rw [e.get _ (dC H.kY)];exact H.b⟩
def dX (f:Int→Int) (q:At):At:=if q.k=1 then ⟨q.k,f q.n,q.s⟩ else q
def fk (k:Int):Bool:=decide (k=2)||decide (k=11)||decide (k=7)
def aw.jQ:aw→Int→aw
 | .mk k x _ s a t l,n=>.mk k x n s a t l
mutual
def ck (f:Int→Int):aw→aw
 | .mk k x n s a t l=>.mk k (if fk k then f x else x) n s (a.map (dX f)) t (dz f (decide (k=8)) l)
def dz (f:Int→Int) (rc:Bool):List aw→List aw
 | []=>[]
 | c::cs=>(if rc&&!cs.isEmpty then (ck f c).jQ (f c.n) else ck f c)::dz f rc cs
end
theorem m3 (f:Int→Int) (rc:Bool):∀l:List aw,(dz f rc l).length=l.length
 | []=>by simp [dz]
 | c::cs=>by simp [dz,m3 f rc cs]
theorem Nk (f:Int→Int) (rc:Bool):∀(l:List aw) (i:Nat) (c:aw),l[i]? =some c→(dz f rc l)[i]? =some (if (rc&&decide (i+1<l.length))=true then (ck f c).jQ (f c.n) else ck f c)
 | [],_,_,h=>by simp at h
 | d::l,0,c,h=>by
   simp only [List.getElem?_cons_zero,Option.some.injEq] at h
   subst h
   simp only [dz,List.getElem?_cons_zero,List.length_cons]
   have:(!l.isEmpty)=decide (0+1<l.length+1):=by cases l<;>simp
   rw [this]
 | d::l,i+1,c,h=>by
   have:=Nk f rc l i c (by simpa using h)
   simp only [dz,List.getElem?_cons_succ,this,List.length_cons,Nat.add_lt_add_iff_right]
mutual
def used:aw→List Int
 | .mk k x n s a t l=>(if fk k then [x] else [])++(a.filter fun q=>decide (q.k=1)).map At.n++lD (decide (k=8)) l
def lD (rc:Bool):List aw→List Int
 | []=>[]
 | c::cs=>(if rc&&!cs.isEmpty then [c.n] else [])++used c++lD rc cs
end
mutual
theorem A_ {f g:Int→Int}:∀(c:aw),(∀z ∈ used c,f z=g z)→ck f c=ck g c
 | .mk k x n s a t l,h=>by
   simp only [used,List.mem_append] at h
   have ab:(if fk k then f x else x)=(if fk k then g x else x):=by
    by_cases ah:fk k=true
    · rw [if_pos ah,if_pos ah];exact h x (.inl (.inl (by rw [if_pos ah];simp)))
    · rw [if_neg ah,if_neg ah]
   have af:a.map (dX f)=a.map (dX g):=by
    apply List.map_congr_left
    intro q aM
    unfold dX
    by_cases al:q.k=1
    · rw [if_pos al,if_pos al,h q.n (.inl (.inr (List.mem_map_of_mem (List.mem_filter.2 ⟨aM,by simpa using al⟩))))]
    · rw [if_neg al,if_neg al]
   simp only [ck,ab,af,Nl (decide (k=8)) l fun z aV=>h z (.inr aV)]
theorem Nl {f g:Int→Int} (rc:Bool):∀(l:List aw),(∀z ∈ lD rc l,f z=g z)→dz f rc l=dz g rc l
 | [],_=>rfl
 | c::cs,h=>by
   simp only [lD,List.mem_append] at h
   have ab:=A_ c fun z aV=>h z (.inl (.inr aV))
   have af:=Nl rc cs fun z aV=>h z (.inr aV)
   simp only [dz,ab,af]
   by_cases aA:(rc&&!cs.isEmpty)=true
   · rw [if_pos aA,if_pos aA,h c.n (.inl (.inl (by rw [if_pos aA];simp)))]
   · rw [if_neg aA,if_neg aA]
end
mutual
theorem Gb:∀(c:aw) (b:List Int),o5 c→free c b=[]→∀z ∈ used c,z ∈ b∨z ∈ order c
 | .mk k x n s a t l,b,b7,h,z,aV=>by
   simp only [free,List.append_eq_nil_iff] at h
   simp only [used,List.mem_append] at aV
   obtain ⟨_,_,gA,sj⟩:=b7
   rcases aV with (aV | aV) | aV
   · right
     by_cases ah:fk k=true
     · rw [if_pos ah,List.mem_singleton] at aV
       subst aV
       simp only [order,List.mem_append]
       by_cases cn:k=7
       · left;rw [ownNames,if_pos cn];simp
       · right
         have jh:dL k=true:=by
          simp only [fk,Bool.or_eq_true,decide_eq_true_eq] at ah
          simp only [dL,Bool.or_eq_true,decide_eq_true_eq]
          omega
         have h7:=gA jh
         rw [jh,aas h7]
         simp
     · rw [if_neg ah] at aV;cases aV
   · left
     obtain ⟨q,aG,rfl⟩:=List.mem_map.1 aV
     obtain ⟨az,aW⟩:=List.mem_filter.1 aG
     have aW:q.k=1:=by simpa using aW
     refine Decidable.byContradiction fun aX=>?_
     have:q.n ∈ jw b a:=by
      unfold jw
      exact List.mem_map_of_mem (List.mem_filter.2 ⟨az,by simp [aW,aX]⟩)
     rw [h.1] at this
     cases this
   · simp only [order,List.mem_append]
     rcases Oz l (decide (k=8)) (dL k) x (b++ownNames k x l) 0 sj h.2 z aV with q | q | ⟨aG,az⟩
     · rcases List.mem_append.1 q with q | q
       · exact .inl q
       · exact .inr (.inl q)
     · exact .inr (.inr q)
     · have er:k=8:=by simpa using aG
       right;left
       rw [ownNames,if_neg (by omega),if_pos er]
       exact az
theorem Oz:∀(l:List aw) (rc late:Bool) (x:Int) (b:List Int) (i:Nat),pY l→hB late x l b i=[]→∀z ∈ lD rc l,z ∈ b∨z ∈ hk late x l i∨(rc=true∧z ∈ l.dropLast.map aw.n)
 | [],_,_,_,_,_,_,_,z,aV=>by simp [lD] at aV
 | c::cs,rc,late,x,b,i,b7,h,z,aV=>by
   simp only [hB,List.append_eq_nil_iff] at h
   simp only [lD,List.mem_append] at aV
   simp only [hk,List.mem_append]
   rcases aV with (aV | aV) | aV
   · by_cases aA:(rc&&!cs.isEmpty)=true
     · rw [if_pos aA,List.mem_singleton] at aV
       subst aV
       simp only [Bool.and_eq_true] at aA
       right;right
       refine ⟨aA.1,?_⟩
       cases cs with
       | nil=>simp at aA
       | cons d cs=>simp
     · rw [if_neg aA] at aV;cases aV
   · rcases Gb c _ b7.1 h.1 z aV with q | q
     · by_cases aB:(late&&i == 1)=true
       · rw [if_pos aB] at q
         rcases List.mem_append.1 q with q | q
         · exact .inl q
         · right;left;left;left
           rw [if_pos aB];exact q
       · rw [if_neg aB] at q
         exact .inl q
     · exact .inr (.inl (.inl (.inr q)))
   · rcases Oz cs rc late x b (i+1) b7.2 h.2 z aV with q | q | ⟨aG,az⟩
     · exact .inl q
     · exact .inr (.inl (.inr q))
     · refine .inr (.inr ⟨aG,?_⟩)
       cases cs with
       | nil=>simp at az
       | cons d cs=>simp only [List.dropLast_cons_cons,List.map_cons,List.mem_cons] at az ⊢;exact .inr az
end
def vT (l:List Int) (n:Int):Int:=match l.findIdx? (fun m=>decide (m=n)) with
 | some i=>i
 | none=>-1
theorem SD (t:List Int) (v:V) (h:ag) (H:cF h 1 v t.length (cC t)) (aB:t.length≤1048576):
 bR Tryz.prog 75 [v] h fun x aa=>pf h aa t x:=by
 by_cases a6:v=.aF
 · subst a6
   have:t=[]:=List.eq_nil_of_length_eq_zero H.2
   subst this
   refine IV rfl (b9 ?_)
   unfold CY
   simp +contextual only [show (dO.kj false 2).run Tryz.prog .aF .aF=some (.bool true) from rfl,↓ai,aq,simprocAttr]
   exact pf.nil h
 · have aM:(dO.kj false 2).run Tryz.prog v .aF=some (.bool false):=by
    have af:=H.2
    cases v<;>simp only at af<;>first | exact absurd rfl a6 | rfl | exact af.elim
   refine IV rfl (b9 ?_)
   unfold CY
   have es:Ext h (h.new (.ar [] 0 false)):=(Ext.refl h).new _
   obtain ⟨afr,bz,b_,b1,cy,gB⟩:=CJ (B:=h.next) (Nat.le_refl 1) (ca.empty (h:=h) 1 (Nat.le_refl _)) (H.ext es) (by rw [cH];omega) (by unfold top;omega) (An _)
   have bo:Ext h bz:=es.jk cy (fun b ah=>by
    have:b=ak h.next:=ah
    rw [this,cA];exact Nat.le_refl _)
   rw [List.nil_append,Nat.zero_add] at b1
   simp +contextual only [aM,b_,↓ai,aq,simprocAttr]
   exact ⟨b1,bo⟩
theorem MM (m n:Int) (l:List Int):vT (m::l) n=if m=n then 0 else if vT l n=-1 then -1 else vT l n+1:=by
 unfold vT
 rw [List.findIdx?_cons]
 by_cases h:m=n
 · simp [h]
 · simp only [h,decide_false,if_false,Bool.false_eq_true]
   cases l.findIdx? (fun m=>decide (m=n)) with
   | none=>simp
   | some i=>simp
inductive g2 (h:ag):(aN→Prop)→aw→List V→Prop
 | mk {F:aN→Prop} {k x n:Int} {s:List UInt8} {a:List At} {t:List Int} {l:List aw} {bl bs aY:V} {us:List (List V)} (G:Nat→aN→Prop) (bH:ca 0 h 3 bl a.length (gG a)) (aI:ca 0 h 1 bs t.length (cC t))
   (aB:ca 0 h 7 aY l.length us.flatten) (hu:us.length=l.length) (kids:∀(i:Nat) (c:aw) (u:List V),l[i]? =some c→us[i]? =some u→g2 h (G i) c u)
   (cf:∀b,bl.a_ b→F b) (ef:∀b,bs.a_ b→F b) (cu:∀b,aY.a_ b→F b) (mB:∀i b,i<l.length→G i b→F b∧¬aY.a_ b∧¬bl.a_ b∧¬bs.a_ b)
   (dl:∀b,aY.a_ b→¬bl.a_ b∧¬bs.a_ b) (nr:∀b,bs.a_ b→¬bl.a_ b) (px:∀i j b,i<l.length→j<l.length→i≠j→G i b→¬G j b):
   g2 h F (.mk k x n s a t l) [.int .i64 k,.int .i64 x,.int .i64 n,.str s,bl,bs,aY]
theorem g2.co {F:aN→Prop} {h:ag} {c:aw} {ad:List V} (H:g2 h F c ad):eF h c ad:=by
 induction H with
 | mk G bH aI aB hu kids cf ef cu mB dl nr px bb=>exact .mk bH.v aI.v (abz aB) aB.v hu bb
theorem g2.OL {F g3:aN→Prop} {h:ag} {c:aw} {ad:List V} (H:g2 h F c ad) (rY:∀b,F b→g3 b):g2 h g3 c ad:=by
 cases H with
 | mk G bH aI aB hu kids cf ef cu mB dl nr px=>exact .mk G bH aI aB hu kids (fun b q=>rY b (cf b q)) (fun b q=>rY b (ef b q)) (fun b q=>rY b (cu b q)) (fun i b ax q=>⟨rY b (mB i b ax q).1,(mB i b ax q).2⟩) dl nr px
theorem g2.mod {F M:aN→Prop} {h aa:ag} (m:Mod M h aa) {c:aw} {ad:List V} (H:g2 h F c ad) (eY:∀b,F b→¬M b):g2 aa F c ad:=by
 induction H with
 | mk G bH aI aB hu kids cf ef cu mB dl nr px bb=>
   exact .mk G (bH.mod m fun b q=>eY b (cf b q)) (aI.mod m fun b q=>eY b (ef b q)) (aB.mod m fun b q=>eY b (cu b q)) hu
    (fun i c u aG az=>bb i c u aG az fun b g=>eY b (mB i b (List.getElem?_eq_some_iff.1 aG).1 g).1) cf ef cu mB dl nr px
theorem g2.b4 {F:aN→Prop} {h:ag} {c:aw} {ad:List V} (H:g2 h F c ad):g2 h (fun b=>F b∧Old h b) c ad:=by
 induction H with
 | mk G bH aI aB hu kids cf ef cu mB dl nr px bb=>
   exact .mk (fun i b=>G i b∧Old h b) bH aI aB hu bb (fun b q=>⟨cf b q,bH.v.b4 q⟩) (fun b q=>⟨ef b q,aI.v.b4 q⟩) (fun b q=>⟨cu b q,aB.v.b4 q⟩)
    (fun i b ax q=>⟨⟨(mB i b ax q.1).1,q.2⟩,(mB i b ax q.1).2⟩) dl nr (fun i j b ax bC vj aG az=>px i j b ax bC vj aG.1 az.1)
theorem aa5 (f:Int→Int) (c:aw):(ck f c).n=c.n:=by cases c;rfl
theorem g2.open {F:aN→Prop} {h:ag} {c:aw} {ad:List V} (H:g2 h F c ad):∃bl bs aY,ad=[.int .i64 c.k,.int .i64 c.x,.int .i64 c.n,.str c.s,bl,bs,aY]∧bl.one=true∧bs.one=true∧aY.one=true∧
 ∀n,g2 h F (c.jQ n) [.int .i64 c.k,.int .i64 c.x,.int .i64 n,.str c.s,bl,bs,aY]:=by
 cases H with
 | mk G bH aI aB hu kids cf ef cu mB dl nr px=>exact ⟨_,_,_,rfl,bH.v.one.1,aI.v.one.1,aB.v.one.1,fun n=>.mk G bH aI aB hu kids cf ef cu mB dl nr px⟩
structure rL (h:ag) (pm iu:aN) (f:Int→Int):Prop where
 Mo:Old h pm
 Mp:Old h iu
 KZ:h.get pm=.ar [.map iu] 0 false
 ov:n' h iu f
theorem rL.ext {h aa:ag} {pm iu:aN} {f:Int→Int} (T:rL h pm iu f) (e:Ext h aa):rL aa pm iu f:=
 ⟨e.b4 T.Mo,e.b4 T.Mp,by rw [e.get _ T.Mo];exact T.KZ,T.ov.mod (e.get _ T.Mp) fun _=>rfl⟩
theorem yx {h:ag} {pm iu:aN} {f:Int→Int} (T:rL h pm iu f) (n:Int):bR Tryz.prog 56 [.int .i64 n,.ptr pm 0] h fun x aa=>x=.int .i64 (f n)∧aa=h:=by
 refine Rz rfl (b9 ?_)
 unfold IE
 have iQ:=T.ov.look n
 simp +contextual only [T.KZ,iQ,↓ai,aq,simprocAttr]
structure mg (h:ag) (eb:List V) (c:aw) (da:Int) (cT:V) (g:ag) (dd wl:V):Prop where
 ext:Ext h g
 n:h.next+3≤g.next
 ct:g.get (ak h.next)=.ar eb 0 false
 ev:g.get (ak (h.next+1))=.ar [.int .i64 0,.int .i64 0,.int .i64 0,.str [],.aF,.aF,.aF] 0 false
 dR:g.get (ak (h.next+2))=.ar [.int .i64 c.k,.int .i64 da,.int .i64 c.n,.str c.s,dd,cT,wl] 0 false
 p1:ca (h.next+3) g 1 cT c.t.length (cC c.t)
 oy:∀b,cT.a_ b→¬dd.a_ b∧¬wl.a_ b
theorem mg.fx {h:ag} {eb:List V} {c:aw} {da:Int} {cT dd wl:V} {g dK:ag} (S:mg h eb c da cT g dd wl) (e:Ext g dK):mg h eb c da cT dK dd wl:=
 ⟨S.ext.trans e,Nat.le_trans S.n e.next,by rw [e.get _ (dC (by have:=S.n;omega))];exact S.ct,by rw [e.get _ (dC (by have:=S.n;omega))];exact S.ev,by rw [e.get _ (dC (by have:=S.n;omega))];exact S.dR,S.p1.ext e,S.oy⟩
set_option maxHeartbeats 2000000 in
theorem mapA {h:ag} {eb:List V} {c:aw} {da:Int} {cT bl bs aY:V} {pm iu:aN} {f:Int→Int} (T:rL h pm iu f) (cX:cF h 3 bl c.a.length (gG c.a)) (aB:c.a.length≤1048576) (g:ag) (r:bD) (ay:List hK) (Q:cr→bD→ag→Prop) (S:mg h eb c da cT g .aF .aF)
 (aG:r 1=.func 56 [.ptr pm 0]) (az:r 2=.ptr (ak h.next) 0) (bZ:r 4=.ptr (ak (h.next+1)) 0) (dW:r 5=.ptr (ak (h.next+2)) 0) (M0:r 35=bl) (M1:r 36=.int .i64 c.a.length) (M3:r 37=.int .i64 0)
 (cV:∀dK dd bI,mg h eb c da cT dK dd .aF→ca (h.next+3) dK 3 dd (c.a.map (dX f)).length (gG (c.a.map (dX f)))→bI 1=.func 56 [.ptr pm 0]→bI 2=.ptr (ak h.next) 0→bI 4=.ptr (ak (h.next+1)) 0→bI 5=.ptr (ak (h.next+2)) 0→bx Tryz.prog ay (.exit 1) bI dK Q):vC Tryz.prog CW ay r g Q:=by
 refine gz (fun r g=>r 1=.func 56 [.ptr pm 0]∧r 2=.ptr (ak h.next) 0∧r 4=.ptr (ak (h.next+1)) 0∧r 5=.ptr (ak (h.next+2)) 0∧r 35=bl∧r 36=.int .i64 c.a.length∧∃(i:Nat) (dd:V),r 37=.int .i64 i∧i≤c.a.length∧mg h eb c da cT g dd .aF∧ca (h.next+3) g 3 dd i (gG ((c.a.take i).map (dX f)))) (fun r aa=>c.a.length - (r 37).hf) ?_ ?_
 · exact ⟨aG,az,bZ,dW,M0,M1,0,.aF,by rw [M3];rfl,by omega,S,⟨rfl,rfl⟩⟩
 · clear aG az bZ dW M0 M1 M3 S
   rintro r g ⟨bf,bV,dr,e0,A5,A6,i,dd,A7,ax,S,oj⟩
   unfold CW
   by_cases aS:i<c.a.length
   · have bP:((i:Int) < (c.a.length:Int))=True:=eq_true (by omega)
     obtain ⟨b,o,cl,c7⟩:=Hh cX (k:=.i64) aS S.ext
     have gi:=hg aS (by omega)
     have lZ:(c.a.take (i+1)).map (dX f)=(c.a.take i).map (dX f)++[dX f c.a[i]]:=by rw [List.take_add_one,List.getElem?_eq_getElem aS,List.map_append];rfl
     generalize c.a[i]=q at *
     have aX:=S.n
     have xU:(g.next=h.next)=False:=eq_false (by omega)
     have tQ:(g.next=h.next+2)=False:=eq_false (by omega)
     have tR:(h.next+2=g.next)=False:=eq_false (by omega)
     have step:∀(dm:At) (H1:ag),Ext g H1→dX f q=dm→∃aC b6,kJ 3 dd (.slice (ak H1.next) 0 1 1) (H1.new (.ar [.int .i64 dm.k,.int .i64 dm.n,.str dm.s] 0 false))=.val aC b6∧aC.one=true∧aC.cells=[aC]∧b6.get (ak (h.next+2))=.ar [.int .i64 c.k,.int .i64 da,.int .i64 c.n,.str c.s,dd,cT,.aF] 0 false∧
      mg h eb c da cT (b6.set (ak (h.next+2)) (.ar [.int .i64 c.k,.int .i64 da,.int .i64 c.n,.str c.s,aC,cT,.aF] 0 false)) aC .aF∧
      ca (h.next+3) (b6.set (ak (h.next+2)) (.ar [.int .i64 c.k,.int .i64 da,.int .i64 c.n,.str c.s,aC,cT,.aF] 0 false)) 3 aC (i+1) (gG ((c.a.take (i+1)).map (dX f))):=by
      intro dm H1 aL aM
      have lb:=S.fx aL
      have pH:=lb.n
      obtain ⟨aC,b6,bB,bJ,a3,a4,a5⟩:=oo (cs:=[.int .i64 dm.k,.int .i64 dm.n,.str dm.s]) (by omega) (oj.ext aL) lb.n (by unfold top;omega) rfl rfl
      have tU:∀k,k<h.next+3→¬dd.a_ (ak k):=fun k al q=>by have:=oj.base q;rw [cA] at this;omega
      have Ds:b6.get (ak (h.next+2))=.ar [.int .i64 c.k,.int .i64 da,.int .i64 c.n,.str c.s,dd,cT,.aF] 0 false:=by rw [a3.get _ (dC (by omega)) (tU _ (by omega))];exact lb.dR
      have dV:Mod (fun b=>b=ak (h.next+2)) b6 (b6.set (ak (h.next+2)) (.ar [.int .i64 c.k,.int .i64 da,.int .i64 c.n,.str c.s,aC,cT,.aF] 0 false)):=(Mod.refl (fun b=>b=ak (h.next+2)) b6).set (fun _=>rfl) _
      have jM:Mod (fun b=>b=ak (h.next+2)∨dd.a_ b) H1 (b6.set (ak (h.next+2)) (.ar [.int .i64 c.k,.int .i64 da,.int .i64 c.n,.str c.s,aC,cT,.aF] 0 false)):=(a3.mono fun b _ q=>.inr q).set (fun _=>.inl rfl) _
      have xp:Ext h (b6.set (ak (h.next+2)) (.ar [.int .i64 c.k,.int .i64 da,.int .i64 c.n,.str c.s,aC,cT,.aF] 0 false)):=lb.ext.jk jM (fun b q=>by
       rcases q with q | q
       · rw [q,cA];omega
       · have:=oj.base q;omega)
      refine ⟨aC,b6,bB,bJ.v.one.1,bJ.v.one.2.1,Ds,⟨xp,by rw [fA];omega,?_,?_,by rw [cM,if_pos rfl],?_,fun b q=>⟨fun dm=>?_,fun dm=>dm.elim⟩⟩,?_⟩
      · rw [cM,if_neg (by rw [gg];omega),a3.get _ (dC (by omega)) (tU _ (by omega))];exact lb.ct
      · rw [cM,if_neg (by rw [gg];omega),a3.get _ (dC (by omega)) (tU _ (by omega))];exact lb.ev
      · exact lb.p1.mod jM (fun b q e=>by
         rcases e with e | e
         · have:=lb.p1.base q;rw [e,cA] at this;omega
         · exact (lb.oy b q).1 e)
      · have bt:cd b<H1.next:=lb.p1.v.b4 q
        rcases a5 b dm with dm | dm
        · exact (lb.oy b q).1 dm
        · omega
      · rw [lZ,aM]
        have e:gG ((c.a.take i).map (dX f)++[dm])=gG ((c.a.take i).map (dX f))++[.int .i64 dm.k,.int .i64 dm.n,.str dm.s]:=by
         rw [←zd,List.flatMap_append,zd];rfl
        rw [e]
        exact bJ.mod dV (fun b q e=>by have:=bJ.base q;rw [e,cA] at this;omega)
     by_cases aM:q.k=1
     · have eq:=eq_true aM
       have aL:Ext g ((g.new (.ar [.int .i64 0,.int .i64 0,.str []] 0 false)).set (ak g.next) (.ar [.int .i64 q.k,.int .i64 q.n,.str q.s] 0 false)):=((Ext.refl g).new _).set (Nat.le_refl _) _
       have bo:Ext g (((g.new (.ar [.int .i64 0,.int .i64 0,.str []] 0 false)).set (ak g.next) (.ar [.int .i64 q.k,.int .i64 q.n,.str q.s] 0 false)).set (ak g.next) (.ar [.int .i64 q.k,.int .i64 (f q.n),.str q.s] 0 false)):=aL.set (Nat.le_refl _) _
       obtain ⟨aC,b6,t1,t2,t3,t4,t5,t6⟩:=step ⟨q.k,f q.n,q.s⟩ _ bo (by rw [dX,if_pos aM])
       rw [fA,fA,cH] at t1
       simp +contextual only [bf,bV,dr,e0,A5,A6,A7,bP,cl,c7,eq,↓ai,aq,simprocAttr]
       refine bm (yx (T.ext (S.ext.trans aL)) q.n) ?_
       rintro x af ⟨rfl,rfl⟩
       simp +contextual only [bf,bV,dr,e0,A5,A6,A7,tQ,tR,S.dR,t1,t2,t3,t4,gi,↓ai,aq,simprocAttr]
       exact ⟨⟨i+1,aC,rfl,aS,t5,t6⟩,by omega⟩
     · have eq:=eq_false aM
       have aL:Ext g ((g.new (.ar [.int .i64 0,.int .i64 0,.str []] 0 false)).set (ak g.next) (.ar [.int .i64 q.k,.int .i64 q.n,.str q.s] 0 false)):=((Ext.refl g).new _).set (Nat.le_refl _) _
       obtain ⟨aC,b6,t1,t2,t3,t4,t5,t6⟩:=step q _ aL (by rw [dX,if_neg aM])
       rw [fA,cH] at t1
       simp +contextual only [bf,bV,dr,e0,A5,A6,A7,bP,cl,c7,eq,tQ,tR,S.dR,t1,t2,t3,t4,gi,↓ai,aq,simprocAttr]
       exact ⟨⟨i+1,aC,rfl,aS,t5,t6⟩,by omega⟩
   · have bP:((i:Int) < (c.a.length:Int))=False:=eq_false (by omega)
     obtain rfl:i=c.a.length:=by omega
     rw [List.take_length] at oj
     simp +contextual only [bf,bV,dr,e0,A5,A6,A7,bP,↓ai,aq,simprocAttr]
     exact cV _ dd _ S (by rw [List.length_map];exact oj) (by simp only [bf,↓ai,a2,simprocAttr]) (by simp only [bV,↓ai,a2,simprocAttr]) (by simp only [dr,↓ai,a2,simprocAttr]) (by simp only [e0,↓ai,a2,simprocAttr])
end Go.Proofs.YtjbiefneffiogaaGreat
namespace Go.Proofs.YtjbiefneffiogaaGreat
open Go ba
set_option maxHeartbeats 4000000 in
theorem AE {h:ag} {c:aw} {da:Int} {cT bl bs aY dd:V} {pm iu:aN} {f:Int→Int} (T:rL h pm iu f) (cQ:ic h c.l aY) (aB:c.l.length≤1048576) (g:ag) (r:bD) (ay:List hK) (Q:cr→bD→ag→Prop) (S:mg h [.int .i64 c.k,.int .i64 c.x,.int .i64 c.n,.str c.s,bl,bs,aY] c da cT g dd .aF)
 (rJ:ca (h.next+3) g 3 dd (c.a.map (dX f)).length (gG (c.a.map (dX f))))
 (en:∀(i:Nat) (d:aw) (u:List V) (g:ag),c.l[i]? =some d→eF g d u→Ext h g→bR Tryz.prog 55 [.agg u,.func 56 [.ptr pm 0]] g fun x aa=>∃us,x=.agg us∧g2 aa (fun b=>g.next≤cd b) (ck f d) us∧Ext g aa)
 (aG:r 1=.func 56 [.ptr pm 0]) (az:r 2=.ptr (ak h.next) 0) (bZ:r 4=.ptr (ak (h.next+1)) 0) (dW:r 5=.ptr (ak (h.next+2)) 0) (M4:r 57=aY) (M5:r 58=.int .i64 c.l.length) (M6:r 59=.int .i64 0)
 (cV:∀dK wl (us:List (List V)) (G:Nat→aN→Prop) bI,mg h [.int .i64 c.k,.int .i64 c.x,.int .i64 c.n,.str c.s,bl,bs,aY] c da cT dK dd wl→ca (h.next+3) dK 3 dd (c.a.map (dX f)).length (gG (c.a.map (dX f)))→ca (h.next+3) dK 7 wl c.l.length us.flatten→us.length=c.l.length→(∀b,wl.a_ b→¬dd.a_ b)→
   (∀(j:Nat) (d:aw) (u:List V),(dz f (decide (c.k=8)) c.l)[j]? =some d→us[j]? =some u→g2 dK (G j) d u)→(∀j b,j<c.l.length→G j b→h.next+3≤cd b∧¬wl.a_ b∧¬dd.a_ b∧¬cT.a_ b)→(∀i j b,i<c.l.length→j<c.l.length→i≠j→G i b→¬G j b)→
   bI 4=.ptr (ak (h.next+1)) 0→bI 5=.ptr (ak (h.next+2)) 0→bx Tryz.prog ay (.exit 3) bI dK Q):vC Tryz.prog CX ay r g Q:=by
 obtain ⟨rc,xK⟩:∃rc,rc=decide (c.k=8):=⟨_,rfl⟩
 rw [←xK] at cV
 refine gz (fun r g=>r 1=.func 56 [.ptr pm 0]∧r 2=.ptr (ak h.next) 0∧r 4=.ptr (ak (h.next+1)) 0∧r 5=.ptr (ak (h.next+2)) 0∧r 57=aY∧r 58=.int .i64 c.l.length∧∃(i:Nat) (wl:V) (us:List (List V)) (G:Nat→aN→Prop),r 59=.int .i64 i∧i≤c.l.length∧mg h [.int .i64 c.k,.int .i64 c.x,.int .i64 c.n,.str c.s,bl,bs,aY] c da cT g dd wl∧
  ca (h.next+3) g 3 dd (c.a.map (dX f)).length (gG (c.a.map (dX f)))∧ca (h.next+3) g 7 wl i us.flatten∧us.length=i∧(∀b,wl.a_ b→¬dd.a_ b)∧
  (∀(j:Nat) (d:aw) (u:List V),j<i→(dz f rc c.l)[j]? =some d→us[j]? =some u→g2 g (G j) d u)∧(∀j b,j<i→G j b→h.next+3≤cd b∧cd b<g.next∧¬wl.a_ b∧¬dd.a_ b∧¬cT.a_ b)∧(∀nL j b,nL<i→j<i→nL≠j→G nL b→¬G j b)) (fun r aa=>c.l.length - (r 59).hf) ?_ ?_
 · exact ⟨aG,az,bZ,dW,M4,M5,0,.aF,[],fun _ _=>False,by rw [M6];rfl,by omega,S,rJ,⟨rfl,rfl⟩,rfl,fun b q=>q.elim,fun j d u bC=>by omega,fun j b bC=>by omega,fun nL j b oO=>by omega⟩
 · clear aG az bZ dW M4 M5 M6 S rJ
   rintro r g ⟨bf,bV,dr,e0,vX,vY,i,wl,us,G,vZ,ax,S,rJ,oj,l0,DM,al,h6,nB⟩
   unfold CX
   by_cases aS:i<c.l.length
   · have bP:((i:Int) < (c.l.length:Int))=True:=eq_true (by omega)
     obtain ⟨b,o,u,cl,hu,o1⟩:=cQ.rM (k:=.i64) aS
     have c7:=(o1 g S.ext).1
     have gi:=hg aS (by omega)
     have g9:c.l[i]? =some c.l[i]:=List.getElem?_eq_getElem aS
     have Ab:=Nk f rc c.l i _ g9
     have c2:=fun g (e:Ext h g)=>(cQ.ext e).len
     generalize vh:c.l[i]=d at *
     obtain ⟨rV,oE,el,rfl,oa,ob,nd⟩:=hu.open
     have ff:=oa.one.1
     have fT:=ob.one.1
     have gA:=nd.one.1
     have aX:=S.n
     have xU:(g.next=h.next)=False:=eq_false (by omega)
     have tQ:(g.next=h.next+2)=False:=eq_false (by omega)
     have tR:(h.next+2=g.next)=False:=eq_false (by omega)
     have aL:Ext g ((g.new (.ar [.int .i64 0,.int .i64 0,.int .i64 0,.str [],.aF,.aF,.aF] 0 false)).set (ak g.next) (.ar [.int .i64 d.k,.int .i64 d.x,.int .i64 d.n,.str d.s,rV,oE,el] 0 false)):=((Ext.refl g).new _).set (Nat.le_refl _) _
     have Kh:((g.new (.ar [.int .i64 0,.int .i64 0,.int .i64 0,.str [],.aF,.aF,.aF] 0 false)).set (ak g.next) (.ar [.int .i64 d.k,.int .i64 d.x,.int .i64 d.n,.str d.s,rV,oE,el] 0 false)).next=g.next+1:=by rw [fA,cH]
     have Dr:((g.new (.ar [.int .i64 0,.int .i64 0,.int .i64 0,.str [],.aF,.aF,.aF] 0 false)).set (ak g.next) (.ar [.int .i64 d.k,.int .i64 d.x,.int .i64 d.n,.str d.s,rV,oE,el] 0 false)).get (ak g.next)=.ar [.int .i64 d.k,.int .i64 d.x,.int .i64 d.n,.str d.s,rV,oE,el] 0 false:=by rw [cM,if_pos rfl]
     simp +contextual only [bf,bV,dr,e0,vX,vY,vZ,bP,cl,c7,ff,fT,gA,↓ai,aq,simprocAttr]
     generalize ((g.new (.ar [.int .i64 0,.int .i64 0,.int .i64 0,.str [],.aF,.aF,.aF] 0 false)).set (ak g.next) (.ar [.int .i64 d.k,.int .i64 d.x,.int .i64 d.n,.str d.s,rV,oE,el] 0 false))=H1 at *
     have lb:=S.fx aL
     refine bm (en i d _ H1 g9 (hu.ext lb.ext) lb.ext) ?_
     rintro x bz ⟨yz,rfl,GM,bo⟩
     have mi:=lb.fx bo
     have oT:=bo.next
     obtain ⟨cf,ef,cu,rfl,b_,b1,cy,Pf⟩:=GM.b4.open
     have j4:=GM.b4
     rw [aa5] at *
     have qJ:bz.get (ak g.next)=.ar [.int .i64 d.k,.int .i64 d.x,.int .i64 d.n,.str d.s,rV,oE,el] 0 false:=by rw [bo.get _ (dC (by omega))];exact Dr
     have step:∀(eS:Int) (jA:aw) (cI:ag),Ext bz cI∨Mod (fun b=>b=ak g.next) bz cI→cI.next=bz.next→(dz f rc c.l)[i]? =some jA→g2 bz (fun b=>H1.next≤cd b∧Old bz b) jA [.int .i64 (ck f d).k,.int .i64 (ck f d).x,.int .i64 eS,.str (ck f d).s,cf,ef,cu]→
      ∃aC b6,kJ 7 wl (.slice (ak cI.next) 0 1 1) (cI.new (.ar [.int .i64 (ck f d).k,.int .i64 (ck f d).x,.int .i64 eS,.str (ck f d).s,cf,ef,cu] 0 false))=.val aC b6∧aC.one=true∧aC.cells=[aC]∧b6.get (ak (h.next+2))=.ar [.int .i64 c.k,.int .i64 da,.int .i64 c.n,.str c.s,dd,cT,wl] 0 false∧
       ∃(sC:List (List V)) (qg:Nat→aN→Prop),mg h [.int .i64 c.k,.int .i64 c.x,.int .i64 c.n,.str c.s,bl,bs,aY] c da cT (b6.set (ak (h.next+2)) (.ar [.int .i64 c.k,.int .i64 da,.int .i64 c.n,.str c.s,dd,cT,aC] 0 false)) dd aC∧
       ca (h.next+3) (b6.set (ak (h.next+2)) (.ar [.int .i64 c.k,.int .i64 da,.int .i64 c.n,.str c.s,dd,cT,aC] 0 false)) 3 dd (c.a.map (dX f)).length (gG (c.a.map (dX f)))∧ca (h.next+3) (b6.set (ak (h.next+2)) (.ar [.int .i64 c.k,.int .i64 da,.int .i64 c.n,.str c.s,dd,cT,aC] 0 false)) 7 aC (i+1) sC.flatten∧sC.length=i+1∧(∀b,aC.a_ b→¬dd.a_ b)∧
       (∀(j:Nat) (d:aw) (u:List V),j<i+1→(dz f rc c.l)[j]? =some d→sC[j]? =some u→g2 (b6.set (ak (h.next+2)) (.ar [.int .i64 c.k,.int .i64 da,.int .i64 c.n,.str c.s,dd,cT,aC] 0 false)) (qg j) d u)∧
       (∀j b,j<i+1→qg j b→h.next+3≤cd b∧cd b < (b6.set (ak (h.next+2)) (.ar [.int .i64 c.k,.int .i64 da,.int .i64 c.n,.str c.s,dd,cT,aC] 0 false)).next∧¬aC.a_ b∧¬dd.a_ b∧¬cT.a_ b)∧(∀nL j b,nL<i+1→j<i+1→nL≠j→qg nL b→¬qg j b):=by
      intro eS jA cI Vj aeL Uz Ux
      have o3:Mod (fun b=>b=ak g.next) bz cI:=by
       rcases Vj with e | m
       · exact e.mod _
       · exact m
      have uY:Ext g cI:=(aL.trans bo).jk o3 (fun b q=>by rw [q,cA];exact Nat.le_refl _)
      have hM:=S.fx uY
      have Vl:=hM.n
      obtain ⟨aC,b6,bB,bJ,a3,a4,a5⟩:=oo (cs:=[.int .i64 (ck f d).k,.int .i64 (ck f d).x,.int .i64 eS,.str (ck f d).s,cf,ef,cu]) (by omega) (oj.ext uY) hM.n (by unfold top;omega) rfl (by simp only [fg,b_,b1,cy,Bool.and_self,show ∀(k:IntKind) (n:Int),V.one (.int k n)=true from fun _ _=>rfl,show ∀s,V.one (.str s)=true from fun _=>rfl])
      have tU:∀k,k<h.next+3→¬wl.a_ (ak k):=fun k al q=>by have:=oj.base q;rw [cA] at this;omega
      have OP:∀b,wl.a_ b→cd b<g.next:=fun b q=>oj.v.b4 q
      have Ds:b6.get (ak (h.next+2))=.ar [.int .i64 c.k,.int .i64 da,.int .i64 c.n,.str c.s,dd,cT,wl] 0 false:=by rw [a3.get _ (dC (by omega)) (tU _ (by omega))];exact hM.dR
      have dV:Mod (fun b=>b=ak (h.next+2)) b6 (b6.set (ak (h.next+2)) (.ar [.int .i64 c.k,.int .i64 da,.int .i64 c.n,.str c.s,dd,cT,aC] 0 false)):=(Mod.refl (fun b=>b=ak (h.next+2)) b6).set (fun _=>rfl) _
      have jM:Mod (fun b=>b=ak (h.next+2)∨wl.a_ b) cI (b6.set (ak (h.next+2)) (.ar [.int .i64 c.k,.int .i64 da,.int .i64 c.n,.str c.s,dd,cT,aC] 0 false)):=(a3.mono fun b _ q=>.inr q).set (fun _=>.inl rfl) _
      have xp:Ext h (b6.set (ak (h.next+2)) (.ar [.int .i64 c.k,.int .i64 da,.int .i64 c.n,.str c.s,dd,cT,aC] 0 false)):=hM.ext.jk jM (fun b q=>by
       rcases q with q | q
       · rw [q,cA];omega
       · have:=oj.base q;omega)
      have AP:∀b,cd b<cI.next→¬wl.a_ b→¬aC.a_ b:=fun b aG az q=>by
       rcases a5 b q with q | q
       · exact az q
       · omega
      refine ⟨aC,b6,bB,bJ.v.one.1,bJ.v.one.2.1,Ds,us++[[.int .i64 (ck f d).k,.int .i64 (ck f d).x,.int .i64 eS,.str (ck f d).s,cf,ef,cu]],fun j b=>if j=i then (H1.next≤cd b∧Old bz b) else G j b,
       ⟨xp,by rw [fA];omega,?_,?_,by rw [cM,if_pos rfl],?_,fun b q=>⟨(hM.oy b q).1,?_⟩⟩,?_,?_,by simp [l0],?_,?_,?_,?_⟩
      · rw [cM,if_neg (by rw [gg];omega),a3.get _ (dC (by omega)) (tU _ (by omega))];exact hM.ct
      · rw [cM,if_neg (by rw [gg];omega),a3.get _ (dC (by omega)) (tU _ (by omega))];exact hM.ev
      · exact hM.p1.mod jM (fun b q e=>by
         rcases e with e | e
         · have:=hM.p1.base q;rw [e,cA] at this;omega
         · exact (hM.oy b q).2 e)
      · exact AP b (hM.p1.v.b4 q) (hM.oy b q).2
      · exact (rJ.ext uY).mod jM (fun b q e=>by
         rcases e with e | e
         · have:=rJ.base q;rw [e,cA] at this;omega
         · exact DM b e q)
      · rw [Tv]
        exact bJ.mod dV (fun b q e=>by have:=bJ.base q;rw [e,cA] at this;omega)
      · intro b q dm
        have:cd b<g.next:=rJ.v.b4 dm
        have:=uY.next
        exact AP b (by omega) (fun q=>DM b q dm) q
      · intro j S0 v bC dN db
        by_cases td:j<i
        · rw [List.getElem?_append_left (by omega)] at db
          simp only [if_neg (show ¬j=i by omega)]
          refine ((al j S0 v td dN db).mod (uY.mod fun _=>False) (fun b _ q=>q)).mod jM (fun b f e=>?_)
          obtain ⟨kE,jx,m_,qf⟩:=h6 j b td f
          rcases e with e | e
          · rw [e,cA] at kE;omega
          · exact m_ e
        · obtain rfl:j=i:=by omega
          rw [List.getElem?_append_right (by omega),l0,Nat.sub_self] at db
          simp only [List.getElem?_cons_zero,Option.some.injEq] at db
          rw [Uz] at dN
          cases dN
          subst db
          simp only [if_pos]
          refine (Ux.mod o3 (fun b f e=>by rw [e,cA] at f;omega)).mod jM (fun b f e=>?_)
          rcases e with e | e
          · have:=f.1;rw [e,cA] at this;omega
          · have:=OP b e;omega
      · intro j b bC q
        have KS:=jM.next
        by_cases td:j=i
        · simp only [if_pos td] at q
          have:=q.2
          unfold Old at this
          exact ⟨by omega,by omega,AP b (by omega) (fun dm=>by have:=OP b dm;omega),fun dm=>by have:cd b<g.next:=rJ.v.b4 dm;have:=aL.next;omega,fun dm=>by have:cd b<g.next:=S.p1.v.b4 dm;have:=aL.next;omega⟩
        · simp only [if_neg td] at q
          obtain ⟨kE,jx,m_,qf⟩:=h6 j b (by omega) q
          have:=uY.next
          exact ⟨kE,by omega,AP b (by omega) m_,qf⟩
      · intro nL j b oO bC vj q dm
        by_cases ab:nL=i
        · simp only [if_pos ab] at q
          have af:¬j=i:=by omega
          simp only [if_neg af] at dm
          obtain ⟨kE,jx,m_,qf⟩:=h6 j b (by omega) dm
          omega
        · simp only [if_neg ab] at q
          by_cases af:j=i
          · simp only [if_pos af] at dm
            obtain ⟨kE,jx,m_,qf⟩:=h6 nL b (by omega) q
            omega
          · simp only [if_neg af] at dm
            exact nB nL j b (by omega) (by omega) vj q dm
     have nV:Mod (fun b=>b=ak g.next) bz (bz.set (ak g.next) (.ar [.int .i64 (ck f d).k,.int .i64 (ck f d).x,.int .i64 d.n,.str (ck f d).s,cf,ef,cu] 0 false)):=(Mod.refl (fun b=>b=ak g.next) bz).set (fun _=>rfl) _
     have o3:Mod (fun b=>b=ak g.next) bz ((bz.set (ak g.next) (.ar [.int .i64 (ck f d).k,.int .i64 (ck f d).x,.int .i64 d.n,.str (ck f d).s,cf,ef,cu] 0 false)).set (ak g.next) (.ar [.int .i64 (ck f d).k,.int .i64 (ck f d).x,.int .i64 (f d.n),.str (ck f d).s,cf,ef,cu] 0 false)):=nV.set (fun _=>rfl) _
     have JH:Ext h (bz.set (ak g.next) (.ar [.int .i64 (ck f d).k,.int .i64 (ck f d).x,.int .i64 d.n,.str (ck f d).s,cf,ef,cu] 0 false)):=mi.ext.jk nV (fun b q=>by rw [q,cA];omega)
     have og:=c2 _ JH
     by_cases er:c.k=8∧i+1<c.l.length
     · have kh:=eq_true er.1
       have aJ:IntKind.i64.wrap ((c.l.length:Int)-1)=((c.l.length-1:Nat):Int):=by rw [wrap_i64 (by omega) (by omega)];omega
       have bF:((i:Int) < ((c.l.length-1:Nat):Int))=True:=eq_true (by omega)
       rw [if_pos (by rw [xK];simp [er.1,er.2])] at Ab
       obtain ⟨aC,b6,t1,t2,t3,t4,sC,qg,t5⟩:=step (f d.n) _ _ (.inr o3) (by rw [fA,fA]) Ab (Pf (f d.n))
       rw [fA,fA] at t1
       simp +contextual only [bf,bV,dr,e0,vX,vY,vZ,xU,tQ,tR,qJ,mi.ct,mi.dR,b_,b1,cy,kh,og,aJ,bF,↓ai,aq,simprocAttr]
       refine bm (yx (T.ext JH) d.n) ?_
       rintro x af ⟨rfl,rfl⟩
       simp +contextual only [bf,bV,dr,e0,vX,vY,vZ,xU,tQ,tR,qJ,mi.ct,mi.dR,t1,t2,t3,t4,gi,↓ai,aq,simprocAttr]
       exact ⟨⟨i+1,aC,sC,qg,rfl,aS,t5⟩,by omega⟩
     · rw [if_neg (by rw [xK];simpa using er)] at Ab
       obtain ⟨aC,b6,t1,t2,t3,t4,sC,qg,t5⟩:=step d.n _ _ (.inr nV) (by rw [fA]) Ab j4
       rw [fA] at t1
       by_cases Kq:c.k=8
       · have kh:=eq_true Kq
         have aJ:IntKind.i64.wrap ((c.l.length:Int)-1)=((c.l.length-1:Nat):Int):=by rw [wrap_i64 (by omega) (by omega)];omega
         have bF:((i:Int) < ((c.l.length-1:Nat):Int))=False:=eq_false (by omega)
         simp +contextual only [bf,bV,dr,e0,vX,vY,vZ,xU,tQ,tR,qJ,mi.ct,mi.dR,b_,b1,cy,kh,og,aJ,bF,t1,t2,t3,t4,gi,↓ai,aq,simprocAttr]
         exact ⟨⟨i+1,aC,sC,qg,rfl,aS,t5⟩,by omega⟩
       · have kh:=eq_false Kq
         simp +contextual only [bf,bV,dr,e0,vX,vY,vZ,xU,tQ,tR,qJ,mi.ct,mi.dR,b_,b1,cy,kh,og,t1,t2,t3,t4,gi,↓ai,aq,simprocAttr]
         exact ⟨⟨i+1,aC,sC,qg,rfl,aS,t5⟩,by omega⟩
   · have bP:((i:Int) < (c.l.length:Int))=False:=eq_false (by omega)
     obtain rfl:i=c.l.length:=by omega
     simp +contextual only [bf,bV,dr,e0,vX,vY,vZ,bP,↓ai,aq,simprocAttr]
     exact cV _ wl us G _ S rJ oj l0 DM (fun j d u dN db=>al j d u (by have:=(List.getElem?_eq_some_iff.1 dN).1;rw [m3] at this;exact this) dN db) (fun j b bC q=>⟨(h6 j b bC q).1,(h6 j b bC q).2.2⟩) nB (by simp only [dr,↓ai,a2,simprocAttr]) (by simp only [e0,↓ai,a2,simprocAttr])
theorem LX:∀(N:Nat) (c:aw),size c≤N→fit 1048576 c→o5 c→∀(ad:List V) (h:ag),eF h c ad→∀(pm iu:aN) (f:Int→Int),rL h pm iu f→
 bR Tryz.prog 55 [.agg ad,.func 56 [.ptr pm 0]] h fun x aa=>∃us,x=.agg us∧g2 aa (fun b=>h.next≤cd b) (ck f c) us∧Ext h aa
 | 0,c,bk,_,_,_,_,_,_,_,_,_=>by have:=size_pos c;omega
 | N+1,c,bk,au,b7,ad,h,H,pm,iu,f,T=>by
   obtain ⟨f1,f2,f3,f4,f5⟩:=au.kids
   have oW:=sw c
   obtain ⟨bl,bs,aY,rfl,cX,ea,cQ⟩:=H.open
   have xG:(c.k=8→1≤c.l.length)∧c.k≠14∧(dL c.k=true→c.l.length=2)∧pY c.l:=by cases c;exact b7
   obtain ⟨bT,b8,fp,h8⟩:=xG
   have en:∀(i:Nat) (d:aw) (u:List V) (g:ag),c.l[i]? =some d→eF g d u→Ext h g→bR Tryz.prog 55 [.agg u,.func 56 [.ptr pm 0]] g fun x aa=>∃us,x=.agg us∧g2 aa (fun b=>g.next≤cd b) (ck f d) us∧Ext g aa:=
    fun i d u g ax hu a1=>LX N d (by have:=rl ax;omega) (oF f5 ax) (AR h8 ax) u g hu pm iu f (T.ext a1)
   refine Ry rfl (b9 ?_)
   unfold ID
   have aL:Ext h (((h.new (.ar [.int .i64 c.k,.int .i64 c.x,.int .i64 c.n,.str c.s,bl,bs,aY] 0 false)).new (.ar [.int .i64 0,.int .i64 0,.int .i64 0,.str [],.aF,.aF,.aF] 0 false)).new (.ar [.int .i64 0,.int .i64 0,.int .i64 0,.str [],.aF,.aF,.aF] 0 false)):=(((Ext.refl h).new _).new _).new _
   have bF:(((h.new (.ar [.int .i64 c.k,.int .i64 c.x,.int .i64 c.n,.str c.s,bl,bs,aY] 0 false)).new (.ar [.int .i64 0,.int .i64 0,.int .i64 0,.str [],.aF,.aF,.aF] 0 false)).new (.ar [.int .i64 0,.int .i64 0,.int .i64 0,.str [],.aF,.aF,.aF] 0 false)).get (ak h.next)=(.ar [.int .i64 c.k,.int .i64 c.x,.int .i64 c.n,.str c.s,bl,bs,aY] 0 false):=by
    rw [dT,if_neg (by rw [gg,cH,cH];omega),dT,if_neg (by rw [gg,cH];omega),gT]
   have dN:(((h.new (.ar [.int .i64 c.k,.int .i64 c.x,.int .i64 c.n,.str c.s,bl,bs,aY] 0 false)).new (.ar [.int .i64 0,.int .i64 0,.int .i64 0,.str [],.aF,.aF,.aF] 0 false)).new (.ar [.int .i64 0,.int .i64 0,.int .i64 0,.str [],.aF,.aF,.aF] 0 false)).get (ak (h.next+1))=(.ar [.int .i64 0,.int .i64 0,.int .i64 0,.str [],.aF,.aF,.aF] 0 false):=by
    rw [dT,if_neg (by rw [gg,cH,cH];omega),dT,if_pos (by rw [cH])]
   have kE:(((h.new (.ar [.int .i64 c.k,.int .i64 c.x,.int .i64 c.n,.str c.s,bl,bs,aY] 0 false)).new (.ar [.int .i64 0,.int .i64 0,.int .i64 0,.str [],.aF,.aF,.aF] 0 false)).new (.ar [.int .i64 0,.int .i64 0,.int .i64 0,.str [],.aF,.aF,.aF] 0 false)).get (ak (h.next+2))=(.ar [.int .i64 0,.int .i64 0,.int .i64 0,.str [],.aF,.aF,.aF] 0 false):=by
    rw [dT,if_pos (by rw [cH,cH])]
   have fb:(((h.new (.ar [.int .i64 c.k,.int .i64 c.x,.int .i64 c.n,.str c.s,bl,bs,aY] 0 false)).new (.ar [.int .i64 0,.int .i64 0,.int .i64 0,.str [],.aF,.aF,.aF] 0 false)).new (.ar [.int .i64 0,.int .i64 0,.int .i64 0,.str [],.aF,.aF,.aF] 0 false)).next=h.next+3:=by rw [cH,cH,cH]
   simp +contextual only [↓ai,aq,simprocAttr]
   generalize (((h.new (.ar [.int .i64 c.k,.int .i64 c.x,.int .i64 c.n,.str c.s,bl,bs,aY] 0 false)).new (.ar [.int .i64 0,.int .i64 0,.int .i64 0,.str [],.aF,.aF,.aF] 0 false)).new (.ar [.int .i64 0,.int .i64 0,.int .i64 0,.str [],.aF,.aF,.aF] 0 false))=H1 at *
   refine bm (SD c.t bs H1 (ea.ext aL) (by omega)) ?_
   rintro cT cI ⟨CF,bo⟩
   have oT:=bo.next
   have bz:cI.get (ak h.next)=(.ar [.int .i64 c.k,.int .i64 c.x,.int .i64 c.n,.str c.s,bl,bs,aY] 0 false):=by rw [bo.get _ (dC (by omega))];exact bF
   have db:cI.get (ak (h.next+1))=(.ar [.int .i64 0,.int .i64 0,.int .i64 0,.str [],.aF,.aF,.aF] 0 false):=by rw [bo.get _ (dC (by omega))];exact dN
   have jx:cI.get (ak (h.next+2))=(.ar [.int .i64 0,.int .i64 0,.int .i64 0,.str [],.aF,.aF,.aF] 0 false):=by rw [bo.get _ (dC (by omega))];exact kE
   have k1:=CF.v.one
   have oZ:=fun g (e:Ext h g)=>(cX.ext e).len
   have q8:=fun g (e:Ext h g)=>(cQ.ext e).len
   have tF:∀B:cp,Mod (fun b=>b=ak (h.next+2)) cI (cI.set (ak (h.next+2)) B):=fun B=>(Mod.refl (fun b=>b=ak (h.next+2)) cI).set (fun _=>rfl) _
   have zX:∀(da:Int) (yS:ag),Mod (fun b=>b=ak (h.next+2)) cI yS→yS.get (ak (h.next+2))=(.ar [.int .i64 c.k,.int .i64 da,.int .i64 c.n,.str c.s,.aF,cT,.aF] 0 false)→mg h [.int .i64 c.k,.int .i64 c.x,.int .i64 c.n,.str c.s,bl,bs,aY] c da cT yS .aF .aF:=by
    intro da yS dV a1
    refine ⟨(aL.trans bo).jk dV (fun b q=>by rw [q,cA];omega),by have:=dV.next;omega,?_,?_,a1,?_,fun b q=>⟨fun q=>q.elim,fun q=>q.elim⟩⟩
    · rw [dV.get _ (dC (by omega)) (by rw [gg];omega)];exact bz
    · rw [dV.get _ (dC (by omega)) (by rw [gg];omega)];exact db
    · exact (CF.mono (by omega)).mod dV (fun b q e=>by have:=CF.base q;rw [e,cA] at this;omega)
   have done:∀(da:Int) (dK:ag) (dd wl:V) (us:List (List V)) (G:Nat→aN→Prop),(if fk c.k then f c.x else c.x)=da→mg h [.int .i64 c.k,.int .i64 c.x,.int .i64 c.n,.str c.s,bl,bs,aY] c da cT dK dd wl→ca (h.next+3) dK 3 dd (c.a.map (dX f)).length (gG (c.a.map (dX f)))→ca (h.next+3) dK 7 wl c.l.length us.flatten→us.length=c.l.length→(∀b,wl.a_ b→¬dd.a_ b)→
    (∀(j:Nat) (d:aw) (u:List V),(dz f (decide (c.k=8)) c.l)[j]? =some d→us[j]? =some u→g2 dK (G j) d u)→(∀j b,j<c.l.length→G j b→h.next+3≤cd b∧¬wl.a_ b∧¬dd.a_ b∧¬cT.a_ b)→(∀i j b,i<c.l.length→j<c.l.length→i≠j→G i b→¬G j b)→
    g2 (dK.set (ak (h.next+1)) (.ar [.int .i64 c.k,.int .i64 da,.int .i64 c.n,.str c.s,dd,cT,wl] 0 false)) (fun b=>h.next≤cd b) (ck f c) [.int .i64 c.k,.int .i64 da,.int .i64 c.n,.str c.s,dd,cT,wl]∧Ext h (dK.set (ak (h.next+1)) (.ar [.int .i64 c.k,.int .i64 da,.int .i64 c.n,.str c.s,dd,cT,wl] 0 false)):=by
    intro da dK dd wl us G an S ph lK l0 bE al h6 nB
    have vD:Mod (fun b=>b=ak (h.next+1)) dK (dK.set (ak (h.next+1)) (.ar [.int .i64 c.k,.int .i64 da,.int .i64 c.n,.str c.s,dd,cT,wl] 0 false)):=(Mod.refl (fun b=>b=ak (h.next+1)) dK).set (fun _=>rfl) _
    refine ⟨?_,S.ext.jk vD (fun b q=>by rw [q,cA];omega)⟩
    have key:g2 dK (fun b=>h.next+3≤cd b) (.mk c.k da c.n c.s (c.a.map (dX f)) c.t (dz f (decide (c.k=8)) c.l)) [.int .i64 c.k,.int .i64 da,.int .i64 c.n,.str c.s,dd,cT,wl]:=by
     refine .mk G (ph.mono (Nat.zero_le _)) (S.p1.mono (Nat.zero_le _)) (by rw [m3];exact lK.mono (Nat.zero_le _)) (by rw [m3];exact l0) al (fun b q=>ph.base q) (fun b q=>S.p1.base q) (fun b q=>lK.base q) (fun i b ax q=>h6 i b (by rw [m3] at ax;exact ax) q) (fun b q=>⟨bE b q,fun dm=>(S.oy b dm).2 q⟩) (fun b q=>(S.oy b q).1) (fun i j b ax bC vj=>nB i j b (by rw [m3] at ax;exact ax) (by rw [m3] at bC;exact bC) vj)
    have XY:=(key.mod vD (fun b q e=>by rw [e,cA] at q;omega)).OL (g3:=fun b=>h.next≤cd b) (fun b q=>by omega)
    have:ck f c=.mk c.k da c.n c.s (c.a.map (dX f)) c.t (dz f (decide (c.k=8)) c.l):=by rw [←an];cases c;rfl
    rw [this]
    exact XY
   have zy:=eq_false b8
   simp +contextual only [bF,bz,db,jx,k1.1,k1.2.1,k1.2.2,↓ai,aq,simprocAttr]
   by_cases af:c.k=2
   · have rU:=eq_true af
     have wL:=T.ext ((aL.trans bo).jk (tF (.ar [.int .i64 c.k,.int .i64 c.x,.int .i64 c.n,.str c.s,.aF,cT,.aF] 0 false)) (fun b q=>by rw [q,cA];omega))
     simp +contextual only [rU,bF,bz,db,jx,↓ai,aq,simprocAttr]
     refine bm (yx wL c.x) ?_
     rintro x af ⟨rfl,rfl⟩
     have hM:=zX (f c.x) ((cI.set (ak (h.next+2)) (.ar [.int .i64 c.k,.int .i64 c.x,.int .i64 c.n,.str c.s,.aF,cT,.aF] 0 false)).set (ak (h.next+2)) (.ar [.int .i64 c.k,.int .i64 (f c.x),.int .i64 c.n,.str c.s,.aF,cT,.aF] 0 false)) ((tF (.ar [.int .i64 c.k,.int .i64 c.x,.int .i64 c.n,.str c.s,.aF,cT,.aF] 0 false)).set (fun _=>rfl) _) (by rw [cM,if_pos rfl])
     have sQ:=oZ _ hM.ext
     simp +contextual only [rU,bF,bz,db,jx,sQ,↓ai,aq,simprocAttr]
     refine mapA (c:=c) (da:=f c.x) (cT:=cT) (bl:=bl) (bs:=bs) (aY:=aY) T cX (by omega) _ _ _ _ hM (by simp only [↓ai,a2,simprocAttr]) (by simp only [↓ai,a2,simprocAttr]) (by simp only [↓ai,a2,simprocAttr]) (by simp only [↓ai,a2,simprocAttr]) (by simp only [↓ai,a2,simprocAttr]) (by simp only [↓ai,a2,simprocAttr]) (by simp only [↓ai,a2,simprocAttr]) ?_
     intro b6 dd ch jY ph bB bJ a4 a5
     have og:=q8 _ jY.ext
     simp +contextual only [bB,bJ,a4,a5,jY.ct,og,↓ai,aq,simprocAttr]
     refine AE (c:=c) (da:=f c.x) (cT:=cT) (bl:=bl) (bs:=bs) (aY:=aY) T cQ (by omega) _ _ _ _ jY ph en (by simp only [bB,↓ai,a2,simprocAttr]) (by simp only [bJ,↓ai,a2,simprocAttr]) (by simp only [a4,↓ai,a2,simprocAttr]) (by simp only [a5,↓ai,a2,simprocAttr]) (by simp only [↓ai,a2,simprocAttr]) (by simp only [↓ai,a2,simprocAttr]) (by simp only [↓ai,a2,simprocAttr]) ?_
     intro fP wl us G dr jZ om lK l0 bE al h6 nB ev dR
     have k0:=om.v.one.1
     have ol:=lK.v.one.1
     simp +contextual only [ev,dR,jZ.ev,jZ.dR,k0,ol,k1.1,↓ai,aq,simprocAttr]
     exact ⟨_,rfl,done (f c.x) fP dd wl us G (by rw [if_pos (by simp [fk,af])]) jZ om lK l0 bE al h6 nB⟩
   have rU:=eq_false af
   by_cases nz:c.k=11
   · have mx:=eq_true nz
     have wL:=T.ext ((aL.trans bo).jk (tF (.ar [.int .i64 c.k,.int .i64 c.x,.int .i64 c.n,.str c.s,.aF,cT,.aF] 0 false)) (fun b q=>by rw [q,cA];omega))
     simp +contextual only [rU,mx,bF,bz,db,jx,↓ai,aq,simprocAttr]
     refine bm (yx wL c.x) ?_
     rintro x af ⟨rfl,rfl⟩
     have hM:=zX (f c.x) ((cI.set (ak (h.next+2)) (.ar [.int .i64 c.k,.int .i64 c.x,.int .i64 c.n,.str c.s,.aF,cT,.aF] 0 false)).set (ak (h.next+2)) (.ar [.int .i64 c.k,.int .i64 (f c.x),.int .i64 c.n,.str c.s,.aF,cT,.aF] 0 false)) ((tF (.ar [.int .i64 c.k,.int .i64 c.x,.int .i64 c.n,.str c.s,.aF,cT,.aF] 0 false)).set (fun _=>rfl) _) (by rw [cM,if_pos rfl])
     have sQ:=oZ _ hM.ext
     simp +contextual only [rU,mx,bF,bz,db,jx,sQ,↓ai,aq,simprocAttr]
     refine mapA (c:=c) (da:=f c.x) (cT:=cT) (bl:=bl) (bs:=bs) (aY:=aY) T cX (by omega) _ _ _ _ hM (by simp only [↓ai,a2,simprocAttr]) (by simp only [↓ai,a2,simprocAttr]) (by simp only [↓ai,a2,simprocAttr]) (by simp only [↓ai,a2,simprocAttr]) (by simp only [↓ai,a2,simprocAttr]) (by simp only [↓ai,a2,simprocAttr]) (by simp only [↓ai,a2,simprocAttr]) ?_
     intro b6 dd ch jY ph bB bJ a4 a5
     have og:=q8 _ jY.ext
     simp +contextual only [bB,bJ,a4,a5,jY.ct,og,↓ai,aq,simprocAttr]
     refine AE (c:=c) (da:=f c.x) (cT:=cT) (bl:=bl) (bs:=bs) (aY:=aY) T cQ (by omega) _ _ _ _ jY ph en (by simp only [bB,↓ai,a2,simprocAttr]) (by simp only [bJ,↓ai,a2,simprocAttr]) (by simp only [a4,↓ai,a2,simprocAttr]) (by simp only [a5,↓ai,a2,simprocAttr]) (by simp only [↓ai,a2,simprocAttr]) (by simp only [↓ai,a2,simprocAttr]) (by simp only [↓ai,a2,simprocAttr]) ?_
     intro fP wl us G dr jZ om lK l0 bE al h6 nB ev dR
     have k0:=om.v.one.1
     have ol:=lK.v.one.1
     simp +contextual only [ev,dR,jZ.ev,jZ.dR,k0,ol,k1.1,↓ai,aq,simprocAttr]
     exact ⟨_,rfl,done (f c.x) fP dd wl us G (by rw [if_pos (by simp [fk,nz])]) jZ om lK l0 bE al h6 nB⟩
   have mx:=eq_false nz
   by_cases cn:c.k=7
   · have kN:=eq_true cn
     have wL:=T.ext ((aL.trans bo).jk (tF (.ar [.int .i64 c.k,.int .i64 c.x,.int .i64 c.n,.str c.s,.aF,cT,.aF] 0 false)) (fun b q=>by rw [q,cA];omega))
     simp +contextual only [rU,mx,kN,bF,bz,db,jx,↓ai,aq,simprocAttr]
     refine bm (yx wL c.x) ?_
     rintro x af ⟨rfl,rfl⟩
     have hM:=zX (f c.x) ((cI.set (ak (h.next+2)) (.ar [.int .i64 c.k,.int .i64 c.x,.int .i64 c.n,.str c.s,.aF,cT,.aF] 0 false)).set (ak (h.next+2)) (.ar [.int .i64 c.k,.int .i64 (f c.x),.int .i64 c.n,.str c.s,.aF,cT,.aF] 0 false)) ((tF (.ar [.int .i64 c.k,.int .i64 c.x,.int .i64 c.n,.str c.s,.aF,cT,.aF] 0 false)).set (fun _=>rfl) _) (by rw [cM,if_pos rfl])
     have sQ:=oZ _ hM.ext
     simp +contextual only [rU,mx,kN,bF,bz,db,jx,sQ,↓ai,aq,simprocAttr]
     refine mapA (c:=c) (da:=f c.x) (cT:=cT) (bl:=bl) (bs:=bs) (aY:=aY) T cX (by omega) _ _ _ _ hM (by simp only [↓ai,a2,simprocAttr]) (by simp only [↓ai,a2,simprocAttr]) (by simp only [↓ai,a2,simprocAttr]) (by simp only [↓ai,a2,simprocAttr]) (by simp only [↓ai,a2,simprocAttr]) (by simp only [↓ai,a2,simprocAttr]) (by simp only [↓ai,a2,simprocAttr]) ?_
     intro b6 dd ch jY ph bB bJ a4 a5
     have og:=q8 _ jY.ext
     simp +contextual only [bB,bJ,a4,a5,jY.ct,og,↓ai,aq,simprocAttr]
     refine AE (c:=c) (da:=f c.x) (cT:=cT) (bl:=bl) (bs:=bs) (aY:=aY) T cQ (by omega) _ _ _ _ jY ph en (by simp only [bB,↓ai,a2,simprocAttr]) (by simp only [bJ,↓ai,a2,simprocAttr]) (by simp only [a4,↓ai,a2,simprocAttr]) (by simp only [a5,↓ai,a2,simprocAttr]) (by simp only [↓ai,a2,simprocAttr]) (by simp only [↓ai,a2,simprocAttr]) (by simp only [↓ai,a2,simprocAttr]) ?_
     intro fP wl us G dr jZ om lK l0 bE al h6 nB ev dR
     have k0:=om.v.one.1
     have ol:=lK.v.one.1
     simp +contextual only [ev,dR,jZ.ev,jZ.dR,k0,ol,k1.1,↓ai,aq,simprocAttr]
     exact ⟨_,rfl,done (f c.x) fP dd wl us G (by rw [if_pos (by simp [fk,cn])]) jZ om lK l0 bE al h6 nB⟩
   have kN:=eq_false cn
   have hM:=zX (c.x) (cI.set (ak (h.next+2)) (.ar [.int .i64 c.k,.int .i64 c.x,.int .i64 c.n,.str c.s,.aF,cT,.aF] 0 false)) (tF _) (by rw [cM,if_pos rfl])
   have sQ:=oZ _ hM.ext
   simp +contextual only [rU,mx,kN,zy,bF,bz,db,jx,sQ,↓ai,aq,simprocAttr]
   refine mapA (c:=c) (da:=c.x) (cT:=cT) (bl:=bl) (bs:=bs) (aY:=aY) T cX (by omega) _ _ _ _ hM (by simp only [↓ai,a2,simprocAttr]) (by simp only [↓ai,a2,simprocAttr]) (by simp only [↓ai,a2,simprocAttr]) (by simp only [↓ai,a2,simprocAttr]) (by simp only [↓ai,a2,simprocAttr]) (by simp only [↓ai,a2,simprocAttr]) (by simp only [↓ai,a2,simprocAttr]) ?_
   intro b6 dd ch jY ph bB bJ a4 a5
   have og:=q8 _ jY.ext
   simp +contextual only [bB,bJ,a4,a5,jY.ct,og,↓ai,aq,simprocAttr]
   refine AE (c:=c) (da:=c.x) (cT:=cT) (bl:=bl) (bs:=bs) (aY:=aY) T cQ (by omega) _ _ _ _ jY ph en (by simp only [bB,↓ai,a2,simprocAttr]) (by simp only [bJ,↓ai,a2,simprocAttr]) (by simp only [a4,↓ai,a2,simprocAttr]) (by simp only [a5,↓ai,a2,simprocAttr]) (by simp only [↓ai,a2,simprocAttr]) (by simp only [↓ai,a2,simprocAttr]) (by simp only [↓ai,a2,simprocAttr]) ?_
   intro fP wl us G dr jZ om lK l0 bE al h6 nB ev dR
   have k0:=om.v.one.1
   have ol:=lK.v.one.1
   simp +contextual only [ev,dR,jZ.ev,jZ.dR,k0,ol,k1.1,↓ai,aq,simprocAttr]
   exact ⟨_,rfl,done (c.x) fP dd wl us G (by rw [if_neg (by simp [fk,af,nz,cn])]) jZ om lK l0 bE al h6 nB⟩
end Go.Proofs.YtjbiefneffiogaaGreat
namespace Go.Proofs.YtjbiefneffiogaaGreat
open Go ba
def lA (l:List Int) (from_:Int) (n:Int):Int:=from_+vT l n
structure ad1 (h:ag) (eb:List V) (g:ag):Prop where
 ext:Ext h g
 n:h.next+2≤g.next
 eQ:g.get (ak h.next)=.ar eb 0 false
 hO:g.get (ak (h.next+1))=.ar [.int .i64 0,.int .i64 0,.int .i64 0,.str [],.aF,.aF,.aF] 0 false
theorem ab_ (c:aw) (n:Int):size (c.jQ n)=size c:=by cases c;rfl
theorem Tu {m:Nat} {c:aw} {n:Int} (h:fit m c):fit m (c.jQ n):=by cases c;exact h
theorem Mb:∀(l r:List Int),r.Nodup→(∀z ∈ l,z ∈ r)→(∀z ∈ r,z ∈ l)→l.length≤r.length→l.Nodup
 | [],_,_,_,_,_=>List.nodup_nil
 | x::l,r,aX,ab,af,aB=>by
   by_cases an:x ∈ l
   · have:=E_ (l:=r) (m:=l) aX fun z aV=>by
      rcases List.mem_cons.1 (af z aV) with rfl | q
      · exact an
      · exact q
     simp only [List.length_cons] at aB
     omega
   · have nK:=ab x (by simp)
     have hlen:=List.length_erase_of_mem nK
     have bb:=Mb l (r.erase x) (aX.erase x) (fun z aV=>(List.mem_erase_of_ne (show z≠x from fun e=>an (e ▸ aV))).2 (ab z (by simp [aV])))
      (fun z aV=>by
        have ga:=List.mem_of_mem_erase aV
        rcases List.mem_cons.1 (af z ga) with rfl | q
        · exact absurd aV (fun q=>by have:=(List.Nodup.mem_erase_iff aX).1 q;exact this.1 rfl)
        · exact q) (by simp only [List.length_cons] at aB;omega)
     exact List.nodup_cons.2 ⟨an,bb⟩
theorem ue:∀{l:List Int},l.Nodup→∀(i:Nat) (h:i<l.length),vT l l[i]=i
 | [],_,i,h=>by simp at h
 | m::l,aX,0,_=>by rw [MM];simp
 | m::l,aX,i+1,h=>by
   obtain ⟨ab,af⟩:=List.nodup_cons.1 aX
   have ax:i<l.length:=by simpa using h
   have eL:¬m=l[i]:=fun e=>ab (e ▸ List.getElem_mem ax)
   have bb:=ue af i ax
   rw [MM,List.getElem_cons_succ,if_neg eL,bb,if_neg (by omega)]
   omega
theorem J4 {m:Nat} (f:Int→Int) (rc:Bool):∀{l:List aw},fits m (dz f rc l)↔fits m (l.map (ck f))
 | []=>Iff.rfl
 | c::cs=>by
   simp only [dz,List.map_cons,fits,J4 f rc (l:=cs)]
   split
   · constructor
     · rintro ⟨ab,af⟩
       refine ⟨?_,af⟩
       cases aA:ck f c with
       | mk k x n s a t l=>rw [aA] at ab;exact ab
     · rintro ⟨ab,af⟩
       exact ⟨Tu ab,af⟩
   · exact Iff.rfl
theorem J3 {m:Nat} (f:Int→Int):∀(N:Nat) (c:aw),size c≤N→fit m c→fit m (ck f c)
 | 0,c,bk,_=>by have:=size_pos c;omega
 | N+1,.mk k x n s a t l,bk,⟨ab,af,aK,bM,e8,fZ⟩=>by
   simp only [size] at bk
   refine ⟨ab,by rw [List.length_map];exact af,aK,by rw [m3];exact bM,fun q aM=>?_,?_⟩
   · obtain ⟨p,aH,rfl⟩:=List.mem_map.1 aM
     have:=e8 p aH
     unfold dX
     split<;>exact this
   · rw [J4]
     refine zL fun d bE=>?_
     obtain ⟨e,he,rfl⟩:=List.mem_map.1 bE
     obtain ⟨i,ax⟩:=List.getElem?_of_mem he
     have:=v8 he
     exact J3 f N e (by omega) (oF fZ ax)
def yF:aw:=.mk 0 0 0 [] [] [] []
def kk (c:aw) (b2:Int):Int:=if ih c≠0 then ih c else if b2<0∨1048576-b2 < (order c).length then 2 else 0
def dh (c:aw) (b2:Int):aw:=if kk c b2=0 then ck (lA (order c) b2) c else yF
theorem Gq (h:ag) (F:aN→Prop):g2 h F yF [.int .i64 0,.int .i64 0,.int .i64 0,.str [],.aF,.aF,.aF]:=
 .mk (us:=[]) (fun _ _=>False) ⟨rfl,rfl⟩ ⟨rfl,rfl⟩ ⟨rfl,rfl⟩ rfl (fun i c u q=>by simp at q) (fun b q=>q.elim) (fun b q=>q.elim) (fun b q=>q.elim) (fun i b _ q=>q.elim) (fun b q=>q.elim) (fun b q=>q.elim) (fun i j b _ _ _ q=>q.elim)
theorem Tt {c:aw} {b2:Int} (au:fit 1048576 c):fit 1048576 (dh c b2):=by
 unfold dh
 split
 · exact J3 _ (size c) c (Nat.le_refl _) au
 · exact ⟨by simp,by simp,by simp,by simp,fun q aM=>(by cases aM),trivial⟩
theorem pt {c:aw} (h:ih c=0):may cx c=true∧(order c).Nodup∧free c []=[]:=by
 unfold ih at h
 by_cases hm:may cx c=true
 · rw [if_neg (by simp [hm])] at h
   by_cases aB:(order c).length≠(rising (order c)).length
   · rw [if_pos aB] at h;omega
   · rw [if_neg aB] at h
     by_cases au:0 < (rising (free c [])).length
     · rw [if_pos au] at h;omega
     · refine ⟨hm,Mb _ (rising (order c)) ((yk _).imp (fun q=>by omega)) (fun z aV=>sf.2 aV) (fun z aV=>sf.1 aV) (by omega),?_⟩
       refine List.eq_nil_iff_forall_not_mem.2 fun z aV=>?_
       have:=List.length_pos_of_mem (sf.2 aV)
       omega
 · rw [if_pos (by simpa using hm)] at h;omega
end Go.Proofs.YtjbiefneffiogaaGreat
namespace Go.Proofs.YtjbiefneffiogaaGreat
def p2 (g:Int→Int) (e:gP):gP:=e.map fun p=>(g p.1,p.2)
def hG (g:Int→Int):dk→dk
 | .fn x c e=>.fn (g x) (ck g c) (p2 g e)
 | v=>v
def FC (g:Int→Int) (a:hN):hN:=⟨a.ix,g a.x,ck g a.c,p2 g a.e⟩
def av.cD (g:Int→Int) (S:av):av:={S with c:=ck g S.c,e:=p2 g S.e,w:=S.w.map (FC g),st:=S.st.map (hG g)}
theorem aa0 (g:Int→Int) (c:aw):(ck g c).k=c.k:=by cases c;rfl
theorem aa1 (g:Int→Int) (c:aw):(ck g c).n=c.n:=by cases c;rfl
theorem aa2 (g:Int→Int) (c:aw):(ck g c).s=c.s:=by cases c;rfl
theorem aa3 (g:Int→Int) (c:aw):(ck g c).t=c.t:=by cases c;rfl
theorem aaZ (g:Int→Int) (c:aw):(ck g c).a=c.a.map (dX g):=by cases c;rfl
theorem FA (g:Int→Int) (c:aw):(ck g c).l=dz g (decide (c.k=8)) c.l:=by cases c;rfl
theorem Ni (g:Int→Int) (c:aw):(ck g c).x=if fk c.k then g c.x else c.x:=by cases c;rfl
theorem FB (g:Int→Int):∀l:List aw,dz g false l=l.map (ck g)
 | []=>rfl
 | c::cs=>by simp [dz,FB g cs]
theorem Nn (g:Int→Int):∀(l:List aw) (d:aw),dz g true (l++[d])=l.map (fun c=>(ck g c).jQ (g c.n))++[ck g d]
 | [],d=>by simp [dz]
 | c::cs,d=>by simp [dz,Nn g cs d]
section
variable {g:Int→Int} (a1:∀a b,g a=g b→a=b)
include a1
theorem NU (n:Int):∀e:gP,m6 (p2 g e) (g n)=m6 e n
 | []=>rfl
 | (m,j)::e=>by
   have bb:=NU n e
   simp only [p2] at bb
   simp only [p2,List.map_cons,m6,bb]
   by_cases q:m=n
   · rw [if_pos q,if_pos (congrArg g q)]
   · rw [if_neg q,if_neg fun dm=>q (a1 _ _ dm)]
end
section
variable (g:Int→Int)
theorem k7 (S:av) (j:Nat):(S.cD g).val j=hG g (S.val j):=by
 simp only [av.val,av.cD,List.getD_eq_getElem?_getD,List.getElem?_map]
 cases S.st[j]? <;>rfl
theorem yi (S:av) (v:dk):(S.cD g).fa (hG g v)=(S.fa v).cD g:=by
 simp [av.fa,av.cD]
theorem Ba (S:av):(S.cD g).st.length=S.st.length:=by simp [av.cD]
theorem FF (S:av) (j:Nat):(S.cD g).l9 j=(S.l9 j).cD g:=by
 have key:∀w:List hN,(S.cD g).qa j (w.map (FC g))=(S.qa j w).cD g:=by
  intro w
  induction w with
  | nil=>rfl
  | cons a w bb=>
    simp only [List.map_cons,av.qa,bb]
    show (if a.ix=true then _ else _)=_
    split<;>rfl
 exact key S.w
theorem Nr (S:av) (j:Nat):(S.cD g).o8 j=(S.o8 j).cD g:=by
 have key:∀w:List hN,(S.cD g).k5 j (w.map (FC g))=(S.k5 j w).cD g:=by
  intro w
  induction w with
  | nil=>
    simp only [List.map_nil,av.k5,k7]
    cases S.val j<;>rfl
  | cons a w bb=>
    simp only [List.map_cons,av.k5,bb]
    show (if a.ix=true then _ else _)=_
    split<;>rfl
 exact key S.w
theorem js (S:av) (v:dk):(S.cD g).dw (hG g v)=(S.dw v).cD g:=by
 unfold av.dw
 rw [yi,Ba,FF]
theorem yj (S:av) (v:dk):(S.cD g).k6 (hG g v)=(S.k6 v).cD g:=by
 unfold av.k6
 rw [yi,Ba,Nr]
theorem fw {p:Prop} [Decidable p] {A B:av} {wq sG:av} (ab:wq=A.cD g) (af:sG=B.cD g):(if p then wq else sG)=(if p then A else B).cD g:=by
 split<;>assumption
theorem sr (S:av) (bd:List Nat) {k bK:Int→Int→av} (h:∀a b,bK a b=(k a b).cD g):(S.cD g).gV bd bK=(S.gV bd k).cD g:=by
 unfold av.gV
 rw [k7,k7]
 cases S.val (bd.getD 0 0)<;>simp only [hG]<;>first | rfl | (cases S.val (bd.getD 1 0)<;>simp only [hG]<;>first | exact h _ _ | rfl)
theorem FE (S:av) (bd:List Nat) {k bK:Int→av} (h:∀a,bK a=(k a).cD g):(S.cD g).jm bd bK=(S.jm bd k).cD g:=by
 unfold av.jm
 rw [k7]
 cases S.val (bd.getD 0 0)<;>simp only [hG]<;>first | exact h _ | rfl
theorem Nu (S:av) (bd:List Nat) {k bK:List UInt8→av} (h:∀a,bK a=(k a).cD g):(S.cD g).k_ bd bK=(S.k_ bd k).cD g:=by
 unfold av.k_
 rw [k7]
 cases S.val (bd.getD 0 0)<;>simp only [hG]<;>first | exact h _ | rfl
theorem Nq (S:av) (o:List UInt8) (v:dk):{S.cD g with out:=(S.cD g).out++o}.dw (hG g v)=({S with out:=S.out++o}.dw v).cD g:=js g {S with out:=S.out++o} v
theorem aa_ (S:av) (bp s:List UInt8) (bd:List Nat):(S.cD g).lC bp s bd=(S.lC bp s bd).cD g:=by
 unfold av.lC
 refine fw g (sr g S bd fun a b=>js g S (.int _)) ?_
 refine fw g (sr g S bd fun a b=>js g S (.int _)) ?_
 refine fw g (sr g S bd fun a b=>js g S (.int _)) ?_
 refine fw g (sr g S bd fun a b=>js g S (av.n4 _)) ?_
 refine fw g (sr g S bd fun a b=>js g S (av.n4 _)) ?_
 refine fw g (sr g S bd fun a b=>js g S (av.n4 _)) ?_
 refine fw g (sr g S bd fun a b=>fw g (yj g S (.dt _ _)) (js g S (.int _))) ?_
 refine fw g (sr g S bd fun a b=>fw g (yj g S (.dt _ _)) (js g S (.int _))) ?_
 refine fw g (FE g S bd fun a=>js g S (.int _)) ?_
 refine fw g ?_ ?_
 · unfold av.u'
   exact fw g (js g S (.int _)) (js g {S with read:=S.read+1} (.int _))
 refine fw g (FE g S bd fun a=>Nq g S _ (.dt 0 [])) ?_
 refine fw g (Nu g S bd fun a=>Nq g S _ (.dt 0 [])) ?_
 refine fw g (Nu g S bd fun a=>js g S (.int _)) ?_
 refine fw g (FE g S bd fun a=>js g S (.text _)) ?_
 refine fw g ?_ ?_
 · unfold av.qB
   rw [k7,k7]
   cases S.val (bd.getD 0 0)<;>simp only [hG]<;>first | rfl | skip
   cases S.val (bd.getD 1 0)<;>simp only [hG]<;>first | rfl | skip
   exact fw g (js g S (.int _)) (yj g S (.dt _ _))
 refine fw g ?_ ?_
 · unfold av.cut
   rw [k7,k7,k7]
   cases S.val (bd.getD 0 0)<;>simp only [hG]<;>first | rfl | skip
   cases S.val (bd.getD 1 0)<;>simp only [hG]<;>first | rfl | skip
   cases S.val (bd.getD 2 0)<;>simp only [hG]<;>first | rfl | skip
   exact fw g (js g S (.text _)) (yj g S (.dt _ _))
 refine fw g ?_ ?_
 · unfold av.join
   rw [k7,k7]
   cases S.val (bd.getD 0 0)<;>simp only [hG]<;>first | rfl | skip
   cases S.val (bd.getD 1 0)<;>simp only [hG]<;>first | rfl | skip
   exact fw g (js g S (.text _)) (yj g S (.dt _ _))
 refine fw g ?_ rfl
 unfold av.su
 rw [k7]
 cases S.val (bd.getD 0 0)<;>simp only [hG]<;>first | rfl | skip
 refine fw g ?_ rfl
 have:=js g {S with st:=S.st.set (bd.getD 0 0) (.dt 0 [bd.getD 1 0])} (.dt 0 [])
 rw [←this]
 simp only [av.cD,List.map_set,hG]
theorem Np (S:av) (h:S.c.k≠8) (i:Nat):(S.cD g).lW i=(S.lW i).cD g:=by
 unfold av.lW
 have:(S.cD g).c.l[i]? =(S.c.l[i]?).map (ck g):=by
  show (ck g S.c).l[i]? =_
  rw [FA,decide_eq_false h,FB,List.getElem?_map]
 rw [this]
 cases S.c.l[i]? <;>rfl
theorem No (S:av) (h:S.c.k≠8) (gW:Bool) (j:Nat):(S.cD g).iC gW j=(S.iC gW j).cD g:=by
 unfold av.iC
 have aI:(S.cD g).c.t=S.c.t:=aa3 g S.c
 rw [k7,aI]
 cases S.val j<;>simp only [hG]<;>first | rfl | skip
 · exact fw g (Np g S h _) rfl
 · exact fw g rfl (Np g S h _)
theorem FD (S:av) (h:S.c.k≠8) (i:Nat):(S.cD g).en i=ck g (S.en i):=by
 unfold av.en
 show (ck g S.c).l.getD i (ck g S.c)=_
 rw [FA,decide_eq_false h,FB]
 simp only [List.getD_eq_getElem?_getD,List.getElem?_map]
 cases S.c.l[i]? <;>rfl
theorem aa8 (S:av) (f v:Nat):(S.cD g).call f v=(S.call f v).cD g:=by
 unfold av.call
 rw [k7]
 cases S.val f<;>rfl
theorem aa' (S:av) (n:Int) (j:Nat):(S.cD g).mD n j=(S.mD n j).cD g:=by
 unfold av.mD
 rw [k7]
 cases S.val j<;>simp only [hG]<;>first | rfl | skip
 exact fw g rfl (FF g S _)
theorem abb (T:av) (f:aw) (cn:f.k=7) (aB:f.l.length=1):av.gX (T.cD g) ((ck g f).jQ (g f.n))=(av.gX T f).cD g:=by
 obtain ⟨k,x,n,s,a,t,l⟩:=f
 simp only [aw.k] at cn
 subst cn
 simp only [aw.l] at aB
 obtain ⟨d,rfl⟩:=List.length_eq_one_iff.1 aB
 have:=yi g T (.fn x d [])
 simp only [hG] at this
 unfold av.gX
 simp only [ck,aw.jQ,aw.x,aw.l,aw.n,fk,dz,List.headD_cons]
 simp [dz,p2] at this ⊢
 rw [this]
 simp [av.cD,av.fa,p2]
theorem Ns:∀(l:List aw) (T:av),(∀f ∈ l,f.k=7∧f.l.length=1)→(T.cD g).e1 (l.map fun c=>(ck g c).jQ (g c.n))=(T.e1 l).cD g
 | [],T,_=>rfl
 | f::l,T,h=>by
   have bb:=Ns l (av.gX T f) fun d bE=>h d (by simp [bE])
   unfold av.e1 at bb ⊢
   rw [List.map_cons,List.foldl_cons,List.foldl_cons,abb g T f (h f (by simp)).1 (h f (by simp)).2,bb]
theorem Nt (e:gP):∀(l:List aw) (i:Nat) (st:List dk),(∀f ∈ l,f.k=7∧f.l.length=1)→av.hX (p2 g e) i (st.map (hG g)) (l.map fun c=>(ck g c).jQ (g c.n))=(av.hX e i st l).map (hG g)
 | [],_,_,_=>rfl
 | f::l,i,st,h=>by
   have bb:=Nt e l (i+1) (st.set i (.fn f.x (f.l.headD f) e)) fun d bE=>h d (by simp [bE])
   obtain ⟨cn,aB⟩:=h f (by simp)
   rw [List.map_cons]
   unfold av.hX
   rw [←bb]
   congr 1
   obtain ⟨k,x,n,s,a,t,l⟩:=f
   simp only [aw.k] at cn
   subst cn
   simp only [aw.l] at aB
   obtain ⟨d,rfl⟩:=List.length_eq_one_iff.1 aB
   simp [ck,aw.jQ,aw.x,aw.l,fk,dz,List.map_set,hG]
theorem aba (S:av) (er:S.c.k=8) (aB:1≤S.c.l.length) (al:∀f ∈ S.c.l.dropLast,f.k=7∧f.l.length=1):(S.cD g).n0=S.n0.cD g:=by
 obtain ⟨b',d,xy⟩:∃b' d,S.c.l=b'++[d]:=⟨_,_,(List.dropLast_concat_getLast (by intro q;rw [q] at aB;simp at aB)).symm⟩
 have c2:(S.cD g).c.l=b'.map (fun c=>(ck g c).jQ (g c.n))++[ck g d]:=by
  show (ck g S.c).l=_
  rw [FA,decide_eq_true er,xy,Nn]
 rw [xy,List.dropLast_concat] at al
 unfold av.n0
 rw [c2,xy]
 simp only [List.dropLast_concat]
 rw [Ns g b' S al,Ba]
 have:=Nt g (S.e1 b').e b' S.st.length (S.e1 b').st al
 simp only [av.cD] at this ⊢
 rw [this]
 simp [List.getLastD_eq_getLast?]
end
section
variable {g:Int→Int} (a1:∀a b,g a=g b→a=b)
include a1
theorem aa6 (S:av) (a:At):(S.cD g).atom (dX g a)=((S.atom a).1.cD g,(S.atom a).2):=by
 unfold av.atom dX
 by_cases ab:a.k=1
 · simp only [if_pos ab]
   rw [show (S.cD g).e=p2 g S.e from rfl,NU a1]
 · simp only [if_neg ab]
   rw [Ba]
   split
   · rw [←yi];rfl
   · rw [←yi];rfl
theorem aa7 (S:av) (l:List At):(S.cD g).atoms (l.map (dX g))=((S.atoms l).1.cD g,(S.atoms l).2):=by
 have key:∀(l:List At) (T:av) (bd:List Nat),(l.map (dX g)).foldl av.j0 (T.cD g,bd)=((l.foldl av.j0 (T,bd)).1.cD g,(l.foldl av.j0 (T,bd)).2):=by
  intro l
  induction l with
  | nil=>intro T bd;rfl
  | cons a l bb=>
    intro T bd
    rw [List.map_cons,List.foldl_cons,List.foldl_cons]
    have:av.j0 (T.cD g,bd) (dX g a)=((T.atom a).1.cD g,bd++[(T.atom a).2]):=by
     unfold av.j0
     rw [aa6 a1]
    rw [this,bb]
    rfl
 exact key l S []
omit a1 in
theorem Nz {b:List Int} {c:aw} (H:gv b c) (er:c.k=8):1≤c.l.length∧∀f ∈ c.l.dropLast,f.k=7∧f.l.length=1:=by
 have ab:=H.EY
 obtain ⟨k,x,n,s,a,t,l⟩:=c
 simp only [aw.k] at er
 subst er
 simp only [may,if_true,Bool.and_eq_true,decide_eq_true_eq] at ab
 refine ⟨by simp only [aw.l];omega,fun f au=>?_⟩
 obtain ⟨aG,az,_⟩:=(AF ab.2).1 f au
 exact ⟨aG,(Fp az).2⟩
theorem abc (S:av) (bc:List UInt8) {b:List Int} (H:gv b S.c):(S.cD g).step bc=(S.step bc).cD g:=by
 have aA:=(av.kL S S.c.a).2.1
 unfold av.step
 rw [show (S.cD g).c.a=S.c.a.map (dX g) from aaZ g S.c,aa7 a1]
 rw [←aA] at H
 generalize (S.atoms S.c.a).1=T at *
 generalize (S.atoms S.c.a).2=bd at *
 simp only
 have al:(T.cD g).c.k=T.c.k:=aa0 g T.c
 unfold av.ew
 rw [al]
 by_cases pP:T.c.k=8
 · obtain ⟨bf,bV⟩:=Nz H pP
   simp only [pP]
   exact aba g T pP bf bV
 refine fw g (FF g T _) ?_
 by_cases b8:T.c.k=2∨T.c.k=11
 · rw [if_pos b8,if_pos b8]
   unfold av.waits
   rw [FD g T pP,FD g T pP,al]
   have an:(T.cD g).c.x=g T.c.x:=by
    show (ck g T.c).x=_
    rw [Ni,if_pos]
    simp only [fk,Bool.or_eq_true,decide_eq_true_eq]
    omega
   rw [an]
   rfl
 rw [if_neg b8,if_neg b8]
 refine fw g ?_ ?_
 · rw [show (T.cD g).c.s=T.c.s from aa2 g T.c]
   exact aa_ g T bc _ bd
 rw [show (T.cD g).c.n=T.c.n from aa1 g T.c]
 refine fw g (js g T (.dt _ _)) ?_
 refine fw g (aa' g T _ _) ?_
 refine fw g (aa8 g T _ _) ?_
 by_cases nP:T.c.k=7
 · rw [if_pos nP,if_pos nP,FD g T pP]
   have an:(T.cD g).c.x=g T.c.x:=by
    show (ck g T.c).x=_
    rw [Ni,if_pos]
    simp [fk,nP]
   rw [an]
   exact js g T (.fn T.c.x (T.en 0) T.e)
 rw [if_neg nP,if_neg nP,if_neg pP,if_neg pP]
 exact fw g (No g T pP _ _) (fw g (No g T pP _ _) (fw g (Nr g T _) rfl))
theorem Bb {c:aw} (hw:gv [] c) (bc:List UInt8):∀i,(start (ck g c)).nth bc i=((start c).nth bc i).cD g
 | 0=>rfl
 | i+1=>by
   have bb:=Bb hw bc i
   show ((start (ck g c)).nth bc i).step bc=_
   rw [bb]
   exact abc a1 _ bc (cG.nth (bc:=bc) hw i).c
theorem aa9 {c:aw} (hw:gv [] c) {bc:List UInt8} {s:Int} {l:oh} (h:uz c bc s l):uz (ck g c) bc s l:=by
 obtain ⟨i,ab,af,aK,bM⟩:=h
 refine ⟨i,fun j bC=>?_,af,?_,?_⟩
 · rw [Bb a1 hw];exact ab j bC
 · rw [Bb a1 hw];exact aK
 · rw [Bb a1 hw];exact bM
end
end Go.Proofs.YtjbiefneffiogaaGreat
namespace Go.Proofs.YtjbiefneffiogaaGreat
theorem aar (c:aw) (n:Int):order (c.jQ n)=order c:=by cases c;rfl
theorem Ty (c:aw) (n:Int) (b:List Int):free (c.jQ n) b=free c b:=by cases c;rfl
theorem adB (c:aw) (n:Int):wt (c.jQ n)=wt c:=by cases c;rfl
section
variable (f:Int→Int)
mutual
theorem FW:∀c:aw,size (ck f c)=size c
 | .mk k x n s a t l=>by simp only [ck,size,N2 (decide (k=8)) l]
theorem N2 (rc:Bool):∀l:List aw,ju (dz f rc l)=ju l
 | []=>rfl
 | c::cs=>by
   simp only [dz,ju,N2 rc cs]
   split
   · rw [ab_,FW c]
   · rw [FW c]
end
theorem Hf:∀a:List At,lM (a.map (dX f))=lM a
 | []=>rfl
 | q::a=>by
   simp only [List.map_cons,lM,Hf a,dX]
   split<;>rfl
mutual
theorem Gm:∀c:aw,wt (ck f c)=wt c
 | .mk k x n s a t l=>by simp only [ck,wt,OT (decide (k=8)) l,List.length_map,Hf]
theorem OT (rc:Bool):∀l:List aw,gj (dz f rc l)=gj l
 | []=>rfl
 | c::cs=>by
   simp only [dz,gj,OT rc cs]
   split
   · rw [adB,Gm c]
   · rw [Gm c]
end
theorem L':∀l:List aw,(dz f true l).dropLast.map aw.n=(l.dropLast.map aw.n).map f
 | []=>rfl
 | [c]=>by simp [dz]
 | c::d::l=>by
   have bb:=L' (d::l)
   have h:dz f true (c::d::l)=(ck f c).jQ (f c.n)::dz f true (d::l):=by simp [dz]
   have eL:dz f true (d::l)≠[]:=by intro q;have:=congrArg List.length q;rw [m3] at this;simp at this
   rw [h,List.dropLast_cons_of_ne_nil eL,List.map_cons,bb,List.dropLast_cons_cons,List.map_cons,List.map_cons]
   congr 1
   cases c;rfl
theorem MK (k x da:Int) (l:List aw) (an:fk k=true→da=f x):ownNames k da (dz f (decide (k=8)) l)=(ownNames k x l).map f:=by
 unfold ownNames
 by_cases cn:k=7
 · rw [if_pos cn,if_pos cn,an (by simp [fk,cn])]
   rfl
 · rw [if_neg cn,if_neg cn]
   by_cases er:k=8
   · rw [if_pos er,if_pos er,decide_eq_true er,L']
   · rw [if_neg er,if_neg er]
     rfl
theorem LA {k:Int} (h:dL k=true):fk k=true:=by
 simp only [dL,fk,Bool.or_eq_true] at h ⊢
 exact .inl h
mutual
theorem Mz:∀c:aw,order (ck f c)=(order c).map f
 | .mk k x n s a t l=>by
   have h:=MD (decide (k=8)) (dL k) x (if fk k then f x else x) (fun q=>if_pos (LA q)) l 0
   simp only [ck,order,MK f k x (if fk k then f x else x) l (fun q=>if_pos q),List.map_append,h]
theorem MD (rc late:Bool) (x da:Int) (an:late=true→da=f x):∀(l:List aw) (i:Nat),hk late da (dz f rc l) i=(hk late x l i).map f
 | [],i=>rfl
 | c::cs,i=>by
   have ab:=Mz c
   have af:=MD rc late x da an cs (i+1)
   simp only [dz,hk,af,List.map_append]
   congr 1
   congr 1
   · by_cases q:(late&&i == 1)=true
     · rw [if_pos q,if_pos q,an (by simp only [Bool.and_eq_true] at q;exact q.1)]
       rfl
     · rw [if_neg q,if_neg q]
       rfl
   · split
     · rw [aar,ab]
     · rw [ab]
end
theorem aa4 (q:At):dX (fun z=>z) q=q:=by
 unfold dX;split<;>rfl
mutual
theorem Nj:∀c:aw,ck (fun z=>z) c=c
 | .mk k x n s a t l=>by
   have h:a.map (dX fun z=>z)=a:=by
    conv=>rhs;rw [←List.map_id a]
    exact List.map_congr_left fun q _=>aa4 q
   simp only [ck,Nm (decide (k=8)) l,h,ite_self]
theorem Nm (rc:Bool):∀l:List aw,dz (fun z=>z) rc l=l
 | []=>rfl
 | c::cs=>by
   simp only [dz,Nm rc cs,Nj c]
   split
   · cases c;rfl
   · rfl
end
end
section
variable {g:Int→Int} (a1:∀a b,g a=g b→a=b)
include a1
theorem ac5 (b:List Int) (a:List At):jw (b.map g) (a.map (dX g))=(jw b a).map g:=by
 induction a with
 | nil=>rfl
 | cons q a bb=>
   unfold jw at bb ⊢
   have al:(dX g q).k=q.k:=by unfold dX;split<;>rfl
   have hm:∀z,(b.map g).contains (g z)=b.contains z:=by
    intro z
    rw [Bool.eq_iff_iff]
    simp only [List.contains_eq_mem,decide_eq_true_eq,List.mem_map]
    exact ⟨fun ⟨w,ab,af⟩=>a1 _ _ af ▸ ab,fun h=>⟨z,h,rfl⟩⟩
   by_cases ab:q.k=1
   · have aX:(dX g q).n=g q.n:=by unfold dX;rw [if_pos ab]
     simp only [List.map_cons,List.filter_cons,al,ab,decide_true,Bool.true_and,aX,hm]
     split
     · rw [List.map_cons,List.map_cons,bb,aX]
       rfl
     · exact bb
   · simp only [List.map_cons,List.filter_cons,al,decide_eq_false ab,Bool.false_and,Bool.false_eq_true,if_false]
     exact bb
mutual
theorem Dj:∀(c:aw) (b:List Int),free (ck g c) (b.map g)=(free c b).map g
 | .mk k x n s a t l,b=>by
   have h:=Kb (decide (k=8)) (dL k) x (if fk k then g x else x) (fun q=>if_pos (LA q)) l (b++ownNames k x l) 0
   rw [List.map_append] at h
   simp only [ck,free,MK g k x (if fk k then g x else x) l (fun q=>if_pos q),ac5 a1,List.map_append,h]
theorem Kb (rc late:Bool) (x da:Int) (an:late=true→da=g x):∀(l:List aw) (b:List Int) (i:Nat),hB late da (dz g rc l) (b.map g) i=(hB late x l b i).map g
 | [],b,i=>rfl
 | c::cs,b,i=>by
   have af:=Kb rc late x da an cs b (i+1)
   have ab:∀b,free (if (rc&&!cs.isEmpty)=true then (ck g c).jQ (g c.n) else ck g c) (b.map g)=(free c b).map g:=by
    intro b
    split
    · rw [Ty,Dj c b]
    · exact Dj c b
   simp only [dz,hB,af,List.map_append]
   congr 1
   rw [←ab]
   congr 1
   by_cases q:(late&&i == 1)=true
   · rw [if_pos q,if_pos q,an (by simp only [Bool.and_eq_true] at q;exact q.1),List.map_append]
     rfl
   · rw [if_neg q,if_neg q]
end
end
section
variable (f:Int→Int)
theorem Ql {q:At} (h:e5 q=true) (a6:q.k=1→eN (f q.n)=true):e5 (dX f q)=true:=by
 unfold dX
 by_cases ab:q.k=1
 · rw [if_pos ab]
   unfold e5 at h ⊢
   rw [if_pos ab] at h
   simp only [ab,if_true,Bool.and_eq_true] at h ⊢
   exact ⟨a6 ab,h.2⟩
 · rw [if_neg ab];exact h
theorem P7 {a:List At} (h:a.all e5=true) (a6:∀q ∈ a,q.k=1→eN (f q.n)=true):(a.map (dX f)).all e5=true:=by
 rw [List.all_eq_true] at h ⊢
 intro q aM
 obtain ⟨p,aH,rfl⟩:=List.mem_map.1 aM
 exact Ql f (h p aH) (a6 p aH)
theorem MH {named:Bool} {k x n eS:Int} {s:List UInt8} {a:List At} {t:List Int} {l fJ:List aw} (h:d' named (.mk k x n s a t l)=true) (aB:fJ.length=l.length)
 (an:fk k=true→eN (f x)=true) (aX:named=true→eN eS=true) (xC:named=false→eS=n) (a6:∀q ∈ a,q.k=1→eN (f q.n)=true):
 d' named (.mk k (if fk k then f x else x) eS s (a.map (dX f)) t fJ)=true:=by
 have bH:a.all e5=true→(a.map (dX f)).all e5=true:=fun q=>P7 f (a:=a) q a6
 have oZ:(a.map (dX f)).length=a.length:=List.length_map _
 have ah:fk k=true↔k=2∨k=11∨k=7:=by simp [fk];omega
 cases named with
 | true=>
   have aX:=aX rfl
   simp only [d',if_true,lU,aw.k,aw.x,aw.n,aw.s,aw.a,aw.t,aw.l,hasB,oZ,aB] at h ⊢
   by_cases cn:k=7
   · subst cn
     have an:=an rfl
     simp only [fk] at h ⊢
     simp at h ⊢
     grind
   · simp [cn] at h
 | false=>
   have aX:=xC rfl
   subst aX
   simp only [d',Bool.false_eq_true,if_false,sR,lU,aw.k,aw.x,aw.n,aw.s,aw.a,aw.t,aw.l,hasB,ot,u5,oZ,aB] at h ⊢
   generalize (a.map (dX f)).all e5=B at *
   generalize a.all e5=A at *
   by_cases af:k=2∨k=11
   · have an:=an (ah.2 (by omega))
     rcases af with rfl | rfl<;>simp [fk] at h ⊢<;>grind
   by_cases cn:k=7
   · subst cn
     have an:=an rfl
     simp [fk] at h ⊢
     grind
   have eI:fk k=false:=by simp only [Bool.eq_false_iff,ne_eq,ah];omega
   rw [eI]
   simp only [cn,af,decide_false,Bool.false_and,Bool.or_false,if_false,Bool.false_eq_true] at h ⊢
   cases A with
   | true=>rw [bH rfl];exact h
   | false=>simp at h
mutual
theorem AG:∀c:aw,may (fun b c=>d' b c) c=true→(∀z ∈ used c,eN (f z)=true)→may (fun b c=>d' b c) (ck f c)=true
 | .mk k x n s a t l,h,a6=>by
   simp only [used,List.mem_append] at a6
   have an:fk k=true→eN (f x)=true:=fun q=>a6 x (.inl (.inl (by rw [if_pos q];simp)))
   have bH:∀q ∈ a,q.k=1→eN (f q.n)=true:=fun q aG az=>a6 q.n (.inl (.inr (List.mem_map_of_mem (List.mem_filter.2 ⟨aG,by simpa using az⟩))))
   have aB:=fun z aV=>a6 z (.inr aV)
   simp only [ck]
   unfold may at h ⊢
   by_cases er:k=8
   · rw [if_pos er] at h ⊢
     rw [decide_eq_true er] at aB ⊢
     simp only [Bool.and_eq_true,m3] at h ⊢
     refine ⟨⟨?_,h.1.2⟩,LZ l h.2 aB⟩
     have ah:fk k=false:=by simp [fk,er]
     have ab:=h.1.1
     simp only [sU,Bool.and_eq_true,decide_eq_true_eq,aw.x,aw.n,aw.s,aw.t,aw.a] at ab ⊢
     obtain ⟨⟨⟨⟨i1,i2⟩,i3⟩,i4⟩,i5⟩:=ab
     have i5:=of_decide_eq_true i5
     subst i5
     exact ⟨⟨⟨⟨by simp only [ah,Bool.false_eq_true,if_false];exact i1,i2⟩,i3⟩,i4⟩,rfl⟩
   · rw [if_neg er] at h ⊢
     rw [decide_eq_false er] at aB ⊢
     simp only [Bool.and_eq_true] at h ⊢
     exact ⟨MH f h.1 (m3 _ _ _) an (fun q=>by cases q) (fun _=>rfl) bH,L2 l h.2 aB⟩
theorem L2:∀l:List aw,h' (fun b c=>d' b c) l=true→(∀z ∈ lD false l,eN (f z)=true)→h' (fun b c=>d' b c) (dz f false l)=true
 | [],_,_=>rfl
 | c::cs,h,a6=>by
   simp only [lD,List.mem_append] at a6
   simp only [h',Bool.and_eq_true] at h
   simp only [dz,Bool.false_and,Bool.false_eq_true,if_false,h',Bool.and_eq_true]
   exact ⟨AG c h.1 fun z aV=>a6 z (.inl (.inr aV)),L2 cs h.2 fun z aV=>a6 z (.inr aV)⟩
theorem LZ:∀l:List aw,fy (fun b c=>d' b c) l=true→(∀z ∈ lD true l,eN (f z)=true)→fy (fun b c=>d' b c) (dz f true l)=true
 | [],_,_=>rfl
 | [c],h,a6=>by
   simp only [lD,List.mem_append] at a6
   simp only [fy] at h
   have:=AG c h fun z aV=>a6 z (.inl (.inr aV))
   simpa [dz,fy] using this
 | c::d::cs,h,a6=>by
   have aa:((decide (c.k=7)&&d' true c)&&ir (fun b c=>d' b c) c&&fy (fun b c=>d' b c) (d::cs))=true:=by simpa only [fy] using h
   simp only [Bool.and_eq_true,decide_eq_true_eq] at aa
   obtain ⟨⟨⟨i1,i2⟩,i3⟩,i4⟩:=aa
   have xN:∀z,z ∈ [c.n]∨z ∈ used c∨z ∈ lD true (d::cs)→eN (f z)=true:=fun z aV=>a6 z (by
    unfold lD
    simp only [List.isEmpty_cons,Bool.not_false,Bool.and_self,if_true,List.mem_append]
    rcases aV with q | q | q
    · exact .inl (.inl q)
    · exact .inl (.inr q)
    · exact .inr q)
   have bb:=LZ (d::cs) i4 fun z aV=>xN z (.inr (.inr aV))
   have bk:dz f true (c::d::cs)=(ck f c).jQ (f c.n)::dz f true (d::cs):=by simp [dz]
   rw [bk]
   obtain ⟨e,es,he⟩:∃e es,dz f true (d::cs)=e::es:=by
    cases q:dz f true (d::cs) with
    | nil=>have:=congrArg List.length q;rw [m3] at this;simp at this
    | cons e es=>exact ⟨e,es,rfl⟩
   rw [he] at bb ⊢
   have al:=Zq c i3 (fun z aV=>xN z (.inr (.inl aV))) i1
   obtain ⟨k,x,n,s,a,t,l⟩:=c
   simp only [aw.k] at i1
   subst i1
   have bt:=MH f (eS:=f n) (fJ:=dz f (decide ((7:Int)=8)) l) i2 (m3 _ _ _) (fun q=>xN x (.inr (.inl (by simp [used,fk])))) (fun _=>xN n (.inl (by simp [aw.n]))) (fun q=>by cases q)
    (fun q aG az=>xN q.n (.inr (.inl (by
      simp only [used,List.mem_append]
      exact .inl (.inr (List.mem_map_of_mem (List.mem_filter.2 ⟨aG,by simpa using az⟩)))))))
   simp only [ck,aw.jQ,fy,aw.k,aw.n,ir] at al ⊢
   simp only [Bool.and_eq_true,decide_eq_true_eq]
   exact ⟨⟨⟨trivial,bt⟩,al⟩,bb⟩
theorem Zq:∀c:aw,ir (fun b c=>d' b c) c=true→(∀z ∈ used c,eN (f z)=true)→c.k=7→ir (fun b c=>d' b c) (ck f c)=true
 | .mk k x n s a t l,h,a6,cn=>by
   simp only [aw.k] at cn
   subst cn
   simp only [used,List.mem_append] at a6
   have a6:∀z ∈ lD false l,eN (f z)=true:=fun z aV=>a6 z (.inr (by simpa using aV))
   simp only [ir] at h
   simp only [ck,ir]
   cases l with
   | nil=>simp [mX] at h
   | cons d l=>
     simp only [mX] at h
     simp only [lD,List.mem_append] at a6
     have:=AG d h fun z aV=>a6 z (.inl (.inr aV))
     simpa [dz,mX] using this
end
end
theorem leaf {c:aw} (h:d' false c=true) (ab:c.k=1∨c.k=3∨c.k=4∨c.k=5∨c.k=6∨c.k=12):c.l=[]:=by
 obtain ⟨k,x,n,s,a,t,l⟩:=c
 simp only [d',Bool.false_eq_true,if_false,sR,lU,aw.k,aw.x,aw.n,aw.s,aw.a,aw.t,aw.l,hasB,ot,u5] at h ab ⊢
 rcases ab with ab | ab | ab | ab | ab | ab<;>subst ab<;>simp at h<;>grind
theorem Fo {x:Int}:∀(l:List aw) (i:Nat),(∀c ∈ l,(order c).length+1≤wt c)→(hk false x l i).length+l.length≤gj l
 | [],_,_=>by simp [hk,gj]
 | c::cs,i,h=>by
   have ab:=h c (by simp)
   have af:=Fo (x:=x) cs (i+1) fun d bE=>h d (by simp [bE])
   simp only [hk,gj,List.length_append,List.length_cons,Bool.false_and,Bool.false_eq_true,if_false,List.length_nil]
   omega
theorem MA:∀(N:Nat) (c:aw),size c≤N→∀b,gv b c→(order c).length+1≤wt c
 | 0,c,h,_,_=>by have:=size_pos c;omega
 | N+1,c,h,b,H=>by
   obtain ⟨aG,az,aW,bZ⟩:=H.kids
   have bb:=MA N
   obtain ⟨p4,al,_⟩:=H.shape
   have hm:=H.EY
   have qR:∀d ∈ c.l,size d≤N:=fun d bE=>by have:=ab' bE;omega
   obtain ⟨k,x,n,s,a,t,l⟩:=c
   simp only [aw.k,aw.l,aw.x] at aG az aW bZ al qR
   simp only [order,wt,List.length_append]
   by_cases er:k=8
   · obtain ⟨bf,bV⟩:=bZ er
     obtain ⟨s1,s2⟩:=Nz H er
     simp only [aw.l] at s1 s2
     have f_:ownNames k x l=l.dropLast.map aw.n:=by rw [ownNames,if_neg (by omega),if_pos er]
     have jh:dL k=false:=by simp [dL,er]
     rw [f_,jh,List.length_map,List.length_dropLast]
     have eL:l≠[]:=by intro q;subst q;simp at s1
     have key:=Fo (x:=x) l 0 (fun d bE=>by
      rcases List.mem_append.1 (show d ∈ l.dropLast++[l.getLast eL] by rw [List.dropLast_concat_getLast eL];exact bE) with vf | vf
      · have hw:=bf d vf
        obtain ⟨t1,t2⟩:=s2 d vf
        have eC:=qR d bE
        obtain ⟨px,aee,aed,ds,nr,oy,dl⟩:=d
        simp only [aw.k,aw.l,aw.x] at t1 t2 hw
        obtain ⟨p,rfl⟩:=List.length_eq_one_iff.1 t2
        subst t1
        have aH:=bb p (by simp only [size,ju] at eC;omega) _ hw
        simp [order,hk,ownNames,wt,gj,dL]
        omega
      · rw [List.mem_singleton] at vf
        subst vf
        have U_:l.getLast eL ∈ l.getLast? :=by simp [List.getLast?_eq_some_getLast eL]
        exact bb _ (qR _ bE) _ (bV _ U_))
     omega
   simp only [may,if_neg er,Bool.and_eq_true] at hm
   by_cases af:k=2∨k=11
   · have aB:=p4.gb af
     simp only [aw.l] at aB
     match l,aB with
     | [p,q],_=>
       obtain ⟨eE,di⟩:=aG af p q rfl
       have aH:=bb p (qR p (by simp)) _ eE
       have aM:=bb q (qR q (by simp)) _ di
       have f_:ownNames k x [p,q]=[]:=by rw [ownNames,if_neg (by omega),if_neg er]
       have jh:dL k=true:=by simpa [dL] using af
       rw [f_,jh]
       simp [hk,gj]
       omega
   have jh:dL k=false:=by simp [dL];omega
   by_cases cn:k=7
   · subst cn
     have aB:=p4.EO rfl
     simp only [aw.l] at aB
     match l,aB with
     | [p],_=>
       have aH:=bb p (qR p (by simp)) _ (az rfl p rfl)
       simp [ownNames,hk,gj,dL]
       omega
   have f_:ownNames k x l=[]:=by rw [ownNames,if_neg cn,if_neg er]
   rw [f_,jh]
   by_cases nA:k=9∨k=10
   · have:=Fo (x:=x) l 0 fun d bE=>bb d (qR d bE) _ (aW nA d bE)
     simp only [List.length_nil]
     omega
   have aB:l=[]:=leaf hm.1 (by simp only [aw.k];omega)
   subst aB
   simp [hk,gj]
   omega
section
variable {c:aw} {b2:Int} (hw:wt c≤400) (he:kk c b2=0)
include hw he
theorem nu:ih c=0∧0≤b2∧((order c).length:Int)≤1048576-b2:=by
 unfold kk at he
 by_cases ab:ih c≠0
 · rw [if_pos ab] at he;exact absurd he ab
 · rw [if_neg ab] at he
   split at he
   · omega
   · exact ⟨by omega,by omega,by omega⟩
theorem abo:gv [] c:=Gi (vF hw) (pA c hw) (nu hw he).1
theorem FJ:∀z ∈ used c,z ∈ order c:=fun z aV=>by
 obtain ⟨ab,_,aK⟩:=pt (nu hw he).1
 rcases Gb c [] (t' hw ab) aK z aV with q | q
 · cases q
 · exact q
theorem Fv:∀z ∈ order c,b2≤lA (order c) b2 z∧lA (order c) b2 z<b2 + (order c).length:=fun z aV=>by
 obtain ⟨_,af,_⟩:=pt (nu hw he).1
 obtain ⟨i,ax,rfl⟩:=List.mem_iff_getElem.1 aV
 rw [lA,ue af i ax]
 omega
def wQ (l:List Int) (b2 z:Int):Int:=if z ∈ l then lA l b2 z else if 0≤z then b2+l.length+z else b2+z
theorem G7:∀a b,wQ (order c) b2 a=wQ (order c) b2 b→a=b:=by
 obtain ⟨_,af,_⟩:=pt (nu hw he).1
 intro a b h
 have aaW:=Fv hw he a
 have aaY:=Fv hw he b
 unfold wQ at h
 by_cases bH:a ∈ order c
 · by_cases ah:b ∈ order c
   · rw [if_pos bH,if_pos ah] at h
     obtain ⟨i,ax,rfl⟩:=List.mem_iff_getElem.1 bH
     obtain ⟨j,bC,rfl⟩:=List.mem_iff_getElem.1 ah
     rw [lA,lA,ue af i ax,ue af j bC] at h
     have:i=j:=by omega
     subst this;rfl
   · rw [if_pos bH,if_neg ah] at h
     have:=aaW bH
     split at h<;>omega
 · by_cases ah:b ∈ order c
   · rw [if_neg bH,if_pos ah] at h
     have:=aaY ah
     split at h<;>omega
   · rw [if_neg bH,if_neg ah] at h
     split at h<;>split at h<;>omega
theorem NB:dh c b2=ck (wQ (order c) b2) c:=by
 rw [dh,if_pos he]
 exact A_ c fun z aV=>by rw [wQ,if_pos (FJ hw he z aV)]
theorem ND:order (dh c b2)=(order c).map (lA (order c) b2):=by
 rw [dh,if_pos he,Mz]
theorem Be (i:Nat) (ax:i < (order c).length):(order (dh c b2))[i]? =some (b2+i):=by
 obtain ⟨_,af,_⟩:=pt (nu hw he).1
 rw [ND hw he,List.getElem?_map,List.getElem?_eq_getElem ax]
 simp only [Option.map_some,lA,ue af i ax]
theorem Bf:(order (dh c b2)).length=(order c).length:=by rw [ND hw he,List.length_map]
theorem NF:(order (dh c b2)).Pairwise (· < ·):=by
 rw [List.pairwise_iff_getElem]
 intro i j ax bC vj
 have l:=Bf hw he
 have ab:=Be hw he i (by omega)
 have af:=Be hw he j (by omega)
 rw [List.getElem?_eq_getElem ax,Option.some.injEq] at ab
 rw [List.getElem?_eq_getElem bC,Option.some.injEq] at af
 rw [ab,af]
 omega
theorem FK:wt (dh c b2)=wt c:=by rw [dh,if_pos he,Gm]
theorem abn:size (dh c b2)=size c:=by rw [dh,if_pos he,FW]
theorem FI:may cx (dh c b2)=true:=by
 obtain ⟨ao,f0,f1⟩:=nu hw he
 obtain ⟨ab,_,_⟩:=pt ao
 rw [←vF (by rw [FK hw he];exact hw),dh,if_pos he]
 refine AG _ c (by rw [vF hw];exact ab) fun z aV=>?_
 have:=Fv hw he z (FJ hw he z aV)
 simp only [eN,Bool.and_eq_true,decide_eq_true_eq]
 omega
theorem FH:ih (dh c b2)=0:=by
 obtain ⟨ao,f0,f1⟩:=nu hw he
 obtain ⟨_,_,aK⟩:=pt ao
 have aT:rising (order (dh c b2))=order (dh c b2):=yr (yk _) (NF hw he) fun z=>sf
 have oN:free (dh c b2) []=[]:=by
  have:=Dj (G7 hw he) c []
  rw [aK] at this
  rw [NB hw he]
  exact this
 unfold ih
 rw [FI hw he,aT,oN]
 simp [rising]
theorem abk:qy (dh c b2)=order (dh c b2):=by
 rw [qy,FI hw he,if_pos rfl]
 exact yr (yk _) (NF hw he) fun z=>sf
theorem Z0:(qy c).length=(order c).length:=by
 obtain ⟨ao,_,_⟩:=nu hw he
 obtain ⟨ab,_,_⟩:=pt ao
 rw [qy,ab,if_pos rfl]
 unfold ih at ao
 rw [ab] at ao
 simp only [Bool.not_true,Bool.false_eq_true,if_false] at ao
 split at ao
 · omega
 · rename_i q;omega
theorem NC:kk (dh c b2) b2=0:=by
 obtain ⟨_,f0,f1⟩:=nu hw he
 rw [kk,FH hw he,if_neg (by simp),Bf hw he,if_neg (by omega)]
theorem abj:dh (dh c b2) b2=dh c b2:=by
 have bo:=NC hw he
 have Wf:wt (dh c b2)≤400:=by rw [FK hw he];exact hw
 rw [dh,if_pos bo]
 have:ck (lA (order (dh c b2)) b2) (dh c b2)=ck (fun z=>z) (dh c b2):=A_ _ fun z aV=>by
  obtain ⟨_,af,_⟩:=pt (FH hw he)
  obtain ⟨i,ax,aV⟩:=List.mem_iff_getElem.1 (FJ Wf bo z aV)
  have h:=Be hw he i (by rw [←Bf hw he];exact ax)
  rw [List.getElem?_eq_getElem ax,Option.some.injEq] at h
  have aH:=ue af i ax
  rw [aV] at h aH
  rw [lA,aH,h]
 rw [this,Nj]
theorem abm {bc:List UInt8} {s:Int} {l:oh} (h:pk c bc s l):pk (dh c b2) bc s l:=by
 obtain ⟨ao,_,_⟩:=nu hw he
 unfold pk at h ⊢
 rw [FH hw he]
 rw [ao] at h
 by_cases bk:s<0
 · rw [if_pos (.inr bk)] at h ⊢;exact h
 · rw [if_neg (by omega)] at h ⊢
   rw [NB hw he]
   exact aa9 (G7 hw he) (abo hw he) h
end
theorem abl {c:aw} {b2:Int} (hw:wt c≤400) (he:kk c b2≠0):ih c≠0∨b2<0∨1048175<b2:=by
 by_cases ao:ih c≠0
 · exact .inl ao
 right
 rw [kk,if_neg ao] at he
 by_cases ab:b2<0∨1048576-b2 < ((order c).length:Int)
 · have:=MA (size c) c (Nat.le_refl _) [] (Gi (vF hw) (pA c hw) (by omega))
   omega
 · rw [if_neg ab] at he;omega
end Go.Proofs.YtjbiefneffiogaaGreat
namespace Go.Proofs.YtjbiefneffiogaaGreat
def JI (n:Int):Prop:=n=0∨n=1∨n=6
structure adX (S T:av):Prop where
 read:S.read≤T.read
 out:S.out <+:T.out
 h5:JI S.h5→JI T.h5
section
variable (S:av)
end
end Go.Proofs.YtjbiefneffiogaaGreat
namespace Go.Proofs.YtjbiefneffiogaaGreat
open Go ba
def H5:bL:=
 .seq (.aj [eV 2 0,eV 3 1,eP 4])
 (.seq (.aj [fW 5 2,a7 6 5,fW 7 3,a7 8 7,sM 9 6 8,ae 10 9,qj 11 2 10,e3 12 11 10,qj 13 3 10,e3 14 13 10,rE 15 12 14 10,ej 16 10 15,ae 17 16,qk 18 2 17,e3 19 18 17,qk 20 3 17,e3 21 20 17,rE 22 19 21 17,ej 23 17 22,ae 24 23,sP 25 2 24,e3 26 25 24,sP 27 3 24,e3 28 27 24,rE 29 26 28 24,ej 30 24 29,ae 31 30,wD 32 2 31,e3 33 32 31,wD 34 3 31,e3 35 34 31,⟨some 36,.call 17 [(.t 33),(.t 35)],(some (31,true)),[33,35,31]⟩,ej 37 31 36,ae 4 37])
 (.ret))
theorem Rg:cE 15 38 [.t 4] H5:=cK Tryz.func15 (by kernel_rfl) (by kernel_rfl) rfl (by kernel_rfl) (by kernel_rfl)
def Ia:bL:=
 .seq (.aj [eP 4])
 (.seq (.aj [ae 5 0,⟨some 6,.hr .str (.t 5),none,[5]⟩,ae 7 1,⟨some 8,.hr .str (.t 7),none,[7]⟩,⟨some 9,.bin (.str .eql) (.t 6) (.t 8),none,[6,8]⟩,ae 4 9])
 (.ret))
theorem Rj:cE 17 10 [.t 4] Ia:=cK Tryz.func17 (by kernel_rfl) (by kernel_rfl) rfl (by kernel_rfl) (by kernel_rfl)
theorem abV {h:ag} {v w:V} {n m:Nat} {a b:List UInt8} (cX:cF h 1 v n (dZ a)) (sK:cF h 1 w m (dZ b)):bR Tryz.prog 17 [v,w] h fun x aa=>x=.bool (decide (a=b))∧aa=h:=by
 refine Rj rfl (b9 ?_)
 unfold Ia
 simp +contextual only [Jt cX,Jt sK,NR,↓ai,aq,simprocAttr]
theorem qp.open {B:Nat} {h:ag} {l:oh} {x:V} (H:qp B h l x):∃bW,x=.agg [.int .i64 l.h5,.int .i64 l.j2,.int .i64 l.read,.int .i64 l.steps,bW]∧ca B h 1 bW l.out.length (dZ l.out)∧bW.one=true∧bW.cells=[bW]∧bW.ek=true:=by
 obtain ⟨bW,aG,az⟩:=H
 exact ⟨bW,aG,az,az.v.one⟩
deriving instance DecidableEq for oh
set_option maxHeartbeats 1000000 in
theorem abW {h:ag} {B sG:Nat} {l m:oh} {x y:V} (Pg:qp B h l x) (Ph:qp sG h m y):bR Tryz.prog 15 [x,y] h fun z aa=>z=.bool (decide (l=m))∧Ext h aa:=by
 obtain ⟨v,rfl,V,lz⟩:=Pg.open
 obtain ⟨w,rfl,W,eD⟩:=Ph.open
 obtain ⟨bY,gb,mP,nS,YH⟩:=l
 obtain ⟨nV,o3,dV,jM,vD⟩:=m
 simp only at V W
 refine Rg rfl (b9 ?_)
 unfold H5
 have b5:Ext h ((h.new (.ar [.int .i64 bY,.int .i64 gb,.int .i64 mP,.int .i64 nS,v] 0 false)).new (.ar [.int .i64 nV,.int .i64 o3,.int .i64 dV,.int .i64 jM,w] 0 false)):=((Ext.refl h).new _).new _
 by_cases ab:bY=nV
 rotate_left
 · have jE:=eq_false ab
   simp +contextual only [lz.1,lz.2.1,eD.1,eD.2.1,jE,↓ai,aq,simprocAttr]
   exact ⟨by simp [ab],b5⟩
 have jE:=eq_true ab
 by_cases af:gb=o3
 rotate_left
 · have s8:=eq_false af
   simp +contextual only [lz.1,lz.2.1,eD.1,eD.2.1,jE,s8,↓ai,aq,simprocAttr]
   exact ⟨by simp [af],b5⟩
 have s8:=eq_true af
 by_cases aK:mP=dV
 rotate_left
 · have mH:=eq_false aK
   simp +contextual only [lz.1,lz.2.1,eD.1,eD.2.1,jE,s8,mH,↓ai,aq,simprocAttr]
   exact ⟨by simp [aK],b5⟩
 have mH:=eq_true aK
 by_cases bM:nS=jM
 rotate_left
 · have oI:=eq_false bM
   simp +contextual only [lz.1,lz.2.1,eD.1,eD.2.1,jE,s8,mH,oI,↓ai,aq,simprocAttr]
   exact ⟨by simp [bM],b5⟩
 have oI:=eq_true bM
 simp +contextual only [lz.1,lz.2.1,eD.1,eD.2.1,jE,s8,mH,oI,↓ai,aq,simprocAttr]
 refine bm (abV (V.v.ext b5) (W.v.ext b5)) ?_
 rintro z e8 ⟨rfl,rfl⟩
 simp +contextual only [↓ai,aq,simprocAttr]
 refine ⟨?_,b5⟩
 congr 1
 simp [ab,af,aK,bM]
theorem Sj:Tryz.prog.cellsOf 5=1:=by kernel_rfl
theorem Hw:∀l:List UInt8,l.flatMap (fun i=>[V.int .u8 i.toNat])=dZ l
 | []=>rfl
 | a::l=>by rw [List.flatMap_cons,Hw l];rfl
theorem aaj {h:ag} {n m:Nat} {v:V} {len:Nat} (H:wK h 1 v len m (fun k=>de Tryz.prog h n k 5)):∃a:List UInt8,cF h 1 v a.length (dZ a)∧a.length≤m:=by
 obtain ⟨_,_,_,_,_,us,ms,ab,af,aK,bM⟩:=H
 have Ep:=yv fun i k q=>(bM i k q).1
 obtain ⟨ho,bF,bz,b6⟩:=collect (fun i:UInt8=>[V.int .u8 i.toNat]) 1 (fun _=>True) len us ab.1 (fun i ax=>by
  obtain ⟨k,al⟩:∃k,ms[i]? =some k:=⟨_,List.getElem?_eq_getElem (by omega)⟩
  obtain ⟨a,e,q⟩:=(bM i k al).2.int Tryz.underlying5
  have aT:0≤a∧a≤255:=by simpa [Lit.wf,IntKind.min,IntKind.max,IntKind.signed,IntKind.bits] using q
  refine ⟨UInt8.ofNat a.toNat,?_,trivial⟩
  rw [e]
  simp only [UInt8.toNat_ofNat']
  congr 2
  omega)
 subst bF
 rw [bz,Hw] at ab
 exact ⟨ho,ab,by omega⟩
def jc:bL:=
 .seq (.aj [eV 3 0,eP 6])
 (.seq (.seq (.aj [dP 11 3,Cp 12 11,ae 13 12,gl 14 1 13,pb 15 14 13,⟨some 16,.bin (.int .gtr) (.t 15) (.c (.int .i64 100)),(some (13,false)),[15,13]⟩,gQ 17 13 16,ae 18 17,gl 19 2 18,⟨some 20,.bin (.int .gtr) (.t 19) (.c (.int .i64 2000)),(some (18,false)),[19,18]⟩,gQ 21 18 20])
 (.cond (.t 21)
 (.seq (.aj [⟨some 22,.call 11 [],none,[]⟩,ae 6 22])
 (.ret))
 (.skip)))
 (.seq (.aj [dP 23 3,⟨some 24,.call 12 [(.t 23)],none,[23]⟩,⟨some 25,.g6 0 1 [(.int .u8 0)] [],none,[]⟩,ae 26 1,nf 27 25 26,lG 7,⟨none,.st 7 (.t 7) (.t 24),none,[7,24]⟩,ae 8 27])
 (.seq (.aj [dP 28 7,ae 29 8,ae 30 2,B_ 31 28 29 30,uH 9,⟨none,.st 5 (.t 9) (.t 31),none,[9,31]⟩])
 (.seq (.aj [dP 32 3,ae 33 1,ae 34 2,⟨some 35,.call 14 [(.t 32),(.t 33),(.t 34)],none,[32,33,34]⟩,uH 10,⟨none,.st 5 (.t 10) (.t 35),none,[10,35]⟩])
 (.seq (.aj [wH 36 9,wH 37 10,⟨some 38,.call 15 [(.t 36),(.t 37)],none,[36,37]⟩,ae 39 38,kf 40 7 39,kf 41 3 39,Cr 42 40 41 39,ej 43 39 42,ae 44 43,jW 45 8 44,jW 46 1 44,⟨some 47,.call 17 [(.t 45),(.t 46)],(some (44,true)),[45,46,44]⟩,ej 48 44 47,ae 49 48,⟨some 50,.call 11 [],(some (49,true)),[49]⟩,ej 51 49 50,ae 6 51])
 (.ret))))))
def rP:bL:=
 .seq (.aj [eP 8])
 (.seq (.seq (.aj [ae 18 1,⟨some 19,.bin (.int .lss) (.t 18) (.c (.int .i64 (-1073741824))),none,[18]⟩,ae 20 19,gl 21 1 20,⟨some 22,.bin (.int .gtr) (.t 21) (.c (.int .i64 1073741823)),(some (20,false)),[21,20]⟩,gQ 23 20 22,ae 24 23,gl 25 2 24,⟨some 26,.bin (.int .lss) (.t 25) (.c (.int .i64 (-1073741824))),(some (24,false)),[25,24]⟩,gQ 27 24 26,ae 28 27,gl 29 2 28,⟨some 30,.bin (.int .gtr) (.t 29) (.c (.int .i64 1073741823)),(some (28,false)),[29,28]⟩,gQ 31 28 30,ae 32 31,gl 33 3 32,y3 34 33 32,⟨some 35,.bin (.int .gtr) (.t 34) (.c (.int .i64 4096)),(some (32,false)),[34,32]⟩,gQ 36 32 35])
 (.cond (.t 36)
 (.seq (.aj [⟨some 37,.call 11 [],none,[]⟩,ae 8 37])
 (.ret))
 (.skip)))
 (.seq (.aj [⟨some 38,.g6 18 1 [(.str [])] [(0,1,(.c (.str [97,100,100]))),(1,1,(.c (.str [115,117,98]))),(2,1,(.c (.str [109,117,108]))),(3,1,(.c (.str [100,105,118]))),(4,1,(.c (.str [109,111,100]))),(5,1,(.c (.str [110,101,103]))),(6,1,(.c (.str [101,113]))),(7,1,(.c (.str [108,116]))),(8,1,(.c (.str [108,101]))),(9,1,(.c (.str [99,104,114]))),(10,1,(.c (.str [112,117,116,99]))),(11,1,(.c (.str [98,121,116,101]))),(12,1,(.c (.str [99,117,116]))),(13,1,(.c (.str [106,111,105,110]))),(14,1,(.c (.str [115,105,122,101]))),(15,1,(.c (.str [112,117,116,115]))),(16,1,(.c (.str [115,101,116]))),(17,1,(.c (.str [103,101,116,99])))],none,[]⟩,ae 9 38])
 (.seq (.aj [ae 39 9,ae 40 0,ae 41 9,dY 42 41,⟨some 43,.call 18 [(.t 40),(.t 42)],none,[40,42]⟩,iy 44 39 43,a7 45 44,ae 10 45])
 (.seq (.aj [ae 46 1,GU 47 46,ae 48 2,GU 49 48,ae 50 3,⟨some 51,.build [(.int .i64 0),(.int .i64 0),(.str [])] [(0,1,(.c (.int .i64 3))),(2,1,(.t 50))],none,[50]⟩,uC 11,uC 12,uC 13,⟨none,.st 3 (.t 11) (.t 47),none,[11,47]⟩,⟨none,.st 3 (.t 12) (.t 49),none,[12,49]⟩,⟨none,.st 3 (.t 13) (.t 51),none,[13,51]⟩])
 (.seq (.aj [jy 52 11,jy 53 12,Ca 54 52 53,ae 14 54])
 (.seq (.seq (.aj [ae 55 10])
 (.block 0 (.seq (.seq (.aj [⟨some 57,.bin (.str .eql) (.t 55) (.c (.str [110,101,103])),none,[55]⟩,ae 56 57])
 (.cond (.t 56)
 (.skip)
 (.seq (.aj [⟨some 58,.bin (.str .eql) (.t 55) (.c (.str [99,104,114])),none,[55]⟩,ae 56 58])
 (.cond (.t 56)
 (.skip)
 (.seq (.aj [⟨some 59,.bin (.str .eql) (.t 55) (.c (.str [112,117,116,99])),none,[55]⟩,ae 56 59])
 (.cond (.t 56)
 (.skip)
 (.aj [⟨some 60,.bin (.str .eql) (.t 55) (.c (.str [103,101,116,99])),none,[55]⟩,ae 56 60])))))))
 (.cond (.t 56)
 (.aj [jy 61 11,Ce 62 61,ae 14 62])
 (.seq (.aj [⟨some 64,.bin (.str .eql) (.t 55) (.c (.str [98,121,116,101])),none,[55]⟩,ae 63 64])
 (.cond (.t 63)
 (.aj [jy 65 13,jy 66 11,Ca 67 65 66,ae 14 67])
 (.seq (.aj [⟨some 69,.bin (.str .eql) (.t 55) (.c (.str [99,117,116])),none,[55]⟩,ae 68 69])
 (.cond (.t 68)
 (.aj [jy 70 13,jy 71 11,jy 72 12,⟨some 73,.g6 3 3 [(.int .i64 0),(.int .i64 0),(.str [])] [(0,3,(.t 70)),(3,3,(.t 71)),(6,3,(.t 72))],none,[70,71,72]⟩,ae 14 73])
 (.seq (.aj [⟨some 75,.bin (.str .eql) (.t 55) (.c (.str [106,111,105,110])),none,[55]⟩,ae 74 75])
 (.cond (.t 74)
 (.aj [jy 76 13,jy 77 13,Ca 78 76 77,ae 14 78])
 (.seq (.seq (.aj [⟨some 80,.bin (.str .eql) (.t 55) (.c (.str [115,105,122,101])),none,[55]⟩,ae 79 80])
 (.cond (.t 79)
 (.skip)
 (.aj [⟨some 81,.bin (.str .eql) (.t 55) (.c (.str [112,117,116,115])),none,[55]⟩,ae 79 81])))
 (.cond (.t 79)
 (.aj [jy 82 13,Ce 83 82,ae 14 83])
 (.skip)))))))))))))
 (.seq (.aj [ae 84 10,ae 85 14,⟨some 86,.build [(.int .i64 0),(.int .i64 0),(.int .i64 0),(.str []),.aF,.aF,.aF] [(0,1,(.c (.int .i64 3))),(3,1,(.t 84)),(4,1,(.t 85))],none,[84,85]⟩,⟨some 87,.call 19 [],none,[]⟩,⟨some 88,.g6 2 7 [(.int .i64 0),(.int .i64 0),(.int .i64 0),(.str []),.aF,.aF,.aF] [(0,7,(.t 86)),(7,7,(.t 87))],none,[86,87]⟩,⟨some 89,.build [(.int .i64 0),(.int .i64 0),(.int .i64 0),(.str []),.aF,.aF,.aF] [(0,1,(.c (.int .i64 2))),(1,1,(.c (.int .i64 1))),(6,1,(.t 88))],none,[88]⟩,lG 15,⟨none,.st 7 (.t 15) (.t 89),none,[15,89]⟩])
 (.seq (.draw [dP 90 15,⟨some 91,.g6 1 1 [(.int .u8 0)] [(0,1,(.c (.int .u8 7)))],none,[]⟩,dP 93 15,⟨some 94,.g6 1 1 [(.int .u8 0)] [(0,1,(.c (.int .u8 7)))],none,[]⟩,uH 16,uH 17,⟨some 92,.call 13 [(.t 90),(.t 91),(.c (.int .i64 40))],none,[90,91]⟩,⟨some 95,.call 14 [(.t 93),(.t 94),(.c (.int .i64 40))],none,[93,94]⟩,⟨none,.st 5 (.t 16) (.t 92),none,[16,92]⟩,⟨none,.st 5 (.t 17) (.t 95),none,[17,95]⟩] [(0,[6]),(2,[6,7])])
 (.seq (.aj [wH 96 16,wH 97 17,⟨some 98,.call 15 [(.t 96),(.t 97)],none,[96,97]⟩,ae 99 98,⟨some 100,.call 11 [],(some (99,true)),[99]⟩,ej 101 99 100,ae 8 101])
 (.ret))))))))))
def Ji:bL:=
 .seq (.seq (.aj [ae 60 15,ae 61 14,dY 62 61,gD 63 60 62])
 (.cond (.t 63)
 (.skip)
 (.exit 0)))
 (.seq (.block 1 (.seq (.aj [ae 66 14,ae 67 15,iy 68 66 67,a7 69 68,ae 70 1,ae 71 15,oc 72 70 71,pa 73 69 72])
 (.cond (.t 73)
 (.seq (.aj [eP 8])
 (.ret))
 (.skip))))
 (.aj [ae 64 15,fM 65 64,ae 15 65]))
def I9:bL:=
 .seq (.aj [eV 4 0,eP 8])
 (.seq (.aj [⟨some 17,.call 11 [],none,[]⟩,ae 9 17])
 (.seq (.seq (.aj [dP 18 4,Cp 19 18,ae 20 19,gl 21 2 20,pb 22 21 20,⟨some 23,.bin (.int .gtr) (.t 22) (.c (.int .i64 100)),(some (20,false)),[22,20]⟩,gQ 24 20 23,ae 25 24,gl 26 3 25,⟨some 27,.bin (.int .gtr) (.t 26) (.c (.int .i64 1000)),(some (25,false)),[26,25]⟩,gQ 28 25 27])
 (.cond (.t 28)
 (.seq (.aj [ae 29 9,ae 8 29])
 (.ret))
 (.skip)))
 (.seq (.aj [dP 31 4,ae 32 1,⟨some 33,.call 29 [(.t 31),(.t 32)],none,[31,32]⟩,ae 30 33,wB 34 30,wC 35 30,lG 10,⟨none,.st 7 (.t 10) (.t 34),none,[10,34]⟩,ae 11 35])
 (.seq (.seq (.aj [ae 36 11,yU 37 36])
 (.cond (.t 37)
 (.seq (.aj [ae 38 9,ae 39 38,kf 40 4 39,⟨some 41,.call 20 [(.t 40)],(some (39,true)),[40,39]⟩,Cj 42 41 39,jW 43 42 39,gl 44 1 43,B' 45 44 43,yX 46 43 45 39,jW 47 46 39,gl 48 1 47,⟨some 49,.bin (.int .gtr) (.t 48) (.c (.int .i64 1048175)),(some (47,false)),[48,47]⟩,yX 50 47 49 39,ej 51 39 50,ae 8 51])
 (.ret))
 (.skip)))
 (.seq (.aj [dP 53 10,ae 54 1,⟨some 55,.call 29 [(.t 53),(.t 54)],none,[53,54]⟩,ae 52 55,wB 56 52,wC 57 52,lG 12,⟨none,.st 7 (.t 12) (.t 56),none,[12,56]⟩,ae 13 57])
 (.seq (.aj [dP 58 10,⟨some 59,.call 25 [(.t 58)],none,[58]⟩,ae 14 59])
 (.seq (.seq (.aj [eW 15])
 (.block 0 (.loop Ji)))
 (.seq (.draw [dP 74 4,ae 75 2,ae 76 3,dP 78 10,ae 79 2,ae 80 3,B_ 77 74 75 76,B_ 81 78 79 80,⟨some 82,.call 15 [(.t 77),(.t 81)],none,[77,81]⟩,ae 16 82] [(0,[6]),(3,[6,7])])
 (.seq (.draw [ae 83 9,ae 84 83,jW 85 16 84,ej 86 84 85,ae 87 86,jW 88 13 87,⟨some 89,.bin (.int .eql) (.t 88) (.c (.int .i64 0)),(some (87,true)),[88,87]⟩,ej 90 87 89,ae 91 90,kf 92 12 91,kf 93 10 91,Cr 94 92 93 91,ej 95 91 94,ae 96 95,jW 97 14 96,wz 98 97 96,kf 99 4 96,⟨some 100,.call 25 [(.t 99)],(some (96,true)),[99,96]⟩,wz 101 100 96,rE 102 98 101 96,ej 103 96 102,ae 104 103,kf 105 10 104,kf 107 4 104,⟨some 106,.call 22 [(.t 105)],(some (104,true)),[105,104]⟩,⟨some 108,.call 22 [(.t 107)],(some (104,true)),[107,104]⟩,rE 109 106 108 104,ej 110 104 109,ae 8 110] [(9,[11]),(10,[11]),(16,[17]),(22,[24]),(23,[24,25])])
 (.ret))))))))))
theorem R6:cE 9 111 [.t 8] I9:=cK Tryz.func9 (by kernel_rfl) (by kernel_rfl) rfl (by kernel_rfl) (by kernel_rfl)
end Go.Proofs.YtjbiefneffiogaaGreat
namespace Go.Proofs.YtjbiefneffiogaaGreat
open Go ba
set_option maxHeartbeats 4000000 in
theorem G0 (c:aw) (ad:List V) (h:ag) (H:eF h c ad) (hw:wt c≤400) (b2:Int) (mJ:b2≤9223372036854775807):
 bR Tryz.prog 29 [.agg ad,.int .i64 b2] h fun x aa=>∃us,x=.tuple [.agg us,.int .i64 (kk c b2)]∧g2 aa (fun b=>h.next≤cd b) (dh c b2) us∧Ext h aa:=by
 have qV:=AV hw
 have au:=pA c hw
 obtain ⟨bl,bs,aY,rfl,cX,ea,cQ⟩:=H.open
 refine Ro rfl (b9 ?_)
 unfold Ii
 have b5:Ext h ((h.new (.ar [.int .i64 c.k,.int .i64 c.x,.int .i64 c.n,.str c.s,bl,bs,aY] 0 false)).new (.ar [.int .i64 0,.int .i64 0,.int .i64 0,.str [],.aF,.aF,.aF] 0 false)):=((Ext.refl h).new _).new _
 have O2:yK h.next (h.next+1) [.int .i64 c.k,.int .i64 c.x,.int .i64 c.n,.str c.s,bl,bs,aY] [.int .i64 0,.int .i64 0,.int .i64 0,.str [],.aF,.aF,.aF] ((h.new (.ar [.int .i64 c.k,.int .i64 c.x,.int .i64 c.n,.str c.s,bl,bs,aY] 0 false)).new (.ar [.int .i64 0,.int .i64 0,.int .i64 0,.str [],.aF,.aF,.aF] 0 false)):=⟨by rw [cH,cH];omega,by rw [cH,cH];omega,by rw [dT,if_neg (by rw [gg,cH];omega),gT],by rw [dT,if_pos (by rw [cH])]⟩
 have yo:∀(g:ag) (B:cp),Mod (fun b=>b=ak (h.next+1)) g (g.set (ak (h.next+1)) B):=fun g B=>(Mod.refl (fun b=>b=ak (h.next+1)) g).set (fun _=>rfl) _
 simp +contextual only [↓ai,aq,simprocAttr]
 generalize ((h.new (.ar [.int .i64 c.k,.int .i64 c.x,.int .i64 c.n,.str c.s,bl,bs,aY] 0 false)).new (.ar [.int .i64 0,.int .i64 0,.int .i64 0,.str [],.aF,.aF,.aF] 0 false))=uB at *
 refine bm (B1 c _ uB (H.ext b5) hw) ?_
 rintro x ab ⟨rfl,aL⟩
 have hI:=b5.trans aL
 have lE:=O2.ext aL
 by_cases aA:ih c=0
 case neg=>
  have bP:(ih c=0)=False:=eq_false aA
  have he:kk c b2=ih c:=by rw [kk,if_pos aA]
  have aT:dh c b2=yF:=by rw [dh,he,if_neg aA]
  rw [he,aT]
  simp +contextual only [bP,lE.a,lE.b,↓ai,aq,simprocAttr]
  exact ⟨_,rfl,Gq _ _,hI.jk (yo _ _) (fun b q=>by rw [q,cA];omega)⟩
 have bP:(ih c=0)=True:=eq_true aA
 obtain ⟨hm,KR,oN⟩:=pt aA
 simp +contextual only [bP,lE.a,lE.b,↓ai,aq,simprocAttr]
 refine bm (CE c _ _ (H.ext hI) au (t' hw hm) (by omega)) ?_
 rintro Gc af ⟨mh,bo⟩
 skip
 have ec:=hI.trans bo
 have na:=lE.ext bo
 have gb:=mh.v.len
 by_cases D7:b2<0
 · have bF:=eq_true D7
   have he:kk c b2=2:=by rw [kk,if_neg (by omega),if_pos (.inl D7)]
   have aT:dh c b2=yF:=by rw [dh,he,if_neg (by omega)]
   rw [he,aT]
   simp +contextual only [lE.a,lE.b,na.a,na.b,gb,bF,↓ai,aq,simprocAttr]
   exact ⟨_,rfl,Gq _ _,ec.jk (yo _ _) (fun b q=>by rw [q,cA];omega)⟩
 have bF:=eq_false D7
 have ws:IntKind.i64.wrap (1048576-b2)=1048576-b2:=wrap_i64 (by omega) (by omega)
 by_cases DH:1048576-b2 < (order c).length
 · have bz:=eq_true DH
   have he:kk c b2=2:=by rw [kk,if_neg (by omega),if_pos (.inr DH)]
   have aT:dh c b2=yF:=by rw [dh,he,if_neg (by omega)]
   rw [he,aT]
   simp +contextual only [lE.a,lE.b,na.a,na.b,gb,bF,ws,bz,↓ai,aq,simprocAttr]
   exact ⟨_,rfl,Gq _ _,ec.jk (yo _ _) (fun b q=>by rw [q,cA];omega)⟩
 have bz:=eq_false DH
 have he:kk c b2=0:=by rw [kk,if_neg (by omega),if_neg (by omega)]
 have aT:dh c b2=ck (lA (order c) b2) c:=by rw [dh,he,if_pos rfl]
 rw [he,aT]
 have gf:=na.kY
 have JG:Ext af (((af.new (.mp [] 0)).new (.ar [.hU] 0 false)).set (ak (af.next+1)) (.ar [.map (ak af.next)] 0 false)):=(((Ext.refl af).new _).new _).set (by omega) _
 have adU:=na.ext JG
 have cO:(((af.new (.mp [] 0)).new (.ar [.hU] 0 false)).set (ak (af.next+1)) (.ar [.map (ak af.next)] 0 false)).get (ak (af.next+1))=.ar [.map (ak af.next)] 0 false:=by rw [cM,if_pos rfl]
 have gc:(((af.new (.mp [] 0)).new (.ar [.hU] 0 false)).set (ak (af.next+1)) (.ar [.map (ak af.next)] 0 false)).get (ak af.next)=.mp [] 0:=by rw [cM,if_neg (by rw [gg];omega),dT,if_neg (by rw [gg,cH];omega),gT]
 have ae6:(((af.new (.mp [] 0)).new (.ar [.hU] 0 false)).set (ak (af.next+1)) (.ar [.map (ak af.next)] 0 false)).next=af.next+2:=by rw [fA,cH,cH]
 simp +contextual only [show ∀g:ag,nW none g=.val (.map (ak g.next)) (g.new (.mp [] 0)) from fun g=>rfl,lE.a,lE.b,na.a,na.b,gb,bF,ws,bz,↓ai,aq,simprocAttr]
 generalize (((af.new (.mp [] 0)).new (.ar [.hU] 0 false)).set (ak (af.next+1)) (.ar [.map (ak af.next)] 0 false))=yT at *
 refine gz (fun r g=>r 1=.int .i64 b2∧r 2=.ptr (ak h.next) 0∧r 4=.ptr (ak (h.next+1)) 0∧r 8=.ptr (ak (af.next+1)) 0∧r 30=Gc∧r 31=.int .i64 (order c).length∧∃(i:Nat) (f:Int→Int),r 32=.int .i64 i∧i≤(order c).length∧Mod (fun b=>b=ak af.next) yT g∧n' g (ak af.next) f∧∀z ∈ (order c).take i,f z=lA (order c) b2 z) (fun r aa=>(order c).length - (r 32).hf) ?_ ?_
 · exact ⟨by simp only [↓ai,a2,simprocAttr],by simp only [↓ai,a2,simprocAttr],by simp only [↓ai,a2,simprocAttr],by simp only [↓ai,a2,simprocAttr],by simp only [↓ai,a2,simprocAttr],by simp only [↓ai,a2,simprocAttr],0,fun _=>0,by simp only [↓ai,a2,simprocAttr]<;>rfl,by omega,Mod.refl _ _,⟨[],0,gc,fun _=>rfl⟩,fun z aV=>by simp at aV⟩
 · rintro r g ⟨bf,bV,dr,iS,M9,M',i,f,M_,ax,AI,KF,lp⟩
   unfold Ij
   have Kk:g.get (ak (af.next+1))=.ar [.map (ak af.next)] 0 false:=by rw [AI.get _ (dC (by omega)) (by rw [gg];omega)];exact cO
   have ae8:=AI.next
   have yQ:Ext af g:=JG.jk AI (fun b q=>by rw [q,cA];exact Nat.le_refl _)
   have yJ:=na.ext yQ
   by_cases aS:i < (order c).length
   · have bP:((i:Int) < ((order c).length:Int))=True:=eq_true (by omega)
     obtain ⟨b,o,cl,c7⟩:=ints_at (mh.v.ext yQ) (k:=.i64) aS
     have gi:=hg aS (by omega)
     have wf:IntKind.i64.wrap (b2 + (i:Int))=b2+i:=wrap_i64 (by omega) (by omega)
     obtain ⟨B,m7,wi⟩:=KF.dM (order c)[i] (b2+i)
     have mN:=ue KR i aS
     have lZ:(order c).take (i+1)=(order c).take i++[(order c)[i]]:=by rw [List.take_add_one,List.getElem?_eq_getElem aS];rfl
     generalize aeW:(order c)[i]=z0 at *
     simp +contextual only [bf,bV,dr,iS,M9,M',M_,bP,cl,c7,Kk,wf,m7,gi,↓ai,aq,simprocAttr]
     refine ⟨⟨i+1,_,rfl,aS,AI.set (fun _=>rfl) _,wi,fun z aV=>?_⟩,by omega⟩
     by_cases e:z=z0
     · rw [if_pos e,e,lA,mN]
     · rw [if_neg e]
       rw [lZ,List.mem_append,List.mem_singleton] at aV
       exact lp z (aV.resolve_right e)
   · have bP:((i:Int) < ((order c).length:Int))=False:=eq_false (by omega)
     rw [List.take_of_length_le (by omega)] at lp
     have eg:rL g (ak (af.next+1)) (ak af.next) f:=⟨dC (by omega),dC (by omega),Kk,KF⟩
     have Ut:ck f c=ck (lA (order c) b2) c:=A_ c fun z aV=>by
      rcases Gb c [] (t' hw hm) oN z aV with q | q
      · cases q
      · exact lp z q
     simp +contextual only [bf,bV,dr,iS,M9,M',M_,bP,yJ.a,yJ.b,↓ai,aq,simprocAttr]
     refine bm (LX (size c) c (Nat.le_refl _) au (t' hw hm) _ g (H.ext (ec.trans yQ)) _ _ f eg) ?_
     rintro x aK ⟨us,rfl,U,c6⟩
     rw [Ut] at U
     have rz:=yJ.ext c6
     obtain ⟨sA,ut,ul,rfl,Pz,PD,PA⟩:=U.co.open
     have ff:=Pz.one.1
     have fT:=PD.one.1
     have gA:=PA.one.1
     simp +contextual only [bf,bV,dr,rz.a,rz.b,ff,fT,gA,↓ai,aq,simprocAttr]
     have ae7:=yJ.kY
     exact ⟨_,rfl,(U.mod (yo _ _) (fun b f e=>by rw [e,cA] at f;omega)).OL (fun b f=>by omega),((ec.trans yQ).trans c6).jk (yo _ _) (fun b q=>by rw [q,cA];omega)⟩
end Go.Proofs.YtjbiefneffiogaaGreat
namespace Go.Proofs.YtjbiefneffiogaaGreat
open Go ba
structure Has (h:ag) (n:Nat) (l:List V):Prop where
 lt:n<h.next
 g:h.get (ak n)=.ar l 0 false
theorem Has.ne {h:ag} {n:Nat} {l:List V} (B:Has h n l):(h.next=n)=False:=eq_false (by have:=B.lt; omega)
theorem Has.ext {h aa:ag} {n:Nat} {l:List V} (B:Has h n l) (e:Ext h aa):Has aa n l:=⟨Nat.lt_of_lt_of_le B.lt e.next,(e.get _ (dC B.lt)).trans B.g⟩
theorem QD (h:ag) (l:List V):∃H,h.new (.ar l 0 false)=H∧Ext h H∧Has H h.next l:=⟨_,rfl,(Ext.refl h).new _,by rw [cH];omega,gT _⟩
theorem Hr (h:ag) (z l:List V):∃H,(h.new (.ar z 0 false)).set (ak h.next) (.ar l 0 false)=H∧Ext h H∧Has H h.next l:=
 ⟨_,rfl,((Ext.refl h).new _).set (Nat.le_refl _) _,by rw [fA,cH];omega,by rw [cM,if_pos rfl]⟩
set_option maxHeartbeats 4000000 in
theorem P8 (c:aw) (au:fit 1048576 c) (ad:List V) (h:ag) (H:eF h c ad) (b2:Int) (mJ:b2≤9223372036854775807) {bp:V} {bc:List UInt8} (iX:cF h 1 bp bc.length (dZ bc)) (kT:bc.length≤1048576) (steps:Int):
 bR Tryz.prog 9 [.agg ad,.int .i64 b2,bp,.int .i64 steps] h fun x aa=>x=.bool true:=by
 have DW:=iX.len
 obtain ⟨bl,bs,aY,rfl,cX,ea,cQ⟩:=H.open
 have k0:=cX.one
 have k1:=ea.one
 have ol:=cQ.one
 refine R6 rfl (b9 ?_)
 unfold I9
 obtain ⟨H1,aG,aL,lE⟩:=QD h [.int .i64 c.k,.int .i64 c.x,.int .i64 c.n,.str c.s,bl,bs,aY]
 simp +contextual only [k0.1,k0.2.1,k1.1,k1.2.1,ol.1,ol.2.1,aG,↓ai,aq,simprocAttr]
 refine bm (Qs _) ?_
 rintro z ab ⟨rfl,rfl⟩
 simp +contextual only [lE.g,↓ai,aq,simprocAttr]
 refine bm (YR c au _ _ (H.ext aL)) ?_
 rintro z af ⟨rfl,bo⟩
 have na:=lE.ext bo
 by_cases hw:400<wt c
 · have xO:=eq_true hw
   simp +contextual only [xO,decide_true,↓ai,aq,simprocAttr]
 have xO:=decide_eq_false hw
 by_cases ax:100 < (bc.length:Int)
 · have oO:=eq_true ax
   simp +contextual only [xO,DW,oO,decide_true,↓ai,aq,simprocAttr]
 have oO:=eq_false ax
 by_cases Ac:1000<steps
 · have Em:=eq_true Ac
   simp +contextual only [xO,DW,oO,Em,decide_true,↓ai,aq,simprocAttr]
 have Em:=eq_false Ac
 have jj:wt c≤400:=by omega
 have ec:=aL.trans bo
 simp +contextual only [xO,DW,oO,Em,na.g,decide_true,↓ai,aq,simprocAttr]
 refine bm (G0 c _ af (H.ext ec) jj b2 mJ) ?_
 rintro x aK ⟨us,rfl,yN,c6⟩
 obtain ⟨nr,oy,dl,rfl,O6,O8,O7⟩:=yN.co.open
 have ff:=O6.one
 have fT:=O8.one
 have gA:=O7.one
 have wv:=ec.trans c6
 have rz:=na.ext c6
 obtain ⟨bM,bZ,jB,Gz⟩:=Hr aK [.int .i64 0,.int .i64 0,.int .i64 0,.str [],.aF,.aF,.aF] [.int .i64 (dh c b2).k,.int .i64 (dh c b2).x,.int .i64 (dh c b2).n,.str (dh c b2).s,nr,oy,dl]
 have n_:=wv.trans jB
 have BP:=rz.ext jB
 by_cases he:kk c b2=0
 rotate_left
 · have ko:=eq_false he
   simp +contextual only [rz.g,rz.ne,ff.1,ff.2.1,fT.1,fT.2.1,gA.1,gA.2.1,bZ,BP.g,ko,↓ai,aq,simprocAttr]
   refine bm (B1 c _ bM (H.ext n_) jj) ?_
   rintro x e8 ⟨rfl,qF⟩
   by_cases bT:ih c=0
   · have pN:=eq_true bT
     by_cases b8:b2<0
     · have pO:=eq_true b8
       simp +contextual only [pN,pO,↓ai,aq,simprocAttr]
     · have pO:=eq_false b8
       have fp:=eq_true (show 1048175<b2 by have:=abl jj he;omega)
       simp +contextual only [pN,pO,fp,↓ai,aq,simprocAttr]
   · have pN:=eq_false bT
     simp +contextual only [pN,↓ai,aq,simprocAttr]
 have ko:=eq_true he
 simp +contextual only [rz.g,rz.ne,ff.1,ff.2.1,fT.1,fT.2.1,gA.1,gA.2.1,bZ,BP.g,Gz.g,ko,↓ai,aq,simprocAttr]
 have Af:wt (dh c b2)≤400:=by rw [FK jj he];exact jj
 refine bm (G0 (dh c b2) _ bM (yN.co.ext jB) Af b2 mJ) ?_
 rintro x e8 ⟨ws,rfl,B3,qF⟩
 have ez:=NC jj he
 rw [abj jj he] at B3
 obtain ⟨rV,oE,el,rfl,O',Pa,O_⟩:=B3.co.open
 have b_:=O'.one
 have b1:=Pa.one
 have cy:=O_.one
 have BQ:=BP.ext qF
 have BX:=Gz.ext qF
 obtain ⟨fZ,eT,qG,O1⟩:=Hr e8 [.int .i64 0,.int .i64 0,.int .i64 0,.str [],.aF,.aF,.aF] [.int .i64 (dh c b2).k,.int .i64 (dh c b2).x,.int .i64 (dh c b2).n,.str (dh c b2).s,rV,oE,el]
 have Gx:=BQ.ext qG
 have GA:=BX.ext qG
 have O9:=(n_.trans qF).trans qG
 simp +contextual only [BQ.g,BQ.ne,BX.g,BX.ne,b_.1,b_.2.1,b1.1,b1.2.1,cy.1,cy.2.1,eT,Gx.g,GA.g,ez,↓ai,aq,simprocAttr]
 refine bm (BU (dh c b2) _ fZ ((yN.co.ext jB).ext (qF.trans qG)) Af) ?_
 rintro Gc cn ⟨y8,kN⟩
 rw [abk jj he] at y8
 have BR:=Gx.ext kN
 have BY:=GA.ext kN
 have Gt:=O1.ext kN
 have B7:=O9.trans kN
 have hlen:=Bf jj he
 have qV:=AV jj
 simp +contextual only [↓ai,aq,simprocAttr]
 refine gz (fun r aa=>aa=cn∧r 1=.int .i64 b2∧r 2=bp∧r 3=.int .i64 steps∧r 4=.ptr (ak h.next) 0∧r 9=.bool true∧r 10=.ptr (ak aK.next) 0∧r 12=.ptr (ak e8.next) 0∧r 13=.int .i64 0∧r 14=Gc∧∃i:Nat,r 15=.int .i64 i∧i≤(order (dh c b2)).length) (fun r aa=>(order (dh c b2)).length - (r 15).hf) ?_ ?_
 · exact ⟨rfl,by simp only [↓ai,a2,simprocAttr],by simp only [↓ai,a2,simprocAttr],by simp only [↓ai,a2,simprocAttr],by simp only [↓ai,a2,simprocAttr],by simp only [↓ai,a2,simprocAttr],by simp only [↓ai,a2,simprocAttr],by simp only [↓ai,a2,simprocAttr],by simp only [↓ai,a2,simprocAttr],by simp only [↓ai,a2,simprocAttr],0,by simp only [↓ai,a2,simprocAttr]<;>rfl,by omega⟩
 rintro r aa ⟨rfl,bf,bV,ch,dr,gh,hW,h_,ia,kA,i,M8,ax⟩
 unfold Ji
 have c2:=y8.v.len
 obtain ⟨f0,f1,f2⟩:=nu jj he
 by_cases aS:i < (order (dh c b2)).length
 · have bP:((i:Int) < ((order (dh c b2)).length:Int))=True:=eq_true (by omega)
   obtain ⟨b,o,cl,c7⟩:=ints_at y8.v (k:=.i64) aS
   have f':=Be jj he i (by omega)
   rw [List.getElem?_eq_getElem aS,Option.some.injEq] at f'
   rw [f'] at c7
   have gi:=hg aS (by omega)
   have wf:IntKind.i64.wrap (b2 + (i:Int))=b2+i:=wrap_i64 (by omega) (by omega)
   simp +contextual only [bf,bV,ch,dr,gh,hW,h_,ia,kA,M8,c2,bP,cl,c7,gi,wf,↓ai,aq,simprocAttr]
   exact ⟨⟨i+1,rfl,aS⟩,by omega⟩
 have bP:((i:Int) < ((order (dh c b2)).length:Int))=False:=eq_false (by omega)
 simp +contextual only [bf,bV,ch,dr,gh,hW,h_,ia,kA,M8,c2,bP,BR.g,BY.g,Gt.g,↓ai,aq,simprocAttr]
 refine bm (NM c _ _ (H.ext B7) jj (iX.ext B7) (by omega) (steps:=steps) (by omega)) ?_
 rintro x er ⟨l,aB,L,kh⟩
 obtain ⟨bW,rfl,V,lz⟩:=L.open
 have BS:=BR.ext kh
 have BZ:=BY.ext kh
 have Gu:=Gt.ext kh
 have B4:=(yN.co.ext jB).ext (((qF.trans qG).trans kN).trans kh)
 have GH:=B7.trans kh
 simp +contextual only [bf,bV,ch,dr,gh,hW,h_,ia,kA,lz.1,lz.2.1,BS.g,BZ.g,Gu.g,↓ai,aq,simprocAttr]
 refine bm (NM (dh c b2) _ er B4 Af (iX.ext GH) (by omega) (steps:=steps) (by omega)) ?_
 rintro x nA ⟨m,hm,M,w7⟩
 obtain rfl:l=m:=abR (abm jj he aB) hm
 obtain ⟨afm,rfl,W,eD⟩:=M.open
 have BT:=BS.ext w7
 have B0:=BZ.ext w7
 have Gv:=Gu.ext w7
 simp +contextual only [bf,bV,ch,dr,gh,hW,h_,ia,kA,lz.1,lz.2.1,eD.1,eD.2.1,BT.g,B0.g,Gv.g,↓ai,aq,simprocAttr]
 refine bm (abW (L.ext w7) M) ?_
 rintro z oH ⟨rfl,zw⟩
 have d1:decide (l=l)=true:=decide_eq_true rfl
 have yI:=BT.ext zw
 have yL:=B0.ext zw
 have yG:=Gv.ext zw
 have wP:=w7.trans zw
 have z':=FI jj he
 have Vi:=(pt (nu jj he).1).1
 simp +contextual only [d1,bf,bV,ch,dr,gh,hW,h_,ia,kA,BR.g,BY.g,BS.g,BZ.g,BT.g,B0.g,yI.g,yL.g,yG.g,↓ai,aq,simprocAttr]
 refine bm (NT (size (dh c b2)) (dh c b2) (Nat.le_refl _) (Tt au) _ _ oH (B3.co.ext ((((qG.trans kN).trans kh).trans wP))) (B4.ext wP)) ?_
 rintro z nz ⟨rfl,mx⟩
 have BN:=yI.ext mx
 have BV:=yL.ext mx
 have BJ:=yG.ext mx
 have GG:=(GH.trans wP).trans mx
 have Ug:=(y8.v.ext ((kh.trans wP).trans mx)).len
 simp +contextual only [d1,bf,bV,ch,dr,gh,hW,h_,ia,kA,c2,Ug,yI.g,yL.g,yG.g,BN.g,BV.g,BJ.g,↓ai,aq,simprocAttr]
 refine bm (BU c _ nz (H.ext GG) jj) ?_
 rintro afk s7 ⟨Pr,sZ⟩
 have BO:=BN.ext sZ
 have BW:=BV.ext sZ
 have BK:=BJ.ext sZ
 have eY:=Pr.v.len
 have U9:((order (dh c b2)).length:Int)=(qy c).length:=by rw [hlen,Z0 jj he]
 have U':=eq_true U9
 have O5:=B4.ext ((wP.trans mx).trans sZ)
 simp +contextual only [d1,bf,bV,ch,dr,gh,hW,h_,ia,kA,c2,eY,U',BO.g,BW.g,BK.g,↓ai,aq,simprocAttr]
 refine bm (G3 (dh c b2) _ s7 O5 Af) ?_
 rintro z Dv ⟨rfl,zx⟩
 have Gw:=BO.ext zx
 have Gy:=BW.ext zx
 have Gs:=BK.ext zx
 simp +contextual only [d1,bf,bV,ch,dr,gh,hW,h_,ia,kA,Gw.g,Gy.g,Gs.g,↓ai,aq,simprocAttr]
 refine bm (G3 c _ Dv (H.ext ((GG.trans sZ).trans zx)) jj) ?_
 rintro z Ko ⟨rfl,zy⟩
 have bk:v7 (dh c b2)=v7 c:=by rw [v7,v7,z',Vi,if_pos rfl,if_pos rfl,abn jj he]
 simp +contextual only [bk,bf,bV,ch,dr,gh,hW,h_,ia,kA,yI.g,yL.g,yG.g,BN.g,BV.g,BJ.g,BO.g,BW.g,BK.g,Gw.g,Gy.g,Gs.g,↓ai,aq,simprocAttr]
end Go.Proofs.YtjbiefneffiogaaGreat
