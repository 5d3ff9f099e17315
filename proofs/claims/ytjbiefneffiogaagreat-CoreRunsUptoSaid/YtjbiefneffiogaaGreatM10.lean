/- The chapter's functions, walked by the abstract machine: plain lemmas, no condition. Printed by a program from longer texts: names made short. -/
import Derived.Test.YtjbiefneffiogaaGreatM9
import Derived.Test.YtjbiefneffiogaaGreatM6
import Derived.Test.YtjbiefneffiogaaGreatM8
set_option linter.unusedSectionVars false
set_option linter.unusedSimpArgs false
set_option linter.unusedVariables false
namespace Go.Proofs.YtjbiefneffiogaaGreat
open Go bA
theorem Grown.side {ah al g eI:aj} {v0 w:V} {l:List Int} {M:a6→Prop} (G:Grown ah al v0 g l w) (m:Mod M g eI) (eC:∀b,M b→al.next≤cu b∧¬w.bb b) (a7:ah.next≤al.next):Grown ah al v0 eI l w:=
 ⟨G.ext.lf m (fun b ah=>Nat.le_trans a7 (eC b ah).1),G.own.mod m (fun b aQ aB=>(eC b aB).2 aQ),sl G.mod m (fun b bD q=>by have:=(eC b q).1;unfold Old at bD;omega),G.new⟩
theorem JT (l:List Int) (n:Int):tK l n=l.contains n:=by
 unfold tK
 rw [List.contains_eq_any_beq]
 congr 1
 funext m
 by_cases h:m=n
 · subst h;simp
 · have:¬n=m:=fun e=>h e.symm
   simp [h,this]
theorem RF (b:List Int) (q:At) (a:List At):iR b (q::a)=(if q.k=1∧b.contains q.n=false then [q.n] else [])++iR b a:=by
 unfold iR
 by_cases ae:q.k=1
 · by_cases ak:q.n ∈ b
   · simp [List.filter_cons,ae,ak]
   · simp [List.filter_cons,ae,ak]
 · simp [List.filter_cons,ae]
theorem wC (late:Bool) (x:Int):∀(l:List aY) (j i:Nat) (d:aY),l[i]? =some d→(order d).length + (if (late&&j+i == 1)=true then 1 else 0)≤(jj late x l j).length
 | [],_,_,_,h=>by simp at h
 | c::l,j,0,d,h=>by
   simp only [List.getElem?_cons_zero,Option.some.injEq] at h
   subst h
   simp only [jj,List.length_append,Nat.add_zero]
   split<;>simp<;>omega
 | c::l,j,i+1,d,h=>by
   have:=wC late x l (j+1) i d (by simpa using h)
   simp only [jj,List.length_append]
   rw [show j+1+i=j + (i+1) from by omega] at this
   omega
theorem NO {x:Int} {b:List Int}:∀{l:List aY} (h:l.length=2),jb true x l b 0=free (l[0]'(by omega)) b++free (l[1]'(by omega)) (b++[x])
 | [p,q],_=>by simp [jb]
set_option maxHeartbeats 4000000 in
theorem QP:∀(N:Nat) (c:aY),size c≤N→fit 1048576 c→qT c→∀(ai:List V) (ah:aj),eg ah c ai→∀(h:aj) (ft:List Int) (kU:V) (acc:List Int) (bn:V),Ext ah h→cg h 1 kU ft.length (cd ft)→cm ah.next h 1 bn acc.length (cd acc)→
 (∀b,kU.bb b→¬bn.bb b)→ft.length + (order c).length≤8000000→acc.length + (free c ft).length≤8000000→
 bB Tryz.prog 54 [.agg ai,kU,bn] h fun x aa=>Grown ah h bn aa (acc++free c ft) x
 | 0,c,aM,_,_,_,_,_,_,_,_,_,_,_,_,_,_,_,_=>by have:=size_pos c;omega
 | N+1,c,aM,av,cb,ai,ah,H,h,ft,kU,acc,bn,CI,N9,hE,xM,aih,aK=>by
   obtain ⟨f1,f2,f3,f4,f5⟩:=av.kids
   have m1:=p' c
   obtain ⟨aN,aP,aw,rfl,cU,dU,cw⟩:=H.open
   have vK:(c.k=8→1≤c.l.length)∧c.k≠14∧(dS c.k=true→c.l.length=2)∧rY c.l:=by cases c;exact cb
   obtain ⟨bQ,cB,fX,jJ⟩:=vK
   have sU:order c=ownNames c.k c.x c.l++jj (dS c.k) c.x c.l 0:=by cases c;rfl
   have pR:free c ft=iR ft c.a++jb (dS c.k) c.x c.l (ft++ownNames c.k c.x c.l) 0:=by cases c;rfl
   have G2:=congrArg List.length sU
   rw [List.length_append] at G2
   have X8:=congrArg List.length pR
   rw [List.length_append] at X8
   have et:∀(i:Nat) (d:aY) (u:List V) (g:aj) (jo:List Int) (iw:V) (l:List Int) (w:V),c.l[i]? =some d→eg ah d u→Ext ah g→cg g 1 iw jo.length (cd jo)→cm ah.next g 1 w l.length (cd l)→(∀b,iw.bb b→¬w.bb b)→jo.length + (order d).length≤8000000→l.length + (free d jo).length≤8000000→
    bB Tryz.prog 54 [.agg u,iw,w] g fun x aa=>Grown ah g w aa (l++free d jo) x:=
    fun i d u g jo iw l w aG hu bp vS hw cc e4 g8=>QP N d (by have:=oq aG;omega) (ns f5 aG) (AG jJ aG) u ah hu g jo iw l w bp vS hw cc e4 g8
   refine UL rfl (bP ?_)
   unfold L4
   have bZ:Ext h (h.new (.aq [.int .i64 c.k,.int .i64 c.x,.int .i64 c.n,.str c.s,aN,aP,aw] 0 false)):=(Ext.refl h).new _
   have u0:Grown ah h bn (h.new (.aq [.int .i64 c.k,.int .i64 c.x,.int .i64 c.n,.str c.s,aN,aP,aw] 0 false)) acc bn:=(Grown.start CI hE).hi bZ
   have Hp:∀b,bn.bb b→cu b<h.next:=fun b ah=>hE.v.b6 ah
   have Zo:∀b,kU.bb b→cu b<h.next:=fun b ah=>N9.b6 ah
   have eU:(h.new (.aq [.int .i64 c.k,.int .i64 c.x,.int .i64 c.n,.str c.s,aN,aP,aw] 0 false)).get (ao h.next)=.aq [.int .i64 c.k,.int .i64 c.x,.int .i64 c.n,.str c.s,aN,aP,aw] 0 false:=gi _
   have k3:(h.new (.aq [.int .i64 c.k,.int .i64 c.x,.int .i64 c.n,.str c.s,aN,aP,aw] 0 false)).next=h.next+1:=cO _ _
   have qz:ah.next≤h.next:=CI.next
   simp +contextual only [↓ad,af,simprocAttr]
   generalize vs:(h.new (.aq [.int .i64 c.k,.int .i64 c.x,.int .i64 c.n,.str c.s,aN,aP,aw] 0 false))=hS at *
   have box:∀(g:aj) (l:List Int) (w:V),Grown ah hS bn g l w→g.get (ao h.next)=.aq [.int .i64 c.k,.int .i64 c.x,.int .i64 c.n,.str c.s,aN,aP,aw] 0 false∧h.next<g.next∧¬w.bb (ao h.next):=by
    intro g l w G
    have o1:¬bn.bb (ao h.next):=fun q=>by have:=Hp _ q;rw [cS] at this;omega
    exact ⟨by rw [G.mod.get _ (cZ (by rw [k3];omega)) o1];exact eU,by have:=G.mod.next;omega,G.off (cZ (by rw [k3];omega)) o1⟩
   have Fg:∀(g:aj) (l:List Int) (w:V),Grown ah hS bn g l w→cg g 1 kU ft.length (cd ft)∧∀b,kU.bb b→¬w.bb b:=fun g l w G=>
    ⟨(N9.ext bZ).mod G.mod xM,fun b q=>G.off (by have:=Zo b q;unfold Old;omega) (xM b q)⟩
   have fin:∀(g:aj) (l:List Int) (w:V),Grown ah hS bn g l w→Grown ah h bn g l w:=fun g l w G=>u0.call G
   have j0:Grown ah hS bn hS acc bn:=Grown.start u0.ext u0.own
   have loop:∀(g:aj) (jo:List Int) (iw:V) (l:List Int) (w:V) (r:bV) (aF:List iU) (Q:cW→bV→aj→Prop),Grown ah hS bn g l w→cg g 1 iw jo.length (cd jo)→(∀b,iw.bb b→¬w.bb b)→dS c.k=false→jo=ft++ownNames c.k c.x c.l→l=acc++iR ft c.a→r 2=w→r 3=.ptr (ao h.next) 0→r 8=iw→r 10=.int .i64 0→
    (∀eI aW bT,Grown ah hS bn eI (acc++free c ft) aW→bT 2=aW→bR Tryz.prog aF (.exit 5) bT eI Q)→uB Tryz.prog Fx aF r g Q:=by
    intro g jo iw l w r aF Q G vS kl g2 N8 gO aB a' gI ad9 dh
    refine fw (fun r aa=>r 3=.ptr (ao h.next) 0∧r 8=iw∧cg aa 1 iw jo.length (cd jo)∧∃(i:Nat) (done:List Int) (w:V),r 10=.int .i64 i∧i≤c.l.length∧r 2=w∧Grown ah hS bn aa done w∧(∀b,iw.bb b→¬w.bb b)∧done++jb false c.x (c.l.drop i) jo i=acc++free c ft) (fun r aa=>c.l.length - (r 10).gn) ?_ ?_
    · exact ⟨a',gI,vS,0,l,w,by rw [ad9];rfl,by omega,aB,G,kl,by rw [gO,pR,g2,N8,List.drop_zero,List.append_assoc]⟩
    · rintro r aa ⟨cj,hZ,vS,i,done,w,lR,aG,bm,fH,kl,hs⟩
      unfold Fx
      obtain ⟨dR,Du,_⟩:=box _ _ _ fH
      have bW:=(cw.ext fH.ext).len
      by_cases aX:i<c.l.length
      · have bM:((i:Int) < (c.l.length:Int))=True:=eq_true (by omega)
        obtain ⟨b,o,u,b_,hu,hM⟩:=cw.kF (k:=.i64) aX
        have cD:=(hM aa fH.ext).1
        have gD:=gq aX (by omega)
        have g1:=List.getElem?_eq_getElem aX
        have z_:=wC (dS c.k) c.x c.l 0 i _ g1
        rw [List.drop_eq_getElem_cons aX,jb] at hs
        rw [show (if (false&&i == 1)=true then jo++[c.x] else jo)=jo from rfl] at hs
        have hlen:=congrArg List.length hs
        simp only [List.length_append] at hlen
        have jt:=congrArg List.length N8
        rw [List.length_append] at jt
        simp +contextual only [bm,cj,hZ,lR,dR,bW,bM,b_,cD,↓ad,af,simprocAttr]
        refine aV (et i _ u aa jo iw done w g1 hu fH.ext vS fH.own kl (by omega) (by omega)) ?_
        rintro x bz fm
        simp +contextual only [cj,hZ,lR,gD,↓ad,af,simprocAttr]
        exact ⟨⟨vS.mod fm.mod kl,i+1,done++free c.l[i] jo,x,rfl,aX,rfl,fH.call fm,fun b q=>fm.off (vS.b6 q) (kl b q),by rw [List.append_assoc];exact hs⟩,by omega⟩
      · have bM:((i:Int) < (c.l.length:Int))=False:=eq_false (by omega)
        rw [List.drop_eq_nil_of_le (by omega),jb,List.append_nil] at hs
        rw [hs] at fH
        simp +contextual only [bm,cj,hZ,lR,dR,bW,bM,↓ad,af,simprocAttr]
        exact dh _ w _ fH (by simp only [bm,↓ad,bj,simprocAttr])
   refine fw (fun r aa=>r 0=r 0∧r 1=kU∧r 3=.ptr (ao h.next) 0∧∃(i:Nat) (done:List Int) (w:V),r 7=.int .i64 i∧i≤c.a.length∧r 2=w∧Grown ah hS bn aa done w∧done++iR ft (c.a.drop i)=acc++iR ft c.a) (fun r aa=>c.a.length - (r 7).gn) ?_ ?_
   · exact ⟨rfl,by simp only [↓ad,bj,simprocAttr],by simp only [↓ad,bj,simprocAttr],0,acc,bn,by simp only [↓ad,bj,simprocAttr]<;>rfl,by omega,by simp only [↓ad,bj,simprocAttr],j0,by rw [List.drop_zero]⟩
   · rintro r g ⟨_,aU,cj,i,done,w,fr,aG,bm,fH,hs⟩
     unfold L5
     obtain ⟨dR,Du,_⟩:=box _ _ _ fH
     have bW:=(cU.ext fH.ext).len
     by_cases aX:i<c.a.length
     · have bM:((i:Int) < (c.a.length:Int))=True:=eq_true (by omega)
       obtain ⟨b,o,b_,gl,cD⟩:=sy (cU.ext fH.ext) (k:=.i64) aX
       have a8:=cD 0 (by omega)
       have bf:=cD 1 (by omega)
       have gD:=gq aX (by omega)
       rw [List.drop_eq_getElem_cons aX,RF] at hs
       generalize c.a[i]=q at *
       rw [show q.enc[0]? =some (.int .i64 q.k) from rfl,Nat.add_zero] at a8
       rw [show q.enc[1]? =some (.int .i64 q.n) from rfl] at bf
       by_cases a2:q.k=1
       · have eq:=eq_true a2
         simp +contextual only [aU,bm,cj,fr,dR,bW,bM,b_,a8,bf,eq,↓ad,af,simprocAttr]
         refine aV (SU ft q.n kU g (Fg _ _ _ fH).1 (by omega)) ?_
         rintro x bz ⟨rfl,rfl⟩
         cases hm:tK ft q.n with
         | true=>
           rw [if_neg (fun p=>by rw [←JT,hm] at p;exact absurd p.2 (by simp)),List.nil_append] at hs
           simp +contextual only [aU,bm,cj,fr,gD,↓ad,af,simprocAttr]
           exact ⟨⟨i+1,done,w,rfl,aX,rfl,fH,hs⟩,by omega⟩
         | false=>
           rw [if_pos ⟨a2,by rw [←JT,hm]⟩,←List.append_assoc] at hs
           have hlen:=congrArg List.length hs
           simp only [List.length_append,List.length_cons,List.length_nil] at hlen
           obtain ⟨v3,aC,aQ,aB,a',cn,ea⟩:=iW (cs:=[.int .i64 q.n]) (by omega) fH.own fH.ext.next (by unfold top;omega) rfl rfl
           have hc:=fH.step (m:=[q.n]) aB a' (fun b ah=>(ea b ah).imp id (fun q=>by omega))
           simp +contextual only [aU,bm,cj,fr,dR,b_,bf,aQ,gD,↓ad,af,simprocAttr]
           exact ⟨⟨i+1,_,v3,rfl,aX,rfl,hc,hs⟩,by omega⟩
       · have eq:=eq_false a2
         rw [if_neg (fun p=>a2 p.1),List.nil_append] at hs
         simp +contextual only [aU,bm,cj,fr,dR,bW,bM,b_,a8,bf,eq,gD,↓ad,af,simprocAttr]
         exact ⟨⟨i+1,done,w,rfl,aX,rfl,fH,hs⟩,by omega⟩
     · have bM:((i:Int) < (c.a.length:Int))=False:=eq_false (by omega)
       rw [List.drop_eq_nil_of_le (by omega),show iR ft []=[] from rfl,List.append_nil] at hs
       subst hs
       obtain ⟨XK,zM⟩:=Fg _ _ _ fH
       have es:Ext g (g.new (.aq [] 0 false)):=(Ext.refl g).new _
       obtain ⟨iw,bz,ca,b',cE,fR⟩:=sw (B:=g.next) (Nat.le_refl 1) (cm.empty (h:=g) 1 (Nat.le_refl _)) (XK.ext es) (by rw [cO];omega) (by unfold top;omega) (uv _)
       have bh:Ext g bz:=es.lf cE (fun b ah=>by
        have:b=ao g.next:=ah
        rw [this,cS];exact Nat.le_refl _)
       rw [List.nil_append,Nat.zero_add] at b'
       have fm:=fH.hi bh
       obtain ⟨k0,uG,_⟩:=box _ _ _ fm
       obtain ⟨N7,_⟩:=Fg _ _ _ fm
       have OQ:∀b,w.bb b→cu b<g.next:=fun b q=>fH.own.v.b6 q
       have kl:∀b,iw.bb b→hS.next≤cu b∧¬w.bb b:=fun b q=>⟨by have:=b'.base q;have:=fH.mod.next;omega,fun hk=>by have:=b'.base q;have:=OQ b hk;omega⟩
       have CG:ah.next≤hS.next:=by omega
       by_cases ak:c.k=2
       · have xu:=eq_true ak
         have g2:dS c.k=true:=by simp [dS,ak]
         have g8:=fX g2
         obtain ⟨b,o,u,b_,hu,hM⟩:=cw.kF (k:=.i64) (i:=0) (by omega)
         obtain ⟨b1,dP,iQ,jf,fL,s6⟩:=cw.kF (k:=.i64) (i:=1) (by omega)
         have b7:fc 7 aw (.int .i64 0)=some (.ptr b o):=by simpa using b_
         have cH:fc 7 aw (.int .i64 1)=some (.ptr b1 (dP+7)):=by simpa using jf
         have b2:∀g,Ext ah g→jv 7 (g.get b) o=some (.agg u):=fun g e=>by simpa using (hM g e).1
         have b9:∀g,Ext ah g→jv 7 (g.get b1) (dP+7)=some (.agg iQ):=fun g e=>by simpa using (s6 g e).1
         have nA:ownNames c.k c.x c.l=[]:=by rw [ownNames,if_neg (by omega),if_neg (by omega)]
         have zS:free c ft=iR ft c.a++(free c.l[0] ft++free c.l[1] (ft++[c.x])):=by
          rw [pR,g2,nA,List.append_nil,NO g8]
         have hlen:=congrArg List.length zS
         simp only [List.length_append] at hlen
         have z_:=wC (dS c.k) c.x c.l 0 0 _ (List.getElem?_eq_getElem (by omega))
         have CT:(order c.l[1]).length+1≤(jj (dS c.k) c.x c.l 0).length:=by
          have:=wC (dS c.k) c.x c.l 0 1 _ (List.getElem?_eq_getElem (by omega))
          rw [g2] at this ⊢
          exact this
         simp +contextual only [aU,bm,cj,fr,dR,bW,bM,ca,k0,xu,b7,b2 bz fm.ext,↓ad,af,simprocAttr]
         refine aV (et 0 _ u bz ft kU (acc++iR ft c.a) w (List.getElem?_eq_getElem (by omega)) hu fm.ext N7 fm.own zM (by omega) (by simp only [List.length_append];omega)) ?_
         rintro x cL hc
         have l2:=fm.call hc
         obtain ⟨oM,qS,_⟩:=box _ _ _ l2
         have It:cm g.next cL 1 iw ft.length (cd ft):=b'.mod hc.mod (fun b q=>(kl b q).2)
         have zP:∀b,iw.bb b→hS.next≤cu b∧¬x.bb b:=fun b q=>⟨(kl b q).1,hc.off (b'.v.b6 q) (kl b q).2⟩
         obtain ⟨h2,gy,bw,b3,a3,a4,a5⟩:=iW (cs:=[.int .i64 c.x]) (by omega) It (by have:=hc.mod.next;have:=bh.next;omega) (by unfold top;omega) rfl rfl
         have ka:=l2.side a3 zP CG
         obtain ⟨zk,s9,_⟩:=box _ _ _ ka
         have sH:Ext cL (cL.new (.aq [.int .i64 c.x] 0 false)):=(Ext.refl cL).new _
         have zj:(cL.new (.aq [.int .i64 c.x] 0 false)).get (ao h.next)=.aq [.int .i64 c.k,.int .i64 c.x,.int .i64 c.n,.str c.s,aN,aP,aw] 0 false:=by rw [sH.get _ (cZ qS)];exact oM
         simp +contextual only [aU,bm,cj,k0,oM,zj,zk,bw,cH,b9 cL l2.ext,b9 gy ka.ext,b9 _ (l2.ext.trans sH),↓ad,af,simprocAttr]
         have vz:∀b,h2.bb b→¬x.bb b:=fun b q hk=>by
          rcases a5 b q with q | q
          · exact (zP b q).2 hk
          · have:cu b<cL.next:=l2.own.v.b6 hk
            omega
         refine aV (et 1 _ iQ gy (ft++[c.x]) h2 (acc++iR ft c.a++free c.l[0] ft) x (List.getElem?_eq_getElem (by omega)) fL ka.ext (by rw [List.length_append,s3];exact b3.v) ka.own vz (by simp only [List.length_append,List.length_cons,List.length_nil];omega) (by simp only [List.length_append];omega)) ?_
         rintro y ik Ep
         have yE:=ka.call Ep
         obtain ⟨Fm,Ia,_⟩:=box _ _ _ yE
         have mV:Grown ah h bn ik (acc++free c ft) y:=by
          have:=fin _ _ _ yE
          rw [zS]
          simpa only [List.append_assoc] using this
         simp +contextual only [aU,bm,cj,k0,oM,zj,zk,Fm,cH,b9 cL l2.ext,b9 gy ka.ext,b9 _ (l2.ext.trans sH),↓ad,af,simprocAttr]
         refine ⟨?_,mV⟩
         have:=b9 _ (l2.ext.trans sH)
         rw [eB] at this
         exact this
       have xu:=eq_false ak
       by_cases jd:c.k=11
       · have iA:=eq_true jd
         have g2:dS c.k=true:=by simp [dS,jd]
         have g8:=fX g2
         obtain ⟨b,o,u,b_,hu,hM⟩:=cw.kF (k:=.i64) (i:=0) (by omega)
         obtain ⟨b1,dP,iQ,jf,fL,s6⟩:=cw.kF (k:=.i64) (i:=1) (by omega)
         have b7:fc 7 aw (.int .i64 0)=some (.ptr b o):=by simpa using b_
         have cH:fc 7 aw (.int .i64 1)=some (.ptr b1 (dP+7)):=by simpa using jf
         have b2:∀g,Ext ah g→jv 7 (g.get b) o=some (.agg u):=fun g e=>by simpa using (hM g e).1
         have b9:∀g,Ext ah g→jv 7 (g.get b1) (dP+7)=some (.agg iQ):=fun g e=>by simpa using (s6 g e).1
         have nA:ownNames c.k c.x c.l=[]:=by rw [ownNames,if_neg (by omega),if_neg (by omega)]
         have zS:free c ft=iR ft c.a++(free c.l[0] ft++free c.l[1] (ft++[c.x])):=by
          rw [pR,g2,nA,List.append_nil,NO g8]
         have hlen:=congrArg List.length zS
         simp only [List.length_append] at hlen
         have z_:=wC (dS c.k) c.x c.l 0 0 _ (List.getElem?_eq_getElem (by omega))
         have CT:(order c.l[1]).length+1≤(jj (dS c.k) c.x c.l 0).length:=by
          have:=wC (dS c.k) c.x c.l 0 1 _ (List.getElem?_eq_getElem (by omega))
          rw [g2] at this ⊢
          exact this
         simp +contextual only [aU,bm,cj,fr,dR,bW,bM,ca,k0,xu,iA,b7,b2 bz fm.ext,↓ad,af,simprocAttr]
         refine aV (et 0 _ u bz ft kU (acc++iR ft c.a) w (List.getElem?_eq_getElem (by omega)) hu fm.ext N7 fm.own zM (by omega) (by simp only [List.length_append];omega)) ?_
         rintro x cL hc
         have l2:=fm.call hc
         obtain ⟨oM,qS,_⟩:=box _ _ _ l2
         have It:cm g.next cL 1 iw ft.length (cd ft):=b'.mod hc.mod (fun b q=>(kl b q).2)
         have zP:∀b,iw.bb b→hS.next≤cu b∧¬x.bb b:=fun b q=>⟨(kl b q).1,hc.off (b'.v.b6 q) (kl b q).2⟩
         obtain ⟨h2,gy,bw,b3,a3,a4,a5⟩:=iW (cs:=[.int .i64 c.x]) (by omega) It (by have:=hc.mod.next;have:=bh.next;omega) (by unfold top;omega) rfl rfl
         have ka:=l2.side a3 zP CG
         obtain ⟨zk,s9,_⟩:=box _ _ _ ka
         have sH:Ext cL (cL.new (.aq [.int .i64 c.x] 0 false)):=(Ext.refl cL).new _
         have zj:(cL.new (.aq [.int .i64 c.x] 0 false)).get (ao h.next)=.aq [.int .i64 c.k,.int .i64 c.x,.int .i64 c.n,.str c.s,aN,aP,aw] 0 false:=by rw [sH.get _ (cZ qS)];exact oM
         simp +contextual only [aU,bm,cj,k0,oM,zj,zk,bw,cH,b9 cL l2.ext,b9 gy ka.ext,b9 _ (l2.ext.trans sH),↓ad,af,simprocAttr]
         have vz:∀b,h2.bb b→¬x.bb b:=fun b q hk=>by
          rcases a5 b q with q | q
          · exact (zP b q).2 hk
          · have:cu b<cL.next:=l2.own.v.b6 hk
            omega
         refine aV (et 1 _ iQ gy (ft++[c.x]) h2 (acc++iR ft c.a++free c.l[0] ft) x (List.getElem?_eq_getElem (by omega)) fL ka.ext (by rw [List.length_append,s3];exact b3.v) ka.own vz (by simp only [List.length_append,List.length_cons,List.length_nil];omega) (by simp only [List.length_append];omega)) ?_
         rintro y ik Ep
         have yE:=ka.call Ep
         obtain ⟨Fm,Ia,_⟩:=box _ _ _ yE
         have mV:Grown ah h bn ik (acc++free c ft) y:=by
          have:=fin _ _ _ yE
          rw [zS]
          simpa only [List.append_assoc] using this
         simp +contextual only [aU,bm,cj,k0,oM,zj,zk,Fm,cH,b9 cL l2.ext,b9 gy ka.ext,b9 _ (l2.ext.trans sH),↓ad,af,simprocAttr]
         refine ⟨?_,mV⟩
         have:=b9 _ (l2.ext.trans sH)
         rw [eB] at this
         exact this
       have iA:=eq_false jd
       have g2:dS c.k=false:=by simp [dS,ak,jd]
       by_cases c9:c.k=7
       · have gM:=eq_true c9
         have nA:ownNames c.k c.x c.l=[c.x]:=by rw [ownNames,if_pos c9]
         have G1:=congrArg List.length nA
         simp only [List.length_cons,List.length_nil] at G1
         obtain ⟨h2,gy,bw,b3,a3,a4,a5⟩:=iW (cs:=[.int .i64 c.x]) (by omega) b' (by have:=bh.next;omega) (by unfold top;omega) rfl rfl
         have ka:=fm.side a3 kl CG
         have vz:∀b,h2.bb b→¬w.bb b:=fun b q hk=>by
          rcases a5 b q with q | q
          · exact (kl b q).2 hk
          · have:=OQ b hk;have:=bh.next;omega
         simp +contextual only [aU,bm,cj,fr,dR,bW,bM,ca,k0,xu,iA,gM,bw,↓ad,af,simprocAttr]
         refine loop gy (ft++[c.x]) h2 _ w _ _ _ ka (by rw [List.length_append,s3];exact b3.v) vz g2 (by rw [nA]) rfl (by simp only [bm,↓ad,bj,simprocAttr]) (by simp only [cj,↓ad,bj,simprocAttr]) (by simp only [↓ad,bj,simprocAttr]) (by simp only [↓ad,bj,simprocAttr]) ?_
         intro eI aW bT mG ca
         simp +contextual only [ca,↓ad,af,simprocAttr]
         exact fin _ _ _ mG
       have gM:=eq_false c9
       by_cases fK:c.k=8
       · have hq:=eq_true fK
         have nA:ownNames c.k c.x c.l=c.l.dropLast.map aY.n:=by rw [ownNames,if_neg c9,if_pos fK]
         have G1:=congrArg List.length nA
         rw [List.length_map,List.length_dropLast] at G1
         have e4:=bQ fK
         have aZ:IntKind.i64.wrap ((c.l.length:Int)-1)=((c.l.length-1:Nat):Int):=by rw [wrap_i64 (by omega) (by omega)];omega
         simp +contextual only [aU,bm,cj,fr,dR,bW,bM,ca,k0,xu,iA,gM,hq,↓ad,af,simprocAttr]
         refine fw (fun r aa=>r 2=w∧r 3=.ptr (ao h.next) 0∧∃(i:Nat) (iw:V),r 9=.int .i64 i∧i≤c.l.length-1∧r 8=iw∧Grown ah hS bn aa (acc++iR ft c.a) w∧cm g.next aa 1 iw (ft++(c.l.take i).map aY.n).length (cd (ft++(c.l.take i).map aY.n))∧g.next≤aa.next∧∀b,iw.bb b→hS.next≤cu b∧¬w.bb b) (fun r aa=>c.l.length - (r 9).gn) ?_ ?_
         · exact ⟨by simp only [bm,↓ad,bj,simprocAttr],by simp only [cj,↓ad,bj,simprocAttr],0,iw,by simp only [↓ad,bj,simprocAttr]<;>rfl,by omega,by simp only [↓ad,bj,simprocAttr],fm,by simpa using b',bh.next,kl⟩
         · clear aU bm cj fr kl ca b' cE fR
           rintro r ik ⟨bm,cj,i,iw,h0,aG,hZ,fH,Qw,X9,kl⟩
           unfold L6
           obtain ⟨dR,Du,_⟩:=box _ _ _ fH
           have bW:=(cw.ext fH.ext).len
           by_cases aX:i<c.l.length-1
           · have bM:((i:Int) < ((c.l.length-1:Nat):Int))=True:=eq_true (by omega)
             have kJ:i<c.l.length:=by omega
             obtain ⟨b,o,u,b_,hu,hM⟩:=cw.kF (k:=.i64) kJ
             have d':=(hM ik fH.ext).2
             have gD:=gq kJ (by omega)
             have mi:(c.l.take (i+1)).map aY.n=(c.l.take i).map aY.n++[c.l[i].n]:=by rw [List.take_add_one,List.getElem?_eq_getElem kJ,List.map_append];rfl
             have qH:((c.l.take i).map aY.n).length=i:=by rw [List.length_map,List.length_take];omega
             generalize rB:c.l[i]=f at *
             obtain ⟨c2,gx,cC,rfl,nc,nd,l1⟩:=hu.open
             have eJ:=d' 2 (by omega)
             rw [show ([V.int .i64 f.k,.int .i64 f.x,.int .i64 f.n,.str f.s,c2,gx,cC])[2]? =some (.int .i64 f.n) from rfl] at eJ
             obtain ⟨h2,gy,bw,b3,a3,a4,a5⟩:=iW (cs:=[.int .i64 f.n]) (by omega) Qw X9 (by rw [List.length_append,qH];unfold top;omega) rfl rfl
             have ka:=fH.side a3 kl CG
             have vz:∀b,h2.bb b→hS.next≤cu b∧¬w.bb b:=fun b q=>by
              rcases a5 b q with q | q
              · exact kl b q
              · have:=fH.mod.next
                exact ⟨by omega,fun hk=>by have:cu b<ik.next:=fH.own.v.b6 hk;omega⟩
             simp +contextual only [bm,cj,hZ,h0,dR,bW,aZ,bM,b_,eJ,bw,gD,↓ad,af,simprocAttr]
             exact ⟨⟨i+1,h2,rfl,by omega,rfl,ka,by rw [mi,←List.append_assoc,s3 (ft++(c.l.take i).map aY.n),List.length_append];exact b3,by omega,vz⟩,by omega⟩
           · have bM:((i:Int) < ((c.l.length-1:Nat):Int))=False:=eq_false (by omega)
             obtain rfl:i=c.l.length-1:=by omega
             simp +contextual only [bm,cj,hZ,h0,dR,bW,aZ,bM,↓ad,af,simprocAttr]
             refine loop ik _ iw _ w _ _ _ fH Qw.v (fun b q=>(kl b q).2) g2 (by rw [nA,List.dropLast_eq_take]) rfl (by simp only [bm,↓ad,bj,simprocAttr]) (by simp only [cj,↓ad,bj,simprocAttr]) (by simp only [hZ,↓ad,bj,simprocAttr]) (by simp only [↓ad,bj,simprocAttr]) ?_
             intro eI aW bT mG ca
             simp +contextual only [ca,↓ad,af,simprocAttr]
             exact fin _ _ _ mG
       have hq:=eq_false fK
       have nA:ownNames c.k c.x c.l=[]:=by rw [ownNames,if_neg c9,if_neg fK]
       simp +contextual only [aU,bm,cj,fr,dR,bW,bM,ca,k0,xu,iA,gM,hq,↓ad,af,simprocAttr]
       refine loop bz ft iw _ w _ _ _ fm b'.v (fun b q=>(kl b q).2) g2 (by rw [nA,List.append_nil]) rfl (by simp only [bm,↓ad,bj,simprocAttr]) (by simp only [cj,↓ad,bj,simprocAttr]) (by simp only [↓ad,bj,simprocAttr]) (by simp only [↓ad,bj,simprocAttr]) ?_
       intro eI aW bT mG ca
       simp +contextual only [ca,↓ad,af,simprocAttr]
       exact fin _ _ _ mG
def pI:List (Int × Int × Nat)→List j1
 | []=>[]
 | (x,v,n)::l=>⟨.int .i64 x,.int .i64 v,n⟩::pI l
def oP (k:Int):List (Int × Int × Nat)→Bool
 | []=>false
 | (x,_,_)::l=>decide (k=x)||oP k l
def mQ (k:Int):List (Int × Int × Nat)→Int
 | []=>0
 | (x,v,_)::l=>if k=x then v else mQ k l
def tU (k v:Int) (c:Nat):List (Int × Int × Nat)→List (Int × Int × Nat)
 | []=>[(k,v,c)]
 | (x,w,n)::l=>if k=x then (x,v,n)::l else (x,w,n)::tU k v c l
theorem MW {k:Int}:∀{l:List (Int × Int × Nat)},oP k l=false→mQ k l=0
 | [],_=>rfl
 | (x,v,n)::l,h=>by
   simp only [oP,Bool.or_eq_false_iff,decide_eq_false_iff_not] at h
   simp only [mQ,if_neg h.1,MW h.2]
theorem MX (k v:Int) (c:Nat) (cf:Int):∀l:List (Int × Int × Nat),mQ cf (tU k v c l)=if cf=k then v else mQ cf l
 | []=>by simp only [tU,mQ]
 | (x,w,n)::l=>by
   have bN:=MX k v c cf l
   by_cases h:k=x
   · subst h
     rw [tU,if_pos rfl,mQ,mQ]
     split<;>simp_all
   · simp only [tU,if_neg h,mQ,bN]
     by_cases aa:cf=x
     · have:¬cf=k:=by omega
       simp only [if_pos aa,if_neg this]
     · simp only [if_neg aa]
theorem ND {k:Int}:∀(l:List (Int × Int × Nat)),nr fO.int.eq (.int .i64 k) (pI l)=some (if oP k l then some (.int .i64 (mQ k l)) else none)
 | []=>rfl
 | (x,v,n)::l=>by
   have bN:=ND (k:=k) l
   by_cases h:k=x
   · subst h
     rw [show oP k ((k,v,n)::l)=true from by simp [oP],if_pos rfl,show mQ k ((k,v,n)::l)=v from by simp [mQ]]
     simp only [pI,nr,fO.eq,oR,V.eX,show nq .i64 .i64=true from rfl,cond_true,oQ]
     simp
   · rw [show oP k ((x,v,n)::l)=oP k l from by simp [oP,h],show mQ k ((x,v,n)::l)=mQ k l from by simp [mQ,h],←bN]
     simp only [pI,nr,fO.eq,oR,V.eX,show nq .i64 .i64=true from rfl,cond_true,oQ]
     rw [decide_eq_false h,cond_false]
theorem Qr {k v:Int} {c:Nat}:∀(l:List (Int × Int × Nat)),mq fO.int.eq (.int .i64 k) (.int .i64 v) c (pI l)=some (pI (tU k v c l),!oP k l)
 | []=>rfl
 | (x,w,n)::l=>by
   have bN:=Qr (k:=k) (v:=v) (c:=c) l
   simp only [pI,oP,tU,mq,fO.eq,oR,V.eX,show nq .i64 .i64=true from rfl,cond_true,oQ] at bN ⊢
   by_cases h:k=x
   · subst h;simp [pI]
   · rw [decide_eq_false h,if_neg h,cond_false,bN]
     simp [pI]
def sd (h:aj) (b:a6) (f:Int→Int):Prop:=∃L c,h.get b=.mp (pI L) c∧∀k,mQ k L=f k
theorem sd.look {h:aj} {b:a6} {f:Int→Int} (H:sd h b f) (k:Int):ld fO.int.eq (.int .i64 0) false h (.map b) (.int .i64 k)=some (.int .i64 (f k)):=by
 obtain ⟨L,c,ae,ak⟩:=H
 simp only [ld,rS,ae,cT.pa,ND,cond_false,←ak k]
 cases e:oP k L with
 | true=>rfl
 | false=>rw [MW e];rfl
theorem sd.fk {h:aj} {b:a6} {f:Int→Int} (H:sd h b f) (k v:Int):∃B,lp fO.int.eq h (.map b) (.int .i64 k) (.int .i64 v)=some (h.set b B)∧sd (h.set b B) b (fun n=>if n=k then v else f n):=by
 obtain ⟨L,c,ae,ak⟩:=H
 refine ⟨.mp (pI (tU k v c L)) (bif !oP k L then c+1 else c),by simp only [lp,ae,cT.pa,Qr],_,_,by rw [du,if_pos rfl],fun n=>?_⟩
 rw [MX,ak]
theorem sd.mod {h aa:aj} {b:a6} {f g:Int→Int} (H:sd h b f) (e:aa.get b=h.get b) (av:∀n,f n=g n):sd aa b g:=by
 obtain ⟨L,c,ae,ak⟩:=H
 exact ⟨L,c,e.trans ae,fun k=>(ak k).trans (av k)⟩
theorem Qt {k:Int} {c:Nat}:∀(l:List Int) (n:Nat),l.contains k=true→mq fO.int.eq (.int .i64 k) (.bool true) c (hC l n)=some (hC l n,false)
 | [],_,h=>by simp at h
 | x::l,n,h=>by
   have bN:=Qt (k:=k) (c:=c) l (n+1)
   simp only [hC,mq,fO.eq,oR,V.eX,show nq .i64 .i64=true from rfl,cond_true,oQ] at bN ⊢
   by_cases az:k=x
   · subst az;simp
   · rw [decide_eq_false az,cond_false,bN (by simpa [az] using h)]
def oI (l:List Int) (k:Int):List Int:=if l.contains k then l else l++[k]
theorem acC {l:List Int} {k z:Int}:z ∈ oI l k↔z ∈ l∨z=k:=by
 unfold oI
 split
 · rename_i h
   rw [List.contains_iff_mem] at h
   constructor
   · exact .inl
   · rintro (q | rfl)
     · exact q
     · exact h
 · simp
theorem SQ {l:List Int} {k:Int} (h:l.Nodup):(oI l k).Nodup:=by
 unfold oI
 split
 · exact h
 · rename_i an
   have ef:k ∉ l:=by simpa using an
   rw [List.nodup_append]
   exact ⟨h,by simp,fun a bU b ah=>by simp only [List.mem_singleton] at ah;subst ah;exact fun e=>ef (e ▸ bU)⟩
theorem agP {h:aj} {b:a6} {l:List Int} (bp:h.get b=.mp (hC l 0) l.length) (k:Int):lp fO.int.eq h (.map b) (.int .i64 k) (.bool true)=some (h.set b (.mp (hC (oI l k) 0) (oI l k).length)):=by
 cases an:l.contains k with
 | false=>rw [I' bp an,oI,if_neg (by rw [an];simp)]
 | true=>
   simp only [lp,bp,cT.pa,Qt l 0 an,cond_false]
   rw [oI,if_pos an]
structure oH (ah h:aj) (eN cM df ar d_:a6) (f:Int→Int) (l:List Int):Prop where
 ext:Ext ah h
 nB:h.get eN=.aq [.map ar] 0 false
 m0:h.get cM=.aq [.map d_] 0 false
 pV:h.get df=.aq [.func 66 [.ptr eN 0,.ptr cM 0,.ptr df 0]] 0 false
 b6:∀b,b=eN∨b=cM∨b=df∨b=ar∨b=d_→Old h b∧ah.next≤cu b
 lL:∀b,b=eN∨b=cM∨b=df→b≠ar∧b≠d_
 Au:ar≠d_
 tS:sd h ar f
 out:h.get d_=.mp (hC l 0) l.length
 x_:l.Nodup
def qe (ar d_:a6) (b:a6):Prop:=b=ar∨b=d_
theorem oH.hi {ah h aa:aj} {eN cM df ar d_:a6} {f:Int→Int} {l:List Int} (S:oH ah h eN cM df ar d_ f l) (e:Ext h aa):oH ah aa eN cM df ar d_ f l:=
 ⟨S.ext.trans e,by rw [e.get _ (S.b6 _ (by simp)).1];exact S.nB,by rw [e.get _ (S.b6 _ (by simp)).1];exact S.m0,by rw [e.get _ (S.b6 _ (by simp)).1];exact S.pV,
   fun b ah=>⟨e.b6 (S.b6 b ah).1,(S.b6 b ah).2⟩,S.lL,S.Au,S.tS.mod (e.get _ (S.b6 _ (by simp)).1) fun _=>rfl,by rw [e.get _ (S.b6 _ (by simp)).1];exact S.out,S.x_⟩
theorem oH.inc {ah h:aj} {eN cM df ar d_:a6} {f:Int→Int} {l:List Int} (S:oH ah h eN cM df ar d_ f l) (k v:Int):
 ∃aa,lp fO.int.eq h (.map ar) (.int .i64 k) (.int .i64 v)=some aa∧oH ah aa eN cM df ar d_ (fun n=>if n=k then v else f n) l∧aa.next=h.next∧∀b,b≠ar→aa.get b=h.get b:=by
 obtain ⟨B,ae,ak⟩:=S.tS.fk k v
 have bp:∀b,b≠ar→(h.set ar B).get b=h.get b:=fun b ah=>by rw [du,if_neg (fun e=>ah e.symm)]
 refine ⟨_,ae,⟨?_,?_,?_,?_,fun b ah=>⟨by have:=(S.b6 b ah).1;unfold Old at this ⊢;rw [gU];exact this,(S.b6 b ah).2⟩,S.lL,S.Au,ak,?_,S.x_⟩,gU _ _ _,bp⟩
 · exact S.ext.lf (M:=fun q=>q=ar) ((Mod.refl (fun q=>q=ar) h).set (fun _=>rfl) _) (fun b ah=>by rw [ah];exact (S.b6 _ (by simp)).2)
 · rw [bp _ (S.lL _ (by simp)).1];exact S.nB
 · rw [bp _ (S.lL _ (by simp)).1];exact S.m0
 · rw [bp _ (S.lL _ (by simp)).1];exact S.pV
 · rw [bp _ (fun e=>S.Au e.symm)];exact S.out
theorem oH.add {ah h:aj} {eN cM df ar d_:a6} {f:Int→Int} {l:List Int} (S:oH ah h eN cM df ar d_ f l) (k:Int):
 ∃aa,lp fO.int.eq h (.map d_) (.int .i64 k) (.bool true)=some aa∧oH ah aa eN cM df ar d_ f (oI l k)∧aa.next=h.next∧∀b,b≠d_→aa.get b=h.get b:=by
 have ae:=agP S.out k
 have bp:∀b,b≠d_→(h.set d_ (.mp (hC (oI l k) 0) (oI l k).length)).get b=h.get b:=fun b ah=>by rw [du,if_neg (fun e=>ah e.symm)]
 refine ⟨_,ae,⟨?_,?_,?_,?_,fun b ah=>⟨by have:=(S.b6 b ah).1;unfold Old at this ⊢;rw [gU];exact this,(S.b6 b ah).2⟩,S.lL,S.Au,?_,by rw [du,if_pos rfl],SQ S.x_⟩,gU _ _ _,bp⟩
 · exact S.ext.lf (M:=fun q=>q=d_) ((Mod.refl (fun q=>q=d_) h).set (fun _=>rfl) _) (fun b ah=>by rw [ah];exact (S.b6 _ (by simp)).2)
 · rw [bp _ (S.lL _ (by simp)).2];exact S.nB
 · rw [bp _ (S.lL _ (by simp)).2];exact S.m0
 · rw [bp _ (S.lL _ (by simp)).2];exact S.pV
 · exact S.tS.mod (bp _ S.Au) fun _=>rfl
structure kd (ah h:aj) (eN cM df ar d_:a6) (dR:List V) (aa:aj) (f:Int→Int) (l:List Int):Prop where
 s:oH ah aa eN cM df ar d_ f l
 m:Mod (qe ar d_) h aa
 n:h.next<aa.next
 b:aa.get (ao h.next)=.aq dR 0 false
 j':∀b,qe ar d_ b→cu b<h.next
theorem kd.ne {ah h:aj} {eN cM df ar d_:a6} {dR:List V} {aa:aj} {f:Int→Int} {l:List Int} (F:kd ah h eN cM df ar d_ dR aa f l):ao h.next≠ar∧ao h.next≠d_:=by
 constructor
 · intro e;have:=F.j' ar (.inl rfl);rw [←e,cS] at this;omega
 · intro e;have:=F.j' d_ (.inr rfl);rw [←e,cS] at this;omega
theorem kd.hi {ah h:aj} {eN cM df ar d_:a6} {dR:List V} {aa fo:aj} {f:Int→Int} {l:List Int} (F:kd ah h eN cM df ar d_ dR aa f l) (e:Ext aa fo):kd ah h eN cM df ar d_ dR fo f l:=
 ⟨F.s.hi e,F.m.trans (e.mod _),Nat.lt_of_lt_of_le F.n e.next,by rw [e.get _ (cZ F.n)];exact F.b,F.j'⟩
theorem kd.inc {ah h:aj} {eN cM df ar d_:a6} {dR:List V} {aa:aj} {f:Int→Int} {l:List Int} (F:kd ah h eN cM df ar d_ dR aa f l) (k v:Int):
 ∃fo,lp fO.int.eq aa (.map ar) (.int .i64 k) (.int .i64 v)=some fo∧kd ah h eN cM df ar d_ dR fo (fun n=>if n=k then v else f n) l∧Mod (qe ar d_) aa fo∧fo.next=aa.next∧(∀b,b≠ar→fo.get b=aa.get b):=by
 obtain ⟨fo,ae,ak,aC,bq⟩:=F.s.inc k v
 have hm:Mod (qe ar d_) aa fo:=⟨by omega,fun b ah a7=>bq b (fun e=>a7 (.inl e))⟩
 exact ⟨fo,ae,⟨ak,F.m.trans hm,by have:=F.n;omega,by rw [bq _ F.ne.1];exact F.b,F.j'⟩,hm,aC,bq⟩
theorem kd.add {ah h:aj} {eN cM df ar d_:a6} {dR:List V} {aa:aj} {f:Int→Int} {l:List Int} (F:kd ah h eN cM df ar d_ dR aa f l) (k:Int):
 ∃fo,lp fO.int.eq aa (.map d_) (.int .i64 k) (.bool true)=some fo∧kd ah h eN cM df ar d_ dR fo f (oI l k)∧Mod (qe ar d_) aa fo∧fo.next=aa.next∧(∀b,b≠d_→fo.get b=aa.get b):=by
 obtain ⟨fo,ae,ak,aC,bq⟩:=F.s.add k
 have hm:Mod (qe ar d_) aa fo:=⟨by omega,fun b ah a7=>bq b (fun e=>a7 (.inr e))⟩
 exact ⟨fo,ae,⟨ak,F.m.trans hm,by have:=F.n;omega,by rw [bq _ F.ne.2];exact F.b,F.j'⟩,hm,aC,bq⟩
theorem kd.call {ah h:aj} {eN cM df ar d_:a6} {dR:List V} {aa fo:aj} {f g:Int→Int} {l m:List Int} (F:kd ah h eN cM df ar d_ dR aa f l) (s:oH ah fo eN cM df ar d_ g m) (hm:Mod (qe ar d_) aa fo):kd ah h eN cM df ar d_ dR fo g m:=
 ⟨s,F.m.trans hm,Nat.lt_of_lt_of_le F.n hm.next,by rw [hm.get _ (cZ F.n) (fun e=>e.elim F.ne.1 F.ne.2)];exact F.b,F.j'⟩
theorem Ty {f:Int→Int} {k:Int} {l:List Int} {m:List Int} (h:m=l++[k]):(fun n=>if n=k then (f k + (l.count k:Int))+1 else f n + (l.count n:Int))=fun n=>f n + (m.count n:Int):=by
 funext n
 subst h
 rw [List.count_append,List.count_singleton]
 by_cases e:n=k
 · subst e;simp;omega
 · have:¬(k == n)=true:=by simpa using fun q=>e q.symm
   rw [if_neg e,if_neg this];simp
theorem Wl {f:Int→Int} {k:Int} {l:List Int} {m:List Int} (h:m=k::l):(fun n=>if n=k then (f k + (m.count k:Int))-1 else f n + (m.count n:Int))=fun n=>f n + (l.count n:Int):=by
 funext n
 subst h
 rw [List.count_cons,List.count_cons]
 by_cases e:n=k
 · subst e;simp;omega
 · have:¬(k == n)=true:=by simpa using fun q=>e q.symm
   rw [if_neg e,if_neg this];simp
theorem Tb {h:aj} {l:List At} {v:V} (H:cg h 3 v l.length (iX l)) {k:IntKind} {i:Nat} (aG:i<l.length) {aa:aj} (e:Ext h aa):
 ∃b off,fc 3 v (.int k i)=some (.ptr b (off+i * 3))∧jv 3 (aa.get b) (off+i * 3)=some (.agg [.int .i64 l[i].k,.int .i64 l[i].n,.str l[i].s]):=by
 obtain ⟨b,o,ae,ak,_⟩:=sy (H.ext e) (k:=k) aG
 exact ⟨b,o,ae,ak⟩
set_option maxHeartbeats 4000000 in
set_option maxRecDepth 20000 in
theorem RA:∀(N:Nat) (c:aY),size c≤N→fit 1048576 c→qT c→∀(ai:List V) (ah:aj),eg ah c ai→∀(h:aj) (eN cM df ar d_:a6) (f:Int→Int) (l b:List Int),oH ah h eN cM df ar d_ f l→
 (∀n,0≤f n∧f n + (order c).length≤1000000000)→(∀n,f n=0↔n ∉ b)→
 bB Tryz.prog 66 [.agg ai,.ptr eN 0,.ptr cM 0,.ptr df 0] h fun x aa=>∃hL,oH ah aa eN cM df ar d_ f hL∧(∀z,z ∈ hL↔z ∈ l∨z ∈ free c b)∧Mod (qe ar d_) h aa
 | 0,c,aM,_,_,_,_,_,_,_,_,_,_,_,_,_,_,_,_,_=>by have:=size_pos c;omega
 | N+1,c,aM,av,cb,ai,ah,H,h,eN,cM,df,ar,d_,f,l,b,S,uf,qA=>by
   obtain ⟨f1,f2,f3,f4,f5⟩:=av.kids
   have m1:=p' c
   obtain ⟨aN,aP,aw,rfl,cU,dU,cw⟩:=H.open
   have vK:(c.k=8→1≤c.l.length)∧c.k≠14∧(dS c.k=true→c.l.length=2)∧rY c.l:=by cases c;exact cb
   obtain ⟨bQ,cB,fX,jJ⟩:=vK
   have sU:order c=ownNames c.k c.x c.l++jj (dS c.k) c.x c.l 0:=by cases c;rfl
   have pR:free c b=iR b c.a++jb (dS c.k) c.x c.l (b++ownNames c.k c.x c.l) 0:=by cases c;rfl
   have G2:=congrArg List.length sU
   rw [List.length_append] at G2
   refine UU rfl (bP ?_)
   unfold Mf
   have bZ:Ext h (h.new (.aq [.int .i64 c.k,.int .i64 c.x,.int .i64 c.n,.str c.s,aN,aP,aw] 0 false)):=(Ext.refl h).new _
   have N1:=(cU.ext (S.ext.trans bZ)).len
   have CT:∀q,qe ar d_ q→cu q<h.next:=fun q a2=>by
    rcases a2 with rfl | rfl
    · exact (S.b6 _ (by simp)).1
    · exact (S.b6 _ (by simp)).1
   have jO:kd ah h eN cM df ar d_ [.int .i64 c.k,.int .i64 c.x,.int .i64 c.n,.str c.s,aN,aP,aw] (h.new (.aq [.int .i64 c.k,.int .i64 c.x,.int .i64 c.n,.str c.s,aN,aP,aw] 0 false)) f l:=
    ⟨S.hi bZ,bZ.mod _,by rw [cO];omega,gi _,CT⟩
   simp +contextual only [N1,↓ad,bj,cW.ends,fb,oneOf,top,↓reduceIte,Nat.reduceEqDiff,Nat.reduceLeDiff,Nat.reduceAdd,Nat.reduceSub,Nat.reduceMul,reduceCtorEq,Int.reduceEq,Int.reduceLT,Int.reduceLE,Int.reduceNeg]
   generalize vs:h.new (.aq [.int .i64 c.k,.int .i64 c.x,.int .i64 c.n,.str c.s,aN,aP,aw] 0 false)=hS at *
   refine fw (fun r aa=>r 1=.ptr eN 0∧r 2=.ptr cM 0∧r 3=.ptr df 0∧r 4=.ptr (ao h.next) 0∧r 16=aN∧r 17=.int .i64 c.a.length∧∃(i:Nat) (li:List Int),r 18=.int .i64 i∧i≤c.a.length∧kd ah h eN cM df ar d_ [.int .i64 c.k,.int .i64 c.x,.int .i64 c.n,.str c.s,aN,aP,aw] aa f li∧
    ∀z,(z ∈ li∨z ∈ iR b (c.a.drop i))↔(z ∈ l∨z ∈ iR b c.a)) (fun r aa=>c.a.length - (r 18).gn) ?_ ?_
   · exact ⟨by simp only [↓ad,bj,↓reduceIte,Nat.reduceEqDiff,reduceCtorEq],by simp only [↓ad,bj,↓reduceIte,Nat.reduceEqDiff,reduceCtorEq],by simp only [↓ad,bj,↓reduceIte,Nat.reduceEqDiff,reduceCtorEq],by simp only [↓ad,bj,↓reduceIte,Nat.reduceEqDiff,reduceCtorEq],by simp only [↓ad,bj,↓reduceIte,Nat.reduceEqDiff,reduceCtorEq],by simp only [↓ad,bj,↓reduceIte,Nat.reduceEqDiff,reduceCtorEq],0,l,by simp only [↓ad,bj,↓reduceIte,Nat.reduceEqDiff,reduceCtorEq]<;>rfl,by omega,jO,fun z=>by rw [List.drop_zero]⟩
   · rintro r g ⟨aU,bm,cj,c0,AX,AY,i,li,AZ,aG,F,bI⟩
     unfold Mg
     by_cases aX:i<c.a.length
     · have bM:((i:Int) < (c.a.length:Int))=True:=eq_true (by omega)
       obtain ⟨dQ,o,b_,gl⟩:=Tb cU (k:=.i64) aX F.s.ext
       have gD:=gq aX (by omega)
       rw [List.drop_eq_getElem_cons aX,RF] at bI
       generalize c.a[i]=q at *
       have aI:Ext g ((g.new (.aq [.int .i64 0,.int .i64 0,.str []] 0 false)).set (ao g.next) (.aq [.int .i64 q.k,.int .i64 q.n,.str q.s] 0 false)):=((Ext.refl g).new _).set (Nat.le_refl _) _
       have nJ:=F.hi aI
       have lb:=nJ.s.tS.look q.n
       obtain ⟨bz,gR,ow,gB,Ba,yw⟩:=nJ.add q.n
       have ye:∀p,p=eN∨p=cM∨p=df∨p=ar∨p=d_→cu p<g.next:=fun p aT=>(F.s.b6 p aT).1
       have wu:(ao g.next=eN)=False:=eq_false (fun e=>by have:=ye eN (by simp);rw [←e,cS] at this;omega)
       have wv:(ao g.next=cM)=False:=eq_false (fun e=>by have:=ye cM (by simp);rw [←e,cS] at this;omega)
       have Dn:(g.next=h.next)=False:=eq_false (by have:=F.n;omega)
       by_cases a2:q.k=1
       · have eq:=eq_true a2
         by_cases al:f q.n=0
         · have FV:=eq_true al
           have o1:b.contains q.n=false:=by rw [←Bool.not_eq_true,List.contains_iff_mem];exact (qA _).1 al
           rw [if_pos ⟨a2,o1⟩] at bI
           simp +contextual only [aU,bm,cj,c0,AX,AY,AZ,bM,b_,gl,eq,FV,lb,gR,wu,wv,F.s.nB,F.s.m0,gD,↓ad,bj,cW.ends,fb,oneOf,top,↓reduceIte,Nat.reduceEqDiff,Nat.reduceLeDiff,Nat.reduceAdd,Nat.reduceSub,Nat.reduceMul,reduceCtorEq,Int.reduceEq,Int.reduceLT,Int.reduceLE,Int.reduceNeg]
           exact ⟨⟨i+1,oI li q.n,rfl,aX,ow,fun z=>by rw [←bI z,acC];simp only [List.mem_append,List.mem_singleton];grind⟩,by omega⟩
         · have FV:=eq_false al
           have o1:b.contains q.n=true:=by
            rw [List.contains_iff_mem]
            exact Decidable.byContradiction fun e=>al ((qA _).2 e)
           rw [if_neg (fun p=>by rw [o1] at p;exact absurd p.2 (by simp)),List.nil_append] at bI
           simp +contextual only [aU,bm,cj,c0,AX,AY,AZ,bM,b_,gl,eq,FV,lb,gR,wu,wv,F.s.nB,F.s.m0,gD,↓ad,bj,cW.ends,fb,oneOf,top,↓reduceIte,Nat.reduceEqDiff,Nat.reduceLeDiff,Nat.reduceAdd,Nat.reduceSub,Nat.reduceMul,reduceCtorEq,Int.reduceEq,Int.reduceLT,Int.reduceLE,Int.reduceNeg]
           exact ⟨⟨i+1,li,rfl,aX,nJ,bI⟩,by omega⟩
       · have eq:=eq_false a2
         rw [if_neg (fun p=>a2 p.1),List.nil_append] at bI
         simp +contextual only [aU,bm,cj,c0,AX,AY,AZ,bM,b_,gl,eq,lb,gR,wu,wv,F.s.nB,F.s.m0,gD,↓ad,bj,cW.ends,fb,oneOf,top,↓reduceIte,Nat.reduceEqDiff,Nat.reduceLeDiff,Nat.reduceAdd,Nat.reduceSub,Nat.reduceMul,reduceCtorEq,Int.reduceEq,Int.reduceLT,Int.reduceLE,Int.reduceNeg]
         exact ⟨⟨i+1,li,rfl,aX,nJ,bI⟩,by omega⟩
     · have bM:((i:Int) < (c.a.length:Int))=False:=eq_false (by omega)
       rw [List.drop_eq_nil_of_le (by omega),show iR b []=[] from rfl] at bI
       simp +contextual only [aU,bm,cj,c0,AX,AY,AZ,bM,F.b,↓ad,bj,cW.ends,fb,oneOf,top,↓reduceIte,Nat.reduceEqDiff,Nat.reduceLeDiff,Nat.reduceAdd,Nat.reduceSub,Nat.reduceMul,reduceCtorEq,Int.reduceEq,Int.reduceLT,Int.reduceLE,Int.reduceNeg]
       refine aV (Ka c _ _ (H.ext F.s.ext) av bQ cB) ?_
       rintro x bF ⟨hE,dj⟩
       have nJ:=F.hi dj
       have C3:∀z,z ∈ li↔z ∈ l∨z ∈ iR b c.a:=fun z=>by rw [←bI z];simp
       have vT:∀p,x.bb p→¬qe ar d_ p:=fun p aQ aB=>by
        have:=hE.base aQ
        have:=CT p aB
        have:=F.n
        omega
       have G3:=hE.v
       have CH:=G3.len
       have rG:(ownNames c.k c.x c.l).length≤(order c).length:=by omega
       generalize nA:ownNames c.k c.x c.l=own at *
       have aio:own.length≤1000000000:=by have:=uf 0;omega
       clear hE N1 bI bM aX aG AZ
       simp +contextual only [CH,↓ad,bj,cW.ends,fb,oneOf,top,↓reduceIte,Nat.reduceEqDiff,Nat.reduceLeDiff,Nat.reduceAdd,Nat.reduceSub,Nat.reduceMul,reduceCtorEq,Int.reduceEq,Int.reduceLT,Int.reduceLE,Int.reduceNeg]
       refine fw (fun r aa=>r 1=.ptr eN 0∧r 2=.ptr cM 0∧r 3=.ptr df 0∧r 4=.ptr (ao h.next) 0∧r 7=x∧r 38=x∧r 39=.int .i64 own.length∧cg aa 1 x own.length (cd own)∧∃(i:Nat),r 40=.int .i64 i∧i≤own.length∧kd ah h eN cM df ar d_ [.int .i64 c.k,.int .i64 c.x,.int .i64 c.n,.str c.s,aN,aP,aw] aa (fun n=>f n + ((own.take i).count n:Int)) li) (fun r aa=>own.length - (r 40).gn) ?_ ?_
       · exact ⟨by simp only [aU,↓ad,bj,↓reduceIte,Nat.reduceEqDiff,reduceCtorEq],by simp only [bm,↓ad,bj,↓reduceIte,Nat.reduceEqDiff,reduceCtorEq],by simp only [cj,↓ad,bj,↓reduceIte,Nat.reduceEqDiff,reduceCtorEq],by simp only [c0,↓ad,bj,↓reduceIte,Nat.reduceEqDiff,reduceCtorEq],by simp only [↓ad,bj,↓reduceIte,Nat.reduceEqDiff,reduceCtorEq],by simp only [↓ad,bj,↓reduceIte,Nat.reduceEqDiff,reduceCtorEq],by simp only [↓ad,bj,↓reduceIte,Nat.reduceEqDiff,reduceCtorEq],G3,0,by simp only [↓ad,bj,↓reduceIte,Nat.reduceEqDiff,reduceCtorEq]<;>rfl,by omega,by simpa using nJ⟩
       · clear aU bm cj c0 AX AY G3
         rintro r g ⟨aU,bm,cj,c0,fr,Iu,Iv,az,i,Iw,aG,F⟩
         unfold Mh
         by_cases aX:i<own.length
         · have bM:((i:Int) < (own.length:Int))=True:=eq_true (by omega)
           obtain ⟨dQ,o,b_,cD⟩:=ints_at az (k:=.i64) aX
           have gD:=gq aX (by omega)
           have mi:own.take (i+1)=own.take i++[own[i]]:=by rw [List.take_add_one,List.getElem?_eq_getElem aX];rfl
           generalize own[i]=k at *
           have lb:=F.s.tS.look k
           have kk:(own.take i).count k≤own.length:=Nat.le_trans List.count_le_length (by rw [List.length_take];omega)
           have Oe:=uf k
           have dL:IntKind.i64.wrap (f k + ((own.take i).count k:Int)+1)=f k + ((own.take i).count k:Int)+1:=wrap_i64 (by omega) (by omega)
           obtain ⟨bz,gR,ow,gB,Ba,yw⟩:=F.inc k (f k + ((own.take i).count k:Int)+1)
           rw [Ty mi] at ow
           simp +contextual only [aU,bm,cj,c0,fr,Iu,Iv,Iw,bM,b_,cD,F.s.nB,lb,dL,gR,gD,↓ad,bj,cW.ends,fb,oneOf,top,↓reduceIte,Nat.reduceEqDiff,Nat.reduceLeDiff,Nat.reduceAdd,Nat.reduceSub,Nat.reduceMul,reduceCtorEq,Int.reduceEq,Int.reduceLT,Int.reduceLE,Int.reduceNeg]
           exact ⟨⟨az.mod gB vT,i+1,rfl,aX,ow⟩,by omega⟩
         · have bM:((i:Int) < (own.length:Int))=False:=eq_false (by omega)
           rw [List.take_of_length_le (by omega)] at F
           have N3:=(cw.ext F.s.ext).len
           simp +contextual only [aU,bm,cj,c0,fr,Iu,Iv,Iw,bM,F.b,N3,↓ad,bj,cW.ends,fb,oneOf,top,↓reduceIte,Nat.reduceEqDiff,Nat.reduceLeDiff,Nat.reduceAdd,Nat.reduceSub,Nat.reduceMul,reduceCtorEq,Int.reduceEq,Int.reduceLT,Int.reduceLE,Int.reduceNeg]
           refine fw (fun r aa=>r 1=.ptr eN 0∧r 2=.ptr cM 0∧r 3=.ptr df 0∧r 4=.ptr (ao h.next) 0∧r 7=x∧r 50=aw∧r 51=.int .i64 c.l.length∧cg aa 1 x own.length (cd own)∧∃(i:Nat) (li:List Int),r 52=.int .i64 i∧i≤c.l.length∧kd ah h eN cM df ar d_ [.int .i64 c.k,.int .i64 c.x,.int .i64 c.n,.str c.s,aN,aP,aw] aa (fun n=>f n + (own.count n:Int)) li∧
            ∀z,(z ∈ li∨z ∈ jb (dS c.k) c.x (c.l.drop i) (b++own) i)↔(z ∈ l∨z ∈ free c b)) (fun r aa=>c.l.length - (r 52).gn) ?_ ?_
           · exact ⟨by simp only [aU,↓ad,bj,↓reduceIte,Nat.reduceEqDiff,reduceCtorEq],by simp only [bm,↓ad,bj,↓reduceIte,Nat.reduceEqDiff,reduceCtorEq],by simp only [cj,↓ad,bj,↓reduceIte,Nat.reduceEqDiff,reduceCtorEq],by simp only [c0,↓ad,bj,↓reduceIte,Nat.reduceEqDiff,reduceCtorEq],by simp only [fr,↓ad,bj,↓reduceIte,Nat.reduceEqDiff,reduceCtorEq],by simp only [↓ad,bj,↓reduceIte,Nat.reduceEqDiff,reduceCtorEq],by simp only [↓ad,bj,↓reduceIte,Nat.reduceEqDiff,reduceCtorEq],az,0,li,by simp only [↓ad,bj,↓reduceIte,Nat.reduceEqDiff,reduceCtorEq]<;>rfl,by omega,F,fun z=>by rw [pR,List.drop_zero,C3 z,List.mem_append];grind⟩
           · clear aU bm cj c0 fr Iu Iv Iw az F C3 aX bM aG nJ CH N3
             rintro r g ⟨aU,bm,cj,c0,fr,uN,uO,az,i,li,ph,aG,F,bI⟩
             unfold Mi
             by_cases aX:i<c.l.length
             · have bM:((i:Int) < (c.l.length:Int))=True:=eq_true (by omega)
               obtain ⟨dQ,o,u,b_,hu,hM⟩:=cw.kF (k:=.i64) aX
               have cD:=(hM g F.s.ext).1
               have gD:=gq aX (by omega)
               rw [List.drop_eq_getElem_cons aX,jb] at bI
               have g1:c.l[i]? =some c.l[i]:=List.getElem?_eq_getElem aX
               have z_:=wC (dS c.k) c.x c.l 0 i _ g1
               have gd:=oq g1
               generalize rB:c.l[i]=d at *
               obtain ⟨c2,gx,cC,rfl,nc,nd,l1⟩:=hu.open
               have dz:=nc.one.1
               have fi:=nd.one.1
               have gz:=l1.one.1
               have aI:Ext g ((g.new (.aq [.int .i64 0,.int .i64 0,.int .i64 0,.str [],.ay,.ay,.ay] 0 false)).set (ao g.next) (.aq [.int .i64 d.k,.int .i64 d.x,.int .i64 d.n,.str d.s,c2,gx,cC] 0 false)):=((Ext.refl g).new _).set (Nat.le_refl _) _
               have nJ:=F.hi aI
               have dj:=az.ext aI
               have qv:((g.new (.aq [.int .i64 0,.int .i64 0,.int .i64 0,.str [],.ay,.ay,.ay] 0 false)).set (ao g.next) (.aq [.int .i64 d.k,.int .i64 d.x,.int .i64 d.n,.str d.s,c2,gx,cC] 0 false)).next=g.next+1:=by rw [gU,cO]
               have hD:((g.new (.aq [.int .i64 0,.int .i64 0,.int .i64 0,.str [],.ay,.ay,.ay] 0 false)).set (ao g.next) (.aq [.int .i64 d.k,.int .i64 d.x,.int .i64 d.n,.str d.s,c2,gx,cC] 0 false)).get (ao g.next)=.aq [.int .i64 d.k,.int .i64 d.x,.int .i64 d.n,.str d.s,c2,gx,cC] 0 false:=by rw [du,if_pos rfl]
               have ye:∀p,p=eN∨p=cM∨p=df∨p=ar∨p=d_→cu p<g.next:=fun p aT=>(F.s.b6 p aT).1
               have wu:(ao g.next=eN)=False:=eq_false (fun e=>by have:=ye eN (by simp);rw [←e,cS] at this;omega)
               have ya:(ao g.next=df)=False:=eq_false (fun e=>by have:=ye df (by simp);rw [←e,cS] at this;omega)
               have acS:ao g.next≠ar:=fun e=>by have:=ye ar (by simp);rw [←e,cS] at this;omega
               have Dn:(g.next=h.next)=False:=eq_false (by have:=F.n;omega)
               have H5:(h.next=g.next)=False:=eq_false (by have:=F.n;omega)
               have et:∀(g:aj) (fn:Int→Int) (li jo:List Int),kd ah h eN cM df ar d_ [.int .i64 c.k,.int .i64 c.x,.int .i64 c.n,.str c.s,aN,aP,aw] g fn li→(∀n,0≤fn n∧fn n + (order d).length≤1000000000)→(∀n,fn n=0↔n ∉ jo)→
                bB Tryz.prog 66 [.agg [.int .i64 d.k,.int .i64 d.x,.int .i64 d.n,.str d.s,c2,gx,cC],.ptr eN 0,.ptr cM 0,.ptr df 0] g fun y bz=>∃hL,kd ah h eN cM df ar d_ [.int .i64 c.k,.int .i64 c.x,.int .i64 c.n,.str c.s,aN,aP,aw] bz fn hL∧(∀z,z ∈ hL↔z ∈ li∨z ∈ free d jo)∧Mod (qe ar d_) g bz:=
                fun g fn li jo F aQ aB=>(RA N d (by omega) (ns f5 g1) (AG jJ g1) _ ah hu g eN cM df ar d_ fn li jo F.s aQ aB).mono fun y bz ⟨hL,s1,s2,iu⟩=>⟨hL,F.call s1 iu,s2,iu⟩
               have CK:∀n,(own.count n:Int)≤own.length:=fun n=>by have:=List.count_le_length (a:=n) (l:=own);omega
               have Hv:∀n,f n + (own.count n:Int)=0↔n ∉ b++own:=fun n=>by
                have ae:=qA n
                have ak:=(uf n).1
                have aC:own.count n=0↔n ∉ own:=List.count_eq_zero
                rw [List.mem_append]
                grind
               by_cases g2:dS c.k=true∧i=1
               · obtain ⟨vG,rfl⟩:=g2
                 have oV:(if (dS c.k&&(1:Nat) == 1)=true then b++own++[c.x] else b++own)=b++own++[c.x]:=by
                  rw [if_pos]
                  rw [vG];rfl
                 rw [oV] at bI
                 rw [vG] at z_
                 have ain:(order d).length+1≤(jj (dS c.k) c.x c.l 0).length:=by rw [vG];exact z_
                 have ue:(decide (c.k=2)||decide (c.k=11))=true:=by simpa [dS] using vG
                 have pS:(((1:Nat):Int)=1)=True:=eq_true rfl
                 have lb:=nJ.s.tS.look c.x
                 have Oe:=uf c.x
                 have uc:=CK c.x
                 have dL:IntKind.i64.wrap (f c.x + (own.count c.x:Int)+1)=f c.x + (own.count c.x:Int)+1:=wrap_i64 (by omega) (by omega)
                 obtain ⟨bz,gR,ow,gB,Ba,yw⟩:=nJ.inc c.x (f c.x + (own.count c.x:Int)+1)
                 have fM:=dj.mod gB vT
                 have t':=(yw _ acS).trans hD
                 simp +contextual only [aU,bm,cj,c0,fr,uN,uO,ph,bM,b_,cD,dz,fi,gz,Dn,H5,wu,ya,pS,F.s.nB,F.b,ue,lb,dL,gR,ow.b,ow.s.pV,t',Bool.and_self,↓ad,bj,cW.ends,fb,oneOf,top,↓reduceIte,Nat.reduceEqDiff,Nat.reduceLeDiff,Nat.reduceAdd,Nat.reduceSub,Nat.reduceMul,reduceCtorEq,Int.reduceEq,Int.reduceLT,Int.reduceLE,Int.reduceNeg]
                 refine aV (et bz _ li (b++own++[c.x]) ow (fun n=>?_) (fun n=>?_)) ?_
                 · have:=uf n
                   have:=CK n
                   split<;>omega
                 · have ae:=Hv n
                   rw [List.mem_append,List.mem_singleton]
                   by_cases e:n=c.x
                   · subst e
                     rw [if_pos rfl]
                     simp
                     omega
                   · rw [if_neg e,ae]
                     simp [e]
                 rintro y cL ⟨hL,q5,s2,iu⟩
                 have qJ:=fM.mod iu vT
                 have Po:=q5.s.tS.look c.x
                 rw [if_pos rfl] at Po
                 have dw:IntKind.i64.wrap (f c.x + (own.count c.x:Int)+1-1)=f c.x + (own.count c.x:Int):=by rw [wrap_i64 (by omega) (by omega)];omega
                 obtain ⟨gy,bw,Jr,a3,a4,a5⟩:=q5.inc c.x (f c.x + (own.count c.x:Int))
                 have X4:(fun n=>if n=c.x then f c.x + (own.count c.x:Int) else if n=c.x then f c.x + (own.count c.x:Int)+1 else f n + (own.count n:Int))=fun n=>f n + (own.count n:Int):=by
                  funext n
                  by_cases e:n=c.x
                  · subst e;rw [if_pos rfl]
                  · rw [if_neg e,if_neg e]
                 rw [X4] at Jr
                 simp +contextual only [aU,bm,cj,c0,fr,uN,uO,ph,q5.s.nB,q5.b,Po,dw,bw,gD,↓ad,bj,cW.ends,fb,oneOf,top,↓reduceIte,Nat.reduceEqDiff,Nat.reduceLeDiff,Nat.reduceAdd,Nat.reduceSub,Nat.reduceMul,reduceCtorEq,Int.reduceEq,Int.reduceLT,Int.reduceLE,Int.reduceNeg]
                 exact ⟨⟨qJ.mod a3 vT,2,hL,rfl,aX,Jr,fun z=>by rw [←bI z,s2 z,List.mem_append];grind⟩,by omega⟩
               · have oV:(if (dS c.k&&i == 1)=true then b++own++[c.x] else b++own)=b++own:=by
                  rw [if_neg]
                  simp only [Bool.and_eq_true,beq_iff_eq]
                  exact g2
                 rw [oV] at bI
                 have ue:(decide ((i:Int)=1)&&(decide (c.k=2)||decide (c.k=11)))=false:=by
                  rw [←Bool.not_eq_true,Bool.and_eq_true,decide_eq_true_eq]
                  exact fun ⟨aQ,aB⟩=>g2 ⟨aB,by omega⟩
                 by_cases pS:(i:Int)=1
                 · have bO:=eq_true pS
                   have XP:(decide (c.k=2)||decide (c.k=11))=false:=by
                    rw [decide_eq_true pS,Bool.true_and] at ue
                    exact ue
                   simp +contextual only [aU,bm,cj,c0,fr,uN,uO,ph,bM,b_,cD,dz,fi,gz,Dn,H5,wu,ya,bO,XP,F.s.nB,F.s.pV,F.b,↓ad,bj,cW.ends,fb,oneOf,top,↓reduceIte,Nat.reduceEqDiff,Nat.reduceLeDiff,Nat.reduceAdd,Nat.reduceSub,Nat.reduceMul,reduceCtorEq,Int.reduceEq,Int.reduceLT,Int.reduceLE,Int.reduceNeg]
                   refine aV (et _ _ li (b++own) nJ (fun n=>?_) Hv) ?_
                   · have:=uf n
                     have:=CK n
                     omega
                   rintro y cL ⟨hL,q5,s2,iu⟩
                   simp +contextual only [aU,bm,cj,c0,fr,uN,uO,ph,gD,↓ad,bj,cW.ends,fb,oneOf,top,↓reduceIte,Nat.reduceEqDiff,Nat.reduceLeDiff,Nat.reduceAdd,Nat.reduceSub,Nat.reduceMul,reduceCtorEq,Int.reduceEq,Int.reduceLT,Int.reduceLE,Int.reduceNeg]
                   exact ⟨⟨dj.mod iu vT,i+1,hL,rfl,aX,q5,fun z=>by rw [←bI z,s2 z,List.mem_append];grind⟩,by omega⟩
                 · have bO:=eq_false pS
                   simp +contextual only [aU,bm,cj,c0,fr,uN,uO,ph,bM,b_,cD,dz,fi,gz,Dn,H5,wu,ya,bO,F.s.nB,F.s.pV,F.b,↓ad,bj,cW.ends,fb,oneOf,top,↓reduceIte,Nat.reduceEqDiff,Nat.reduceLeDiff,Nat.reduceAdd,Nat.reduceSub,Nat.reduceMul,reduceCtorEq,Int.reduceEq,Int.reduceLT,Int.reduceLE,Int.reduceNeg]
                   refine aV (et _ _ li (b++own) nJ (fun n=>?_) Hv) ?_
                   · have:=uf n
                     have:=CK n
                     omega
                   rintro y cL ⟨hL,q5,s2,iu⟩
                   simp +contextual only [aU,bm,cj,c0,fr,uN,uO,ph,gD,↓ad,bj,cW.ends,fb,oneOf,top,↓reduceIte,Nat.reduceEqDiff,Nat.reduceLeDiff,Nat.reduceAdd,Nat.reduceSub,Nat.reduceMul,reduceCtorEq,Int.reduceEq,Int.reduceLT,Int.reduceLE,Int.reduceNeg]
                   exact ⟨⟨dj.mod iu vT,i+1,hL,rfl,aX,q5,fun z=>by rw [←bI z,s2 z,List.mem_append];grind⟩,by omega⟩
             · have bM:((i:Int) < (c.l.length:Int))=False:=eq_false (by omega)
               rw [List.drop_eq_nil_of_le (by omega),jb] at bI
               have C3:∀z,z ∈ li↔z ∈ l∨z ∈ free c b:=fun z=>by rw [←bI z];simp
               have CH:=az.len
               simp +contextual only [aU,bm,cj,c0,fr,uN,uO,ph,bM,CH,↓ad,bj,cW.ends,fb,oneOf,top,↓reduceIte,Nat.reduceEqDiff,Nat.reduceLeDiff,Nat.reduceAdd,Nat.reduceSub,Nat.reduceMul,reduceCtorEq,Int.reduceEq,Int.reduceLT,Int.reduceLE,Int.reduceNeg]
               refine fw (fun r aa=>r 1=.ptr eN 0∧r 85=x∧r 86=.int .i64 own.length∧cg aa 1 x own.length (cd own)∧∃(i:Nat),r 87=.int .i64 i∧i≤own.length∧kd ah h eN cM df ar d_ [.int .i64 c.k,.int .i64 c.x,.int .i64 c.n,.str c.s,aN,aP,aw] aa (fun n=>f n + ((own.drop i).count n:Int)) li) (fun r aa=>own.length - (r 87).gn) ?_ ?_
               · exact ⟨by simp only [aU,↓ad,bj,↓reduceIte,Nat.reduceEqDiff,reduceCtorEq],by simp only [↓ad,bj,↓reduceIte,Nat.reduceEqDiff,reduceCtorEq],by simp only [↓ad,bj,↓reduceIte,Nat.reduceEqDiff,reduceCtorEq],az,0,by simp only [↓ad,bj,↓reduceIte,Nat.reduceEqDiff,reduceCtorEq]<;>rfl,by omega,by simpa using F⟩
               · clear aU bm cj c0 fr uN uO ph az F aG aX bM
                 rintro r g ⟨aU,QB,QC,az,i,QD,aG,F⟩
                 unfold Mj
                 by_cases aX:i<own.length
                 · have bM:((i:Int) < (own.length:Int))=True:=eq_true (by omega)
                   obtain ⟨dQ,o,b_,cD⟩:=ints_at az (k:=.i64) aX
                   have gD:=gq aX (by omega)
                   have mi:=List.drop_eq_getElem_cons aX
                   generalize own[i]=k at *
                   have lb:=F.s.tS.look k
                   have kk:(own.drop i).count k≤own.length:=Nat.le_trans List.count_le_length (by rw [List.length_drop];omega)
                   have uc:1≤(own.drop i).count k:=by rw [mi,List.count_cons_self];omega
                   have Oe:=uf k
                   have dL:IntKind.i64.wrap (f k + ((own.drop i).count k:Int)-1)=f k + ((own.drop i).count k:Int)-1:=wrap_i64 (by omega) (by omega)
                   obtain ⟨bz,gR,ow,gB,Ba,yw⟩:=F.inc k (f k + ((own.drop i).count k:Int)-1)
                   rw [Wl mi] at ow
                   simp +contextual only [aU,QB,QC,QD,bM,b_,cD,F.s.nB,lb,dL,gR,gD,↓ad,bj,cW.ends,fb,oneOf,top,↓reduceIte,Nat.reduceEqDiff,Nat.reduceLeDiff,Nat.reduceAdd,Nat.reduceSub,Nat.reduceMul,reduceCtorEq,Int.reduceEq,Int.reduceLT,Int.reduceLE,Int.reduceNeg]
                   exact ⟨⟨az.mod gB vT,i+1,rfl,aX,ow⟩,by omega⟩
                 · have bM:((i:Int) < (own.length:Int))=False:=eq_false (by omega)
                   rw [List.drop_eq_nil_of_le (by omega)] at F
                   have X6:(fun n=>f n + (([]:List Int).count n:Int))=f:=by funext n;simp
                   rw [X6] at F
                   simp +contextual only [aU,QB,QC,QD,bM,↓ad,bj,cW.ends,fb,oneOf,top,↓reduceIte,Nat.reduceEqDiff,Nat.reduceLeDiff,Nat.reduceAdd,Nat.reduceSub,Nat.reduceMul,reduceCtorEq,Int.reduceEq,Int.reduceLT,Int.reduceLE,Int.reduceNeg]
                   exact ⟨li,F.s,C3,F.m⟩
mutual
def vars:aY→Prop
 | .mk k x n s a t l=>(∀q ∈ a,q.k=1→gC q.n=true)∧yx l
def yx:List aY→Prop
 | []=>True
 | c::cs=>vars c∧yx cs
end
theorem RI {a:List At} (h:a.all gS=true):∀q ∈ a,q.k=1→gC q.n=true:=by
 intro q a2 an
 have:=List.all_eq_true.1 h q a2
 rw [gS,if_pos an,Bool.and_eq_true] at this
 exact this.1
theorem P_ {b:Bool} {c:aY} (h:c7 b c=true):c.a.all gS=true:=by
 unfold c7 at h
 split at h
 · cases h
 · simp only [Bool.and_eq_true] at h
   exact h.2
theorem adL {b:Bool} {c:aY} (c9:c.k=7) (h:c7 b c=true):c.l.length=1:=by
 unfold c7 at h
 have:fj c.k=some ⟨true,false,false,false,0,0,1,1⟩:=by rw [c9];rfl
 rw [this] at h
 simp only [Bool.and_eq_true,sc,decide_eq_true_eq] at h
 have:=h.1.1.2.1.2
 omega
mutual
theorem Ec:∀(c:aY),may c7 c=true→vars c
 | .mk k x n s a t l,h=>by
   simp only [may] at h
   by_cases an:k=8
   · rw [if_pos an] at h
     simp only [Bool.and_eq_true,decide_eq_true_eq,tL] at h
     refine ⟨fun q a2=>?_,RK l h.2⟩
     have:a=[]:=h.1.1.2
     rw [this] at a2;cases a2
   · rw [if_neg an] at h
     simp only [Bool.and_eq_true] at h
     exact ⟨RI (P_ h.1),RJ l h.2⟩
theorem RJ:∀(l:List aY),iP c7 l=true→yx l
 | [],_=>trivial
 | c::cs,h=>by
   simp only [iP,Bool.and_eq_true] at h
   exact ⟨Ec c h.1,RJ cs h.2⟩
theorem RK:∀(l:List aY),hN c7 l=true→yx l
 | [],_=>trivial
 | [c],h=>by
   simp only [hN] at h
   exact ⟨Ec c h,trivial⟩
 | c::d::cs,h=>by
   have aa:((decide (c.k=7)&&c7 true c)&&lJ c7 c&&hN c7 (d::cs))=true:=by simpa only [hN] using h
   simp only [Bool.and_eq_true,decide_eq_true_eq] at aa
   exact ⟨agT c aa.1.1.1 aa.1.1.2 aa.1.2,RK (d::cs) aa.2⟩
theorem agT:∀(c:aY),c.k=7→c7 true c=true→lJ c7 c=true→vars c
 | .mk k x n s a t l,c9,bD,h=>by
   exact ⟨RI (P_ bD),agU l (adL c9 bD) (by simpa only [lJ] using h)⟩
theorem agU:∀(l:List aY),l.length=1→qR c7 l=true→yx l
 | [c],_,h=>⟨Ec c (by simpa only [qR] using h),trivial⟩
 | [],aK,_=>by simp at aK
 | _::_::_,aK,_=>by simp at aK
end
theorem acD {b:List Int} {a:List At} {z:Int} (h:z ∈ iR b a):∃q ∈ a,q.k=1∧q.n=z:=by
 unfold iR at h
 obtain ⟨q,ae,ak⟩:=List.mem_map.1 h
 obtain ⟨aC,bq⟩:=List.mem_filter.1 ae
 simp only [Bool.and_eq_true,decide_eq_true_eq] at bq
 exact ⟨q,aC,bq.1,ak⟩
mutual
theorem PF:∀(c:aY) (b:List Int) (z:Int),vars c→z ∈ free c b→gC z=true
 | .mk k x n s a t l,b,z,bk,h=>by
   simp only [free,List.mem_append] at h
   rcases h with h | h
   · obtain ⟨q,aQ,aB,rfl⟩:=acD h
     exact bk.1 q aQ aB
   · exact PG l _ _ _ _ z bk.2 h
theorem PG:∀(l:List aY) (late:Bool) (x:Int) (b:List Int) (i:Nat) (z:Int),yx l→z ∈ jb late x l b i→gC z=true
 | [],_,_,_,_,_,_,h=>by simp [jb] at h
 | c::cs,late,x,b,i,z,bk,h=>by
   simp only [jb,List.mem_append] at h
   rcases h with h | h
   · exact PF c _ z bk.1 h
   · exact PG cs late x b (i+1) z bk.2 h
end
def qk:List At→Nat
 | []=>0
 | q::a=>q.s.length / 100+qk a
mutual
def wt:aY→Nat
 | .mk k x n s a t l=>1+a.length+t.length+s.length / 100+qk a+iS l
def iS:List aY→Nat
 | []=>0
 | c::cs=>wt c+iS cs
end
mutual
theorem DX:∀c:aY,size c≤wt c
 | .mk k x n s a t l=>by
   have:=IV l
   simp only [size,wt]
   omega
theorem IV:∀l:List aY,na l≤iS l
 | []=>Nat.le_refl _
 | c::cs=>by
   have:=DX c
   have:=IV cs
   simp only [na,iS]
   omega
end
theorem agR (b:List Int) (a:List At):(iR b a).length≤a.length:=by
 unfold iR
 rw [List.length_map]
 exact List.length_filter_le _ _
mutual
theorem F3:∀(c:aY) (b:List Int),(free c b).length≤wt c
 | .mk k x n s a t l,b=>by
   have ae:=agR b a
   have ak:=NM l (dS k) x (b++ownNames k x l) 0
   simp only [free,wt,List.length_append]
   omega
theorem NM:∀(l:List aY) (late:Bool) (x:Int) (b:List Int) (i:Nat),(jb late x l b i).length≤iS l
 | [],_,_,_,_=>by simp [jb,iS]
 | c::cs,late,x,b,i=>by
   have ae:=F3 c (if late&&i == 1 then b++[x] else b)
   have ak:=NM cs late x b (i+1)
   simp only [jb,iS,List.length_append]
   omega
end
theorem ahl:∀l:List aY,l.length≤iS l:=fun l=>by have:=IU l;have:=IV l;omega
theorem J4:∀{a:List At} {q:At},q ∈ a→q.s.length / 100≤qk a
 | [],_,h=>by cases h
 | p::a,q,h=>by
   simp only [qk]
   rcases List.mem_cons.1 h with rfl | h
   · omega
   · have:=J4 h;omega
mutual
theorem pK:∀(c:aY),wt c≤400→fit 1048576 c
 | .mk k x n s a t l,h=>by
   simp only [wt] at h
   have:=ahl l
   refine ⟨by omega,by omega,by omega,by omega,fun q a2=>?_,NH l (by omega)⟩
   have:=J4 a2
   omega
theorem NH:∀(l:List aY),iS l≤400→fits 1048576 l
 | [],_=>trivial
 | c::cs,h=>by
   simp only [iS] at h
   exact ⟨pK c (by omega),NH cs (by omega)⟩
end
def Mk:bE:=
 .seq (.ag [dM 1 0,⟨some 2,.gQ (.c .kN),none,[]⟩])
 (.seq (.ag [⟨some 3,.fn 129 [(.t 1)],none,[1]⟩,ab 2 3])
 (.ret))
theorem UW:cv 68 4 [.t 2] Mk:=cx Tryz.func68 (by kernel_rfl) (by kernel_rfl) rfl (by kernel_rfl) (by kernel_rfl)
theorem O9:∀(l:List Int) (n:Nat),n' (hC l n)=some l
 | [],_=>rfl
 | x::l,n=>by simp only [hC,n',O9 l (n+1)]
theorem PD {x:Int}:∀l:List Int,x9 x l=l.contains x
 | []=>rfl
 | y::l=>by
   rw [x9,PD l,List.contains_cons,oQ]
   congr 1
theorem ac1 {l:List Int} (h:l.Nodup):uF l=true:=by
 induction l with
 | nil=>rfl
 | cons x l bN=>
   obtain ⟨ae,ak⟩:=List.nodup_cons.1 h
   rw [uF,bN ak,PD]
   simp [ae]
theorem Ke:∀(l:List Int) (n cq c:Nat),cq≤n→n+l.length≤c→tM c cq (hC l n)=true
 | [],_,_,_,_,_=>rfl
 | x::l,n,cq,c,ae,ak=>by
   simp only [List.length_cons] at ak
   rw [hC,tM,Ke l (n+1) (n+1) c (Nat.le_refl _) (by omega)]
   have bw:Nat.ble cq n=true:=by rw [Nat.ble_eq];exact ae
   have b3:Nat.blt n c=true:=by rw [Nat.blt_eq];omega
   simp only [bw,b3];rfl
theorem ag5 {z:Int} (h:gC z=true):(Lit.int .i64 z).wf=true:=by
 simp only [gC,Bool.and_eq_true,decide_eq_true_eq] at h
 simp only [Lit.wf,Bool.and_eq_true,decide_eq_true_eq]
 have bw:IntKind.i64.min=-9223372036854775808:=by decide
 have b3:IntKind.i64.max=9223372036854775807:=by decide
 rw [bw,b3]
 omega
theorem ag4 {l:List Int} (h:∀z ∈ l,gC z=true):uU l=true:=by
 induction l with
 | nil=>rfl
 | cons x l bN=>
   rw [uU,ag5 (h x (by simp)),bN fun z bI=>h z (by simp [bI])]
   rfl
theorem Ns:∀(l:List Int) (n:Nat),(hC l n).length=l.length
 | [],_=>rfl
 | x::l,n=>by simp only [hC,List.length_cons,Ns l (n+1)]
theorem af_ {h:aj} {dQ b:a6} {l:List Int} (ae:h.get dQ=.aq [.map b] 0 false) (ak:h.get b=.mp (hC l 0) l.length) (a7:l.Nodup) (bk:∀z ∈ l,gC z=true) (aK:l.length≤1000000):
 bB Tryz.prog 67 [.func 129 [.ptr dQ 0]] h fun x aa=>cm h.next aa 1 x l.length (cd (iK l))∧Ext h aa:=by
 have aT:(iK l).length=l.length:=(r3 l).length_eq
 have key:∃v aa,(A5 129).run [.func 129 [.ptr dQ 0]] h=.val v aa∧cm h.next aa 1 v l.length (cd (iK l))∧Ext h aa:=by
  have e:(A5 129).run [.func 129 [.ptr dQ 0]] h=D1 129 dQ h:=rfl
  rw [e]
  unfold D1
  rw [ae]
  change ∃v aa,(match h.get b with
   | .mp es clock=>(match n' es with
     | some aF=>bif uF aF&&tM clock 0 es&&uU aF&&Nat.ble es.length 1000000 then (match iK aF with
        | []=>bH.val .ay h
        | x::l=>(match lg h (cd (x::l)) 1 false with
          | some aa=>bH.val (.ev (ao h.next) 0 (x::l).length 0) aa
          | none=>bH.fail)) else bH.fail
     | none=>bH.fail)
   | _=>bH.fail)=bH.val v aa∧_
  rw [ak]
  simp only [O9,ac1 a7,Ke l 0 0 l.length (Nat.le_refl _) (by omega),ag4 bk,Ns,show Nat.ble l.length 1000000=true from by rw [Nat.ble_eq];exact aK,Bool.and_self,cond_true]
  cases aM:iK l with
  | nil=>
    rw [aM] at aT
    exact ⟨_,_,rfl,⟨by simp [cd,←aT],aT.symm⟩,Ext.refl _⟩
  | cons x m=>
    rw [aM] at aT
    have hlen:(cd (x::m)).length=l.length:=by rw [la,aT]
    have bh:lg h (cd (x::m)) 1 false=some (h.new (.aq (cd (x::m)) 1 false)):=by
     unfold lg
     rw [show (Nat.ble (cd (x::m)).length top&&Nat.ble 1 1)=true from by rw [Bool.and_eq_true,Nat.ble_eq,Nat.ble_eq,hlen];unfold top;omega]
     rfl
    simp only [bh,aT]
    refine ⟨_,_,rfl,?_,(Ext.refl h).new _⟩
    exact cm.grown (by rw [hlen];omega) (Nat.le_refl _)
 obtain ⟨v,aa,he,aQ,aB⟩:=key
 exact ⟨v,aa,.inl ⟨⟨_,Tryz.func67,by kernel_rfl⟩,fun aZ E w xs az s=>Rh Tryz.underlying3 Rg he aZ E w xs az s⟩,aQ,aB⟩
theorem aa8 (b:a6) (h:aj):bB Tryz.prog 68 [.map b] h fun x aa=>x=.func 129 [.ptr (ao h.next) 0]∧aa.get (ao h.next)=.aq [.map b] 0 false∧Ext h aa:=by
 refine UW rfl (bP ?_)
 unfold Mk
 simp +contextual only [↓ad,af,simprocAttr]
 exact (Ext.refl h).new _
theorem PM:∀{l m:List Int},l.Nodup→(∀z ∈ l,z ∈ m)→l.length≤m.length
 | [],_,_,_=>by simp
 | x::l,m,a7,h=>by
   obtain ⟨ae,ak⟩:=List.nodup_cons.1 a7
   have az:=h x (by simp)
   have:=PM (l:=l) (m:=m.erase x) ak fun z bI=>(List.mem_erase_of_ne (show z≠x from fun e=>ae (by rw [←e];exact bI))).2 (h z (by simp [bI]))
   rw [List.length_erase_of_mem az] at this
   have:=List.length_pos_of_mem az
   simp only [List.length_cons]
   omega
theorem Ss (c:aY) (ai:List V) (h:aj) (H:eg h c ai) (hw:wt c≤400) (hm:may c7 c=true) (cb:qT c):
 bB Tryz.prog 46 [.agg ai] h fun x aa=>cm h.next aa 1 x (rising (free c [])).length (cd (rising (free c [])))∧Ext h aa:=by
 obtain ⟨aN,aP,aw,rfl,cU,dU,cw⟩:=H.open
 have av:=pK c hw
 refine UF rfl (bP ?_)
 unfold LQ
 simp +contextual only [show ∀g:aj,qQ none g=.val (.map (ao g.next)) (g.new (.mp [] 0)) from fun g=>rfl,↓ad,af,simprocAttr]
 refine aV (RA (size c) c (Nat.le_refl _) av cb _ h H _ _ _ _ (ao (h.next+1+2)) (ao (h.next+1)) (fun _=>0) [] [] ?S ?B ?Z) ?K
 case S=>
  have wx:∀n:Nat,(n+1=n)=False:=fun n=>eq_false (by omega)
  have uG:∀n:Nat,(n+1+1=n)=False:=fun n=>eq_false (by omega)
  have qS:∀n:Nat,(n+1+1+1=n)=False:=fun n=>eq_false (by omega)
  have s9:∀n:Nat,(n+1+1+1+1=n)=False:=fun n=>eq_false (by omega)
  refine ⟨?_,?_,?_,?_,?_,?_,?_,⟨[],0,?_,fun _=>rfl⟩,?_,List.nodup_nil⟩
  · exact ((((((((((Ext.refl h).new _).new _).new _).set (by omega) _).new _).new _).set (by omega) _).new _).set (by omega) _)
  · simp [du,eB,cO,gU,iH,wx,uG,qS,s9]
  · simp [du,eB,cO,gU,iH,wx,uG,qS,s9]
  · simp [du,eB,cO,gU,iH,wx,uG,qS,s9]
  · rintro b (rfl | rfl | rfl | rfl | rfl)<;>exact ⟨by unfold Old;simp only [cS,gU,cO];omega,by rw [cS];omega⟩
  · rintro b (rfl | rfl | rfl)<;>simp only [ne_eq,iH]<;>omega
  · simp only [ne_eq,iH];omega
  · simp [du,eB,cO,gU,iH,pI,wx,uG,qS,s9]
  · simp [du,eB,cO,gU,iH,hC,wx,uG,qS,s9]
 case B=>
  intro n
  have:=Im c
  have:=DX c
  omega
 case Z=>intro n;simp
 case K=>
  rintro x aa ⟨hL,S,bI,aii⟩
  simp +contextual only [S.m0,↓ad,af,simprocAttr]
  refine aV (aa8 _ aa) ?_
  rintro y ak ⟨rfl,bF,bh⟩
  have E7:=S.hi bh
  have fu:∀z,z ∈ hL↔z ∈ free c []:=fun z=>by rw [bI z];simp
  have hlen:hL.length≤(free c []).length:=PM S.x_ (fun z q=>(fu z).1 q)
  have hK:=F3 c []
  simp +contextual only [↓ad,af,simprocAttr]
  refine aV (af_ bF E7.out S.x_ (fun z q=>PF c [] z (Ec c hm) ((fu z).1 q)) (by omega)) ?_
  rintro y aC ⟨O,cp⟩
  have bd:iK hL=rising (free c []):=aga (D0 hL) (r3 hL) S.x_ fu
  have gP:hL.length=(rising (free c [])).length:=by rw [←bd,(r3 hL).length_eq]
  rw [bd,gP] at O
  simp +contextual only [↓ad,af,simprocAttr]
  exact ⟨O.mono (E7.ext.next),E7.ext.trans cp⟩
end Go.Proofs.YtjbiefneffiogaaGreat
namespace Go.Proofs.YtjbiefneffiogaaGreat
open Go bA Go.Sort
theorem ad5 {l:List Int} {c:Array Value} {o:Nat} (h:o+l.length≤c.size):Go.Sort.putCells (Value.int .i64) o l.toArray c=p2 c o (l.map (Value.int .i64)):=by
 apply Array.ext_getElem?
 intro j
 rw [Db _ _ _ _ (by rw [List.length_map];exact h),List.length_map]
 unfold Go.Sort.putCells
 rw [Array.getElem?_mapIdx]
 by_cases bS:o≤j∧j<o+l.length
 · rw [if_pos bS,List.getElem?_map]
   have CP:j<c.size:=by omega
   have jU:j-o<l.length:=by omega
   simp only [Array.getElem?_eq_getElem CP,Option.map_some,List.size_toArray,if_pos bS,List.getElem?_eq_getElem jU,Option.some.injEq,Value.int.injEq,true_and]
   simp [jU]
 · rw [if_neg bS]
   cases aD:c[j]? with
   | none=>rfl
   | some y=>simp only [Option.map_some,List.size_toArray,if_neg bS]
theorem Re {h aa:aj} {b:a6} {off:Nat} {l:List Int} {ai:List V} {c3:Nat} {st:Bool} (bp:h.get b=.aq ai c3 st) (hg:(ai.drop off).take l.length=cd l) (aK:off+l.length≤ai.length) (g8:l.length<4611686018427387904)
 (he:bA.lay h b off (cd (iK l))=some aa) {v:V} (bk:(∃cap,v=.slice b off l.length cap)∨∃idx,v=.ev b off l.length idx):lr Tryz.prog 51 [v] h (.tuple []) aa:=by
 refine .inl ⟨⟨_,Tryz.func51,by kernel_rfl⟩,fun aZ E w xs az s=>?_⟩
 simp only [bY] at az
 obtain ⟨X,_,rfl,gN,rfl⟩:=az
 have XF:∃p cap,E b=some p∧X=.slice (some ⟨p.bb,p.base+off,none⟩) l.length cap:=by
  rcases bk with ⟨cap,rfl⟩ | ⟨idx,rfl⟩
  · simp only [Rel] at gN
    obtain ⟨p,ae,_,ak⟩:=gN
    exact ⟨p,_,ae,ak⟩
  · simp only [Rel] at gN
    obtain ⟨p,ae,_,ak⟩:=gN
    exact ⟨p,_,ae,ak⟩
 obtain ⟨p,cap,aT,rfl⟩:=XF
 have ah:=s.at aT
 rw [bp] at ah
 obtain ⟨a7,q,c,el,cF,ae,ak,aC,bq,dZ,eM,c9⟩:=ah
 rw [aT] at ae;cases ae
 have aX:=(Array.getElem?_eq_some_iff.1 aC).1
 have aib:p.base+ai.length≤c.size:=c9.1
 have rz:Go.Sort.Holds (Value.int .i64) w p.bb (p.base+off) l.toArray:=by
  intro j bS
  have CO:j<l.length:=by simpa using bS
  have CP:p.base + (off+j)<c.size:=by omega
  have k_:=c9.2 (off+j) c[p.base + (off+j)] (by omega) (Array.getElem?_eq_getElem CP)
  have oW:ai[off+j]? =some (.int .i64 l[j]):=by
   have e:((ai.drop off).take l.length)[j]? =(cd l)[j]? :=by rw [hg]
   rw [List.getElem?_take_of_lt CO,List.getElem?_drop] at e
   rw [e]
   simp [cd,CO]
  have GD:T.get .bad (ao (off+j)) (g' .e 0 ai)=.int .i64 l[j]:=by
   have:=Cz ai 0 (off+j) .e
   rw [Nat.zero_add] at this
   rw [this,if_pos (by omega),oW];rfl
  rw [GD] at k_
  simp only [Rel] at k_
  constructor
  · simp only [World.cell?,aC]
    rw [show p.base+off+j=p.base + (off+j) from by omega,Array.getElem?_eq_getElem CP,k_]
    simp [CO]
  · simp only [World.frozen?,aC]
    rw [Bool.and_eq_false_iff]
    simp only [decide_eq_false_iff_not]
    omega
 refine (AnyM.slices_Sort_int Tryz.DZ p.bb (p.base+off) cap l w rz aX g8).mono fun e aW q=>?_
 obtain ⟨rfl,n,os,rfl⟩:=q
 rw [Rc (List.Perm.refl l)]
 have m1:(iK l).length=l.length:=(r3 l).length_eq
 obtain ⟨dL,aU,s1⟩:=x4 (P:=Tryz.prog) s (HF E (iK l)) he aT
 have bm:=DT (P:=Tryz.prog) aX el cF (p.base+off) ((iK l).map encZ) c 0 (fun v bk=>by
  obtain ⟨z,_,rfl⟩:=List.mem_map.1 bk
  rfl) (by rw [List.length_map];omega) bq
 rw [Ji aC,Nat.add_zero] at bm
 rw [bm] at aU
 have Zr:dL=mB w p.bb (p2 c (p.base+off) ((iK l).map encZ)) el cF:=by injection aU with _ e;exact e.symm
 subst Zr
 refine ⟨E,_,rfl,fun _ _ q=>q,by simp only [Rel];exact ⟨_,rfl,rfl⟩,s1.below ⟨rfl,rfl,rfl,?_,fun k an=>?_⟩⟩
 · simp only [size_grow,Ed,putRow,mapBlock,Sort.ahead,Array.size_modify];omega
 · rw [Ed] at an
   have aI:(grow (putRow (Value.int .i64) (Sort.ahead w n) p.bb (p.base+off) (iK l).toArray) os).heap[k]? =(putRow (Value.int .i64) (Sort.ahead w n) p.bb (p.base+off) (iK l).toArray).heap[k]? :=by
    simp only [grow]
    rw [Array.getElem?_append_left]
    simp only [putRow,mapBlock,Sort.ahead,Array.size_modify]
    exact an
   rw [aI]
   simp only [putRow,mapBlock,Sort.ahead,Array.getElem?_modify]
   by_cases GL:p.bb=k
   · subst GL
     rw [if_pos rfl,aC,Bd aX]
     simp only [Option.map_some,onCells]
     rw [ad5 (by omega)]
   · rw [if_neg GL,Jh _ _ _ (fun e=>GL e.symm)]
theorem Ri {A B:List V} (h:B.length=A.length):iL A 0 B=B:=by
 unfold iL
 rw [List.take_zero,List.nil_append,Nat.zero_add,List.drop_eq_nil_of_le (by omega),List.append_nil]
theorem af9 {B:Nat} {h:aj} {v:V} {l:List Int} (O:cm B h 1 v l.length (cd l)) (aK:l.length≤8000000):
 bB Tryz.prog 51 [v] h fun x aa=>x=.tuple []∧cm B aa 1 v l.length (cd (iK l))∧Mod v.bb h aa:=by
 have aM:(iK l).length=l.length:=(r3 l).length_eq
 have mY:(cd (iK l)).length=l.length:=by rw [la,aM]
 obtain ⟨aQ,aB⟩:=O
 cases v<;>simp only at aB<;>try (exact aB.elim)
 case ay=>
  have:l=[]:=List.eq_nil_of_length_eq_zero aB
  subst this
  refine ⟨_,h,.inl ⟨⟨_,Tryz.func51,by kernel_rfl⟩,fun aZ E w xs az s=>?_⟩,rfl,⟨rfl,rfl⟩,Mod.refl _ _⟩
  simp only [bY,Rel] at az
  obtain ⟨X,_,rfl,rfl,rfl⟩:=az
  refine (AnyM.slices_Sort_int_none Tryz.DZ none 0 w).mono fun e aW q=>?_
  obtain ⟨rfl,rfl⟩:=q
  exact ⟨E,_,rfl,fun _ _ q=>q,by simp only [Rel];exact ⟨_,rfl,rfl⟩,s⟩
 case slice b off len cap=>
  obtain ⟨rfl,a',cn,ea,fy,us,c3,st,fZ,gI,ky⟩:=aB
  rw [la] at ky
  have hw:Own h b us c3 st:=fZ
  have e:=hw.lay (off:=off) (ws:=cd (iK l)) (by rw [mY];omega) (uv _)
  refine ⟨_,_,Re fZ ky (by omega) (by omega) e (.inl ⟨cap,rfl⟩),rfl,⟨by rw [mY];omega,rfl,a',?_,ea,fy,?_⟩,?_⟩
  · unfold Old;rw [gU];exact cn
  · refine ⟨_,c3,st,by rw [du,if_pos rfl],by rw [uS _ _ _ (by rw [mY];omega)];exact gI,?_⟩
    have:=yr us off 0 (cd l) (cd (iK l)) (by rw [la];omega) (by rw [la];exact ky) (by rw [mY,la];omega)
    rw [mY]
    rw [la,Nat.add_zero] at this
    rw [this,Ri (by rw [mY,la])]
  · exact (Mod.refl (fun q=>q=b) h).set (fun _=>rfl) _
 case ev b off len idx=>
  obtain ⟨rfl,a',cn,rfl,rfl,us,st,fZ,gI,ky⟩:=aB
  rw [la] at ky gI
  have hw:Own h b us 1 st:=fZ
  have e:=hw.lay (off:=0) (ws:=cd (iK l)) (by rw [mY];omega) (uv _)
  refine ⟨_,_,Re fZ (by rw [List.drop_zero];exact ky) (by omega) (by omega) e (.inr ⟨0,rfl⟩),rfl,⟨by rw [mY];omega,rfl,a',?_,rfl,rfl,?_⟩,?_⟩
  · unfold Old;rw [gU];exact cn
  · refine ⟨_,st,by rw [du,if_pos rfl],by rw [uS _ _ _ (by rw [mY];omega),mY];exact gI,?_⟩
    have:=yr us 0 0 (cd l) (cd (iK l)) (by rw [la];omega) (by rw [la,List.drop_zero];exact ky) (by rw [mY,la];omega)
    rw [mY]
    rw [la,Nat.add_zero,List.drop_zero] at this
    rw [this,Ri (by rw [mY,la])]
  · exact (Mod.refl (fun q=>q=b) h).set (fun _=>rfl) _
end Go.Proofs.YtjbiefneffiogaaGreat
namespace Go.Proofs.YtjbiefneffiogaaGreat
open Go bA
theorem cm.tail {B:Nat} {h:aj} {v:V} {n:Nat} {ai:List V} (H:cm B h 1 v n ai) {m:Nat} (hm:m<n):
 ∃dg,gV 1 v (some (.int .i64 m)) none none=some dg∧n_ dg=some (.int .i64 ((n-m:Nat):Int))∧∀j:Nat,m+j<n→fc 1 dg (.int .i64 j)=fc 1 v (.int .i64 ((m+j:Nat):Int)):=by
 obtain ⟨aQ,aB⟩:=H
 cases v<;>simp only at aB<;>try (first | omega | exact aB.elim)
 case slice b off len cap=>
  obtain ⟨rfl,a',cn,ea,fy,us,c3,st,fZ,gI,ky⟩:=aB
  have g3:Nat.beq cap m=false:=by rw [←Bool.not_eq_true,Nat.beq_eq];omega
  refine ⟨.slice b (off+m * 1) (len-m) (cap-m),?_,rfl,fun j bS=>?_⟩
  · simp only [gV,p_,mP,ni (k:=.i64) (m:=m) (d:=0) (y:=len) (by omega),g3,cond_false]
  · rw [xY,xY,if_pos (by omega),if_pos (by omega)]
    simp
    omega
 case ev b off len idx=>
  obtain ⟨rfl,a',cn,rfl,rfl,us,st,fZ,gI,ky⟩:=aB
  have aX:Nat.blt m len=true:=by rw [Nat.blt_eq];exact hm
  refine ⟨.ev b (0+m * 1) (len-m) (0+m),?_,rfl,fun j bS=>?_⟩
  · simp only [gV,pr,mP,ni (k:=.i64) (m:=m) (d:=0) (y:=len) (by omega),aX,cond_true]
  · rw [xX,xX,if_pos (by omega),if_pos (by omega)]
    simp
    omega
theorem QK:∀n,(hP [.int .i64 0] n).length=n
 | 0=>rfl
 | n+1=>by rw [hP,List.length_append,QK n];simp;omega
theorem IA:∀n,gh (hP [.int .i64 0] n)=true
 | 0=>rfl
 | n+1=>by rw [hP];exact PZ rfl (IA n)
theorem Rj {A W:List V} {m:Nat} (h:m+W.length=A.length):iL A m W=A.take m++W:=by
 unfold iL
 rw [h,List.drop_length,List.append_nil]
theorem cm.ag8 {B:Nat} {h:aj} {v:V} {n:Nat} {ai:List V} (H:cm B h 1 v n ai) {m:Nat} (hm:m<n):
 ∃dg aa,gV 1 v (some (.int .i64 m)) none none=some dg∧tR [.int .i64 0] dg h=.val (.tuple []) aa∧(∃ws,cm B aa 1 v n (ai.take m++ws))∧Mod v.bb h aa:=by
 obtain ⟨aQ,aB⟩:=H
 have rI:=QK (n-m)
 have vQ:(ai.take m++hP [.int .i64 0] (n-m)).length=ai.length:=by rw [List.length_append,rI,List.length_take];omega
 have g3:Nat.beq (n-m) 0=false:=by rw [←Bool.not_eq_true,Nat.beq_eq];omega
 cases v<;>simp only at aB<;>try (first | omega | exact aB.elim)
 case slice b off len cap=>
  obtain ⟨rfl,a',cn,ea,fy,us,c3,st,fZ,gI,ky⟩:=aB
  have Yx:Nat.beq cap m=false:=by rw [←Bool.not_eq_true,Nat.beq_eq];omega
  have hw:Own h b us c3 st:=fZ
  have e:=hw.lay (off:=off+m) (ws:=hP [.int .i64 0] (len-m)) (by rw [rI];omega) (IA _)
  refine ⟨.slice b (off+m * 1) (len-m) (cap-m),_,?_,?_,⟨hP [.int .i64 0] (len-m),by rw [vQ];exact aQ,rfl,a',?_,ea,fy,iL us (off+m) (hP [.int .i64 0] (len-m)),c3,st,by rw [du,if_pos rfl],?_,?_⟩,(Mod.refl (fun q=>q=b) h).set (fun _=>rfl) _⟩
  · simp only [gV,p_,mP,ni (k:=.i64) (m:=m) (d:=0) (y:=len) (by omega),Yx,cond_false]
  · simp only [tR,g3,cond_false,Nat.mul_one,e]
  · unfold Old;rw [gU];exact cn
  · rw [uS _ _ _ (by rw [rI];omega)];exact gI
  · have:=yr us off m ai (hP [.int .i64 0] (len-m)) (by omega) ky (by rw [rI];omega)
    rw [vQ,this,Rj (by rw [rI];omega)]
 case ev b off len idx=>
  obtain ⟨rfl,a',cn,rfl,rfl,us,st,fZ,gI,ky⟩:=aB
  have aX:Nat.blt m len=true:=by rw [Nat.blt_eq];exact hm
  have hw:Own h b us 1 st:=fZ
  have e:=hw.lay (off:=0+m) (ws:=hP [.int .i64 0] (len-m)) (by rw [rI];omega) (IA _)
  refine ⟨.ev b (0+m * 1) (len-m) (0+m),_,?_,?_,⟨hP [.int .i64 0] (len-m),by rw [vQ];exact aQ,rfl,a',?_,rfl,rfl,iL us (0+m) (hP [.int .i64 0] (len-m)),st,by rw [du,if_pos rfl],?_,?_⟩,(Mod.refl (fun q=>q=b) h).set (fun _=>rfl) _⟩
  · simp only [gV,pr,mP,ni (k:=.i64) (m:=m) (d:=0) (y:=len) (by omega),aX,cond_true]
  · simp only [tR,g3,cond_false,Nat.mul_one,e]
  · unfold Old;rw [gU];exact cn
  · rw [uS _ _ _ (by rw [rI];omega),vQ];exact gI
  · have:=yr us 0 m ai (hP [.int .i64 0] (len-m)) (by omega) (by rw [List.drop_zero];exact ky) (by rw [rI];omega)
    rw [List.drop_zero] at this
    rw [vQ,this,Rj (by rw [rI];omega)]
theorem VZ {l:List Int} (h:l.length<2):tT l=l:=by
 match l,h with
 | [],_=>rfl
 | [x],_=>rfl
theorem RQ {k:Nat} (ae:1≤k) (ak:k≤4611686018427387904):IntKind.i64.wrap ((k:Int)-1)=((k-1:Nat):Int):=by
 rw [wrap_i64 (by omega) (by omega)];omega
theorem ZS (l:List Int) (i:Nat) (x:Int):(cd l).set i (.int .i64 x)=cd (l.set i x):=by
 simp [cd,List.map_set]
set_option maxHeartbeats 1000000 in
theorem VY {B:Nat} {h:aj} {v:V} {l:List Int} (O:cm B h 1 v l.length (cd l)) (aK:l.length≤8000000):
 bB Tryz.prog 52 [v] h fun x aa=>cm B aa 1 x (tT l).length (cd (tT l))∧Mod v.bb h aa∧∀b,x.bb b→v.bb b:=by
 refine UJ rfl (bP ?_)
 unfold LY
 have bW:=O.v.len
 by_cases ak:l.length<2
 · have bz:((l.length:Int)<2)=True:=eq_true (by omega)
   simp +contextual only [bW,bz,↓ad,af,simprocAttr]
   rw [VZ ak]
   exact ⟨O,Mod.refl _ _,fun b q=>trivial⟩
 have bz:((l.length:Int)<2)=False:=eq_false (by omega)
 simp +contextual only [bW,bz,↓ad,af,simprocAttr]
 refine fw (fun r aa=>aa=h∧r 0=v∧∃k:Nat,r 3=.int .i64 k∧∃an:1≤k∧k≤l.length,l.take k++nS (l[k-1]'(by omega)) (l.drop k)=tT l) (fun r aa=>l.length - (r 3).gn) ?_ ?_
 · refine ⟨rfl,by simp only [↓ad,bj,simprocAttr],1,by simp only [↓ad,bj,simprocAttr]<;>rfl,⟨Nat.le_refl _,by omega⟩,?_⟩
   match l,ak with
   | x::l,_=>rfl
 · rintro r aa ⟨rfl,bl,k,cj,⟨km,Yh⟩,aD⟩
   unfold L0
   by_cases aX:k<l.length
   · have bM:((k:Int) < (l.length:Int))=True:=eq_true (by omega)
     obtain ⟨b,o,b_,cD⟩:=ints_at O.v (k:=.i64) aX
     obtain ⟨b0,dz,cH,b9⟩:=ints_at O.v (k:=.i64) (show k-1<l.length by omega)
     have wd:=RQ km (by omega)
     have gD:=gq aX (by omega)
     rw [List.drop_eq_getElem_cons aX,nS] at aD
     by_cases he:l[k]=l[k-1]
     · have FN:=eq_true he
       rw [if_pos he] at aD
       obtain ⟨v2,t1,t2,t3⟩:=cm.tail O aX
       simp +contextual only [bl,cj,bW,bM,b_,cD,wd,cH,b9,FN,t1,↓ad,af,simprocAttr]
       refine fw (fun r ak=>Mod v.bb aa ak∧r 0=v∧r 4=v2∧∃(bQ j:Nat) (m:List Int),r 3=.int .i64 bQ∧r 5=.int .i64 j∧cm B ak 1 v l.length (cd m)∧m.length=l.length∧1≤bQ∧1≤j∧bQ+1≤k+j∧∃bS:k+j≤l.length,m.take bQ++nS (l[k+j-1]'(by omega)) (l.drop (k+j))=tT l∧∀q,k+j≤q+1→m[q]? =l[q]?) (fun r aa=>l.length - (r 5).gn) ?_ ?_
       · refine ⟨Mod.refl _ _,by simp only [bl,↓ad,bj,simprocAttr],by simp only [↓ad,bj,simprocAttr],k,1,l,by simp only [cj,↓ad,bj,simprocAttr],by simp only [↓ad,bj,simprocAttr]<;>rfl,O,rfl,km,Nat.le_refl _,Nat.le_refl _,aX,?_,fun q _=>rfl⟩
         rw [←aD]
         congr 2
       · clear bl cj
         rintro r ak ⟨hm,bl,c0,bQ,j,m,cj,e7,BW,GU,Yg,ju,aif,bS,ud,a2⟩
         unfold LZ
         by_cases jU:k+j<l.length
         · have CA:((j:Int) < ((l.length-k:Nat):Int))=True:=eq_true (by omega)
           have BX:cg ak 1 v m.length (cd m):=by rw [GU];exact BW.v
           obtain ⟨fa,gz,Aj,rP⟩:=ints_at BX (k:=.i64) (show k+j<m.length by omega)
           obtain ⟨gZ,yg,Hx,HO⟩:=ints_at BX (k:=.i64) (show k + (j-1)<m.length by omega)
           obtain ⟨hp,yh,OT,aiD⟩:=ints_at BX (k:=.i64) (show bQ<m.length by omega)
           have XG:=Fc BX (show bQ<m.length by omega) OT
           rw [←t3 j (by omega)] at Aj
           rw [←t3 (j-1) (by omega)] at Hx
           have Zi:m[k+j]'(by omega)=l[k+j]:=by
            have:=a2 (k+j) (by omega)
            rw [List.getElem?_eq_getElem (by omega),List.getElem?_eq_getElem jU] at this
            exact Option.some.inj this
           have Zn:m[k + (j-1)]'(by omega)=l[k+j-1]'(by omega):=by
            have:=a2 (k+j-1) (by omega)
            rw [List.getElem?_eq_getElem (by omega),List.getElem?_eq_getElem (by omega)] at this
            have e:k + (j-1)=k+j-1:=by omega
            simp only [e]
            exact Option.some.inj this
           rw [Zi] at rP
           rw [Zn] at HO
           have RR:=RQ ju (by omega)
           have RU:=gq (i:=j) (n:=l.length) (by omega) (by omega)
           have ag7:=gq (i:=bQ) (n:=l.length) (by omega) (by omega)
           rw [List.drop_eq_getElem_cons jU,nS] at ud
           have GH:k + (j+1)-1=k+j:=by omega
           by_cases g3:l[k+j]=l[k+j-1]
           · have eZ:=eq_true g3
             rw [if_pos g3] at ud
             simp +contextual only [bl,cj,c0,e7,t2,CA,Aj,rP,RR,Hx,HO,eZ,RU,↓ad,af,simprocAttr]
             refine ⟨⟨hm,bQ,j+1,m,rfl,rfl,BW,GU,Yg,by omega,by omega,jU,?_,fun q pW=>a2 q (by omega)⟩,by omega⟩
             simp only [GH,g3]
             exact ud
           · have eZ:=eq_false g3
             rw [if_neg g3] at ud
             obtain ⟨K,ca,b',cE,fR⟩:=BW.Ir XG (c:=bQ * 1) (y:=.int .i64 l[k+j]) (by rw [la];omega) rfl rfl
             rw [Nat.mul_one,ZS] at cE
             have GR:Mod v.bb aa (ak.set hp K):=hm.set (fun _=>fR) _
             simp +contextual only [bl,cj,c0,e7,t2,CA,Aj,rP,RR,Hx,HO,eZ,OT,ca,RU,ag7,↓ad,af,simprocAttr]
             refine ⟨⟨GR,bQ+1,j+1,m.set bQ l[k+j],rfl,rfl,cE,by rw [List.length_set];exact GU,by omega,by omega,by omega,jU,?_,fun q pW=>?_⟩,by omega⟩
             · simp only [GH]
               rw [←ud,List.take_succ_eq_append_getElem (by rw [List.length_set];omega),List.getElem_set_self,List.take_set_of_le (Nat.le_refl _)]
               simp only [List.append_assoc,List.cons_append,List.nil_append]
               rfl
             · rw [List.getElem?_set_ne (by omega)]
               exact a2 q (by omega)
         · have CA:((j:Int) < ((l.length-k:Nat):Int))=False:=eq_false (by omega)
           rw [List.drop_eq_nil_of_le (by omega),nS,List.append_nil] at ud
           obtain ⟨v3,aC,tw,wS,⟨ws,wT⟩,Bi⟩:=cm.ag8 BW (m:=bQ) (by omega)
           obtain ⟨v4,ff,e9,z3⟩:=wT.cut (k:=.i64) (m:=bQ) (by omega) (by omega)
           rw [Nat.mul_one,C7,List.take_append_of_le_length (by rw [la,List.length_take];omega),C7,List.take_take,Nat.min_self,ud] at e9
           have sR:bQ=(tT l).length:=by rw [←ud,List.length_take];omega
           simp +contextual only [bl,cj,c0,e7,t2,CA,tw,wS,ff,aab,↓ad,af,simprocAttr]
           rw [←sR]
           exact ⟨e9,hm.trans Bi,z3⟩
     · have FN:=eq_false he
       rw [if_neg he] at aD
       simp +contextual only [bl,cj,bW,bM,b_,cD,wd,cH,b9,FN,gD,↓ad,af,simprocAttr]
       refine ⟨⟨k+1,rfl,⟨by omega,aX⟩,?_⟩,by omega⟩
       rw [←aD,List.take_succ_eq_append_getElem aX]
       simp only [List.append_assoc,List.cons_append,List.nil_append,Nat.add_sub_cancel]
   · have bM:((k:Int) < (l.length:Int))=False:=eq_false (by omega)
     rw [List.drop_eq_nil_of_le (by omega),nS,List.append_nil,List.take_of_length_le (by omega)] at aD
     simp +contextual only [bl,cj,bW,bM,↓ad,af,simprocAttr]
     rw [←aD]
     exact ⟨O,Mod.refl _ _,fun b q=>trivial⟩
def tN (c:aY):List Int:=if may c7 c then rising (order c) else []
def xC (c:aY):List Int:=if may c7 c then rising (free c []) else []
def Q' (c:aY):Int:=if may c7 c then (size c:Int) else 0
def sE (c:aY):Int:=if !may c7 c then 2 else if (order c).length≠(rising (order c)).length then 7 else if 0 < (rising (free c [])).length then 6 else 0
theorem Dk {c:aY} (hw:wt c≤400):may (fun b c=>ej b c) c=may c7 c:=(Dl c (Nx (m:=1048576) (by omega) c (pK c hw))).symm
theorem yi {c:aY} (hw:wt c≤400) (h:may c7 c=true):qT c:=Dv c (by rw [Dk hw];exact h)
theorem AO {c:aY} (hw:wt c≤400):(order c).length≤1200:=by have:=Im c;have:=DX c;omega
def mK (h aa:aj) (l:List Int) (x:V):Prop:=cm h.next aa 1 x l.length (cd l)∧Ext h aa
theorem mK.nil (h:aj):mK h h [] .ay:=⟨⟨rfl,rfl⟩,Ext.refl _⟩
theorem mK.from {h ae aa:aj} {l:List Int} {x:V} (H:mK ae aa l x) (e:Ext h ae):mK h aa l x:=⟨H.1.mono e.next,e.trans H.2⟩
section
variable (c:aY) (ai:List V) (h:aj) (H:eg h c ai) (hw:wt c≤400)
include H hw
theorem HZ:bB Tryz.prog 44 [.agg ai] h fun x aa=>x=.bool (may c7 c)∧Ext h aa:=H0 (size c) c (Nat.le_refl _) (pK c hw) ai h H
theorem IG:bB Tryz.prog 47 [.agg ai] h fun x aa=>x=.bool (may c7 c)∧Ext h aa:=
 (IH (size c) c (Nat.le_refl _) (pK c hw) ai h H).mono fun x aa q=>by rw [Dk hw] at q;exact q
theorem ahI:bB Tryz.prog 22 [.agg ai] h fun x aa=>x=.int .i64 (Q' c)∧Ext h aa:=by
 have gd:=DX c
 obtain ⟨aN,aP,aw,rfl,cU,dU,cw⟩:=H.open
 refine Us rfl (bP ?_)
 unfold Lv
 have bZ:Ext h (h.new (.aq [.int .i64 c.k,.int .i64 c.x,.int .i64 c.n,.str c.s,aN,aP,aw] 0 false)):=(Ext.refl h).new _
 have eU:(h.new (.aq [.int .i64 c.k,.int .i64 c.x,.int .i64 c.n,.str c.s,aN,aP,aw] 0 false)).get (ao h.next)=.aq [.int .i64 c.k,.int .i64 c.x,.int .i64 c.n,.str c.s,aN,aP,aw] 0 false:=gi _
 simp +contextual only [↓ad,af,simprocAttr]
 refine aV (HZ c _ _ (H.ext bZ) hw) ?_
 rintro x ae ⟨rfl,aI⟩
 have dR:ae.get (ao h.next)=.aq [.int .i64 c.k,.int .i64 c.x,.int .i64 c.n,.str c.s,aN,aP,aw] 0 false:=by rw [aI.get _ (cZ (by rw [cO];omega))];exact eU
 unfold Q'
 cases hm:may c7 c with
 | false=>
   simp +contextual only [↓ad,af,simprocAttr]
   exact bZ.trans aI
 | true=>
   simp +contextual only [dR,↓ad,af,simprocAttr]
   refine aV (Q_ (size c) c (Nat.le_refl _) (by omega) _ _ (H.ext (bZ.trans aI))) ?_
   rintro x ak ⟨rfl,bh⟩
   simp +contextual only [↓ad,af,simprocAttr]
   exact (bZ.trans aI).trans bh
theorem R2:bB Tryz.prog 25 [.agg ai] h fun x aa=>mK h aa (tN c) x:=by
 have rG:=AO hw
 obtain ⟨aN,aP,aw,rfl,cU,dU,cw⟩:=H.open
 refine Uu rfl (bP ?_)
 unfold Ly
 have bZ:Ext h (h.new (.aq [.int .i64 c.k,.int .i64 c.x,.int .i64 c.n,.str c.s,aN,aP,aw] 0 false)):=(Ext.refl h).new _
 have eU:(h.new (.aq [.int .i64 c.k,.int .i64 c.x,.int .i64 c.n,.str c.s,aN,aP,aw] 0 false)).get (ao h.next)=.aq [.int .i64 c.k,.int .i64 c.x,.int .i64 c.n,.str c.s,aN,aP,aw] 0 false:=gi _
 simp +contextual only [↓ad,af,simprocAttr]
 refine aV (HZ c _ _ (H.ext bZ) hw) ?_
 rintro x ae ⟨rfl,aI⟩
 have dR:ae.get (ao h.next)=.aq [.int .i64 c.k,.int .i64 c.x,.int .i64 c.n,.str c.s,aN,aP,aw] 0 false:=by rw [aI.get _ (cZ (by rw [cO];omega))];exact eU
 unfold tN
 cases hm:may c7 c with
 | false=>
   simp +contextual only [↓ad,af,simprocAttr]
   exact (mK.nil ae).from (bZ.trans aI)
 | true=>
   simp +contextual only [dR,↓ad,af,simprocAttr]
   refine aV (JK c _ _ (H.ext (bZ.trans aI)) (pK c hw) (yi hw hm) (by omega)) ?_
   rintro x ak ⟨kZ,bh⟩
   simp +contextual only [↓ad,af,simprocAttr]
   refine aV (af9 kZ (by omega)) ?_
   rintro y aC ⟨rfl,qf,fY⟩
   have m1:(iK (order c)).length=(order c).length:=(r3 _).length_eq
   rw [←m1] at qf
   simp +contextual only [↓ad,af,simprocAttr]
   refine aV (VY qf (by omega)) ?_
   rintro z bq ⟨qg,ob,gZ⟩
   rw [V0 (D0 (order c)) (r3 _)] at qg
   simp +contextual only [↓ad,af,simprocAttr]
   have eV:Ext ae bq:=bh.lf (fY.trans ob) (fun b q=>kZ.base q)
   exact mK.from ⟨qg,eV⟩ (bZ.trans aI)
theorem aea:bB Tryz.prog 26 [.agg ai] h fun x aa=>mK h aa (tN c) x:=by
 have rG:=AO hw
 obtain ⟨aN,aP,aw,rfl,cU,dU,cw⟩:=H.open
 refine Uv rfl (bP ?_)
 unfold Lz
 have bZ:Ext h (h.new (.aq [.int .i64 c.k,.int .i64 c.x,.int .i64 c.n,.str c.s,aN,aP,aw] 0 false)):=(Ext.refl h).new _
 have eU:(h.new (.aq [.int .i64 c.k,.int .i64 c.x,.int .i64 c.n,.str c.s,aN,aP,aw] 0 false)).get (ao h.next)=.aq [.int .i64 c.k,.int .i64 c.x,.int .i64 c.n,.str c.s,aN,aP,aw] 0 false:=gi _
 simp +contextual only [↓ad,af,simprocAttr]
 refine aV (IG c _ _ (H.ext bZ) hw) ?_
 rintro x ae ⟨rfl,aI⟩
 have dR:ae.get (ao h.next)=.aq [.int .i64 c.k,.int .i64 c.x,.int .i64 c.n,.str c.s,aN,aP,aw] 0 false:=by rw [aI.get _ (cZ (by rw [cO];omega))];exact eU
 unfold tN
 cases hm:may c7 c with
 | false=>
   simp +contextual only [↓ad,af,simprocAttr]
   exact (mK.nil ae).from (bZ.trans aI)
 | true=>
   simp +contextual only [dR,↓ad,af,simprocAttr]
   refine aV (II (size c) c (Nat.le_refl _) (pK c hw) (yi hw hm) _ ae (H.ext (bZ.trans aI)) ae [] .ay (Ext.refl _) ⟨rfl,rfl⟩ (by simp;omega)) ?_
   rintro x ak fm
   have kZ:=fm.own
   rw [List.nil_append] at kZ
   simp +contextual only [↓ad,af,simprocAttr]
   refine aV (QR (order c) x ak kZ.v (by omega)) ?_
   rintro z bq ⟨qg,eV⟩
   simp +contextual only [↓ad,af,simprocAttr]
   exact mK.from ⟨qg,eV⟩ ((bZ.trans aI).trans fm.ext)
theorem aed:bB Tryz.prog 28 [.agg ai] h fun x aa=>mK h aa (xC c) x:=by
 have rG:=AO hw
 have hK:=F3 c []
 obtain ⟨aN,aP,aw,rfl,cU,dU,cw⟩:=H.open
 refine Uw rfl (bP ?_)
 unfold LA
 have bZ:Ext h (h.new (.aq [.int .i64 c.k,.int .i64 c.x,.int .i64 c.n,.str c.s,aN,aP,aw] 0 false)):=(Ext.refl h).new _
 have eU:(h.new (.aq [.int .i64 c.k,.int .i64 c.x,.int .i64 c.n,.str c.s,aN,aP,aw] 0 false)).get (ao h.next)=.aq [.int .i64 c.k,.int .i64 c.x,.int .i64 c.n,.str c.s,aN,aP,aw] 0 false:=gi _
 simp +contextual only [↓ad,af,simprocAttr]
 refine aV (IG c _ _ (H.ext bZ) hw) ?_
 rintro x ae ⟨rfl,aI⟩
 have dR:ae.get (ao h.next)=.aq [.int .i64 c.k,.int .i64 c.x,.int .i64 c.n,.str c.s,aN,aP,aw] 0 false:=by rw [aI.get _ (cZ (by rw [cO];omega))];exact eU
 unfold xC
 cases hm:may c7 c with
 | false=>
   simp +contextual only [↓ad,af,simprocAttr]
   exact (mK.nil ae).from (bZ.trans aI)
 | true=>
   simp +contextual only [dR,↓ad,af,simprocAttr]
   refine aV (QP (size c) c (Nat.le_refl _) (pK c hw) (yi hw hm) _ ae (H.ext (bZ.trans aI)) ae [] .ay [] .ay (Ext.refl _) ⟨rfl,rfl⟩ ⟨rfl,rfl⟩ (fun b q=>q.elim) (by simp;omega) (by simp;omega)) ?_
   rintro x ak fm
   have kZ:=fm.own
   rw [List.nil_append] at kZ
   simp +contextual only [↓ad,af,simprocAttr]
   refine aV (QR (free c []) x ak kZ.v (by omega)) ?_
   rintro z bq ⟨qg,eV⟩
   simp +contextual only [↓ad,af,simprocAttr]
   exact mK.from ⟨qg,eV⟩ ((bZ.trans aI).trans fm.ext)
end
end Go.Proofs.YtjbiefneffiogaaGreat
namespace Go.Proofs.YtjbiefneffiogaaGreat
open Go bA
section
variable (c:aY) (ai:List V) (h:aj) (H:eg h c ai) (hw:wt c≤400)
include H hw
theorem R4:bB Tryz.prog 20 [.agg ai] h fun x aa=>x=.int .i64 (sE c)∧Ext h aa:=by
 have rG:=AO hw
 obtain ⟨aN,aP,aw,rfl,cU,dU,cw⟩:=H.open
 refine Uq rfl (bP ?_)
 unfold Lt
 have bZ:Ext h (h.new (.aq [.int .i64 c.k,.int .i64 c.x,.int .i64 c.n,.str c.s,aN,aP,aw] 0 false)):=(Ext.refl h).new _
 have eU:(h.new (.aq [.int .i64 c.k,.int .i64 c.x,.int .i64 c.n,.str c.s,aN,aP,aw] 0 false)).get (ao h.next)=(.aq [.int .i64 c.k,.int .i64 c.x,.int .i64 c.n,.str c.s,aN,aP,aw] 0 false):=gi _
 simp +contextual only [↓ad,af,simprocAttr]
 refine aV (HZ c _ _ (H.ext bZ) hw) ?_
 rintro x ae ⟨rfl,aI⟩
 have ic:=bZ.trans aI
 have dR:ae.get (ao h.next)=(.aq [.int .i64 c.k,.int .i64 c.x,.int .i64 c.n,.str c.s,aN,aP,aw] 0 false):=by rw [aI.get _ (cZ (by rw [cO];omega))];exact eU
 have dE:h.next<ae.next:=by have:=aI.next;rw [cO] at this;omega
 unfold sE
 cases hm:may c7 c with
 | false=>
   simp +contextual only [↓ad,af,simprocAttr]
   exact ic
 | true=>
   have ah:tN c=rising (order c):=by rw [tN,if_pos hm]
   have sO:xC c=rising (free c []):=by rw [xC,if_pos hm]
   simp +contextual only [dR,↓ad,af,simprocAttr]
   refine aV (JK c _ _ (H.ext ic) (pK c hw) (yi hw hm) (by omega)) ?_
   rintro x ak ⟨kZ,bh⟩
   skip
   have k0:ak.get (ao h.next)=(.aq [.int .i64 c.k,.int .i64 c.x,.int .i64 c.n,.str c.s,aN,aP,aw] 0 false):=by rw [bh.get _ (cZ dE)];exact dR
   have e6:h.next<ak.next:=Nat.lt_of_lt_of_le dE bh.next
   have eJ:=kZ.v.len
   simp +contextual only [dR,k0,eJ,↓ad,af,simprocAttr]
   refine aV (R2 c _ _ (H.ext (ic.trans bh)) hw) ?_
   rintro y aC ⟨qf,cp⟩
   rw [ah] at qf
   have oM:aC.get (ao h.next)=(.aq [.int .i64 c.k,.int .i64 c.x,.int .i64 c.n,.str c.s,aN,aP,aw] 0 false):=by rw [cp.get _ (cZ e6)];exact k0
   have m5:=qf.v.len
   have lZ:=(ic.trans bh).trans cp
   by_cases g3:(order c).length=(rising (order c)).length
   · have bF:(((order c).length:Int)=((rising (order c)).length:Int))=True:=eq_true (by omega)
     have sK:((order c).length=(rising (order c)).length)=True:=eq_true g3
     simp +contextual only [dR,k0,oM,eJ,m5,bF,↓ad,af,simprocAttr]
     refine aV (Ss c _ _ (H.ext lZ) hw hm (yi hw hm)) ?_
     rintro z bq ⟨qg,eV⟩
     skip
     have nC:=qg.v.len
     have jZ:=lZ.trans eV
     by_cases av:0 < (rising (free c [])).length
     · have bz:((0:Int) < ((rising (free c [])).length:Int))=True:=eq_true (by omega)
       have vn:(0 < (rising (free c [])).length)=True:=eq_true av
       simp +contextual only [nC,bz,sK,vn,ne_eq,↓ad,af,simprocAttr]
       exact jZ
     · have bz:((0:Int) < ((rising (free c [])).length:Int))=False:=eq_false (by omega)
       have vn:(0 < (rising (free c [])).length)=False:=eq_false av
       simp +contextual only [nC,bz,sK,vn,ne_eq,↓ad,af,simprocAttr]
       exact jZ
   · have bF:(((order c).length:Int)=((rising (order c)).length:Int))=False:=eq_false (by omega)
     have sK:((order c).length=(rising (order c)).length)=False:=eq_false g3
     simp +contextual only [dR,k0,oM,eJ,m5,bF,sK,ne_eq,↓ad,af,simprocAttr]
     exact lZ
theorem aec:bB Tryz.prog 21 [.agg ai] h fun x aa=>x=.int .i64 (sE c)∧Ext h aa:=by
 have rG:=AO hw
 obtain ⟨aN,aP,aw,rfl,cU,dU,cw⟩:=H.open
 refine Ur rfl (bP ?_)
 unfold Lu
 have bZ:Ext h (h.new (.aq [.int .i64 c.k,.int .i64 c.x,.int .i64 c.n,.str c.s,aN,aP,aw] 0 false)):=(Ext.refl h).new _
 have eU:(h.new (.aq [.int .i64 c.k,.int .i64 c.x,.int .i64 c.n,.str c.s,aN,aP,aw] 0 false)).get (ao h.next)=(.aq [.int .i64 c.k,.int .i64 c.x,.int .i64 c.n,.str c.s,aN,aP,aw] 0 false):=gi _
 simp +contextual only [↓ad,af,simprocAttr]
 refine aV (IG c _ _ (H.ext bZ) hw) ?_
 rintro x ae ⟨rfl,aI⟩
 have ic:=bZ.trans aI
 have dR:ae.get (ao h.next)=(.aq [.int .i64 c.k,.int .i64 c.x,.int .i64 c.n,.str c.s,aN,aP,aw] 0 false):=by rw [aI.get _ (cZ (by rw [cO];omega))];exact eU
 have dE:h.next<ae.next:=by have:=aI.next;rw [cO] at this;omega
 unfold sE
 cases hm:may c7 c with
 | false=>
   simp +contextual only [↓ad,af,simprocAttr]
   exact ic
 | true=>
   have ah:tN c=rising (order c):=by rw [tN,if_pos hm]
   have sO:xC c=rising (free c []):=by rw [xC,if_pos hm]
   simp +contextual only [dR,↓ad,af,simprocAttr]
   refine aV (II (size c) c (Nat.le_refl _) (pK c hw) (yi hw hm) _ ae (H.ext ic) ae [] .ay (Ext.refl _) ⟨rfl,rfl⟩ (by simp;omega)) ?_
   rintro x ak fm
   have kZ:=fm.own;rw [List.nil_append] at kZ;have bh:=fm.ext
   have k0:ak.get (ao h.next)=(.aq [.int .i64 c.k,.int .i64 c.x,.int .i64 c.n,.str c.s,aN,aP,aw] 0 false):=by rw [bh.get _ (cZ dE)];exact dR
   have e6:h.next<ak.next:=Nat.lt_of_lt_of_le dE bh.next
   have eJ:=kZ.v.len
   simp +contextual only [dR,k0,eJ,↓ad,af,simprocAttr]
   refine aV (aea c _ _ (H.ext (ic.trans bh)) hw) ?_
   rintro y aC ⟨qf,cp⟩
   rw [ah] at qf
   have oM:aC.get (ao h.next)=(.aq [.int .i64 c.k,.int .i64 c.x,.int .i64 c.n,.str c.s,aN,aP,aw] 0 false):=by rw [cp.get _ (cZ e6)];exact k0
   have m5:=qf.v.len
   have lZ:=(ic.trans bh).trans cp
   by_cases g3:(order c).length=(rising (order c)).length
   · have bF:(((order c).length:Int)=((rising (order c)).length:Int))=True:=eq_true (by omega)
     have sK:((order c).length=(rising (order c)).length)=True:=eq_true g3
     simp +contextual only [dR,k0,oM,eJ,m5,bF,↓ad,af,simprocAttr]
     refine aV (aed c _ _ (H.ext lZ) hw) ?_
     rintro z bq ⟨qg,eV⟩
     rw [sO] at qg
     have nC:=qg.v.len
     have jZ:=lZ.trans eV
     by_cases av:0 < (rising (free c [])).length
     · have bz:((0:Int) < ((rising (free c [])).length:Int))=True:=eq_true (by omega)
       have vn:(0 < (rising (free c [])).length)=True:=eq_true av
       simp +contextual only [nC,bz,sK,vn,ne_eq,↓ad,af,simprocAttr]
       exact jZ
     · have bz:((0:Int) < ((rising (free c [])).length:Int))=False:=eq_false (by omega)
       have vn:(0 < (rising (free c [])).length)=False:=eq_false av
       simp +contextual only [nC,bz,sK,vn,ne_eq,↓ad,af,simprocAttr]
       exact jZ
   · have bF:(((order c).length:Int)=((rising (order c)).length:Int))=False:=eq_false (by omega)
     have sK:((order c).length=(rising (order c)).length)=False:=eq_false g3
     simp +contextual only [dR,k0,oM,eJ,m5,bF,sK,ne_eq,↓ad,af,simprocAttr]
     exact lZ
end
end Go.Proofs.YtjbiefneffiogaaGreat
namespace Go.Proofs.YtjbiefneffiogaaGreat
open Go bA
theorem S_ (k n cf hY:Int) (s ir:List UInt8):(ql Tryz.prog .neq 41).run (.agg [.int .i64 k,.int .i64 n,.str s]) (.agg [.int .i64 cf,.int .i64 hY,.str ir])=
 (match (bif Int.jE k cf then (bif Int.jE n hY then (bif oL s ir then some true else some false) else some false) else some false:Option Bool) with
  | some b=>some (.bool (bif true then !b else b)) | none=>none):=by kernel_rfl
theorem Ta (q:At):(eH.other .neq 41).run Tryz.prog (.agg q.enc) (.agg q.enc)=some (.bool false):=by
 rw [show q.enc=[.int .i64 q.k,.int .i64 q.n,.str q.s] from rfl]
 rw [show (eH.other .neq 41).run Tryz.prog=(ql Tryz.prog .neq 41).run from rfl,S_]
 simp [oQ,ve]
theorem afO (l:List Int) (aN kU:V) (h:aj) (cU:cg h 1 aN l.length (cd l)) (u2:cg h 1 kU l.length (cd l)) (aK:l.length≤4611686018427387904):
 bB Tryz.prog 24 [aN,kU] h fun x aa=>x=.bool true∧aa=h:=by
 refine Ut rfl (bP ?_)
 unfold Lw
 have bW:=cU.len
 have eC:=u2.len
 simp +contextual only [bW,eC,↓ad,af,simprocAttr]
 refine fw (fun r aa=>aa=h∧r 0=aN∧r 1=kU∧∃i:Nat,r 5=.int .i64 i∧i≤l.length) (fun r aa=>l.length - (r 5).gn) ?_ ?_
 · exact ⟨rfl,by simp only [↓ad,bj,simprocAttr],by simp only [↓ad,bj,simprocAttr],0,by simp only [↓ad,bj,simprocAttr]<;>rfl,by omega⟩
 · rintro r aa ⟨rfl,bl,aU,i,e7,aG⟩
   unfold Lx
   by_cases aX:i<l.length
   · have bM:((i:Int) < (l.length:Int))=True:=eq_true (by omega)
     obtain ⟨b,o,b_,cD⟩:=ints_at cU (k:=.i64) aX
     obtain ⟨b1,dP,jf,b9⟩:=ints_at u2 (k:=.i64) aX
     have w:=gq aX aK
     simp +contextual only [bl,aU,e7,bW,bM,b_,cD,jf,b9,w,↓ad,af,simprocAttr]
     exact ⟨⟨i+1,rfl,aX⟩,by omega⟩
   · have bM:((i:Int) < (l.length:Int))=False:=eq_false (by omega)
     simp +contextual only [bl,aU,e7,bW,bM,↓ad,af,simprocAttr]
theorem afN (l:List At) (aN kU:V) (h:aj) (cU:cg h 3 aN l.length (iX l)) (u2:cg h 3 kU l.length (iX l)) (aK:l.length≤4611686018427387904):
 bB Tryz.prog 42 [aN,kU] h fun x aa=>x=.bool true∧aa=h:=by
 refine UB rfl (bP ?_)
 unfold LJ
 have bW:=cU.len
 have eC:=u2.len
 simp +contextual only [bW,eC,↓ad,af,simprocAttr]
 refine fw (fun r aa=>aa=h∧r 0=aN∧r 1=kU∧∃i:Nat,r 5=.int .i64 i∧i≤l.length) (fun r aa=>l.length - (r 5).gn) ?_ ?_
 · exact ⟨rfl,by simp only [↓ad,bj,simprocAttr],by simp only [↓ad,bj,simprocAttr],0,by simp only [↓ad,bj,simprocAttr]<;>rfl,by omega⟩
 · rintro r aa ⟨rfl,bl,aU,i,e7,aG⟩
   unfold LK
   by_cases aX:i<l.length
   · have bM:((i:Int) < (l.length:Int))=True:=eq_true (by omega)
     obtain ⟨b,o,b_,cD,_⟩:=sy cU (k:=.i64) aX
     obtain ⟨b1,dP,jf,b9,_⟩:=sy u2 (k:=.i64) aX
     have w:=gq aX aK
     simp +contextual only [bl,aU,e7,bW,bM,b_,cD,jf,b9,w,Ta,↓ad,af,simprocAttr]
     exact ⟨⟨i+1,rfl,aX⟩,by omega⟩
   · have bM:((i:Int) < (l.length:Int))=False:=eq_false (by omega)
     simp +contextual only [bl,aU,e7,bW,bM,↓ad,af,simprocAttr]
theorem Q4:∀(N:Nat) (c:aY),size c≤N→fit 1048576 c→∀(ai us:List V) (h:aj),eg h c ai→eg h c us→bB Tryz.prog 16 [.agg ai,.agg us] h fun x aa=>x=.bool true∧Ext h aa
 | 0,c,aM,_,_,_,_,_,_=>by have:=size_pos c;omega
 | N+1,c,aM,av,ai,us,h,H,J=>by
   obtain ⟨f1,f2,f3,f4,f5⟩:=av.kids
   have m1:=p' c
   obtain ⟨aN,aP,aw,rfl,cU,dU,cw⟩:=H.open
   obtain ⟨lU,ut,ul,rfl,E1,E2,BT⟩:=J.open
   have kids:∀(aa:aj),Ext h aa→bB Tryz.prog 43 [aw,ul] aa fun x ak=>x=.bool true∧Ext aa ak:=by
    intro g bp
    refine UC rfl (bP ?_)
    unfold LL
    have bW:=(cw.ext bp).len
    have eC:=(BT.ext bp).len
    simp +contextual only [bW,eC,↓ad,af,simprocAttr]
    refine fw (fun r aa=>Ext g aa∧r 0=aw∧r 1=ul∧∃i:Nat,r 5=.int .i64 i∧i≤c.l.length) (fun r aa=>c.l.length - (r 5).gn) ?_ ?_
    · exact ⟨Ext.refl _,by simp only [↓ad,bj,simprocAttr],by simp only [↓ad,bj,simprocAttr],0,by simp only [↓ad,bj,simprocAttr]<;>rfl,by omega⟩
    · rintro r aa ⟨az,bl,aU,i,e7,aG⟩
      unfold LM
      by_cases aX:i<c.l.length
      · have bM:((i:Int) < (c.l.length:Int))=True:=eq_true (by omega)
        obtain ⟨b,o,u,b_,hu,hM⟩:=cw.kF (k:=.i64) aX
        obtain ⟨b1,dP,iQ,jf,fL,s6⟩:=BT.kF (k:=.i64) aX
        have cD:=fun bz e=>(hM bz e).1
        have qM:=fun bz e=>(s6 bz e).1
        have ug:=bp.trans az
        have w:=gq aX (by omega)
        have g1:c.l[i]? =some c.l[i]:=List.getElem?_eq_getElem aX
        have gd:=oq g1
        simp +contextual only [bl,aU,e7,bW,bM,b_,jf,cD aa ug,qM aa ug,↓ad,af,simprocAttr]
        refine aV (Q4 N c.l[i] (by omega) (ns f5 g1) u iQ aa (hu.ext ug) (fL.ext ug)) ?_
        rintro x bz ⟨rfl,bh⟩
        simp +contextual only [bl,aU,e7,w,b_,jf,cD aa ug,qM aa ug,cD bz (ug.trans bh),qM bz (ug.trans bh),↓ad,af,simprocAttr]
        exact ⟨⟨az.trans bh,i+1,rfl,aX⟩,by omega⟩
      · have bM:((i:Int) < (c.l.length:Int))=False:=eq_false (by omega)
        simp +contextual only [bl,aU,e7,bW,bM,↓ad,af,simprocAttr]
        exact az
   refine Un rfl (bP ?_)
   unfold Lm
   have bZ:Ext h ((h.new (.aq [.int .i64 c.k,.int .i64 c.x,.int .i64 c.n,.str c.s,aN,aP,aw] 0 false)).new (.aq [.int .i64 c.k,.int .i64 c.x,.int .i64 c.n,.str c.s,lU,ut,ul] 0 false)):=((Ext.refl h).new _).new _
   have bF:((h.new (.aq [.int .i64 c.k,.int .i64 c.x,.int .i64 c.n,.str c.s,aN,aP,aw] 0 false)).new (.aq [.int .i64 c.k,.int .i64 c.x,.int .i64 c.n,.str c.s,lU,ut,ul] 0 false)).get (ao h.next)=.aq [.int .i64 c.k,.int .i64 c.x,.int .i64 c.n,.str c.s,aN,aP,aw] 0 false:=by
    rw [eB,if_neg (by rw [iH,cO];omega),gi]
   have bz:((h.new (.aq [.int .i64 c.k,.int .i64 c.x,.int .i64 c.n,.str c.s,aN,aP,aw] 0 false)).new (.aq [.int .i64 c.k,.int .i64 c.x,.int .i64 c.n,.str c.s,lU,ut,ul] 0 false)).get (ao (h.next+1))=.aq [.int .i64 c.k,.int .i64 c.x,.int .i64 c.n,.str c.s,lU,ut,ul] 0 false:=by
    rw [eB,if_pos (by rw [cO])]
   have a7:((h.new (.aq [.int .i64 c.k,.int .i64 c.x,.int .i64 c.n,.str c.s,aN,aP,aw] 0 false)).new (.aq [.int .i64 c.k,.int .i64 c.x,.int .i64 c.n,.str c.s,lU,ut,ul] 0 false)).next=h.next+2:=by rw [cO,cO]
   simp +contextual only [↓ad,af,simprocAttr]
   generalize ((h.new (.aq [.int .i64 c.k,.int .i64 c.x,.int .i64 c.n,.str c.s,aN,aP,aw] 0 false)).new (.aq [.int .i64 c.k,.int .i64 c.x,.int .i64 c.n,.str c.s,lU,ut,ul] 0 false))=hS at *
   refine aV (afN c.a aN lU hS (cU.ext bZ) (E1.ext bZ) (by omega)) ?_
   rintro x ae ⟨rfl,rfl⟩
   simp +contextual only [bF,bz,↓ad,af,simprocAttr]
   refine aV (afO c.t aP ut ae (dU.ext bZ) (E2.ext bZ) (by omega)) ?_
   rintro x ak ⟨rfl,rfl⟩
   simp +contextual only [bF,bz,↓ad,af,simprocAttr]
   refine aV (kids ak bZ) ?_
   rintro x aC ⟨rfl,cp⟩
   simp +contextual only [↓ad,af,simprocAttr]
   exact bZ.trans cp
theorem Qx {P:Program} {n:Nat} (h:n≤4611686018427387904):(eH.int .quo).run P (.int .i64 (n:Int)) (.int .i64 100)=some (.int .i64 ((n / 100:Nat):Int)):=by
 simp only [eH.run,lG,v',V.eX]
 rw [show (nq .i64 .i64&&!Int.jE 100 0)=true from rfl,cond_true]
 rw [show (n:Int).tdiv 100=((n / 100:Nat):Int) from by rw [Int.tdiv_eq_ediv_of_nonneg (by omega)];rfl,wrap_i64 (by omega) (by omega)]
theorem J3 {m:Nat}:∀(a:List At),(∀q ∈ a,q.s.length≤m)→qk a≤a.length * (m / 100)
 | [],_=>by simp [qk]
 | q::a,h=>by
   have ae:=J3 a fun p aT=>h p (by simp [aT])
   have ak:=Nat.div_le_div_right (c:=100) (h q (by simp))
   simp only [qk,List.length_cons,Nat.add_mul]
   omega
def own (c:aY):Nat:=1+c.a.length+c.t.length+c.s.length / 100+qk c.a
theorem ahk (c:aY):wt c=own c+iS c.l:=by cases c;rfl
theorem adP {c:aY} (av:fit 1048576 c):own c≤20000000000:=by
 obtain ⟨k,x,n,s,a,t,l⟩:=c
 obtain ⟨ae,ak,aC,bq,dZ,eM⟩:=av
 have c9:=J3 a dZ
 have fK:a.length * (1048576 / 100)≤1048576 * (1048576 / 100):=Nat.mul_le_mul_right _ ak
 simp only [own,aY.a,aY.t,aY.s]
 omega
set_option maxHeartbeats 1000000 in
theorem M8:∀(N:Nat) (c:aY),size c≤N→fit 1048576 c→∀(ai:List V) (h:aj),eg h c ai→∀(m:Nat),m≤1000→
 bB Tryz.prog 39 [.agg ai,.int .i64 m] h fun x aa=>(∃n:Nat,x=.int .i64 n∧n≤m+20000000000∧(wt c≤m→n=wt c)∧(m<wt c→m<n))∧Ext h aa
 | 0,c,aM,_,_,_,_,_,_=>by have:=size_pos c;omega
 | N+1,c,aM,av,ai,h,H,m,hm=>by
   obtain ⟨f1,f2,f3,f4,f5⟩:=av.kids
   have m1:=p' c
   have pU:=adP av
   have aiw:=ahk c
   have Od:∀q ∈ c.a,q.s.length≤1048576:=by cases c;exact av.2.2.2.2.1
   obtain ⟨aN,aP,aw,rfl,cU,dU,cw⟩:=H.open
   refine Ux rfl (bP ?_)
   unfold LB
   have bZ:Ext h (h.new (.aq [.int .i64 c.k,.int .i64 c.x,.int .i64 c.n,.str c.s,aN,aP,aw] 0 false)):=(Ext.refl h).new _
   have eU:(h.new (.aq [.int .i64 c.k,.int .i64 c.x,.int .i64 c.n,.str c.s,aN,aP,aw] 0 false)).get (ao h.next)=.aq [.int .i64 c.k,.int .i64 c.x,.int .i64 c.n,.str c.s,aN,aP,aw] 0 false:=gi _
   have HM:=(cU.ext bZ).len
   have lt:=(dU.ext bZ).len
   have Df:=(cw.ext bZ).len
   have dL:IntKind.i64.wrap (1 + (c.a.length:Int))=((1+c.a.length:Nat):Int):=by rw [wrap_i64 (by omega) (by omega)];push_cast;rfl
   have dw:=wrap_add (a:=1+c.a.length) (b:=c.t.length) (by omega)
   have hF:=wrap_add (a:=1+c.a.length+c.t.length) (b:=c.s.length / 100) (by omega)
   have aQ:=Qx (P:=Tryz.prog) (n:=c.s.length) (by omega)
   have dE:h.next < (h.new (.aq [.int .i64 c.k,.int .i64 c.x,.int .i64 c.n,.str c.s,aN,aP,aw] 0 false)).next:=by rw [cO];omega
   simp +contextual only [HM,lt,Df,dL,dw,hF,aQ,↓ad,af,simprocAttr]
   generalize h.new (.aq [.int .i64 c.k,.int .i64 c.x,.int .i64 c.n,.str c.s,aN,aP,aw] 0 false)=hS at *
   refine fw (fun r aa=>aa=hS∧r 1=.int .i64 m∧r 2=.ptr (ao h.next) 0∧∃(i n:Nat),r 6=.int .i64 i∧i≤c.a.length∧r 5=.int .i64 n∧n+qk (c.a.drop i)=own c) (fun r aa=>c.a.length - (r 6).gn) ?_ ?_
   · exact ⟨rfl,by simp only [↓ad,bj,simprocAttr],by simp only [↓ad,bj,simprocAttr],0,1+c.a.length+c.t.length+c.s.length / 100,by simp only [↓ad,bj,simprocAttr]<;>rfl,by omega,by simp only [↓ad,bj,simprocAttr],by rw [List.drop_zero];rfl⟩
   · rintro r aa ⟨rfl,aU,bm,i,n,mu,aG,e7,a7⟩
     unfold LC
     by_cases aX:i<c.a.length
     · have bM:((i:Int) < (c.a.length:Int))=True:=eq_true (by omega)
       obtain ⟨b,o,b_,gl,cD⟩:=sy (cU.ext bZ) (k:=.i64) aX
       have eJ:=cD 2 (by omega)
       have gD:=gq aX (by omega)
       rw [List.drop_eq_getElem_cons aX,qk] at a7
       have air:=Od _ (List.getElem_mem aX)
       generalize c.a[i]=q at *
       rw [show q.enc[2]? =some (.str q.s) from rfl] at eJ
       have aB:=Qx (P:=Tryz.prog) (n:=q.s.length) (by omega)
       have h2:=wrap_add (a:=n) (b:=q.s.length / 100) (by omega)
       simp +contextual only [aU,bm,e7,mu,eU,HM,bM,b_,eJ,aB,h2,gD,↓ad,af,simprocAttr]
       exact ⟨⟨i+1,n+q.s.length / 100,rfl,aX,rfl,by omega⟩,by omega⟩
     · have bM:((i:Int) < (c.a.length:Int))=False:=eq_false (by omega)
       rw [List.drop_eq_nil_of_le (by omega),qk] at a7
       obtain rfl:n=own c:=by omega
       simp +contextual only [aU,bm,e7,mu,eU,HM,bM,↓ad,af,simprocAttr]
       refine fw (fun r ak=>Ext aa ak∧r 1=.int .i64 m∧r 2=.ptr (ao h.next) 0∧∃(i n:Nat),r 7=.int .i64 i∧i≤c.l.length∧r 5=.int .i64 n∧n≤m+20000000000∧(wt c≤m→n+iS (c.l.drop i)=wt c)∧(m<wt c→m<n+iS (c.l.drop i))) (fun r aa=>c.l.length - (r 7).gn) ?_ ?_
       · exact ⟨Ext.refl _,by simp only [aU,↓ad,bj,simprocAttr],by simp only [bm,↓ad,bj,simprocAttr],0,own c,by simp only [↓ad,bj,simprocAttr]<;>rfl,by omega,by simp only [e7,↓ad,bj,simprocAttr],by omega,fun _=>by rw [List.drop_zero];omega,fun _=>by rw [List.drop_zero];omega⟩
       · clear aU bm e7 mu
         rintro r ak ⟨az,aU,bm,i,n,fr,aG,e7,kL,mZ,mf⟩
         unfold LD
         have dR:ak.get (ao h.next)=.aq [.int .i64 c.k,.int .i64 c.x,.int .i64 c.n,.str c.s,aN,aP,aw] 0 false:=by rw [az.get _ (cZ dE)];exact eU
         by_cases aX:i<c.l.length
         · have bM:((i:Int) < (c.l.length:Int))=True:=eq_true (by omega)
           by_cases hle:n≤m
           · have bF:((n:Int)≤(m:Int))=True:=eq_true (by omega)
             obtain ⟨b,o,u,b_,hu,hM⟩:=cw.kF (k:=.i64) aX
             have cD:=(hM ak (bZ.trans az)).1
             have g1:c.l[i]? =some c.l[i]:=List.getElem?_eq_getElem aX
             have gd:=oq g1
             have gD:=gq aX (by omega)
             have ws:IntKind.i64.wrap ((m:Int) - (n:Int))=((m-n:Nat):Int):=by rw [wrap_i64 (by omega) (by omega)];omega
             rw [List.drop_eq_getElem_cons aX,iS] at mZ mf
             simp +contextual only [aU,bm,e7,fr,dR,Df,bM,bF,b_,cD,ws,↓ad,af,simprocAttr]
             refine aV (M8 N c.l[i] (by omega) (ns f5 g1) u ak (hu.ext (bZ.trans az)) (m-n) (by omega)) ?_
             rintro x aC ⟨⟨hY,rfl,ca,b',cE⟩,cp⟩
             have h2:=wrap_add (a:=n) (b:=hY) (by omega)
             simp +contextual only [aU,bm,e7,fr,h2,gD,↓ad,af,simprocAttr]
             refine ⟨⟨az.trans cp,i+1,n+hY,rfl,aX,rfl,by omega,fun q=>?_,fun q=>?_⟩,by omega⟩
             · have:=mZ q
               have:=b' (by omega)
               omega
             · have:=mf q
               by_cases aD:wt c.l[i]≤m-n
               · have:=b' aD;omega
               · have:=cE (by omega);omega
           · have bF:((n:Int)≤(m:Int))=False:=eq_false (by omega)
             simp +contextual only [aU,bm,e7,fr,dR,Df,bM,bF,↓ad,af,simprocAttr]
             exact ⟨⟨n,rfl,kL,fun q=>by have:=mZ q;omega,fun q=>by omega⟩,bZ.trans az⟩
         · have bM:((i:Int) < (c.l.length:Int))=False:=eq_false (by omega)
           rw [List.drop_eq_nil_of_le (by omega),iS] at mZ mf
           simp +contextual only [aU,bm,e7,fr,dR,Df,bM,↓ad,af,simprocAttr]
           exact ⟨⟨n,rfl,kL,fun q=>by have:=mZ q;omega,fun q=>by have:=mf q;omega⟩,bZ.trans az⟩
theorem abZ (c:aY) (av:fit 1048576 c) (ai:List V) (h:aj) (H:eg h c ai):bB Tryz.prog 10 [.agg ai,.int .i64 400] h fun x aa=>x=.bool (decide (400<wt c))∧Ext h aa:=by
 obtain ⟨aN,aP,aw,rfl,cU,dU,cw⟩:=H.open
 refine TM rfl (bP ?_)
 unfold B'
 have bZ:Ext h (h.new (.aq [.int .i64 c.k,.int .i64 c.x,.int .i64 c.n,.str c.s,aN,aP,aw] 0 false)):=(Ext.refl h).new _
 simp +contextual only [↓ad,af,simprocAttr]
 refine aV (M8 (size c) c (Nat.le_refl _) av _ _ (H.ext bZ) 400 (by omega)) ?_
 rintro x ae ⟨⟨n,rfl,ca,b',cE⟩,aI⟩
 by_cases hw:400<wt c
 · have a7:=cE hw
   have g:((400:Int) < (n:Int))=True:=eq_true (by omega)
   have eI:=eq_true hw
   simp +contextual only [g,eI,↓ad,af,simprocAttr]
   exact bZ.trans aI
 · have a7:=b' (by omega)
   have g:((400:Int) < (n:Int))=False:=eq_false (by omega)
   have eI:=eq_false hw
   simp +contextual only [g,eI,↓ad,af,simprocAttr]
   exact bZ.trans aI
inductive q4 (F:a6→Prop) (h:aj):aY→List V→Prop
 | mk {k x n:Int} {s:List UInt8} {a:List At} {t:List Int} {l:List aY} {aN aP aw:V} {us:List (List V)} (bU:cg h 3 aN a.length (iX a)) (aJ:cg h 1 aP t.length (cd t))
   (bd:A1 aw) (aK:cg h 7 aw l.length us.flatten) (hu:us.length=l.length) (kids:∀(i:Nat) (c:aY) (u:List V),l[i]? =some c→us[i]? =some u→q4 F h c u)
   (c2:∀b,aN.bb b→F b) (gx:∀b,aP.bb b→F b) (cC:∀b,aw.bb b→F b):
   q4 F h (.mk k x n s a t l) [.int .i64 k,.int .i64 x,.int .i64 n,.str s,aN,aP,aw]
theorem q4.co {F:a6→Prop} {h:aj} {c:aY} {ai:List V} (H:q4 F h c ai):eg h c ai:=by
 induction H with
 | mk bU aJ bd aK hu kids c2 gx cC bN=>exact .mk bU aJ bd aK hu bN
theorem q4.mod {F iy M:a6→Prop} {h aa:aj} (m:Mod M h aa) (eC:∀b,F b→Old h b→¬M b∧iy b) {c:aY} {ai:List V} (H:q4 F h c ai):q4 iy aa c ai:=by
 induction H with
 | mk bU aJ bd aK hu kids c2 gx cC bN=>
   exact .mk (bU.mod m fun b q=>(eC b (c2 b q) (bU.b6 q)).1) (aJ.mod m fun b q=>(eC b (gx b q) (aJ.b6 q)).1) bd (aK.mod m fun b q=>(eC b (cC b q) (aK.b6 q)).1) hu bN
    (fun b q=>(eC b (c2 b q) (bU.b6 q)).2) (fun b q=>(eC b (gx b q) (aJ.b6 q)).2) (fun b q=>(eC b (cC b q) (aK.b6 q)).2)
theorem J7:∀l:List At,gh (iX l)=true
 | []=>rfl
 | a::l=>by rw [iX];exact PZ rfl (J7 l)
theorem WN (us:List (List V)) (u:List V):(us++[u]).flatten=us.flatten++u:=by simp
theorem aeK {B:Nat} {h:aj} {size n:Nat} {v:V} {ai:List V} (H:cm B h size v n ai):A1 v:=by
 intro b off l c e
 exact cg.MS H b off l c e
set_option maxHeartbeats 2000000 in
theorem M7:∀(N:Nat) (c:aY),size c≤N→fit 1048576 c→∀(ai:List V) (h:aj),eg h c ai→
 bB Tryz.prog 12 [.agg ai] h fun x aa=>∃us,x=.agg us∧q4 (fun b=>h.next≤cu b) aa c us∧Ext h aa
 | 0,c,aM,_,_,_,_=>by have:=size_pos c;omega
 | N+1,c,aM,av,ai,h,H=>by
   obtain ⟨f1,f2,f3,f4,f5⟩:=av.kids
   have m1:=p' c
   obtain ⟨aN,aP,aw,rfl,cU,dU,cw⟩:=H.open
   refine T3 rfl (bP ?_)
   unfold KO
   have aI:Ext h ((h.new (.aq [.int .i64 c.k,.int .i64 c.x,.int .i64 c.n,.str c.s,aN,aP,aw] 0 false)).new (.aq [.int .i64 0,.int .i64 0,.int .i64 0,.str [],.ay,.ay,.ay] 0 false)):=((Ext.refl h).new _).new _
   have bF:((h.new (.aq [.int .i64 c.k,.int .i64 c.x,.int .i64 c.n,.str c.s,aN,aP,aw] 0 false)).new (.aq [.int .i64 0,.int .i64 0,.int .i64 0,.str [],.ay,.ay,.ay] 0 false)).get (ao h.next)=.aq [.int .i64 c.k,.int .i64 c.x,.int .i64 c.n,.str c.s,aN,aP,aw] 0 false:=by
    rw [eB,if_neg (by rw [iH,cO];omega),gi]
   have ff:((h.new (.aq [.int .i64 c.k,.int .i64 c.x,.int .i64 c.n,.str c.s,aN,aP,aw] 0 false)).new (.aq [.int .i64 0,.int .i64 0,.int .i64 0,.str [],.ay,.ay,.ay] 0 false)).get (ao (h.next+1))=.aq [.int .i64 0,.int .i64 0,.int .i64 0,.str [],.ay,.ay,.ay] 0 false:=by
    rw [eB,if_pos (by rw [cO])]
   have dE:((h.new (.aq [.int .i64 c.k,.int .i64 c.x,.int .i64 c.n,.str c.s,aN,aP,aw] 0 false)).new (.aq [.int .i64 0,.int .i64 0,.int .i64 0,.str [],.ay,.ay,.ay] 0 false)).next=h.next+2:=by rw [cO,cO]
   simp +contextual only [↓ad,af,simprocAttr]
   generalize ((h.new (.aq [.int .i64 c.k,.int .i64 c.x,.int .i64 c.n,.str c.s,aN,aP,aw] 0 false)).new (.aq [.int .i64 0,.int .i64 0,.int .i64 0,.str [],.ay,.ay,.ay] 0 false))=H1 at *
   have s1:Ext H1 (H1.new (.aq [] 0 false)):=(Ext.refl H1).new _
   obtain ⟨fl,ak,ca,b',cE,fR⟩:=sw (B:=h.next+2) (size:=3) (by omega) (cm.empty (h:=H1) 3 (by omega)) ((cU.ext aI).ext s1) (by rw [cO];omega) (by unfold top;omega) (J7 c.a)
   have bh:Ext H1 ak:=s1.lf cE (fun b ah=>by
    have:b=ao H1.next:=ah
    rw [this,cS];exact Nat.le_refl _)
   rw [dE] at ca
   rw [List.nil_append,Nat.zero_add] at b'
   have mf:=bh.next
   have bz:ak.get (ao h.next)=.aq [.int .i64 c.k,.int .i64 c.x,.int .i64 c.n,.str c.s,aN,aP,aw] 0 false:=by rw [bh.get _ (cZ (by omega))];exact bF
   have e9:ak.get (ao (h.next+1))=.aq [.int .i64 0,.int .i64 0,.int .i64 0,.str [],.ay,.ay,.ay] 0 false:=by rw [bh.get _ (cZ (by omega))];exact ff
   have dz:=b'.v.one
   have Ax:(ak.next=h.next)=False:=eq_false (by omega)
   simp +contextual only [bF,ca,bz,Ax,dz.1,dz.2.1,↓ad,af,simprocAttr]
   have cB:Mod (fun b=>b=ao h.next) ak (ak.set (ao h.next) (.aq [.int .i64 c.k,.int .i64 c.x,.int .i64 c.n,.str c.s,fl,aP,aw] 0 false)):=(Mod.refl (fun b=>b=ao h.next) ak).set (fun _=>rfl) _
   have eP:Ext h (ak.set (ao h.next) (.aq [.int .i64 c.k,.int .i64 c.x,.int .i64 c.n,.str c.s,fl,aP,aw] 0 false)):=(aI.trans bh).lf cB (fun b ah=>by rw [ah,cS];exact Nat.le_refl _)
   have nM:cm (h.next+2) (ak.set (ao h.next) (.aq [.int .i64 c.k,.int .i64 c.x,.int .i64 c.n,.str c.s,fl,aP,aw] 0 false)) 3 fl c.a.length (iX c.a):=b'.mod cB (fun b q e=>by have:=b'.base q;rw [e,cS] at this;omega)
   have fm:(ak.set (ao h.next) (.aq [.int .i64 c.k,.int .i64 c.x,.int .i64 c.n,.str c.s,fl,aP,aw] 0 false)).get (ao h.next)=.aq [.int .i64 c.k,.int .i64 c.x,.int .i64 c.n,.str c.s,fl,aP,aw] 0 false:=by rw [du,if_pos rfl]
   have Sz:(ak.set (ao h.next) (.aq [.int .i64 c.k,.int .i64 c.x,.int .i64 c.n,.str c.s,fl,aP,aw] 0 false)).get (ao (h.next+1))=.aq [.int .i64 0,.int .i64 0,.int .i64 0,.str [],.ay,.ay,.ay] 0 false:=by rw [du,if_neg (by rw [iH];omega)];exact e9
   have Sh:h.next+2≤(ak.set (ao h.next) (.aq [.int .i64 c.k,.int .i64 c.x,.int .i64 c.n,.str c.s,fl,aP,aw] 0 false)).next:=by rw [gU];omega
   have Si:(ak.set (ao h.next) (.aq [.int .i64 c.k,.int .i64 c.x,.int .i64 c.n,.str c.s,fl,aP,aw] 0 false)).next=ak.next:=gU _ _ _
   generalize (ak.set (ao h.next) (.aq [.int .i64 c.k,.int .i64 c.x,.int .i64 c.n,.str c.s,fl,aP,aw] 0 false))=eb at *
   clear b' cB
   have s2:Ext eb (eb.new (.aq [] 0 false)):=(Ext.refl eb).new _
   obtain ⟨gK,aC,aQ,aB,a',cn⟩:=sw (B:=eb.next) (size:=1) (by omega) (cm.empty (h:=eb) 1 (by omega)) ((dU.ext eP).ext s2) (by rw [cO];omega) (by unfold top;omega) (uv c.t)
   have cp:Ext eb aC:=s2.lf a' (fun b ah=>by
    have:b=ao eb.next:=ah
    rw [this,cS];exact Nat.le_refl _)
   rw [List.nil_append,Nat.zero_add] at aB
   rw [Si] at aQ
   have Ot:=cp.next
   have cL:aC.get (ao h.next)=.aq [.int .i64 c.k,.int .i64 c.x,.int .i64 c.n,.str c.s,fl,aP,aw] 0 false:=by rw [cp.get _ (cZ (by omega))];exact fm
   have z3:aC.get (ao (h.next+1))=.aq [.int .i64 0,.int .i64 0,.int .i64 0,.str [],.ay,.ay,.ay] 0 false:=by rw [cp.get _ (cZ (by omega))];exact Sz
   have fi:=aB.v.one
   simp +contextual only [fm,aQ,cL,fi.1,fi.2.1,↓ad,af,simprocAttr]
   have fX:Mod (fun b=>b=ao h.next) aC ((aC.set (ao h.next) (.aq [.int .i64 c.k,.int .i64 c.x,.int .i64 c.n,.str c.s,fl,gK,aw] 0 false)).set (ao h.next) (.aq [.int .i64 c.k,.int .i64 c.x,.int .i64 c.n,.str c.s,fl,gK,.ay] 0 false)):=((Mod.refl (fun b=>b=ao h.next) aC).set (fun _=>rfl) _).set (fun _=>rfl) _
   have lZ:Ext h ((aC.set (ao h.next) (.aq [.int .i64 c.k,.int .i64 c.x,.int .i64 c.n,.str c.s,fl,gK,aw] 0 false)).set (ao h.next) (.aq [.int .i64 c.k,.int .i64 c.x,.int .i64 c.n,.str c.s,fl,gK,.ay] 0 false)):=(eP.trans cp).lf fX (fun b ah=>by rw [ah,cS];exact Nat.le_refl _)
   have nN:cm (h.next+2) ((aC.set (ao h.next) (.aq [.int .i64 c.k,.int .i64 c.x,.int .i64 c.n,.str c.s,fl,gK,aw] 0 false)).set (ao h.next) (.aq [.int .i64 c.k,.int .i64 c.x,.int .i64 c.n,.str c.s,fl,gK,.ay] 0 false)) 3 fl c.a.length (iX c.a):=(nM.ext cp).mod fX (fun b q e=>by have:=nM.base q;rw [e,cS] at this;omega)
   have pz:cm (h.next+2) ((aC.set (ao h.next) (.aq [.int .i64 c.k,.int .i64 c.x,.int .i64 c.n,.str c.s,fl,gK,aw] 0 false)).set (ao h.next) (.aq [.int .i64 c.k,.int .i64 c.x,.int .i64 c.n,.str c.s,fl,gK,.ay] 0 false)) 1 gK c.t.length (cd c.t):=(aB.mono Sh).mod fX (fun b q e=>by have:=aB.base q;rw [e,cS] at this;omega)
   have hc:((aC.set (ao h.next) (.aq [.int .i64 c.k,.int .i64 c.x,.int .i64 c.n,.str c.s,fl,gK,aw] 0 false)).set (ao h.next) (.aq [.int .i64 c.k,.int .i64 c.x,.int .i64 c.n,.str c.s,fl,gK,.ay] 0 false)).get (ao h.next)=(.aq [.int .i64 c.k,.int .i64 c.x,.int .i64 c.n,.str c.s,fl,gK,.ay] 0 false):=by rw [du,if_pos rfl]
   have JR:((aC.set (ao h.next) (.aq [.int .i64 c.k,.int .i64 c.x,.int .i64 c.n,.str c.s,fl,gK,aw] 0 false)).set (ao h.next) (.aq [.int .i64 c.k,.int .i64 c.x,.int .i64 c.n,.str c.s,fl,gK,.ay] 0 false)).get (ao (h.next+1))=.aq [.int .i64 0,.int .i64 0,.int .i64 0,.str [],.ay,.ay,.ay] 0 false:=by rw [du,if_neg (by rw [iH];omega),du,if_neg (by rw [iH];omega)];exact z3
   have JJ:h.next+2≤((aC.set (ao h.next) (.aq [.int .i64 c.k,.int .i64 c.x,.int .i64 c.n,.str c.s,fl,gK,aw] 0 false)).set (ao h.next) (.aq [.int .i64 c.k,.int .i64 c.x,.int .i64 c.n,.str c.s,fl,gK,.ay] 0 false)).next:=by rw [gU,gU];omega
   generalize ((aC.set (ao h.next) (.aq [.int .i64 c.k,.int .i64 c.x,.int .i64 c.n,.str c.s,fl,gK,aw] 0 false)).set (ao h.next) (.aq [.int .i64 c.k,.int .i64 c.x,.int .i64 c.n,.str c.s,fl,gK,.ay] 0 false))=ahG at *
   refine fw (fun r g=>r 1=.ptr (ao h.next) 0∧r 2=.ptr (ao (h.next+1)) 0∧r 3=aw∧∃(i:Nat) (w:V) (us:List (List V)),r 4=.int .i64 i∧i≤c.l.length∧Ext h g∧h.next+2≤g.next∧g.get (ao h.next)=(.aq [.int .i64 c.k,.int .i64 c.x,.int .i64 c.n,.str c.s,fl,gK,w] 0 false)∧g.get (ao (h.next+1))=.aq [.int .i64 0,.int .i64 0,.int .i64 0,.str [],.ay,.ay,.ay] 0 false∧
    cm (h.next+2) g 3 fl c.a.length (iX c.a)∧cm (h.next+2) g 1 gK c.t.length (cd c.t)∧(∀b,fl.bb b∨gK.bb b→¬w.bb b)∧us.length=i∧cm (h.next+2) g 7 w i us.flatten∧
    ∀(j:Nat) (d:aY) (u:List V),j<i→c.l[j]? =some d→us[j]? =some u→q4 (fun b=>h.next+2≤cu b∧¬w.bb b) g d u) (fun r aa=>c.l.length - (r 4).gn) ?_ ?_
   · exact ⟨by simp only [↓ad,bj,simprocAttr],by simp only [↓ad,bj,simprocAttr],by simp only [↓ad,bj,simprocAttr],0,.ay,[],by simp only [↓ad,bj,simprocAttr]<;>rfl,by omega,lZ,JJ,hc,JR,nN,pz,fun b _ q=>q.elim,rfl,⟨rfl,rfl⟩,fun j d u bS=>by omega⟩
   · clear hc JR nN pz lZ JJ fX
     rintro r g ⟨aU,bm,cj,i,w,us,c0,aG,E,a7,hD,NW,xd,xe,xM,CZ,so,Oj⟩
     unfold KZ
     have bW:=(cw.ext E).len
     by_cases aX:i<c.l.length
     · have bM:((i:Int) < (c.l.length:Int))=True:=eq_true (by omega)
       obtain ⟨b,o,u,b_,hu,hM⟩:=cw.kF (k:=.i64) aX
       have cD:=fun bz e=>(hM bz e).1
       have g1:c.l[i]? =some c.l[i]:=List.getElem?_eq_getElem aX
       have gd:=oq g1
       have gD:=gq aX (by omega)
       simp +contextual only [aU,bm,cj,c0,bW,bM,hD,b_,cD g E,↓ad,af,simprocAttr]
       refine aV (M7 N c.l[i] (by omega) (ns f5 g1) u g (hu.ext E)) ?_
       rintro x bz ⟨iQ,rfl,Ju,bh⟩
       obtain ⟨c2,gx,cC,Hk,nc,nd,l1⟩:=Ju.co.open
       have bD:gh iQ=true:=by rw [Hk];simp only [gh,nc.one.1,nd.one.1,l1.one.1,Bool.and_self,show ∀(k:IntKind) (n:Int),V.one (.int k n)=true from fun _ _=>rfl,show ∀s,V.one (.str s)=true from fun _=>rfl]
       have Ze:iQ.length=7:=by rw [Hk];rfl
       have mf:=bh.next
       have t':bz.get (ao h.next)=(.aq [.int .i64 c.k,.int .i64 c.x,.int .i64 c.n,.str c.s,fl,gK,w] 0 false):=by rw [bh.get _ (cZ (by omega))];exact hD
       have Xn:bz.get (ao (h.next+1))=.aq [.int .i64 0,.int .i64 0,.int .i64 0,.str [],.ay,.ay,.ay] 0 false:=by rw [bh.get _ (cZ (by omega))];exact NW
       have Sn:=so.ext bh
       obtain ⟨aW,cL,bw,b3,a3,a4,a5⟩:=iW (cs:=iQ) (by omega) Sn (by omega) (by unfold top;omega) Ze bD
       have dm:=b3.v.one
       have bold:∀b,w.bb b→cu b<g.next:=fun b q=>so.v.b6 q
       have Te:¬w.bb (ao h.next):=fun q=>by have:=so.base q;rw [cS] at this;omega
       have Tf:¬w.bb (ao (h.next+1)):=fun q=>by have:=so.base q;rw [cS] at this;omega
       have W0:cL.get (ao h.next)=(.aq [.int .i64 c.k,.int .i64 c.x,.int .i64 c.n,.str c.s,fl,gK,w] 0 false):=by rw [a3.get _ (cZ (by omega)) Te];exact t'
       have Xo:cL.get (ao (h.next+1))=.aq [.int .i64 0,.int .i64 0,.int .i64 0,.str [],.ay,.ay,.ay] 0 false:=by rw [a3.get _ (cZ (by omega)) Tf];exact Xn
       have ob:Mod (fun b=>b=ao h.next∨w.bb b) bz (cL.set (ao h.next) (.aq [.int .i64 c.k,.int .i64 c.x,.int .i64 c.n,.str c.s,fl,gK,aW] 0 false)):=(a3.mono fun b _ q=>.inr q).set (fun _=>.inl rfl) _
       have fY:Mod (fun b=>b=ao h.next) cL (cL.set (ao h.next) (.aq [.int .i64 c.k,.int .i64 c.x,.int .i64 c.n,.str c.s,fl,gK,aW] 0 false)):=(Mod.refl (fun b=>b=ao h.next) cL).set (fun _=>rfl) _
       have Dm:Mod (fun b=>b=ao h.next∨w.bb b) g (cL.set (ao h.next) (.aq [.int .i64 c.k,.int .i64 c.x,.int .i64 c.n,.str c.s,fl,gK,aW] 0 false)):=(bh.mod _).trans ob
       have jZ:Ext h (cL.set (ao h.next) (.aq [.int .i64 c.k,.int .i64 c.x,.int .i64 c.n,.str c.s,fl,gK,aW] 0 false)):=E.lf Dm (fun b q=>by
        rcases q with q | q
        · rw [q,cS];exact Nat.le_refl _
        · have:=so.base q;omega)
       have Ni:Ext bz (bz.new (.aq iQ 0 false)):=(Ext.refl bz).new _
       have W1:(bz.new (.aq iQ 0 false)).get (ao h.next)=(.aq [.int .i64 c.k,.int .i64 c.x,.int .i64 c.n,.str c.s,fl,gK,w] 0 false):=by rw [Ni.get _ (cZ (by omega))];exact t'
       have aiE:=cD _ ((E.trans bh).trans Ni)
       subst Hk
       simp +contextual only [aU,bm,cj,c0,bW,hD,b_,cD g E,cD bz (E.trans bh),t',W0,W1,bw,dm.1,dm.2.1,nc.one.1,nd.one.1,l1.one.1,gD,↓ad,af,simprocAttr]
       have Jf:∀b,cu b<bz.next→¬w.bb b→¬aW.bb b:=fun b aQ aB q=>by
        rcases a5 b q with q | q
        · exact aB q
        · omega
       have SA:=b3.mod fY (fun b q e=>by have:=b3.base q;rw [e,cS] at this;omega)
       refine ⟨⟨i+1,aW,us++[[.int .i64 c.l[i].k,.int .i64 c.l[i].x,.int .i64 c.l[i].n,.str c.l[i].s,c2,gx,cC]],rfl,aX,jZ,by omega,rfl,Xo,?_,?_,?_,by simp [CZ],?_,?_⟩,by omega⟩
       · exact xd.mod Dm (fun b q e=>by
          rcases e with e | e
          · have:=xd.base q;rw [e,cS] at this;omega
          · exact xM b (.inl q) e)
       · exact xe.mod Dm (fun b q e=>by
          rcases e with e | e
          · have:=xe.base q;rw [e,cS] at this;omega
          · exact xM b (.inr q) e)
       · intro b q
         have:cu b<g.next:=by
          rcases q with q | q
          · exact xd.v.b6 q
          · exact xe.v.b6 q
         exact Jf b (by omega) (xM b q)
       · rw [WN];exact SA
       · intro j d v bS aQ aB
         by_cases GJ:j<i
         · rw [List.getElem?_append_left (by omega)] at aB
           refine (Oj j d v GJ aQ aB).mod Dm (fun b f o=>⟨fun e=>?_,f.1,Jf b (by unfold Old at o;omega) f.2⟩)
           rcases e with e | e
           · have:=f.1;rw [e,cS] at this;omega
           · exact f.2 e
         · obtain rfl:j=i:=by omega
           rw [List.getElem?_append_right (by omega),CZ,Nat.sub_self] at aB
           simp only [List.getElem?_cons_zero,Option.some.injEq] at aB
           rw [g1] at aQ
           cases aQ
           subst aB
           refine Ju.mod ob (fun b f o=>⟨fun e=>?_,by omega,Jf b (by unfold Old at o;omega) (fun q=>by have:=bold b q;omega)⟩)
           rcases e with e | e
           · rw [e,cS] at f;omega
           · have:=bold b e;omega
     · have bM:((i:Int) < (c.l.length:Int))=False:=eq_false (by omega)
       obtain rfl:i=c.l.length:=by omega
       have iE:=xd.v.one
       have iG:=xe.v.one
       have dm:=so.v.one
       simp +contextual only [aU,bm,cj,c0,bW,bM,hD,NW,iE.1,iG.1,dm.1,↓ad,af,simprocAttr]
       have x7:Mod (fun b=>b=ao (h.next+1)) g (g.set (ao (h.next+1)) (.aq [.int .i64 c.k,.int .i64 c.x,.int .i64 c.n,.str c.s,fl,gK,w] 0 false)):=(Mod.refl (fun b=>b=ao (h.next+1)) g).set (fun _=>rfl) _
       refine ⟨_,rfl,?_,E.lf x7 (fun b q=>by rw [q,cS];omega)⟩
       have key:q4 (fun b=>h.next+2≤cu b) g (.mk c.k c.x c.n c.s c.a c.t c.l) [.int .i64 c.k,.int .i64 c.x,.int .i64 c.n,.str c.s,fl,gK,w]:=by
        refine .mk xd.v xe.v (aeK so) so.v CZ (fun j d u aQ aB=>?_) (fun b q=>xd.base q) (fun b q=>xe.base q) (fun b q=>so.base q)
        exact (Oj j d u (List.getElem?_eq_some_iff.1 aQ).1 aQ aB).mod (Mod.refl (fun _=>False) g) (fun b f o=>⟨fun q=>q,f.1⟩)
       have aa6:=key.mod (iy:=fun b=>h.next≤cu b) x7 (fun b f o=>⟨fun e=>by rw [e,cS] at f;omega,by omega⟩)
       cases c
       exact aa6
theorem A9:∀{ms:List Nat},(∀(i k:Nat),ms[i]? =some k→1≤k)→ms.length≤ms.sum
 | [],_=>Nat.le_refl _
 | m::ms,h=>by
   have al:=h 0 m rfl
   have:=A9 (ms:=ms) fun i k q=>h (i+1) k (by simpa using q)
   simp only [List.length_cons,List.sum_cons]
   omega
theorem I2:∀{ms:List Nat} {i k:Nat},ms[i]? =some k→k≤ms.sum
 | [],_,_,h=>by simp at h
 | m::ms,0,k,h=>by simp only [List.getElem?_cons_zero,Option.some.injEq] at h;subst h;simp only [List.sum_cons];omega
 | m::ms,i+1,k,h=>by
   have:=I2 (ms:=ms) (i:=i) (k:=k) (by simpa using h)
   simp only [List.sum_cons];omega
theorem FG:Tryz.prog.cellsOf 41=3:=by kernel_rfl
theorem FF:Tryz.prog.cellsOf 26=7:=by kernel_rfl
theorem Vz:Tryz.prog.cellsOf 22=1:=by kernel_rfl
theorem VA:Tryz.prog.cellsOf 23=1:=by kernel_rfl
theorem VB:Tryz.prog.cellsOf 24=1:=by kernel_rfl
theorem Ca:Tryz.prog.cellsOf 3=1:=by kernel_rfl
theorem MV:Tryz.prog.cellsOf 9=1:=by kernel_rfl
theorem J6:∀l:List At,l.flatMap At.enc=iX l
 | []=>rfl
 | a::l=>by rw [List.flatMap_cons,J6 l];rfl
theorem O0:∀l:List Int,l.flatMap (fun i=>[V.int .i64 i])=cd l
 | []=>rfl
 | a::l=>by rw [List.flatMap_cons,O0 l];rfl
set_option maxRecDepth 10000 in
theorem adx {h:aj} {n m:Nat} {ai:List V} (H:er Tryz.prog h n m 41 ai):∃a:At,ai=a.enc∧a.s.length≤m:=by
 obtain ⟨hY,rfl,aK,ms,ae,ak,aC⟩:=H.struct Tryz.underlying41
 rw [FG] at aK
 match ai,aK with
 | [v0,v1,v2],_=>
   have dN:ms.length=3:=ae
   clear ae
   match ms,dN with
   | [HU,uC,x6],_=>
     have f0:=(aC 0 _ _ rfl rfl).2
     have f1:=(aC 1 _ _ rfl rfl).2
     have f2:=(aC 2 _ _ rfl rfl).2
     simp only [Ca,MV] at f0 f1 f2
     obtain ⟨i0,bZ,_⟩:=f0.int Tryz.underlying3
     obtain ⟨i1,aI,_⟩:=f1.int Tryz.underlying3
     obtain ⟨s,bh,aM⟩:=f2.str Tryz.underlying9
     simp only [List.drop_zero,List.drop_succ_cons,List.take_succ_cons,List.take_zero,List.cons.injEq,and_true] at bZ aI bh
     subst bZ aI bh
     simp only [List.sum_cons,List.sum_nil] at ak
     exact ⟨⟨i0,i1,s⟩,rfl,by simp only;omega⟩
theorem ady {h:aj} {n m:Nat} {v:V} {len:Nat} (H:y7 h 3 v len m (fun k=>er Tryz.prog h n k 41)):∃a:List At,cg h 3 v a.length (iX a)∧a.length≤m∧∀q ∈ a,q.s.length≤m:=by
 obtain ⟨_,_,_,_,_,us,ms,ae,ak,aC,bq⟩:=H
 have Hg:=A9 fun i k q=>(bq i k q).1
 obtain ⟨iZ,bF,bz,cL⟩:=collect At.enc 3 (fun a=>a.s.length≤m) len us ae.1 (fun i aG=>by
  obtain ⟨k,an⟩:∃k,ms[i]? =some k:=⟨_,List.getElem?_eq_getElem (by omega)⟩
  obtain ⟨a,e,q⟩:=adx (bq i k an).2
  have:=I2 an
  exact ⟨a,e,by omega⟩)
 subst bF
 rw [bz,J6] at ae
 exact ⟨iZ,ae,by omega,cL⟩
theorem open_ints {h:aj} {n m:Nat} {v:V} {len:Nat} (H:y7 h 1 v len m (fun k=>er Tryz.prog h n k 3)):∃a:List Int,cg h 1 v a.length (cd a)∧a.length≤m:=by
 obtain ⟨_,_,_,_,_,us,ms,ae,ak,aC,bq⟩:=H
 have Hg:=A9 fun i k q=>(bq i k q).1
 obtain ⟨iZ,bF,bz,cL⟩:=collect (fun i=>[V.int .i64 i]) 1 (fun _=>True) len us ae.1 (fun i aG=>by
  obtain ⟨k,an⟩:∃k,ms[i]? =some k:=⟨_,List.getElem?_eq_getElem (by omega)⟩
  obtain ⟨a,e,q⟩:=(bq i k an).2.int Tryz.underlying3
  exact ⟨a,e,trivial⟩)
 subst bF
 rw [bz,O0] at ae
 exact ⟨iZ,ae,by omega⟩
theorem FY {m:Nat}:∀{l:List aY},(∀c ∈ l,fit m c)→fits m l
 | [],_=>trivial
 | c::cs,h=>⟨h c (by simp),FY fun d cc=>h d (by simp [cc])⟩
theorem fit.up {m oa:Nat} (h:m≤oa):∀c:aY,fit m c→fit oa c:=by
 have both:∀N,(∀c:aY,size c≤N→fit m c→fit oa c):=by
  intro N
  induction N with
  | zero=>intro c aM;have:=size_pos c;omega
  | succ N bN=>
    rintro ⟨k,x,n,s,a,t,l⟩ aM ⟨ae,ak,aC,bq,dZ,eM⟩
    refine ⟨by omega,by omega,by omega,by omega,fun q a2=>Nat.le_trans (dZ q a2) h,FY fun d cc=>?_⟩
    obtain ⟨i,aG⟩:=List.getElem?_of_mem cc
    refine bN d ?_ (ns eM aG)
    have:=DW cc
    simp only [size] at aM
    omega
 exact fun c=>both (size c) c (Nat.le_refl _)
set_option maxRecDepth 10000 in
theorem P0:∀(n:Nat) {m:Nat} {h:aj} {ai:List V},er Tryz.prog h n m 26 ai→∃c,eg h c ai∧fit m c
 | 0,m,h,ai,H=>H.elim
 | n+1,m,h,ai,H=>by
   obtain ⟨hY,e,aK,ms,ae,ak,aC⟩:=H.struct Tryz.underlying26
   obtain rfl:n=hY:=by omega
   rw [FF] at aK
   match ai,aK with
   | [v0,v1,v2,v3,v4,v5,v6],_=>
     have dN:ms.length=7:=ae
     clear ae
     match ms,dN with
     | [HU,uC,x6,fY,ob,x7,Ps],_=>
       have f0:=(aC 0 _ _ rfl rfl).2
       have f1:=(aC 1 _ _ rfl rfl).2
       have f2:=(aC 2 _ _ rfl rfl).2
       have f3:=(aC 3 _ _ rfl rfl).2
       have f4:=(aC 4 _ _ rfl rfl).2
       have f5:=(aC 5 _ _ rfl rfl).2
       have f6:=(aC 6 _ _ rfl rfl).2
       simp only [Ca,MV,Vz,VA,VB] at f0 f1 f2 f3 f4 f5 f6
       obtain ⟨i0,bZ,_⟩:=f0.int Tryz.underlying3
       obtain ⟨i1,aI,_⟩:=f1.int Tryz.underlying3
       obtain ⟨i2,bh,_⟩:=f2.int Tryz.underlying3
       obtain ⟨s,cp,aM⟩:=f3.str Tryz.underlying9
       obtain ⟨PI,h2,nC,c0,eV,JN⟩:=f4.slice Tryz.underlying22 (by rw [FG];decide)
       obtain ⟨n5,agY,abQ,e7,j5,JO⟩:=f5.slice Tryz.underlying23 (by rw [Ca];decide)
       obtain ⟨n6,agZ,Da,mu,iB,JP⟩:=f6.slice Tryz.underlying24 (by rw [FF];decide)
       simp only [List.drop_zero,List.drop_succ_cons,List.take_succ_cons,List.take_zero,List.cons.injEq,and_true] at bZ aI bh cp eV j5 iB
       subst bZ aI bh cp eV j5 iB
       simp only [List.sum_cons,List.sum_nil] at ak
       rw [FG] at JN
       rw [Ca] at JO
       rw [FF] at JP
       obtain ⟨a,cU,di,mU⟩:=ady JN
       obtain ⟨t,dU,mh⟩:=open_ints JO
       obtain ⟨_,_,_,_,bd,us,aF,bQ,cB,fX,jJ⟩:=JP
       have Hg:=A9 fun i k q=>(jJ i k q).1
       obtain ⟨ct,bF,bz,cL⟩:=collect (α:=aY × List V) Prod.snd 7 (fun p=>eg h p.1 p.2∧fit m p.1) Da us bQ.1 (fun i aG=>by
        obtain ⟨k,an⟩:∃k,aF[i]? =some k:=⟨_,List.getElem?_eq_getElem (by omega)⟩
        have Y1:=(jJ i k an).2
        obtain rfl:n=n6+1:=mu
        obtain ⟨c,oV,Gv⟩:=P0 n6 Y1
        have:=I2 an
        exact ⟨(c,_),rfl,oV,fit.up (by omega) c Gv⟩)
       refine ⟨.mk i0 i1 i2 s a t (ct.map Prod.fst),.mk cU dU bd (us:=ct.map Prod.snd) ?_ (by simp) ?_,⟨by omega,by omega,by omega,by rw [List.length_map];omega,fun q a2=>by have:=mU q a2;omega,FY ?_⟩⟩
       · rw [List.length_map,bF,←List.flatMap_def,←bz]
         exact bQ
       · intro i c u aQ aB
         rw [List.getElem?_map] at aQ aB
         cases aT:ct[i]? with
         | none=>rw [aT] at aQ;cases aQ
         | some p=>
           rw [aT] at aQ aB
           simp only [Option.map_some,Option.some.injEq] at aQ aB
           subst aQ aB
           exact (cL p (List.mem_of_getElem? aT)).1
       · intro c aD
         obtain ⟨p,aT,rfl⟩:=List.mem_map.1 aD
         exact (cL p aT).2
theorem Tc:bA.I5 ctx 100000 11 []=true:=by kernel_rfl
theorem B1 (h:aj):bB Tryz.prog 11 [] h fun x aa=>x=.bool true∧aa=h:=
 ⟨_,_,VV (fun E x az=>by simpa only [Rel] using az) ⟨_,Tryz.func11,by kernel_rfl⟩ (fun w hw=>agG (C:=ctx) follows H4 hw adY Tc) h,rfl,rfl⟩
structure ahB (A B:Nat) (ai us:List V) (g:aj):Prop where
 aiH:A<g.next
 lL:B<g.next
 a:g.get (ao A)=.aq ai 0 false
 b:g.get (ao B)=.aq us 0 false
def pd (l:List Int) (n:Int):Int:=match l.findIdx? (fun m=>decide (m=n)) with
 | some i=>i
 | none=>-1
theorem ahT (t:List Int) (v:V) (h:aj) (H:cg h 1 v t.length (cd t)) (aK:t.length≤1048576):
 bB Tryz.prog 75 [v] h fun x aa=>mK h aa t x:=by
 by_cases bk:v=.ay
 · subst bk
   have:t=[]:=List.eq_nil_of_length_eq_zero H.2
   subst this
   refine Mq rfl (bP ?_)
   unfold Fz
   simp +contextual only [show (eH.l' false 2).run Tryz.prog .ay .ay=some (.bool true) from rfl,↓ad,af,simprocAttr]
   exact mK.nil h
 · have a2:(eH.l' false 2).run Tryz.prog v .ay=some (.bool false):=by
    have ak:=H.2
    cases v<;>simp only at ak<;>first | exact absurd rfl bk | rfl | exact ak.elim
   refine Mq rfl (bP ?_)
   unfold Fz
   have es:Ext h (h.new (.aq [] 0 false)):=(Ext.refl h).new _
   obtain ⟨iw,bz,ca,b',cE,fR⟩:=sw (B:=h.next) (Nat.le_refl 1) (cm.empty (h:=h) 1 (Nat.le_refl _)) (H.ext es) (by rw [cO];omega) (by unfold top;omega) (uv _)
   have bh:Ext h bz:=es.lf cE (fun b ah=>by
    have:b=ao h.next:=ah
    rw [this,cS];exact Nat.le_refl _)
   rw [List.nil_append,Nat.zero_add] at b'
   simp +contextual only [a2,ca,↓ad,af,simprocAttr]
   exact ⟨b',bh⟩
theorem adW (m n:Int) (l:List Int):pd (m::l) n=if m=n then 0 else if pd l n=-1 then -1 else pd l n+1:=by
 unfold pd
 rw [List.findIdx?_cons]
 by_cases h:m=n
 · simp [h]
 · simp only [h,decide_false,if_false,Bool.false_eq_true]
   cases l.findIdx? (fun m=>decide (m=n)) with
   | none=>simp
   | some i=>simp
theorem Qi (l:List Int) (n:Int) (v:V) (h:aj) (H:cg h 1 v l.length (cd l)) (aK:l.length≤4611686018427387904):
 bB Tryz.prog 76 [v,.int .i64 n] h fun x aa=>x=.int .i64 (pd l n)∧aa=h:=by
 refine U2 rfl (bP ?_)
 unfold Mr
 simp +contextual only [↓ad,af,simprocAttr]
 refine fw (fun r aa=>aa=h∧r 0=v∧r 1=.int .i64 n∧∃i:Nat,r 5=.int .i64 i∧i≤l.length∧pd l n=if pd (l.drop i) n=-1 then -1 else pd (l.drop i) n+i) (fun r aa=>l.length - (r 5).gn) ?_ ?_
 · exact ⟨rfl,by simp only [↓ad,bj,simprocAttr],by simp only [↓ad,bj,simprocAttr],0,by simp only [↓ad,bj,simprocAttr]<;>rfl,by omega,by rw [List.drop_zero];split<;>omega⟩
 · rintro r aa ⟨rfl,bl,aU,i,e7,aG,cb⟩
   unfold Ms
   have bW:=H.len
   by_cases aX:i<l.length
   · have bM:((i:Int) < (l.length:Int))=True:=eq_true (by omega)
     obtain ⟨b,o,b_,cD⟩:=ints_at H (k:=.i64) aX
     rw [List.drop_eq_getElem_cons aX,adW] at cb
     have w:=gq aX aK
     by_cases aD:l[i]=n
     · have e:=eq_true aD
       simp +contextual only [bl,aU,e7,bW,bM,b_,cD,e,↓ad,af,simprocAttr]
       rw [cb,if_pos aD]
       simp
     · have e:=eq_false aD
       rw [if_neg aD] at cb
       simp +contextual only [bl,aU,e7,bW,bM,b_,cD,e,w,↓ad,af,simprocAttr]
       refine ⟨⟨i+1,rfl,aX,?_⟩,by omega⟩
       rw [cb]
       by_cases aT:pd (l.drop (i+1)) n=-1
       · rw [if_pos aT,if_pos aT,if_pos rfl]
       · rw [if_neg aT,if_neg aT]
         have Oh:0≤pd (l.drop (i+1)) n:=by
          unfold pd at aT ⊢
          split<;>simp_all
         rw [if_neg (by omega)]
         omega
   · have bM:((i:Int) < (l.length:Int))=False:=eq_false (by omega)
     rw [List.drop_eq_nil_of_le (by omega)] at cb
     simp +contextual only [bl,aU,e7,bW,bM,↓ad,af,simprocAttr]
     rw [cb]
     rfl
inductive Jm (h:aj):(a6→Prop)→aY→List V→Prop
 | mk {F:a6→Prop} {k x n:Int} {s:List UInt8} {a:List At} {t:List Int} {l:List aY} {aN aP aw:V} {us:List (List V)} (G:Nat→a6→Prop) (bU:cm 0 h 3 aN a.length (iX a)) (aJ:cm 0 h 1 aP t.length (cd t))
   (aK:cm 0 h 7 aw l.length us.flatten) (hu:us.length=l.length) (kids:∀(i:Nat) (c:aY) (u:List V),l[i]? =some c→us[i]? =some u→Jm h (G i) c u)
   (c2:∀b,aN.bb b→F b) (gx:∀b,aP.bb b→F b) (cC:∀b,aw.bb b→F b) (WK:∀i b,i<l.length→G i b→F b∧¬aw.bb b∧¬aN.bb b∧¬aP.bb b)
   (dl:∀b,aw.bb b→¬aN.bb b∧¬aP.bb b) (ahV:∀b,aP.bb b→¬aN.bb b) (ahW:∀i j b,i<l.length→j<l.length→i≠j→G i b→¬G j b):
   Jm h F (.mk k x n s a t l) [.int .i64 k,.int .i64 x,.int .i64 n,.str s,aN,aP,aw]
theorem Qg (l:List Int) (n:Int):pd l n=if n ∈ l then (ax.ln l n:Int) else -1:=by
 unfold pd
 induction l with
 | nil=>rfl
 | cons t l bN=>
   rw [List.findIdx?_cons]
   by_cases h:t=n
   · subst h;simp [ax.ln]
   · have aa:¬n=t:=fun q=>h q.symm
     simp only [decide_eq_false h,Bool.false_eq_true,if_false,ax.ln,if_neg h,List.mem_cons,aa,false_or]
     cases a2:l.findIdx? (fun m=>decide (m=n)) with
     | none=>
       rw [a2] at bN
       simp only [Option.map_none] at bN ⊢
       by_cases hm:n ∈ l
       · rw [if_pos hm] at bN;omega
       · rw [if_neg hm]
     | some i=>
       rw [a2] at bN
       simp only [Option.map_some] at bN ⊢
       by_cases hm:n ∈ l
       · rw [if_pos hm] at bN ⊢;omega
       · rw [if_neg hm] at bN;omega
theorem Qh {l:List Int} {n:Int} (h:n ∉ l):ax.ln l n=l.length:=by
 induction l with
 | nil=>rfl
 | cons t l bN=>
   simp only [List.mem_cons,not_or] at h
   simp only [ax.ln,if_neg (fun q:t=n=>h.1 q.symm),bN h.2,List.length_cons]
section
variable {al h aa:aj} {ar:a6} {K:fs} {au:List a6} {aS pm:V} {S:ax} {steps:Int} {aN aP aw b4 b8 bn:V}
set_option maxHeartbeats 1000000 in
theorem ael (M:ec al h ar K au aS pm S steps) {f v:Nat} (av:f<au.length) (bk:v<au.length) (rC:cV (S.val f)=3):bB Tryz.prog 114 [.ptr ar 0,c5 au f,c5 au v] h fun x aa=>∃aO aL,ec al aa ar aO aL aS pm (S.call f v) steps:=by
 obtain ⟨aN,aP,aw,b4,b8,bn,M⟩:=M
 obtain ⟨cC,v1,v2,v3,v4,v5,v6,tu,hW,fA,kM,_,vB⟩:=M.val av
 have cJ:=M.get
 have eL:c5 au f=.ptr (ed au f) 0:=rfl
 refine TR rfl (bP ?_)
 unfold KH
 rw [eL]
 cases ga:S.val f with
 | int n=>rw [ga] at rC;cases rC
 | text n=>rw [ga] at rC;cases rC
 | dn t l=>rw [ga] at rC;cases rC
 | fn x c L=>
   obtain ⟨rfl,rfl,rfl,rfl,aD,he⟩:=vB x c L ga
   rw [ga] at fA
   simp only [cV,dG,e8] at fA
   obtain ⟨u',nM,nN⟩:=aD.parts
   have dz:=u'.one
   have fi:=nM.one
   have gz:=nN.one
   have fx:=he.one
   have hold:Old h ar:=M.b6.2
   have eK:(ao h.next=ar)=False:=gA hold (Nat.le_refl _)
   have gH:(ar=ao h.next)=False:=lM hold (Nat.le_refl _)
   have ne:(ar=ed au f)=False:=eq_false fun q=>(M.oJ av).2 q.symm
   have lh:(ao h.next=ed au f)=False:=gA (M.oJ av).1 (Nat.le_refl _)
   have M2:=M.next {S with c:=c} steps v5 v6 tu b4 b8 bn rfl aD M.dB M.wr M.dk
   have fV:=he.set (k:=.aq [aS,b8,.int .i64 S.eZ,.int .i64 S.fg,.int .i64 S.read,.int .i64 steps,bn,.bool S.fQ,.int .i64 c.k,.int .i64 c.x,.int .i64 c.n,.str c.s,v5,v6,tu,b4,.ay] 0 false) M.dv (by simp)
   have eV:=fun k=>(Ext.refl _).new (h:=(h.set ar (.aq [aS,b8,.int .i64 S.eZ,.int .i64 S.fg,.int .i64 S.read,.int .i64 steps,bn,.bool S.fQ,.int .i64 c.k,.int .i64 c.x,.int .i64 c.n,.str c.s,v5,v6,tu,b4,.ay] 0 false))) k
   obtain ⟨aO,bC,jZ,t4⟩:=M2.env (eV (.aq [.int .i64 x,c5 au v,hW] 0 false)) (b:=ao h.next) (by simp only [gU,cS];exact Nat.le_refl _) (cZ (by simp only [gU,cO];omega)) (by rw [eB,if_pos (by simp only [gU])]) fV bk
   have oD:=bC.next {S with c:=c,e:=(x,v)::L} steps v5 v6 tu (.ptr (ao h.next) 0) b8 bn rfl bC.co jZ bC.wr bC.dk
   simp +contextual only [c5,cJ,fA,eK,gH,ne,lh,dz.1,dz.2.1,fi.1,fi.2.1,gz.1,gz.2.1,fx.1,fx.2.1,fx.2.2,↓ad,af,simprocAttr]
   refine ⟨aO,au,?_⟩
   simp only [ax.call,ga]
   exact ⟨_,_,_,_,_,_,oD⟩
set_option maxHeartbeats 2000000 in
theorem aem (M:ec al h ar K au aS pm S steps) (an:S.c.k=10) (aD:eg al S.c [.int .i64 10,.int .i64 S.c.x,.int .i64 S.c.n,.str S.c.s,aN,aP,aw]) {v:Nat} (bk:v<au.length) (aJ:S.c.t.length≤1048576) (aK:S.c.l.length≤1048577):
 bB Tryz.prog 117 [.ptr ar 0,.agg [.int .i64 10,.int .i64 S.c.x,.int .i64 S.c.n,.str S.c.s,aN,aP,aw],c5 au v] h fun x aa=>ec al aa ar K au aS pm (S.h6 true v) steps:=by
 obtain ⟨bw,t1,bf,b4,b8,bn,M⟩:=M
 rw [←an] at aD
 obtain ⟨u',nM,nN⟩:=aD.parts
 have dz:=u'.one
 have fi:=nM.one
 have gz:=nN.one
 have eL:c5 au v=.ptr (ed au v) 0:=rfl
 have mh:=nM.len
 have e4:=nN.len
 have aI:Ext h (h.new (.aq [.int .i64 10,.int .i64 S.c.x,.int .i64 S.c.n,.str S.c.s,aN,aP,aw] 0 false)):=(Ext.refl h).new _
 have b0:(h.new (.aq [.int .i64 10,.int .i64 S.c.x,.int .i64 S.c.n,.str S.c.s,aN,aP,aw] 0 false)).get (ao h.next)=.aq [.int .i64 10,.int .i64 S.c.x,.int .i64 S.c.n,.str S.c.s,aN,aP,aw] 0 false:=gi _
 have aH:=M.ext aI
 obtain ⟨cC,v1,v2,v3,v4,v5,v6,tu,hW,fA,kM,_,_⟩:=M.val bk
 have lh:(ao h.next=ed au v)=False:=gA (M.oJ bk).1 (Nat.le_refl _)
 have nu:=(aI.get _ (M.oJ bk).1).trans fA
 have ee:=aH.get
 have E6:=nM.ext (M.rep.ext.trans aI)
 have ne:(ar=ao h.next)=False:=lM M.b6.2 (Nat.le_refl _)
 have eK:(ao h.next=ar)=False:=gA M.b6.2 (Nat.le_refl _)
 refine KL rfl (bP ?_)
 unfold Fq
 rw [eL]
 have wa:cV (S.val v)=1→S.h6 true v=S.il (ax.ln S.c.t (dG (S.val v))):=by
  intro an
  obtain ⟨t,ga⟩:=hj an
  simp only [ax.h6,ga,dG,Bool.false_eq_true,if_true,if_false]
 have Al:cV (S.val v)≠1→S.h6 true v=S.gp:=by
  intro an
  cases ga:S.val v<;>first | (simp only [ax.h6,ga]<;>rfl) | (rw [ga] at an;exact (an rfl).elim)
 have pl:=Qg S.c.t (dG (S.val v))
 simp +contextual only [dz.1,dz.2.1,fi.1,fi.2.1,gz.1,gz.2.1,fA,lh,↓ad,af,simprocAttr]
 generalize h.new (.aq [.int .i64 10,.int .i64 S.c.x,.int .i64 S.c.n,.str S.c.s,aN,aP,aw] 0 false)=H1 at *
 refine aV (Qi S.c.t (dG (S.val v)) aP H1 E6 (by omega)) ?_
 rintro x ak ⟨rfl,rfl⟩
 by_cases hm:dG (S.val v) ∈ S.c.t
 · rw [if_pos hm] at pl
   generalize aT:ax.ln S.c.t (dG (S.val v))=p at *
   have z:((p:Int)<0)=False:=eq_false (by omega)
   by_cases gG:cV (S.val v)=1
   · have ef:=eq_true gG
     rw [wa gG]
     by_cases n2:(S.c.l.length:Int)≤(p:Int)
     · have k':=eq_true n2
       simp +contextual only [b0,fA,nu,ee,ne,eK,lh,ef,pl,z,e4,k',↓ad,af,simprocAttr]
       refine aV (mv ⟨_,_,_,_,_,_,aH⟩ 6) ?_
       rintro y aC bC
       simp +contextual only [↓ad,af,simprocAttr]
       have gb:S.il p=S.gp:=by simp only [ax.il];rw [List.getElem?_eq_none (by omega)]
       rw [gb]
       exact bC
     · have k':=eq_false n2
       obtain ⟨eU,vi,mD,mF,mE,i1,i2,io,i3⟩:=nN.pG (k:=.i64) (i:=p) (by omega)
       have gT:=(i3 _ aH.rep.ext).1
       obtain ⟨qa,qb,qc⟩:=i2.parts
       have gR:=qa.one
       have ha:=qb.one
       have gB:=qc.one
       simp +contextual only [b0,fA,nu,ee,ne,eK,lh,ef,pl,z,e4,k',i1,gT,gR.1,gR.2.1,ha.1,ha.2.1,gB.1,gB.2.1,↓ad,af,simprocAttr]
       have rJ:S.il p={S with c:=S.c.l[p]'(by omega)}:=by simp only [ax.il];rw [List.getElem?_eq_getElem (by omega)]
       rw [rJ]
       exact ⟨_,_,_,_,_,_,aH.next {S with c:=S.c.l[p]'(by omega)} steps mD mF mE b4 b8 bn rfl i2 aH.dB aH.wr aH.dk⟩
   · have ef:=eq_false gG
     simp +contextual only [b0,fA,nu,ee,ne,eK,lh,ef,pl,z,e4,↓ad,af,simprocAttr]
     refine aV (mv ⟨_,_,_,_,_,_,aH⟩ 6) ?_
     rintro y aC bC
     simp +contextual only [↓ad,af,simprocAttr]
     rw [Al gG]
     exact bC
 · rw [if_neg hm] at pl
   have aT:=Qh hm
   have z:((-1:Int)<0)=True:=eq_true (by omega)
   rw [aT] at wa
   by_cases gG:cV (S.val v)=1
   · have ef:=eq_true gG
     rw [wa gG]
     by_cases n2:(S.c.l.length:Int)≤(S.c.t.length:Int)
     · have k':=eq_true n2
       simp +contextual only [b0,fA,nu,ee,ne,eK,lh,ef,pl,z,mh,e4,k',↓ad,af,simprocAttr]
       refine aV (mv ⟨_,_,_,_,_,_,aH⟩ 6) ?_
       rintro y aC bC
       simp +contextual only [↓ad,af,simprocAttr]
       have gb:S.il S.c.t.length=S.gp:=by simp only [ax.il];rw [List.getElem?_eq_none (by omega)]
       rw [gb]
       exact bC
     · have k':=eq_false n2
       obtain ⟨eU,vi,mD,mF,mE,i1,i2,io,i3⟩:=nN.pG (k:=.i64) (i:=S.c.t.length) (by omega)
       have gT:=(i3 _ aH.rep.ext).1
       obtain ⟨qa,qb,qc⟩:=i2.parts
       have gR:=qa.one
       have ha:=qb.one
       have gB:=qc.one
       simp +contextual only [b0,fA,nu,ee,ne,eK,lh,ef,pl,z,mh,e4,k',i1,gT,gR.1,gR.2.1,ha.1,ha.2.1,gB.1,gB.2.1,↓ad,af,simprocAttr]
       have rJ:S.il S.c.t.length={S with c:=S.c.l[S.c.t.length]'(by omega)}:=by simp only [ax.il];rw [List.getElem?_eq_getElem (by omega)]
       rw [rJ]
       exact ⟨_,_,_,_,_,_,aH.next {S with c:=S.c.l[S.c.t.length]'(by omega)} steps mD mF mE b4 b8 bn rfl i2 aH.dB aH.wr aH.dk⟩
   · have ef:=eq_false gG
     simp +contextual only [b0,fA,nu,ee,ne,eK,lh,ef,pl,z,mh,e4,↓ad,af,simprocAttr]
     refine aV (mv ⟨_,_,_,_,_,_,aH⟩ 6) ?_
     rintro y aC bC
     simp +contextual only [↓ad,af,simprocAttr]
     rw [Al gG]
     exact bC
set_option maxHeartbeats 2000000 in
theorem afp (M:ec al h ar K au aS pm S steps) (an:S.c.k=9) (aD:eg al S.c [.int .i64 9,.int .i64 S.c.x,.int .i64 S.c.n,.str S.c.s,aN,aP,aw]) {v:Nat} (bk:v<au.length) (aJ:S.c.t.length≤1048576) (aK:S.c.l.length≤1048577):
 bB Tryz.prog 117 [.ptr ar 0,.agg [.int .i64 9,.int .i64 S.c.x,.int .i64 S.c.n,.str S.c.s,aN,aP,aw],c5 au v] h fun x aa=>ec al aa ar K au aS pm (S.h6 false v) steps:=by
 obtain ⟨bw,t1,bf,b4,b8,bn,M⟩:=M
 rw [←an] at aD
 obtain ⟨u',nM,nN⟩:=aD.parts
 have dz:=u'.one
 have fi:=nM.one
 have gz:=nN.one
 have eL:c5 au v=.ptr (ed au v) 0:=rfl
 have mh:=nM.len
 have e4:=nN.len
 have aI:Ext h (h.new (.aq [.int .i64 9,.int .i64 S.c.x,.int .i64 S.c.n,.str S.c.s,aN,aP,aw] 0 false)):=(Ext.refl h).new _
 have b0:(h.new (.aq [.int .i64 9,.int .i64 S.c.x,.int .i64 S.c.n,.str S.c.s,aN,aP,aw] 0 false)).get (ao h.next)=.aq [.int .i64 9,.int .i64 S.c.x,.int .i64 S.c.n,.str S.c.s,aN,aP,aw] 0 false:=gi _
 have aH:=M.ext aI
 obtain ⟨cC,v1,v2,v3,v4,v5,v6,tu,hW,fA,kM,_,_⟩:=M.val bk
 have lh:(ao h.next=ed au v)=False:=gA (M.oJ bk).1 (Nat.le_refl _)
 have nu:=(aI.get _ (M.oJ bk).1).trans fA
 have ee:=aH.get
 have E6:=nM.ext (M.rep.ext.trans aI)
 have ne:(ar=ao h.next)=False:=lM M.b6.2 (Nat.le_refl _)
 have eK:(ao h.next=ar)=False:=gA M.b6.2 (Nat.le_refl _)
 refine KL rfl (bP ?_)
 unfold Fq
 rw [eL]
 have wa:cV (S.val v)=4→S.h6 false v=S.il (ax.ln S.c.t (dG (S.val v))):=by
  intro an
  obtain ⟨t,l,ga⟩:=we an
  simp only [ax.h6,ga,dG,Bool.false_eq_true,if_true,if_false]
 have Al:cV (S.val v)≠4→S.h6 false v=S.gp:=by
  intro an
  cases ga:S.val v<;>first | (simp only [ax.h6,ga]<;>rfl) | (rw [ga] at an;exact (an rfl).elim)
 have pl:=Qg S.c.t (dG (S.val v))
 simp +contextual only [dz.1,dz.2.1,fi.1,fi.2.1,gz.1,gz.2.1,fA,lh,↓ad,af,simprocAttr]
 generalize h.new (.aq [.int .i64 9,.int .i64 S.c.x,.int .i64 S.c.n,.str S.c.s,aN,aP,aw] 0 false)=H1 at *
 refine aV (Qi S.c.t (dG (S.val v)) aP H1 E6 (by omega)) ?_
 rintro x ak ⟨rfl,rfl⟩
 by_cases hm:dG (S.val v) ∈ S.c.t
 · rw [if_pos hm] at pl
   generalize aT:ax.ln S.c.t (dG (S.val v))=p at *
   have z:((p:Int)<0)=False:=eq_false (by omega)
   by_cases gG:cV (S.val v)=4
   · have ef:=eq_true gG
     rw [wa gG]
     by_cases n2:(S.c.l.length:Int)≤(p:Int)
     · have k':=eq_true n2
       simp +contextual only [b0,fA,nu,ee,ne,eK,lh,ef,pl,z,e4,k',↓ad,af,simprocAttr]
       refine aV (mv ⟨_,_,_,_,_,_,aH⟩ 6) ?_
       rintro y aC bC
       simp +contextual only [↓ad,af,simprocAttr]
       have gb:S.il p=S.gp:=by simp only [ax.il];rw [List.getElem?_eq_none (by omega)]
       rw [gb]
       exact bC
     · have k':=eq_false n2
       obtain ⟨eU,vi,mD,mF,mE,i1,i2,io,i3⟩:=nN.pG (k:=.i64) (i:=p) (by omega)
       have gT:=(i3 _ aH.rep.ext).1
       obtain ⟨qa,qb,qc⟩:=i2.parts
       have gR:=qa.one
       have ha:=qb.one
       have gB:=qc.one
       simp +contextual only [b0,fA,nu,ee,ne,eK,lh,ef,pl,z,e4,k',i1,gT,gR.1,gR.2.1,ha.1,ha.2.1,gB.1,gB.2.1,↓ad,af,simprocAttr]
       have rJ:S.il p={S with c:=S.c.l[p]'(by omega)}:=by simp only [ax.il];rw [List.getElem?_eq_getElem (by omega)]
       rw [rJ]
       exact ⟨_,_,_,_,_,_,aH.next {S with c:=S.c.l[p]'(by omega)} steps mD mF mE b4 b8 bn rfl i2 aH.dB aH.wr aH.dk⟩
   · have ef:=eq_false gG
     simp +contextual only [b0,fA,nu,ee,ne,eK,lh,ef,pl,z,e4,↓ad,af,simprocAttr]
     refine aV (mv ⟨_,_,_,_,_,_,aH⟩ 6) ?_
     rintro y aC bC
     simp +contextual only [↓ad,af,simprocAttr]
     rw [Al gG]
     exact bC
 · rw [if_neg hm] at pl
   have aT:=Qh hm
   have z:((-1:Int)<0)=True:=eq_true (by omega)
   rw [aT] at wa
   by_cases gG:cV (S.val v)=4
   · have ef:=eq_true gG
     rw [wa gG]
     by_cases n2:(S.c.l.length:Int)≤(S.c.t.length:Int)
     · have k':=eq_true n2
       simp +contextual only [b0,fA,nu,ee,ne,eK,lh,ef,pl,z,mh,e4,k',↓ad,af,simprocAttr]
       refine aV (mv ⟨_,_,_,_,_,_,aH⟩ 6) ?_
       rintro y aC bC
       simp +contextual only [↓ad,af,simprocAttr]
       have gb:S.il S.c.t.length=S.gp:=by simp only [ax.il];rw [List.getElem?_eq_none (by omega)]
       rw [gb]
       exact bC
     · have k':=eq_false n2
       obtain ⟨eU,vi,mD,mF,mE,i1,i2,io,i3⟩:=nN.pG (k:=.i64) (i:=S.c.t.length) (by omega)
       have gT:=(i3 _ aH.rep.ext).1
       obtain ⟨qa,qb,qc⟩:=i2.parts
       have gR:=qa.one
       have ha:=qb.one
       have gB:=qc.one
       simp +contextual only [b0,fA,nu,ee,ne,eK,lh,ef,pl,z,mh,e4,k',i1,gT,gR.1,gR.2.1,ha.1,ha.2.1,gB.1,gB.2.1,↓ad,af,simprocAttr]
       have rJ:S.il S.c.t.length={S with c:=S.c.l[S.c.t.length]'(by omega)}:=by simp only [ax.il];rw [List.getElem?_eq_getElem (by omega)]
       rw [rJ]
       exact ⟨_,_,_,_,_,_,aH.next {S with c:=S.c.l[S.c.t.length]'(by omega)} steps mD mF mE b4 b8 bn rfl i2 aH.dB aH.wr aH.dk⟩
   · have ef:=eq_false gG
     simp +contextual only [b0,fA,nu,ee,ne,eK,lh,ef,pl,z,mh,e4,↓ad,af,simprocAttr]
     refine aV (mv ⟨_,_,_,_,_,_,aH⟩ 6) ?_
     rintro y aC bC
     simp +contextual only [↓ad,af,simprocAttr]
     rw [Al gG]
     exact bC
end
end Go.Proofs.YtjbiefneffiogaaGreat
namespace Go.Proofs.YtjbiefneffiogaaGreat
open Go bA
section
variable {al h aa:aj} {ar:a6} {K aO:fs} {au:List a6} {aS pm:V} {S:ax} {steps:Int} {dY b4 b8 bn:V}
set_option maxHeartbeats 4000000 in
theorem step_ret (M:dx al h ar K au aS pm S steps) (O:Ok S) (hw:S.w.length≤1000000000) (c8:Shape S.c) (bk:∀a ∈ S.c.a,a.k=1→a.n ∈ S.e.map Prod.fst) (an:S.c.k=1) {aR:List UInt8}:bB Tryz.prog 59 [.ptr ar 0] h fun x aa=>∃aO aL,dx al aa ar aO aL aS pm (S.step aR) steps:=by
 obtain ⟨jC,eq,fG,da,M⟩:=M
 obtain ⟨eU,co,aN,aP,aw,rfl,cU,dU,cw,d'⟩:=M.co.open
 have cJ:=M.get
 rw [an] at d'
 have lc:=d' h M.rep.ext
 refine pD rfl (bP ?_)
 unfold oO
 simp +contextual only [cJ,lc.1,↓ad,af,simprocAttr]
 refine aV (pC M bk c8.oo) ?_
 rintro x ae ⟨jA,ho,aH,dW,fP,ig⟩
 obtain ⟨kG,c6,k4,np,l9,hB⟩:=ax.l7 S S.c.a
 have hT:=O.atoms S.c.a c8.at_
 have ee:=aH.get
 have bf:=d' ae aH.rep.ext
 have dq:S.step aR=(S.atoms S.c.a).1.dI aR (S.atoms S.c.a).2:=rfl
 generalize (S.atoms S.c.a).1=T at *
 generalize (S.atoms S.c.a).2=bx at *
 have cz:ew ae ho bx x:=⟨dW.v,fP⟩
 have fh:T.c.k=1:=by rw [c6];exact an
 have dJ:=M.rep.ext.next
 obtain ⟨a1,rfl⟩:∃a1,bx=[a1]:=by
  have:bx.length=1:=by rw [hB];exact c8.bw (by omega)
  match bx,this with
  | [a],_=>exact ⟨a,rfl⟩
 obtain ⟨e1,cX,eG,fU,_,_,b7,jO,b2⟩:=aH.arg cz 0 0 a1 rfl rfl
 have e5:=b2 _ (Ext.refl _)
 simp +contextual only [cJ,ee,lc.1,bf.1,b7,e5.1,↓ad,af,simprocAttr]
 refine aV (mz ⟨_,_,_,_,aH⟩ hT.w e1) ?_
 rintro y ak ⟨ez,M2⟩
 simp +contextual only [b7,e5.1,↓ad,af,simprocAttr]
 refine ⟨ez,ho,?_⟩
 rw [dq]
 have:T.dI aR [a1]=T.nb a1:=by simp only [ax.dI,fh,↓reduceIte,Int.reduceEq,reduceCtorEq,false_or,or_false,or_true,true_or,List.getD_cons_zero,List.getD_cons_succ]
 rw [this]
 exact M2
set_option maxHeartbeats 4000000 in
theorem agm (M:dx al h ar K au aS pm S steps) (O:Ok S) (hw:S.w.length≤1000000000) (c8:Shape S.c) (bk:∀a ∈ S.c.a,a.k=1→a.n ∈ S.e.map Prod.fst) (an:S.c.k=12) {aR:List UInt8}:bB Tryz.prog 59 [.ptr ar 0] h fun x aa=>∃aO aL,dx al aa ar aO aL aS pm (S.step aR) steps:=by
 obtain ⟨jC,eq,fG,da,M⟩:=M
 obtain ⟨eU,co,aN,aP,aw,rfl,cU,dU,cw,d'⟩:=M.co.open
 have cJ:=M.get
 rw [an] at d'
 have lc:=d' h M.rep.ext
 refine pD rfl (bP ?_)
 unfold oO
 simp +contextual only [cJ,lc.1,↓ad,af,simprocAttr]
 refine aV (pC M bk c8.oo) ?_
 rintro x ae ⟨jA,ho,aH,dW,fP,ig⟩
 obtain ⟨kG,c6,k4,np,l9,hB⟩:=ax.l7 S S.c.a
 have hT:=O.atoms S.c.a c8.at_
 have ee:=aH.get
 have bf:=d' ae aH.rep.ext
 have dq:S.step aR=(S.atoms S.c.a).1.dI aR (S.atoms S.c.a).2:=rfl
 generalize (S.atoms S.c.a).1=T at *
 generalize (S.atoms S.c.a).2=bx at *
 have cz:ew ae ho bx x:=⟨dW.v,fP⟩
 have fh:T.c.k=12:=by rw [c6];exact an
 have dJ:=M.rep.ext.next
 obtain ⟨a1,rfl⟩:∃a1,bx=[a1]:=by
  have:bx.length=1:=by rw [hB];exact c8.bw (by omega)
  match bx,this with
  | [a],_=>exact ⟨a,rfl⟩
 obtain ⟨e1,cX,eG,fU,_,_,b7,jO,b2⟩:=aH.arg cz 0 0 a1 rfl rfl
 have e5:=b2 _ (Ext.refl _)
 simp +contextual only [cJ,ee,lc.1,bf.1,b7,e5.1,↓ad,af,simprocAttr]
 refine aV (tj ⟨_,_,_,_,aH⟩ hT.w e1) ?_
 rintro y ak ⟨ez,M2⟩
 simp +contextual only [b7,e5.1,↓ad,af,simprocAttr]
 refine ⟨ez,ho,?_⟩
 rw [dq]
 have:T.dI aR [a1]=T.p6 a1:=by simp only [ax.dI,fh,↓reduceIte,Int.reduceEq,reduceCtorEq,false_or,or_false,or_true,true_or,List.getD_cons_zero,List.getD_cons_succ]
 rw [this]
 exact M2
set_option maxHeartbeats 4000000 in
theorem agk (M:dx al h ar K au aS pm S steps) (O:Ok S) (hw:S.w.length≤1000000000) (c8:Shape S.c) (bk:∀a ∈ S.c.a,a.k=1→a.n ∈ S.e.map Prod.fst) (an:S.c.k=4) {aR:List UInt8}:bB Tryz.prog 59 [.ptr ar 0] h fun x aa=>∃aO aL,dx al aa ar aO aL aS pm (S.step aR) steps:=by
 obtain ⟨jC,eq,fG,da,M⟩:=M
 obtain ⟨eU,co,aN,aP,aw,rfl,cU,dU,cw,d'⟩:=M.co.open
 have cJ:=M.get
 rw [an] at d'
 have lc:=d' h M.rep.ext
 refine pD rfl (bP ?_)
 unfold oO
 simp +contextual only [cJ,lc.1,↓ad,af,simprocAttr]
 refine aV (pC M bk c8.oo) ?_
 rintro x ae ⟨jA,ho,aH,dW,fP,ig⟩
 obtain ⟨kG,c6,k4,np,l9,hB⟩:=ax.l7 S S.c.a
 have hT:=O.atoms S.c.a c8.at_
 have ee:=aH.get
 have bf:=d' ae aH.rep.ext
 have dq:S.step aR=(S.atoms S.c.a).1.dI aR (S.atoms S.c.a).2:=rfl
 generalize (S.atoms S.c.a).1=T at *
 generalize (S.atoms S.c.a).2=bx at *
 have cz:ew ae ho bx x:=⟨dW.v,fP⟩
 have fh:T.c.k=4:=by rw [c6];exact an
 have dJ:=M.rep.ext.next
 simp +contextual only [cJ,ee,lc.1,bf.1,bf.2.2.1,↓ad,af,simprocAttr]
 refine aV (ou ae S.c.n x dW.v.one) ?_
 rintro y ak F
 obtain ⟨ez,gw,M2,rfl,a7⟩:=aH.HV F (dW.mono dJ) ig fP
 simp +contextual only [↓ad,af,simprocAttr]
 refine aV (mz ⟨_,_,_,_,M2⟩ hT.w a7) ?_
 rintro y ak ⟨kY,bL⟩
 simp +contextual only [↓ad,af,simprocAttr]
 refine ⟨kY,gw,?_⟩
 rw [dq]
 have:T.dI aR bx=T.dT (.dn T.c.n bx):=by simp only [ax.dI,fh,↓reduceIte,Int.reduceEq,reduceCtorEq,false_or,or_false,or_true,true_or,List.getD_cons_zero,List.getD_cons_succ]
 rw [this]
 exact by rw [c6];exact bL
set_option maxHeartbeats 4000000 in
theorem agl (M:dx al h ar K au aS pm S steps) (O:Ok S) (hw:S.w.length≤1000000000) (c8:Shape S.c) (bk:∀a ∈ S.c.a,a.k=1→a.n ∈ S.e.map Prod.fst) (D:Bq al pm) {aR:List UInt8} (dX:cg al 1 aS aR.length (dp aR)) (hlen:aR.length≤1073741824) (fD:S.read≤aR.length) (an:S.c.k=3):bB Tryz.prog 59 [.ptr ar 0] h fun x aa=>∃aO aL,dx al aa ar aO aL aS pm (S.step aR) steps:=by
 obtain ⟨jC,eq,fG,da,M⟩:=M
 obtain ⟨eU,co,aN,aP,aw,rfl,cU,dU,cw,d'⟩:=M.co.open
 have cJ:=M.get
 rw [an] at d'
 have lc:=d' h M.rep.ext
 refine pD rfl (bP ?_)
 unfold oO
 simp +contextual only [cJ,lc.1,↓ad,af,simprocAttr]
 refine aV (pC M bk c8.oo) ?_
 rintro x ae ⟨jA,ho,aH,dW,fP,ig⟩
 obtain ⟨kG,c6,k4,np,l9,hB⟩:=ax.l7 S S.c.a
 have hT:=O.atoms S.c.a c8.at_
 have ee:=aH.get
 have bf:=d' ae aH.rep.ext
 have dq:S.step aR=(S.atoms S.c.a).1.dI aR (S.atoms S.c.a).2:=rfl
 generalize (S.atoms S.c.a).1=T at *
 generalize (S.atoms S.c.a).2=bx at *
 have cz:ew ae ho bx x:=⟨dW.v,fP⟩
 have fh:T.c.k=3:=by rw [c6];exact an
 have dJ:=M.rep.ext.next
 obtain ⟨ca,b'⟩:=c8.cE an
 obtain ⟨f,cs,aQ,aB⟩:=adZ D ⟨_,_,_,_,aH⟩ hT dX hlen (by rw [l9];exact fD) cz (s:=S.c.s) (by rw [hB];exact ca) b'
 simp +contextual only [cJ,ee,lc.1,bf.1,bf.2.2.2.1,aQ,↓ad,af,simprocAttr]
 refine aV aB ?_
 rintro y ak ⟨ez,gw,M2⟩
 simp +contextual only [S2,ee,bf.2.2.2.1,aQ,↓ad,af,simprocAttr]
 refine ⟨ez,gw,?_⟩
 rw [dq]
 have:T.dI aR bx=T.oh aR T.c.s bx:=by simp only [ax.dI,fh,↓reduceIte,Int.reduceEq,reduceCtorEq,false_or,or_false,or_true,true_or,List.getD_cons_zero,List.getD_cons_succ]
 rw [this]
 exact by rw [c6];exact M2
set_option maxHeartbeats 4000000 in
theorem agd (M:dx al h ar K au aS pm S steps) (O:Ok S) (hw:S.w.length≤1000000000) (c8:Shape S.c) (bk:∀a ∈ S.c.a,a.k=1→a.n ∈ S.e.map Prod.fst) (an:S.c.k=6) {aR:List UInt8}:bB Tryz.prog 59 [.ptr ar 0] h fun x aa=>∃aO aL,dx al aa ar aO aL aS pm (S.step aR) steps:=by
 obtain ⟨jC,eq,fG,da,M⟩:=M
 obtain ⟨eU,co,aN,aP,aw,rfl,cU,dU,cw,d'⟩:=M.co.open
 have cJ:=M.get
 rw [an] at d'
 have lc:=d' h M.rep.ext
 refine pD rfl (bP ?_)
 unfold oO
 simp +contextual only [cJ,lc.1,↓ad,af,simprocAttr]
 refine aV (pC M bk c8.oo) ?_
 rintro x ae ⟨jA,ho,aH,dW,fP,ig⟩
 obtain ⟨kG,c6,k4,np,l9,hB⟩:=ax.l7 S S.c.a
 have hT:=O.atoms S.c.a c8.at_
 have ee:=aH.get
 have bf:=d' ae aH.rep.ext
 have dq:S.step aR=(S.atoms S.c.a).1.dI aR (S.atoms S.c.a).2:=rfl
 generalize (S.atoms S.c.a).1=T at *
 generalize (S.atoms S.c.a).2=bx at *
 have cz:ew ae ho bx x:=⟨dW.v,fP⟩
 have fh:T.c.k=6:=by rw [c6];exact an
 have dJ:=M.rep.ext.next
 obtain ⟨a1,bX,rfl⟩:∃a1 bX,bx=[a1,bX]:=by
  have:bx.length=2:=by rw [hB];exact c8.b3 an
  match bx,this with
  | [a,b],_=>exact ⟨a,b,rfl⟩
 obtain ⟨e1,cX,eG,fU,_,_,b7,jO,b2⟩:=aH.arg cz 0 0 a1 rfl rfl
 have e5:=b2 _ (Ext.refl _)
 obtain ⟨ju,b0,dz,k5,_,_,cH,nJ,b9⟩:=aH.arg cz 1 1 bX rfl rfl
 have x5:=b9 _ (Ext.refl _)
 simp +contextual only [cJ,ee,lc.1,bf.1,b7,e5.1,cH,x5.1,↓ad,af,simprocAttr]
 refine aV (Vu ⟨_,_,_,_,aH⟩ e1 ju) ?_
 rintro y ak ⟨ez,gw,M2⟩
 simp +contextual only [b7,e5.1,cH,x5.1,↓ad,af,simprocAttr]
 refine ⟨ez,gw,?_⟩
 rw [dq]
 have:T.dI aR [a1,bX]=T.call a1 bX:=by simp only [ax.dI,fh,↓reduceIte,Int.reduceEq,reduceCtorEq,false_or,or_false,or_true,true_or,List.getD_cons_zero,List.getD_cons_succ]
 rw [this]
 exact M2
set_option maxHeartbeats 4000000 in
theorem agn (M:dx al h ar K au aS pm S steps) (O:Ok S) (hw:S.w.length≤1000000000) (c8:Shape S.c) (bk:∀a ∈ S.c.a,a.k=1→a.n ∈ S.e.map Prod.fst) (an:S.c.k=8) {aR:List UInt8}:bB Tryz.prog 59 [.ptr ar 0] h fun x aa=>∃aO aL,dx al aa ar aO aL aS pm (S.step aR) steps:=by
 obtain ⟨jC,eq,fG,da,M⟩:=M
 obtain ⟨eU,co,aN,aP,aw,rfl,cU,dU,cw,d'⟩:=M.co.open
 have cJ:=M.get
 rw [an] at d'
 have lc:=d' h M.rep.ext
 refine pD rfl (bP ?_)
 unfold oO
 simp +contextual only [cJ,lc.1,↓ad,af,simprocAttr]
 refine aV (pC M bk c8.oo) ?_
 rintro x ae ⟨jA,ho,aH,dW,fP,ig⟩
 obtain ⟨kG,c6,k4,np,l9,hB⟩:=ax.l7 S S.c.a
 have hT:=O.atoms S.c.a c8.at_
 have ee:=aH.get
 have bf:=d' ae aH.rep.ext
 have dq:S.step aR=(S.atoms S.c.a).1.dI aR (S.atoms S.c.a).2:=rfl
 generalize (S.atoms S.c.a).1=T at *
 generalize (S.atoms S.c.a).2=bx at *
 have cz:ew ae ho bx x:=⟨dW.v,fP⟩
 have fh:T.c.k=8:=by rw [c6];exact an
 have dJ:=M.rep.ext.next
 simp +contextual only [cJ,ee,lc.1,bf.1,↓ad,af,simprocAttr]
 obtain ⟨aU,bm⟩:=c8.HL an
 refine aV (aeq ⟨_,_,_,_,aH⟩ (by rw [c6];omega) (by rw [c6];have:=c8.g_;omega) (by rw [c6];intro f av;rw [bm f av];exact Nat.le_refl _)) ?_
 rintro y ak ⟨ez,gw,M2⟩
 simp +contextual only [↓ad,af,simprocAttr]
 refine ⟨ez,gw,?_⟩
 rw [dq]
 have:T.dI aR bx=T.pj:=by simp only [ax.dI,fh,↓reduceIte,Int.reduceEq,reduceCtorEq,false_or,or_false,or_true,true_or,List.getD_cons_zero,List.getD_cons_succ]
 rw [this]
 exact M2
set_option maxHeartbeats 4000000 in
theorem ago (M:dx al h ar K au aS pm S steps) (O:Ok S) (hw:S.w.length≤1000000000) (c8:Shape S.c) (bk:∀a ∈ S.c.a,a.k=1→a.n ∈ S.e.map Prod.fst) (an:S.c.k=9) {aR:List UInt8}:bB Tryz.prog 59 [.ptr ar 0] h fun x aa=>∃aO aL,dx al aa ar aO aL aS pm (S.step aR) steps:=by
 obtain ⟨jC,eq,fG,da,M⟩:=M
 obtain ⟨eU,co,aN,aP,aw,rfl,cU,dU,cw,d'⟩:=M.co.open
 have cJ:=M.get
 rw [an] at d'
 have lc:=d' h M.rep.ext
 refine pD rfl (bP ?_)
 unfold oO
 simp +contextual only [cJ,lc.1,↓ad,af,simprocAttr]
 refine aV (pC M bk c8.oo) ?_
 rintro x ae ⟨jA,ho,aH,dW,fP,ig⟩
 obtain ⟨kG,c6,k4,np,l9,hB⟩:=ax.l7 S S.c.a
 have hT:=O.atoms S.c.a c8.at_
 have ee:=aH.get
 have bf:=d' ae aH.rep.ext
 have dq:S.step aR=(S.atoms S.c.a).1.dI aR (S.atoms S.c.a).2:=rfl
 generalize (S.atoms S.c.a).1=T at *
 generalize (S.atoms S.c.a).2=bx at *
 have cz:ew ae ho bx x:=⟨dW.v,fP⟩
 have fh:T.c.k=9:=by rw [c6];exact an
 have dJ:=M.rep.ext.next
 obtain ⟨a1,rfl⟩:∃a1,bx=[a1]:=by
  have:bx.length=1:=by rw [hB];exact c8.bw (by omega)
  match bx,this with
  | [a],_=>exact ⟨a,rfl⟩
 obtain ⟨e1,cX,eG,fU,_,_,b7,jO,b2⟩:=aH.arg cz 0 0 a1 rfl rfl
 have e5:=b2 _ (Ext.refl _)
 simp +contextual only [cJ,ee,lc.1,bf.1,b7,e5.1,↓ad,af,simprocAttr]
 refine aV (MY ⟨_,_,_,_,aH⟩ (hz:=false) (x3:=4) rfl e1 (by rw [c6];exact c8.t9 (by omega)) (by rw [c6];exact c8.st) (by rw [c6];have:=c8.g_;omega)) ?_
 rintro y ak M2
 simp +contextual only [b7,e5.1,↓ad,af,simprocAttr]
 refine ⟨jA,ho,?_⟩
 rw [dq]
 have:T.dI aR [a1]=T.h6 false a1:=by simp only [ax.dI,fh,↓reduceIte,Int.reduceEq,reduceCtorEq,false_or,or_false,or_true,true_or,List.getD_cons_zero,List.getD_cons_succ]
 rw [this]
 exact M2
set_option maxHeartbeats 4000000 in
theorem age (M:dx al h ar K au aS pm S steps) (O:Ok S) (hw:S.w.length≤1000000000) (c8:Shape S.c) (bk:∀a ∈ S.c.a,a.k=1→a.n ∈ S.e.map Prod.fst) (an:S.c.k=10) {aR:List UInt8}:bB Tryz.prog 59 [.ptr ar 0] h fun x aa=>∃aO aL,dx al aa ar aO aL aS pm (S.step aR) steps:=by
 obtain ⟨jC,eq,fG,da,M⟩:=M
 obtain ⟨eU,co,aN,aP,aw,rfl,cU,dU,cw,d'⟩:=M.co.open
 have cJ:=M.get
 rw [an] at d'
 have lc:=d' h M.rep.ext
 refine pD rfl (bP ?_)
 unfold oO
 simp +contextual only [cJ,lc.1,↓ad,af,simprocAttr]
 refine aV (pC M bk c8.oo) ?_
 rintro x ae ⟨jA,ho,aH,dW,fP,ig⟩
 obtain ⟨kG,c6,k4,np,l9,hB⟩:=ax.l7 S S.c.a
 have hT:=O.atoms S.c.a c8.at_
 have ee:=aH.get
 have bf:=d' ae aH.rep.ext
 have dq:S.step aR=(S.atoms S.c.a).1.dI aR (S.atoms S.c.a).2:=rfl
 generalize (S.atoms S.c.a).1=T at *
 generalize (S.atoms S.c.a).2=bx at *
 have cz:ew ae ho bx x:=⟨dW.v,fP⟩
 have fh:T.c.k=10:=by rw [c6];exact an
 have dJ:=M.rep.ext.next
 obtain ⟨a1,rfl⟩:∃a1,bx=[a1]:=by
  have:bx.length=1:=by rw [hB];exact c8.bw (by omega)
  match bx,this with
  | [a],_=>exact ⟨a,rfl⟩
 obtain ⟨e1,cX,eG,fU,_,_,b7,jO,b2⟩:=aH.arg cz 0 0 a1 rfl rfl
 have e5:=b2 _ (Ext.refl _)
 simp +contextual only [cJ,ee,lc.1,bf.1,b7,e5.1,↓ad,af,simprocAttr]
 refine aV (MY ⟨_,_,_,_,aH⟩ (hz:=true) (x3:=1) rfl e1 (by rw [c6];exact c8.t9 (by omega)) (by rw [c6];exact c8.st) (by rw [c6];have:=c8.g_;omega)) ?_
 rintro y ak M2
 simp +contextual only [b7,e5.1,↓ad,af,simprocAttr]
 refine ⟨jA,ho,?_⟩
 rw [dq]
 have:T.dI aR [a1]=T.h6 true a1:=by simp only [ax.dI,fh,↓reduceIte,Int.reduceEq,reduceCtorEq,false_or,or_false,or_true,true_or,List.getD_cons_zero,List.getD_cons_succ]
 rw [this]
 exact M2
set_option maxHeartbeats 4000000 in
theorem agh (M:dx al h ar K au aS pm S steps) (O:Ok S) (hw:S.w.length≤1000000000) (c8:Shape S.c) (bk:∀a ∈ S.c.a,a.k=1→a.n ∈ S.e.map Prod.fst) (an:S.c.k=7) {aR:List UInt8}:bB Tryz.prog 59 [.ptr ar 0] h fun x aa=>∃aO aL,dx al aa ar aO aL aS pm (S.step aR) steps:=by
 obtain ⟨jC,eq,fG,da,M⟩:=M
 obtain ⟨eU,co,aN,aP,aw,rfl,cU,dU,cw,d'⟩:=M.co.open
 have cJ:=M.get
 rw [an] at d'
 have lc:=d' h M.rep.ext
 refine pD rfl (bP ?_)
 unfold oO
 simp +contextual only [cJ,lc.1,↓ad,af,simprocAttr]
 refine aV (pC M bk c8.oo) ?_
 rintro x ae ⟨jA,ho,aH,dW,fP,ig⟩
 obtain ⟨kG,c6,k4,np,l9,hB⟩:=ax.l7 S S.c.a
 have hT:=O.atoms S.c.a c8.at_
 have ee:=aH.get
 have bf:=d' ae aH.rep.ext
 have dq:S.step aR=(S.atoms S.c.a).1.dI aR (S.atoms S.c.a).2:=rfl
 generalize (S.atoms S.c.a).1=T at *
 generalize (S.atoms S.c.a).2=bx at *
 have cz:ew ae ho bx x:=⟨dW.v,fP⟩
 have fh:T.c.k=7:=by rw [c6];exact an
 have dJ:=M.rep.ext.next
 have oZ:=c8.HK an
 obtain ⟨q,Hy,a2⟩:=ib.et cw (k:=.i64) (i:=0) (by omega)
 have OU:fc 7 aw (.int .i64 0)=some q:=Hy
 have ta:=a2.one
 have fx:=aH.dB.one
 simp +contextual only [cJ,ee,lc.1,bf.1,bf.2.1,bf.2.2.2.2.2.2,OU,ta.1,ta.2.1,ta.2.2,fx.1,fx.2.1,fx.2.2,↓ad,af,simprocAttr]
 have F:g7 ae (ae.new (.aq [.int .i64 3,.int .i64 S.c.x,.str [],.ay,q,eq,.bool false] 0 false)) (.ptr (ao ae.next) 0) [.int .i64 3,.int .i64 S.c.x,.str [],.ay,q,eq,.bool false]:=pL _ _
 obtain ⟨ez,gw,M2,bK,a7,t⟩:=aH.Ar F a2 aH.dB
 rw [bK]
 have eK:(ao ae.next=ar)=False:=gA aH.b6.2 (Nat.le_refl _)
 have eJ:=d' _ M2.rep.ext
 simp only [eB] at eJ
 refine aV (mz ⟨_,_,_,_,M2⟩ hT.w a7) ?_
 rintro y ak ⟨kY,bL⟩
 simp +contextual only [eK,ee,bf.2.1,bf.2.2.2.2.2.2,eJ.2.1,eJ.2.2.2.2.2.2,OU,↓ad,af,simprocAttr]
 refine ⟨kY,gw,?_⟩
 rw [dq]
 have:T.dI aR bx=T.dT (.fn T.c.x (T.et 0) T.e):=by simp only [ax.dI,fh,↓reduceIte,Int.reduceEq,reduceCtorEq,false_or,or_false,or_true,true_or,List.getD_cons_zero,List.getD_cons_succ]
 rw [this]
 exact by
  have GN:T.et 0=S.c.l[0]'(by omega):=by
   simp only [ax.et,c6]
   rw [List.getD_eq_getElem?_getD,List.getElem?_eq_getElem (by omega)];rfl
  rw [GN,c6];exact bL
end
end Go.Proofs.YtjbiefneffiogaaGreat
namespace Go.Proofs.YtjbiefneffiogaaGreat
open Go bA
section
variable {al h aa:aj} {ar:a6} {K aO:fs} {au:List a6} {aS pm:V} {S:ax} {steps:Int} {dY b4 b8 bn:V}
set_option maxHeartbeats 4000000 in
theorem agi (M:dx al h ar K au aS pm S steps) (O:Ok S) (hw:S.w.length≤1000000000) (c8:Shape S.c) (bk:∀a ∈ S.c.a,a.k=1→a.n ∈ S.e.map Prod.fst) (an:S.c.k=5) {aR:List UInt8}:bB Tryz.prog 59 [.ptr ar 0] h fun x aa=>∃aO aL,dx al aa ar aO aL aS pm (S.step aR) steps:=by
 obtain ⟨jC,eq,fG,da,M⟩:=M
 obtain ⟨eU,co,aN,aP,aw,rfl,cU,dU,cw,d'⟩:=M.co.open
 have cJ:=M.get
 rw [an] at d'
 have lc:=d' h M.rep.ext
 refine pD rfl (bP ?_)
 unfold oO
 simp +contextual only [cJ,lc.1,↓ad,af,simprocAttr]
 refine aV (pC M bk c8.oo) ?_
 rintro x ae ⟨jA,ho,aH,dW,fP,ig⟩
 obtain ⟨kG,c6,k4,np,l9,hB⟩:=ax.l7 S S.c.a
 have hT:=O.atoms S.c.a c8.at_
 have ee:=aH.get
 have bf:=d' ae aH.rep.ext
 have dq:S.step aR=(S.atoms S.c.a).1.dI aR (S.atoms S.c.a).2:=rfl
 generalize (S.atoms S.c.a).1=T at *
 generalize (S.atoms S.c.a).2=bx at *
 have cz:ew ae ho bx x:=⟨dW.v,fP⟩
 have fh:T.c.k=5:=by rw [c6];exact an
 have dJ:=M.rep.ext.next
 obtain ⟨a1,rfl⟩:∃a1,bx=[a1]:=by
  have:bx.length=1:=by rw [hB];exact c8.bw (by omega)
  match bx,this with
  | [a],_=>exact ⟨a,rfl⟩
 obtain ⟨e1,cX,eG,fU,_,_,b7,jO,b2⟩:=aH.arg cz 0 0 a1 rfl rfl
 have e5:=b2 _ (Ext.refl _)
 obtain ⟨dE,e6⟩:=c8.n5 an
 have nh:dx al ae ar jA ho aS pm T steps:=⟨_,_,_,_,aH⟩
 by_cases bq:¬cV (T.val a1)=4
 · have mb:=eq_false bq
   simp +contextual only [cJ,ee,lc.1,bf.1,b7,e5.1,e5.2,mb,↓ad,af,simprocAttr]
   refine aV (pH nh 6) ?_
   rintro y ak M2
   simp +contextual only [↓ad,af,simprocAttr]
   refine ⟨jA,ho,?_⟩
   rw [dq]
   have:T.dI aR [a1]=T.gp:=by
    simp only [ax.dI,fh,↓reduceIte,Int.reduceEq,reduceCtorEq,false_or,or_false,List.getD_cons_zero,ax.l_]
    cases bk:T.val a1<;>first | rfl | (rw [bk] at bq;exact (bq rfl).elim)
   rw [this]
   exact M2
 obtain ⟨t,bg,bk⟩:=we (Decidable.not_not.1 bq)
 rw [bk] at e5 jO
 simp only [cV,dG,e8] at e5
 obtain ⟨f1,f2,f3⟩:=jO
 have hK:=f1.v.len
 by_cases a7:(bg.length:Int)≤S.c.n
 · have vJ:=eq_true a7
   simp +contextual only [cJ,ee,lc.1,bf.1,bf.2.2.1,b7,e5.1,e5.2,hK,vJ,↓ad,af,simprocAttr]
   refine aV (pH nh 6) ?_
   rintro y ak M2
   simp +contextual only [↓ad,af,simprocAttr]
   refine ⟨jA,ho,?_⟩
   rw [dq]
   have:T.dI aR [a1]=T.gp:=by
    have:T.dI aR [a1]=T.l_ T.c.n a1:=by simp only [ax.dI,fh,↓reduceIte,Int.reduceEq,reduceCtorEq,false_or,or_false,List.getD_cons_zero]
    rw [this]
    simp only [ax.l_,bk]
    rw [c6,if_pos a7]
   rw [this]
   exact M2
 have vJ:=eq_false a7
 obtain ⟨m,hm⟩:∃m:Nat,S.c.n=(m:Int):=⟨S.c.n.toNat,by omega⟩
 have uY:ew ae ho bg fU:=⟨f1.v,f3⟩
 obtain ⟨cG,fi,im,jV,zV⟩:=uY.at (k:=.i64) (i:=m) (by omega)
 rw [←hm] at im
 have Aq:=jV _ (Ext.refl _)
 simp +contextual only [cJ,ee,lc.1,bf.1,bf.2.2.1,b7,e5.1,e5.2,hK,vJ,im,Aq,↓ad,af,simprocAttr]
 refine aV (mz nh hT.w zV) ?_
 rintro y ak ⟨ez,M2⟩
 simp +contextual only [ee,bf.2.2.1,b7,e5.1,e5.2,im,Aq,↓ad,af,simprocAttr]
 refine ⟨ez,ho,?_⟩
 rw [dq]
 have:T.dI aR [a1]=T.nb (bg.getD m 0):=by
  have:T.dI aR [a1]=T.l_ T.c.n a1:=by simp only [ax.dI,fh,↓reduceIte,Int.reduceEq,reduceCtorEq,false_or,or_false,List.getD_cons_zero]
  rw [this]
  simp only [ax.l_,bk]
  rw [c6,if_neg a7,hm]
  rfl
 rw [this]
 exact M2
set_option maxHeartbeats 4000000 in
theorem agj (M:dx al h ar K au aS pm S steps) (O:Ok S) (hw:S.w.length≤1000000000) (c8:Shape S.c) (bk:∀a ∈ S.c.a,a.k=1→a.n ∈ S.e.map Prod.fst) (an:S.c.k=2) {aR:List UInt8}:bB Tryz.prog 59 [.ptr ar 0] h fun x aa=>∃aO aL,dx al aa ar aO aL aS pm (S.step aR) steps:=by
 obtain ⟨jC,eq,fG,da,M⟩:=M
 obtain ⟨eU,co,aN,aP,aw,rfl,cU,dU,cw,d'⟩:=M.co.open
 have cJ:=M.get
 rw [an] at d'
 have lc:=d' h M.rep.ext
 refine pD rfl (bP ?_)
 unfold oO
 simp +contextual only [cJ,lc.1,↓ad,af,simprocAttr]
 refine aV (pC M bk c8.oo) ?_
 rintro x ae ⟨jA,ho,aH,dW,fP,ig⟩
 obtain ⟨kG,c6,k4,np,l9,hB⟩:=ax.l7 S S.c.a
 have hT:=O.atoms S.c.a c8.at_
 have ee:=aH.get
 have bf:=d' ae aH.rep.ext
 have dq:S.step aR=(S.atoms S.c.a).1.dI aR (S.atoms S.c.a).2:=rfl
 generalize (S.atoms S.c.a).1=T at *
 generalize (S.atoms S.c.a).2=bx at *
 have cz:ew ae ho bx x:=⟨dW.v,fP⟩
 have fh:T.c.k=2:=by rw [c6];exact an
 have dJ:=M.rep.ext.next
 have g8:=c8.eJ (by omega)
 obtain ⟨tf,Hz,Ac⟩:=ib.et cw (k:=.i64) (i:=0) (by omega)
 obtain ⟨aQ,HB,Ad⟩:=ib.et cw (k:=.i64) (i:=1) (by omega)
 have HA:fc 7 aw (.int .i64 0)=some tf:=Hz
 have HC:fc 7 aw (.int .i64 1)=some aQ:=HB
 have wB:=Ac.one
 have tb:=Ad.one
 have fx:=aH.dB.one
 have W:=aH.wr
 obtain ⟨us,dL,dw,hF,h2⟩:=W
 have Gi:T.w.length≤1000000000:=by rw [k4];exact hw
 obtain ⟨dg,aC,ca,b',cE,fR,fN⟩:=iW (size:=4) (cs:=[.bool false,.int .i64 S.c.x,aQ,eq]) (by omega) dL aH.rep.ext.next (by unfold top;omega) rfl (by simp only [gh,tb.1,fx.1,Bool.and_self];rfl)
 obtain ⟨kY,bL⟩:=aH.waited (a:=⟨false,S.c.x,S.c.l[1]'(by omega),T.e⟩) Ad aH.dB dL b' cE (fun b q=>by rcases fN b q with r | r;exact .inl r;exact .inr (by omega)) ⟨us,rfl,hF,h2⟩
 have bC:=bL.next {T with w:=⟨false,S.c.x,S.c.l[1]'(by omega),T.e⟩::T.w,c:=S.c.l[0]'(by omega)} steps tf eq dg da rfl Ac bL.dB bL.wr bL.dk
 have dm:=b'.v.one
 have eK:(ao ae.next=ar)=False:=gA aH.b6.2 (Nat.le_refl _)
 have ml:=d' _ (aH.rep.ext.trans ((Ext.refl ae).new (.aq [.bool false,.int .i64 S.c.x,aQ,eq] 0 false)))
 simp only [eB] at ml
 have jc:aC.get ar=_:=(cE.get ar aH.b6.2 (fun q=>by have:=dw ar q;rw [aH.dv] at this;cases this)).trans ee
 have cp:Ext al aC:=⟨by have:=aH.rep.ext.next;omega,fun b ah=>(cE.get b (Nat.lt_of_lt_of_le ah aH.rep.ext.next) (fun q=>by have:=dL.base q;unfold Old at ah;omega)).trans (aH.rep.ext.get b ah)⟩
 have m5:=d' aC cp
 have nC:=d' _ bL.rep.ext
 simp only [du] at nC
 simp +contextual only [cJ,ee,lc.1,bf.1,bf.2.1,bf.2.2.2.2.2.2,HA,HC,wB.1,wB.2.1,wB.2.2,tb.1,tb.2.1,tb.2.2,fx.1,fx.2.1,fx.2.2,eK,ml.1,ml.2.1,ml.2.2.2.2.2.2,ca,jc,m5.1,m5.2.1,m5.2.2.2.2.2.2,nC.2.2.2.2.2.2,dm.1,dm.2.1,↓ad,af,simprocAttr]
 refine ⟨kY,ho,?_⟩
 rw [dq]
 have nz:T.et 0=S.c.l[0]'(by omega):=by
  simp only [ax.et,c6]
  rw [List.getD_eq_getElem?_getD,List.getElem?_eq_getElem (by omega)];rfl
 have km:T.et 1=S.c.l[1]'(by omega):=by
  simp only [ax.et,c6]
  rw [List.getD_eq_getElem?_getD,List.getElem?_eq_getElem (by omega)];rfl
 have:T.dI aR bx={T with w:=⟨false,S.c.x,S.c.l[1]'(by omega),T.e⟩::T.w,c:=S.c.l[0]'(by omega)}:=by
  simp only [ax.dI,fh,↓reduceIte,Int.reduceEq,reduceCtorEq,false_or,or_false,or_true,true_or,ax.waits,nz,km]
  rw [c6]
  rfl
 rw [this]
 exact ⟨_,_,_,_,bC⟩
set_option maxHeartbeats 4000000 in
theorem agp (M:dx al h ar K au aS pm S steps) (O:Ok S) (hw:S.w.length≤1000000000) (c8:Shape S.c) (bk:∀a ∈ S.c.a,a.k=1→a.n ∈ S.e.map Prod.fst) (an:S.c.k=11) {aR:List UInt8}:bB Tryz.prog 59 [.ptr ar 0] h fun x aa=>∃aO aL,dx al aa ar aO aL aS pm (S.step aR) steps:=by
 obtain ⟨jC,eq,fG,da,M⟩:=M
 obtain ⟨eU,co,aN,aP,aw,rfl,cU,dU,cw,d'⟩:=M.co.open
 have cJ:=M.get
 rw [an] at d'
 have lc:=d' h M.rep.ext
 refine pD rfl (bP ?_)
 unfold oO
 simp +contextual only [cJ,lc.1,↓ad,af,simprocAttr]
 refine aV (pC M bk c8.oo) ?_
 rintro x ae ⟨jA,ho,aH,dW,fP,ig⟩
 obtain ⟨kG,c6,k4,np,l9,hB⟩:=ax.l7 S S.c.a
 have hT:=O.atoms S.c.a c8.at_
 have ee:=aH.get
 have bf:=d' ae aH.rep.ext
 have dq:S.step aR=(S.atoms S.c.a).1.dI aR (S.atoms S.c.a).2:=rfl
 generalize (S.atoms S.c.a).1=T at *
 generalize (S.atoms S.c.a).2=bx at *
 have cz:ew ae ho bx x:=⟨dW.v,fP⟩
 have fh:T.c.k=11:=by rw [c6];exact an
 have dJ:=M.rep.ext.next
 have g8:=c8.eJ (by omega)
 obtain ⟨tf,Hz,Ac⟩:=ib.et cw (k:=.i64) (i:=0) (by omega)
 obtain ⟨aQ,HB,Ad⟩:=ib.et cw (k:=.i64) (i:=1) (by omega)
 have HA:fc 7 aw (.int .i64 0)=some tf:=Hz
 have HC:fc 7 aw (.int .i64 1)=some aQ:=HB
 have wB:=Ac.one
 have tb:=Ad.one
 have fx:=aH.dB.one
 have W:=aH.wr
 obtain ⟨us,dL,dw,hF,h2⟩:=W
 have Gi:T.w.length≤1000000000:=by rw [k4];exact hw
 obtain ⟨dg,aC,ca,b',cE,fR,fN⟩:=iW (size:=4) (cs:=[.bool true,.int .i64 S.c.x,aQ,eq]) (by omega) dL aH.rep.ext.next (by unfold top;omega) rfl (by simp only [gh,tb.1,fx.1,Bool.and_self];rfl)
 obtain ⟨kY,bL⟩:=aH.waited (a:=⟨true,S.c.x,S.c.l[1]'(by omega),T.e⟩) Ad aH.dB dL b' cE (fun b q=>by rcases fN b q with r | r;exact .inl r;exact .inr (by omega)) ⟨us,rfl,hF,h2⟩
 have bC:=bL.next {T with w:=⟨true,S.c.x,S.c.l[1]'(by omega),T.e⟩::T.w,c:=S.c.l[0]'(by omega)} steps tf eq dg da rfl Ac bL.dB bL.wr bL.dk
 have dm:=b'.v.one
 have eK:(ao ae.next=ar)=False:=gA aH.b6.2 (Nat.le_refl _)
 have ml:=d' _ (aH.rep.ext.trans ((Ext.refl ae).new (.aq [.bool true,.int .i64 S.c.x,aQ,eq] 0 false)))
 simp only [eB] at ml
 have jc:aC.get ar=_:=(cE.get ar aH.b6.2 (fun q=>by have:=dw ar q;rw [aH.dv] at this;cases this)).trans ee
 have cp:Ext al aC:=⟨by have:=aH.rep.ext.next;omega,fun b ah=>(cE.get b (Nat.lt_of_lt_of_le ah aH.rep.ext.next) (fun q=>by have:=dL.base q;unfold Old at ah;omega)).trans (aH.rep.ext.get b ah)⟩
 have m5:=d' aC cp
 have nC:=d' _ bL.rep.ext
 simp only [du] at nC
 simp +contextual only [cJ,ee,lc.1,bf.1,bf.2.1,bf.2.2.2.2.2.2,HA,HC,wB.1,wB.2.1,wB.2.2,tb.1,tb.2.1,tb.2.2,fx.1,fx.2.1,fx.2.2,eK,ml.1,ml.2.1,ml.2.2.2.2.2.2,ca,jc,m5.1,m5.2.1,m5.2.2.2.2.2.2,nC.2.2.2.2.2.2,dm.1,dm.2.1,↓ad,af,simprocAttr]
 refine ⟨kY,ho,?_⟩
 rw [dq]
 have nz:T.et 0=S.c.l[0]'(by omega):=by
  simp only [ax.et,c6]
  rw [List.getD_eq_getElem?_getD,List.getElem?_eq_getElem (by omega)];rfl
 have km:T.et 1=S.c.l[1]'(by omega):=by
  simp only [ax.et,c6]
  rw [List.getD_eq_getElem?_getD,List.getElem?_eq_getElem (by omega)];rfl
 have:T.dI aR bx={T with w:=⟨true,S.c.x,S.c.l[1]'(by omega),T.e⟩::T.w,c:=S.c.l[0]'(by omega)}:=by
  simp only [ax.dI,fh,↓reduceIte,Int.reduceEq,reduceCtorEq,false_or,or_false,or_true,true_or,ax.waits,nz,km]
  rw [c6]
  rfl
 rw [this]
 exact ⟨_,_,_,_,bC⟩
theorem agf (M:dx al h ar K au aS pm S steps) (O:Ok S) (hw:S.w.length≤1000000000) (c8:Shape S.c) (bk:∀a ∈ S.c.a,a.k=1→a.n ∈ S.e.map Prod.fst) (gG:1≤S.c.k∧S.c.k≤12)
 (D:Bq al pm) {aR:List UInt8} (dX:cg al 1 aS aR.length (dp aR)) (hlen:aR.length≤1073741824) (fD:S.read≤aR.length):bB Tryz.prog 59 [.ptr ar 0] h fun x aa=>∃aO aL,dx al aa ar aO aL aS pm (S.step aR) steps:=by
 have:S.c.k=1∨S.c.k=2∨S.c.k=3∨S.c.k=4∨S.c.k=5∨S.c.k=6∨S.c.k=7∨S.c.k=8∨S.c.k=9∨S.c.k=10∨S.c.k=11∨S.c.k=12:=by omega
 rcases this with an | an | an | an | an | an | an | an | an | an | an | an
 · exact step_ret M O hw c8 bk an
 · exact agj M O hw c8 bk an
 · exact agl M O hw c8 bk D dX hlen fD an
 · exact agk M O hw c8 bk an
 · exact agi M O hw c8 bk an
 · exact agd M O hw c8 bk an
 · exact agh M O hw c8 bk an
 · exact agn M O hw c8 bk an
 · exact ago M O hw c8 bk an
 · exact age M O hw c8 bk an
 · exact agp M O hw c8 bk an
 · exact agm M O hw c8 bk an
end
end Go.Proofs.YtjbiefneffiogaaGreat
namespace Go.Proofs.YtjbiefneffiogaaGreat
theorem D' {b:List Int} {a:List At}:iR b a=[]↔∀q ∈ a,q.k=1→q.n ∈ b:=by
 unfold iR
 rw [List.map_eq_nil_iff,List.filter_eq_nil_iff]
 constructor
 · intro h q a2 an
   have:=h q a2
   simp only [an,decide_true,Bool.true_and,Bool.not_eq_true',Bool.not_eq_false] at this
   simpa using this
 · intro h q a2
   by_cases an:q.k=1
   · have:=h q a2 an
     simp [an,this]
   · simp [an]
mutual
theorem vm:∀(c:aY) {b b1:List Int},(∀z ∈ b,z ∈ b1)→free c b=[]→free c b1=[]
 | .mk k x n s a t l,b,b1,ah,h=>by
   simp only [free,List.append_eq_nil_iff] at h ⊢
   refine ⟨D'.2 fun q a2 an=>ah _ (D'.1 h.1 q a2 an),NN l (fun z bI=>?_) h.2⟩
   rcases List.mem_append.1 bI with r | r
   · exact List.mem_append.2 (.inl (ah z r))
   · exact List.mem_append.2 (.inr r)
theorem NN:∀(l:List aY) {late:Bool} {x:Int} {b b1:List Int} {i:Nat},(∀z ∈ b,z ∈ b1)→jb late x l b i=[]→jb late x l b1 i=[]
 | [],_,_,_,_,_,_,_=>rfl
 | c::cs,late,x,b,b1,i,ah,h=>by
   simp only [jb,List.append_eq_nil_iff] at h ⊢
   refine ⟨vm c (fun z bI=>?_) h.1,NN cs ah h.2⟩
   split at bI
   · rename_i q
     rw [if_pos q]
     rcases List.mem_append.1 bI with r | r
     · exact List.mem_append.2 (.inl (ah z r))
     · exact List.mem_append.2 (.inr r)
   · rename_i q
     rw [if_neg q]
     exact ah z bI
end
theorem F4:∀{l:List aY} {x:Int} {b:List Int} {i:Nat},jb false x l b i=[]→∀c ∈ l,free c b=[]
 | [],_,_,_,_,c,aD=>by cases aD
 | d::l,x,b,i,h,c,aD=>by
   simp only [jb,Bool.false_and,Bool.false_eq_true,if_false,List.append_eq_nil_iff] at h
   rcases List.mem_cons.1 aD with rfl | aD
   · exact h.1
   · exact F4 h.2 c aD
theorem PB {own:Bool→aY→Bool}:∀{l:List aY},iP own l=true→∀c ∈ l,may own c=true
 | [],_,c,aD=>by cases aD
 | d::l,h,c,aD=>by
   simp only [iP,Bool.and_eq_true] at h
   rcases List.mem_cons.1 aD with rfl | aD
   · exact h.1
   · exact PB h.2 c aD
theorem HY {own:Bool→aY→Bool}:∀{l:List aY},hN own l=true→(∀f ∈ l.dropLast,f.k=7∧own true f=true∧lJ own f=true)∧∀c ∈ l.getLast?,may own c=true
 | [],_=>⟨fun f av=>(by cases av),fun c aD=>(by cases aD)⟩
 | [c],h=>by
   simp only [hN] at h
   exact ⟨fun f av=>(by cases av),fun d cc=>(by simp at cc;subst cc;exact h)⟩
 | c::d::l,h=>by
   have aa:((decide (c.k=7)&&own true c)&&lJ own c&&hN own (d::l))=true:=by simpa only [hN] using h
   simp only [Bool.and_eq_true,decide_eq_true_eq] at aa
   obtain ⟨i1,i2⟩:=HY (l:=d::l) aa.2
   refine ⟨fun f av=>?_,fun e he=>i2 e (by simpa using he)⟩
   rw [List.dropLast_cons_cons] at av
   rcases List.mem_cons.1 av with rfl | av
   · exact ⟨aa.1.1.1,aa.1.1.2,aa.1.2⟩
   · exact i1 f av
theorem Cu {m:Nat}:∀{l:List aY},fits m l→∀c ∈ l,fit m c
 | [],_,c,aD=>by cases aD
 | d::l,h,c,aD=>by
   rcases List.mem_cons.1 aD with rfl | aD
   · exact h.1
   · exact Cu h.2 c aD
theorem adS {c:aY} (h:ej false c=true):(c.k=1∨c.k=2∨c.k=3∨c.k=4∨c.k=5∨c.k=6∨c.k=7∨c.k=9∨c.k=10∨c.k=11∨c.k=12)∧(c.a.all gS=true)∧
 (c.k=1∨c.k=5∨c.k=9∨c.k=10∨c.k=12→(c.a.length:Int)=1)∧(c.k=6→(c.a.length:Int)=2)∧(c.k=2∨c.k=11→c.l.length=2)∧(c.k=3→(c.a.length:Int)=eO c.s∧0<eO c.s)∧
 (c.k=5→0≤c.n∧c.n≤1048575)∧(c.k=7→c.l.length=1)∧(c.k=9∨c.k=10→diff c.t=true):=by
 obtain ⟨k,x,n,s,a,t,l⟩:=c
 simp only [ej,Bool.false_eq_true,if_false,eT,jF,aY.k,aY.x,aY.n,aY.s,aY.a,aY.t,aY.l,hasB,ih,tY,kS] at h ⊢
 by_cases ae:k=1
 · subst ae;simp at h ⊢;grind
 by_cases ak:k=2
 · subst ak;simp at h ⊢;grind
 by_cases aC:k=3
 · subst aC;simp at h ⊢;grind
 by_cases bq:k=4
 · subst bq;simp at h ⊢;grind
 by_cases dZ:k=5
 · subst dZ;simp at h ⊢;grind
 by_cases eM:k=6
 · subst eM;simp at h ⊢;grind
 by_cases c9:k=7
 · subst c9;simp at h ⊢;grind
 by_cases jG:k=9
 · subst jG;simp at h ⊢;grind
 by_cases j7:k=10
 · subst j7;simp at h ⊢;grind
 by_cases jd:k=11
 · subst jd;simp at h ⊢;grind
 by_cases mT:k=12
 · subst mT;simp at h ⊢;grind
 simp [ae,ak,aC,bq,dZ,eM,c9,jG,j7,jd,mT] at h
structure iV (b:List Int) (c:aY):Prop where
 acv:may (fun b c=>ej b c) c=true
 Wu:free c b=[]
 r7:fit 1048576 c
theorem iV.mono {b b1:List Int} {c:aY} (H:iV b c) (h:∀z ∈ b,z ∈ b1):iV b1 c:=⟨H.acv,vm c h H.Wu,H.r7⟩
theorem Qc {c:aY} (h:ej true c=true):c.k=7∧c.l.length=1:=by
 simp only [ej,if_true,jF,Bool.and_eq_true] at h
 exact ⟨of_decide_eq_true h.1.1.1.1.1,of_decide_eq_true h.2⟩
theorem iV.shape {b:List Int} {c:aY} (H:iV b c):Shape c∧(1≤c.k∧c.k≤12)∧∀a ∈ c.a,a.k=1→a.n ∈ b:=by
 obtain ⟨ae,ak,aC⟩:=H
 obtain ⟨f1,f2,f3,f4,f5⟩:=aC.kids
 obtain ⟨k,x,n,s,a,t,l⟩:=c
 simp only [free,List.append_eq_nil_iff] at ak
 simp only [may] at ae
 by_cases an:k=8
 · subst an
   rw [if_pos rfl] at ae
   simp only [Bool.and_eq_true,tL,decide_eq_true_eq,aY.a,aY.t,aY.x,aY.n,aY.s] at ae
   obtain ⟨⟨⟨_,bU⟩,aK⟩,bd⟩:=ae
   obtain ⟨aU,bm⟩:=HY bd
   refine ⟨⟨f2,f3,f4,fun q a2=>?_,by simp [aY.k],by simp [aY.k],by simp [aY.k],by simp [aY.k],by simp [aY.k],by simp [aY.k],fun _=>⟨aK,fun f av=>(Qc (aU f av).2.1).2⟩,by simp [aY.k],by simp [aY.k]⟩,by simp [aY.k],D'.1 ak.1⟩
   have Gj:a=[]:=of_decide_eq_true bU
   simp only [aY.a,Gj] at a2
   cases a2
 · rw [if_neg an] at ae
   simp only [Bool.and_eq_true] at ae
   obtain ⟨dz,fi,gz,yg,yh,AB,AD,ac8,ac9⟩:=adS ae.1
   exact ⟨⟨f2,f3,f4,fun q a2=>List.all_eq_true.1 fi q a2,fun e=>by have:=gz e;omega,fun e=>by have:=yg e;omega,yh,AB,AD,ac8,fun e=>absurd e an,ac9,by omega⟩,by omega,D'.1 ak.1⟩
theorem iV.kids {b:List Int} {c:aY} (H:iV b c):(c.k=2∨c.k=11→∀p q,c.l=[p,q]→iV b p∧iV (c.x::b) q)∧(c.k=7→∀p,c.l=[p]→iV (c.x::b) p)∧
 (c.k=9∨c.k=10→∀p ∈ c.l,iV b p)∧(c.k=8→(∀f ∈ c.l.dropLast,iV (f.x::(c.l.dropLast.map aY.n++b)) (f.l.headD f))∧∀p ∈ c.l.getLast?,iV (c.l.dropLast.map aY.n++b) p):=by
 obtain ⟨ae,ak,aC⟩:=H
 have f5:=aC.kids.2.2.2.2
 obtain ⟨k,x,n,s,a,t,l⟩:=c
 simp only [free,List.append_eq_nil_iff] at ak
 simp only [may] at ae
 simp only [aY.k,aY.l,aY.x] at f5 ⊢
 by_cases an:k=8
 · subst an
   rw [if_pos rfl] at ae
   simp only [Bool.and_eq_true] at ae
   obtain ⟨aU,bm⟩:=HY ae.2
   have sO:∀c ∈ l,free c (b++l.dropLast.map aY.n)=[]:=by
    have:=ak.2
    simp only [dS,ownNames] at this
    exact F4 (by simpa using this)
   refine ⟨by simp,by simp,by simp,fun _=>⟨fun f av=>?_,fun p aT=>?_⟩⟩
   · obtain ⟨aQ,aB,a'⟩:=aU f av
     have hK:=(List.dropLast_sublist l).mem av
     have bF:=sO f hK
     have bz:=(Cu f5 f hK).kids.2.2.2.2
     have e4:=(Qc aB).2
     obtain ⟨WK,ah2,fn,bg,c2,gx,WB⟩:=f
     simp only [aY.k,aY.l,aY.x] at aQ e4 bz ⊢
     subst aQ
     match WB,e4 with
     | [p],_=>
       simp only [lJ,qR] at a'
       simp only [free,List.append_eq_nil_iff,jb,dS,ownNames] at bF
       refine ⟨a',vm p (fun z bI=>?_) bF.2.1,bz.1⟩
       simp at bI ⊢
       grind
   · have qF:p ∈ l:=List.mem_of_getLast? aT
     refine ⟨bm p aT,vm p (fun z bI=>?_) (sO p qF),Cu f5 p qF⟩
     simp at bI ⊢
     grind
 · rw [if_neg an] at ae
   simp only [Bool.and_eq_true] at ae
   refine ⟨fun e p q aK=>?_,fun e p aK=>?_,fun e p aT=>?_,fun e=>absurd e an⟩
   · subst aK
     have g2:dS k=true:=by simp only [dS];rcases e with rfl | rfl<;>rfl
     have hE:ownNames k x [p,q]=[]:=by simp only [ownNames];rcases e with rfl | rfl<;>rfl
     have:=ak.2
     rw [g2,hE] at this
     simp only [jb,List.append_eq_nil_iff] at this
     have hm:=ae.2
     simp only [iP,Bool.and_eq_true] at hm
     refine ⟨⟨hm.1,vm p (fun z bI=>?_) this.1,f5.1⟩,⟨hm.2.1,vm q (fun z bI=>?_) this.2.1,f5.2.1⟩⟩
     · simpa using bI
     · simp at bI ⊢;grind
   · subst aK
     subst e
     have:=ak.2
     simp only [jb,List.append_eq_nil_iff,dS,ownNames] at this
     have hm:=ae.2
     simp only [iP,Bool.and_eq_true] at hm
     refine ⟨hm.1,vm p (fun z bI=>?_) this.1,f5.1⟩
     simp at bI ⊢;grind
   · have g2:dS k=false:=by simp only [dS];rcases e with rfl | rfl<;>rfl
     have hE:ownNames k x l=[]:=by simp only [ownNames];rcases e with rfl | rfl<;>rfl
     have:=ak.2
     rw [g2,hE,List.append_nil] at this
     exact ⟨PB ae.2 p aT,F4 this p aT,Cu f5 p aT⟩
def keys (e:ix):List Int:=e.map Prod.fst
structure de (S:ax) (n:Nat) (aR:List UInt8):Prop where
 c:iV (keys S.e) S.c
 w:∀a ∈ S.w,iV (a.x::keys a.e) a.c
 fns:∀v ∈ S.st,∀x c e,v=.fn x c e→iV (x::keys e) c
 ints:∀v ∈ S.st,∀n,v=.int n→-1073741824≤n∧n≤1073741823
 texts:∀v ∈ S.st,∀s,v=.text s→s.length≤4096
 wl:S.w.length≤n
 out:S.out.length≤4096 * n
 read:S.read≤aR.length
theorem yz (n:Int):-1073741824≤wr n∧wr n≤1073741823:=by unfold wr;omega
theorem ax.Ja {S:ax} {j:Nat}:S.val j ∈ S.st∨S.val j=.int 0:=by
 unfold ax.val
 by_cases h:j<S.st.length
 · rw [List.getD_eq_getElem?_getD,List.getElem?_eq_getElem h];exact .inl (List.getElem_mem h)
 · rw [List.getD_eq_getElem?_getD,List.getElem?_eq_none (by omega)];exact .inr rfl
section
variable {S:ax} {n:Nat} {aR:List UInt8}
theorem de.Eb (H:de S n aR) {j:Nat} {m:Int} (h:S.val j=.int m):-1073741824≤m∧m≤1073741823:=by
 rcases ax.Ja (S:=S) (j:=j) with q | q
 · exact H.ints _ q m h
 · rw [h] at q;cases q;omega
theorem de.Jb (H:de S n aR) {j:Nat} {s:List UInt8} (h:S.val j=.text s):s.length≤4096:=by
 rcases ax.Ja (S:=S) (j:=j) with q | q
 · exact H.texts _ q s h
 · rw [h] at q;cases q
theorem de.agS (H:de S n aR) {j:Nat} {x:Int} {c:aY} {e:ix} (h:S.val j=.fn x c e):iV (x::keys e) c:=by
 rcases ax.Ja (S:=S) (j:=j) with q | q
 · exact H.fns _ q x c e h
 · rw [h] at q;cases q
theorem de.ok (H:de S n aR) (a7:n≤1000000):Ok S:=⟨fun j m h=>H.Eb h,fun j s h=>H.Jb h,by have:=H.wl;omega,by have:=H.out;omega⟩
theorem de.up (H:de S n aR) {m:Nat} (h:n≤m):de S m aR:=⟨H.c,H.w,H.fns,H.ints,H.texts,Nat.le_trans H.wl h,by have:=H.out;omega,H.read⟩
def u1 (v:eR):Prop:=(∀x c e,v=.fn x c e→iV (x::keys e) c)∧(∀n,v=.int n→-1073741824≤n∧n≤1073741823)∧∀s,v=.text s→s.length≤4096
theorem oU {m:Int} (h:-1073741824≤m∧m≤1073741823):u1 (.int m):=⟨fun _ _ _ q=>(by cases q),fun _ q=>(by cases q;exact h),fun _ q=>(by cases q)⟩
theorem CC {s:List UInt8} (h:s.length≤4096):u1 (.text s):=⟨fun _ _ _ q=>(by cases q),fun _ q=>(by cases q),fun _ q=>(by cases q;exact h)⟩
theorem nt (t:Int) (bg:List Nat):u1 (.dn t bg):=⟨fun _ _ _ q=>(by cases q),fun _ q=>(by cases q),fun _ q=>(by cases q)⟩
theorem NU {x:Int} {c:aY} {e:ix} (h:iV (x::keys e) c):u1 (.fn x c e):=⟨fun _ _ _ q=>(by cases q;exact h),fun _ q=>(by cases q),fun _ q=>(by cases q)⟩
theorem de.gf (H:de S n aR) {v:eR} (h:u1 v):de (S.gf v) n aR:=by
 refine ⟨H.c,H.w,fun u hu=>?_,fun u hu=>?_,fun u hu=>?_,H.wl,H.out,H.read⟩<;>simp only [ax.gf,List.mem_append,List.mem_singleton] at hu<;>rcases hu with hu | rfl
 · exact H.fns u hu
 · exact h.1
 · exact H.ints u hu
 · exact h.2.1
 · exact H.texts u hu
 · exact h.2.2
theorem de.ends (H:de S n aR) (pU:Int):de (S.ends pU) n aR:=⟨H.c,H.w,H.fns,H.ints,H.texts,H.wl,H.out,H.read⟩
theorem de.nb (H:de S n aR) (j:Nat):de (S.nb j) n aR:=by
 have key:∀w:List j2,(∀a ∈ w,a ∈ S.w)→w.length≤S.w.length→de (S.r' j w) n aR:=by
  intro w
  induction w with
  | nil=>intro _ _;exact ⟨H.c,fun a bU=>(by cases bU),H.fns,H.ints,H.texts,Nat.zero_le _,H.out,H.read⟩
  | cons a w bN=>
    intro hw aK
    simp only [List.length_cons] at aK
    simp only [ax.r']
    split
    · exact bN (fun b ah=>hw b (by simp [ah])) (by omega)
    · exact ⟨H.w a (hw a (by simp)),fun b ah=>H.w b (hw b (by simp [show b ∈ w from ah])),H.fns,H.ints,H.texts,by have:=H.wl;simp only [ax.CB];omega,H.out,H.read⟩
 exact key S.w (fun _ h=>h) (Nat.le_refl _)
theorem de.p6 (H:de S n aR) (j:Nat):de (S.p6 j) n aR:=by
 have key:∀w:List j2,(∀a ∈ w,a ∈ S.w)→w.length≤S.w.length→de (S.lo j w) n aR:=by
  intro w
  induction w with
  | nil=>
    intro _ _
    simp only [ax.lo]
    split<;>exact ⟨H.c,fun a bU=>(by cases bU),H.fns,H.ints,H.texts,Nat.zero_le _,H.out,H.read⟩
  | cons a w bN=>
    intro hw aK
    simp only [List.length_cons] at aK
    simp only [ax.lo]
    split
    · exact ⟨H.w a (hw a (by simp)),fun b ah=>H.w b (hw b (by simp [show b ∈ w from ah])),H.fns,H.ints,H.texts,by have:=H.wl;simp only [ax.CB];omega,H.out,H.read⟩
    · exact bN (fun b ah=>hw b (by simp [ah])) (by omega)
 exact key S.w (fun _ h=>h) (Nat.le_refl _)
theorem de.dT (H:de S n aR) {v:eR} (h:u1 v):de (S.dT v) n aR:=(H.gf h).nb _
theorem de.nF (H:de S n aR) {v:eR} (h:u1 v):de (S.nF v) n aR:=(H.gf h).p6 _
theorem de.P9 (H:de S n aR) {o:List UInt8} (h:o.length≤4096):de {S with out:=S.out++o} (n+1) aR:=
 ⟨H.c,H.w,H.fns,H.ints,H.texts,by have:=H.wl;simp only;omega,by have:=H.out;simp only [List.length_append];omega,H.read⟩
theorem de.atoms (H:de S n aR) (l:List At) (h:∀a ∈ l,gS a=true):de (S.atoms l).1 n aR:=by
 have key:∀(l:List At) (p:ax × List Nat),(∀a ∈ l,gS a=true)→de p.1 n aR→de (l.foldl ax.oK p).1 n aR:=by
  intro l
  induction l with
  | nil=>intro p _ h;exact h
  | cons a l bN=>
    intro p bU aT
    rw [List.foldl_cons]
    refine bN _ (fun b ah=>bU b (by simp [ah])) ?_
    have hr:=bU a (by simp)
    simp only [ax.oK,ax.atom]
    by_cases bQ:a.k=1
    · rw [if_pos bQ];exact aT
    · rw [if_neg bQ]
      by_cases cB:a.k=2
      · rw [if_pos cB]
        refine aT.gf (oU ?_)
        simp only [gS,if_neg bQ,if_pos cB,Bool.and_eq_true,o',decide_eq_true_eq] at hr
        omega
      · rw [if_neg cB]
        refine aT.gf (CC ?_)
        simp only [gS,if_neg bQ,if_neg cB] at hr
        by_cases fX:a.k=3
        · rw [if_pos fX] at hr
          simp only [Bool.and_eq_true,decide_eq_true_eq] at hr
          omega
        · rw [if_neg fX] at hr;cases hr
 exact key l (S,[]) h H
theorem jI {p:Prop} [Decidable p] {A B:ax} (ae:de A n aR) (ak:de B n aR):de (if p then A else B) n aR:=by split<;>assumption
theorem de.oh (H:de S n aR) (s:List UInt8) (bx:List Nat):de (S.oh aR s bx) (n+1) aR:=by
 have U:=H.up (Nat.le_succ n)
 have T:=U.ends 6
 have gg:∀k:Int→Int→ax,(∀a b,-1073741824≤a∧a≤1073741823→-1073741824≤b∧b≤1073741823→de (k a b) (n+1) aR)→de (S.gg bx k) (n+1) aR:=by
  intro k an
  simp only [ax.gg]
  split
  · rename_i a b ae ak;exact an a b (H.Eb ae) (H.Eb ak)
  · exact T
 have jW:∀k:Int→ax,(∀a,-1073741824≤a∧a≤1073741823→de (k a) (n+1) aR)→de (S.jW bx k) (n+1) aR:=by
  intro k an
  simp only [ax.jW]
  split
  · rename_i a ae;exact an a (H.Eb ae)
  · exact T
 have mA:∀k:List UInt8→ax,(∀a,a.length≤4096→de (k a) (n+1) aR)→de (S.mA bx k) (n+1) aR:=by
  intro k an
  simp only [ax.mA]
  split
  · rename_i a ae;exact an a (H.Jb ae)
  · exact T
 unfold ax.oh
 refine jI (gg _ fun a b _ _=>U.dT (oU (yz _))) ?_
 refine jI (gg _ fun a b _ _=>U.dT (oU (yz _))) ?_
 refine jI (gg _ fun a b _ _=>U.dT (oU (yz _))) ?_
 refine jI (gg _ fun a b _ _=>U.dT (nt _ _)) ?_
 refine jI (gg _ fun a b _ _=>U.dT (nt _ _)) ?_
 refine jI (gg _ fun a b _ _=>U.dT (nt _ _)) ?_
 refine jI ?_ ?_
 · refine gg _ fun a b _ _=>?_
   split
   · exact U.nF (nt _ _)
   · exact U.dT (oU (yz _))
 refine jI ?_ ?_
 · refine gg _ fun a b _ _=>?_
   split
   · exact U.nF (nt _ _)
   · exact U.dT (oU (yz _))
 refine jI (jW _ fun a _=>U.dT (oU (yz _))) ?_
 refine jI ?_ ?_
 · unfold ax.t_
   split
   · exact U.dT (oU (by omega))
   · rename_i bd
     have V:de {S with read:=S.read+1} (n+1) aR:=⟨U.c,U.w,U.fns,U.ints,U.texts,U.wl,U.out,by simp only;omega⟩
     refine V.dT (oU ?_)
     have:=(aR[S.read]?.getD 0).toNat_lt
     omega
 refine jI (jW _ fun a _=>(H.P9 (by simp)).dT (nt _ _)) ?_
 refine jI (mA _ fun a bU=>(H.P9 bU).dT (nt _ _)) ?_
 refine jI (mA _ fun a bU=>U.dT (oU (by omega))) ?_
 refine jI (jW _ fun a _=>U.dT (CC (by simp))) ?_
 refine jI ?_ ?_
 · unfold ax.oN
   split
   · split
     · rename_i s i _ _ _
       refine U.dT (oU ?_)
       have:=(s[i.toNat]?.getD 0).toNat_lt
       omega
     · exact U.nF (nt _ _)
   · exact T
 refine jI ?_ ?_
 · unfold ax.cut
   split
   · split
     · rename_i s a b ae _ _ _
       have:=H.Jb ae
       refine U.dT (CC ?_)
       rw [List.length_take,List.length_drop]
       omega
     · exact U.nF (nt _ _)
   · exact T
 refine jI ?_ ?_
 · unfold ax.join
   split
   · split
     · refine U.dT (CC ?_)
       rw [List.length_append];assumption
     · exact U.nF (nt _ _)
   · exact T
 refine jI ?_ ?_
 · unfold ax.pq
   split
   · split
     · have V:de {S with st:=S.st.set (bx.getD 0 0) (.dn 0 [bx.getD 1 0])} (n+1) aR:=by
        refine ⟨U.c,U.w,fun u hu=>?_,fun u hu=>?_,fun u hu=>?_,U.wl,U.out,U.read⟩
        · rcases List.mem_or_eq_of_mem_set hu with q | rfl
          · exact U.fns u q
          · exact (nt _ _).1
        · rcases List.mem_or_eq_of_mem_set hu with q | rfl
          · exact U.ints u q
          · exact (nt _ _).2.1
        · rcases List.mem_or_eq_of_mem_set hu with q | rfl
          · exact U.texts u q
          · exact (nt _ _).2.2
       exact V.dT (nt _ _)
     · exact T
   · exact T
 exact U
theorem de.call (H:de S n aR) (f v:Nat):de (S.call f v) n aR:=by
 unfold ax.call
 split
 · rename_i x c e h
   exact ⟨H.agS h,H.w,H.fns,H.ints,H.texts,H.wl,H.out,H.read⟩
 · exact H.ends 6
theorem de.l_ (H:de S n aR) (m:Int) (j:Nat):de (S.l_ m j) n aR:=by
 unfold ax.l_
 split
 · split
   · exact H.ends 6
   · exact H.nb _
 · exact H.ends 6
theorem de.il (H:de S n aR) (h:∀p ∈ S.c.l,iV (keys S.e) p) (i:Nat):de (S.il i) n aR:=by
 unfold ax.il
 split
 · rename_i d cc
   exact ⟨h d (List.mem_of_getElem? cc),H.w,H.fns,H.ints,H.texts,H.wl,H.out,H.read⟩
 · exact H.ends 6
theorem de.h6 (H:de S n aR) (h:∀p ∈ S.c.l,iV (keys S.e) p) (b:Bool) (j:Nat):de (S.h6 b j) n aR:=by
 unfold ax.h6
 split
 · split
   · exact H.ends 6
   · exact H.il h _
 · split
   · exact H.il h _
   · exact H.ends 6
 · exact H.ends 6
theorem aeo (S:ax) (l:List aY):(∀z,z ∈ keys (S.fF l).e↔z ∈ l.map aY.n∨z ∈ keys S.e):=by
 induction l generalizing S with
 | nil=>intro z;simp [ax.fF]
 | cons f l bN=>
   intro z
   have:=bN (S.iI f) z
   show z ∈ keys ((S.iI f).fF l).e↔_
   rw [this]
   simp only [ax.iI,keys,List.map_cons,List.mem_cons]
   grind
theorem aep (S:ax) (l:List aY):(S.fF l).w=S.w∧(S.fF l).c=S.c∧(S.fF l).out=S.out∧(S.fF l).read=S.read∧(S.fF l).st=S.st++l.map fun f=>eR.fn f.x (f.l.headD f) []:=by
 induction l generalizing S with
 | nil=>simp [ax.fF]
 | cons f l bN=>
   obtain ⟨bw,b3,a3,a4,a5⟩:=bN (S.iI f)
   refine ⟨bw,b3,a3,a4,?_⟩
   show ((S.iI f).fF l).st=_
   rw [a5]
   simp [ax.iI,ax.gf]
theorem QI (e:ix):∀(l:List aY) (pre:List eR) (v:eR),v ∈ ax.h' e pre.length (pre++l.map fun f=>eR.fn f.x (f.l.headD f) []) l→v ∈ pre∨∃f ∈ l,v=.fn f.x (f.l.headD f) e
 | [],pre,v,h=>by simpa [ax.h'] using h
 | f::l,pre,v,h=>by
   rw [ax.h',List.map_cons] at h
   have aM:(pre++eR.fn f.x (f.l.headD f) []::l.map fun f=>eR.fn f.x (f.l.headD f) []).set pre.length (.fn f.x (f.l.headD f) e)=(pre++[.fn f.x (f.l.headD f) e])++l.map fun f=>eR.fn f.x (f.l.headD f) []:=by
    rw [List.set_append_right _ _ (Nat.le_refl _),Nat.sub_self];simp
   have aK:pre.length+1=(pre++[eR.fn f.x (f.l.headD f) e]).length:=by simp
   rw [aM,aK] at h
   rcases QI e l _ v h with q | ⟨g,bp,rfl⟩
   · simp only [List.mem_append,List.mem_singleton] at q
     rcases q with q | rfl
     · exact .inl q
     · exact .inr ⟨f,by simp,rfl⟩
   · exact .inr ⟨g,by simp [bp],rfl⟩
theorem de.pj (H:de S n aR) (fK:S.c.k=8) (aK:S.c.l≠[]):de S.pj n aR:=by
 obtain ⟨bQ,cB⟩:=H.c.kids.2.2.2 fK
 obtain ⟨aU,bm,cj,c0,e7⟩:=aep S S.c.l.dropLast
 have aex:=aeo S S.c.l.dropLast
 have OL:∀z,z ∈ S.c.l.dropLast.map aY.n++keys S.e→z ∈ keys (S.fF S.c.l.dropLast).e:=fun z bI=>(aex z).2 (List.mem_append.1 bI)
 have sT:∀v ∈ ax.h' (S.fF S.c.l.dropLast).e S.st.length (S.fF S.c.l.dropLast).st S.c.l.dropLast,v ∈ S.st∨∃f ∈ S.c.l.dropLast,v=.fn f.x (f.l.headD f) (S.fF S.c.l.dropLast).e:=by
  intro v bk
  rw [e7] at bk
  exact QI _ _ _ v bk
 unfold ax.pj
 refine ⟨?_,by simp only [aU];exact H.w,fun v bk=>?_,fun v bk=>?_,fun v bk=>?_,by simp only [aU];exact H.wl,by simp only [cj];exact H.out,by simp only [c0];exact H.read⟩
 · have:S.c.l.getLastD S.c ∈ S.c.l.getLast? :=by
    rw [List.getLastD_eq_getLast?]
    cases a2:S.c.l.getLast? with
    | none=>exact absurd (List.getLast?_eq_none_iff.1 a2) aK
    | some d=>simp
   exact (cB _ this).mono OL
 · rcases sT v bk with q | ⟨f,av,rfl⟩
   · exact H.fns v q
   · exact (NU ((bQ f av).mono fun z bI=>by
      rcases List.mem_cons.1 bI with rfl | bI
      · simp
      · exact List.mem_cons.2 (.inr (OL z bI)))).1
 · rcases sT v bk with q | ⟨f,av,rfl⟩
   · exact H.ints v q
   · intro m q;cases q
 · rcases sT v bk with q | ⟨f,av,rfl⟩
   · exact H.texts v q
   · intro m q;cases q
theorem de.waits (H:de S n aR) (h:S.c.k=2∨S.c.k=11):de S.waits (n+1) aR:=by
 obtain ⟨tn,_,_⟩:=H.c.shape
 have aK:=tn.eJ h
 obtain ⟨p,q,G9⟩:∃p q,S.c.l=[p,q]:=by
  match ga:S.c.l,aK with
  | [p,q],_=>exact ⟨p,q,rfl⟩
 obtain ⟨bQ,cB⟩:=H.c.kids.1 h p q G9
 have bZ:S.et 0=p:=by simp [ax.et,G9]
 have aI:S.et 1=q:=by simp [ax.et,G9]
 unfold ax.waits
 refine ⟨by simp only [bZ];exact bQ,fun a bU=>?_,H.fns,H.ints,H.texts,by have:=H.wl;simp only [List.length_cons];omega,by have:=H.out;simp only;omega,H.read⟩
 rcases List.mem_cons.1 bU with rfl | bU
 · simp only [aI];exact cB
 · exact H.w a bU
theorem de.step (H:de S n aR):de (S.step aR) (n+1) aR:=by
 obtain ⟨tn,an,bk⟩:=H.c.shape
 have A:=H.atoms S.c.a tn.at_
 obtain ⟨kG,c6,k4,np,l9,hB⟩:=ax.l7 S S.c.a
 unfold ax.step
 generalize (S.atoms S.c.a).1=T at *
 generalize (S.atoms S.c.a).2=bx at *
 have U:=A.up (Nat.le_succ n)
 unfold ax.dI
 refine jI (U.nb _) ?_
 by_cases ak:T.c.k=2∨T.c.k=11
 · rw [if_pos ak];exact A.waits ak
 rw [if_neg ak]
 refine jI (A.oh _ _) ?_
 refine jI (U.dT (nt _ _)) ?_
 refine jI (U.l_ _ _) ?_
 refine jI (U.call _ _) ?_
 by_cases c9:T.c.k=7
 · rw [if_pos c9]
   have aK:=tn.HK (by rw [←c6];exact c9)
   rw [←c6] at aK
   obtain ⟨p,aT⟩:∃p,T.c.l=[p]:=by
    match ga:T.c.l,aK with
    | [p],_=>exact ⟨p,rfl⟩
   have bZ:T.et 0=p:=by simp [ax.et,aT]
   rw [bZ]
   exact U.dT (NU (U.c.kids.2.1 c9 p aT))
 rw [if_neg c9]
 by_cases fK:T.c.k=8
 · rw [if_pos fK]
   have aK:=(tn.HL (by rw [←c6];exact fK)).1
   exact U.pj fK (by rw [c6];intro q;rw [q] at aK;simp at aK)
 rw [if_neg fK]
 by_cases jG:T.c.k=9
 · rw [if_pos jG];exact U.h6 (U.c.kids.2.2.1 (.inl jG)) _ _
 rw [if_neg jG]
 by_cases j7:T.c.k=10
 · rw [if_pos j7];exact U.h6 (U.c.kids.2.2.1 (.inr j7)) _ _
 rw [if_neg j7]
 exact jI (U.p6 _) U
theorem de.start {c:aY} (h:iV [] c):de (start c) 0 aR:=⟨h,fun _ q=>(by cases q),fun _ q=>(by cases q),fun _ q=>(by cases q),fun _ q=>(by cases q),Nat.le_refl _,Nat.le_refl _,Nat.zero_le _⟩
theorem de.nth {c:aY} (h:iV [] c):∀i,de ((Go.Proofs.YtjbiefneffiogaaGreat.start c).nth aR i) i aR
 | 0=>de.start h
 | i+1=>(de.nth h i).step
end
end Go.Proofs.YtjbiefneffiogaaGreat
