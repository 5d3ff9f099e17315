/- The chapter's functions, walked by the abstract machine: plain lemmas, no condition. Printed by a program from longer texts: names made short. -/
import Derived.Test.YtjbiefneffiogaaGreatM10
import Derived.Test.YtjbiefneffiogaaGreatM9
import Derived.Test.YtjbiefneffiogaaGreatM8
set_option linter.unusedSectionVars false
set_option linter.unusedSimpArgs false
set_option linter.unusedVariables false
namespace Go.Proofs.YtjbiefneffiogaaGreat
open Go bA
noncomputable def A4 (h:aj) (ar:a6):Nat:=match hX (h.get ar) 4 with
 | some (.int _ n)=>n.toNat
 | _=>0
theorem ib.box {al:aj} {b:a6} {c:aY} {ai:List V} (bp:al.get b=.aq ai 0 false) (bD:Old al b) (H:eg al c ai):ib al (.ptr b 0) c:=by
 refine ⟨b,0,ai,rfl,H,fun aa e=>?_⟩
 have aK:=H.len
 rw [e.get b bD,bp]
 refine ⟨by rw [HQ,if_pos (by omega),List.drop_zero,List.take_of_length_le (by omega)],fun j bS=>by rw [qN,Nat.zero_add]⟩
def rf (B:Nat) (h:aj) (l:tF) (x:V):Prop:=∃bn,x=.agg [.int .i64 l.eZ,.int .i64 l.fg,.int .i64 l.read,.int .i64 l.steps,bn]∧cm B h 1 bn l.out.length (dp l.out)
set_option maxHeartbeats 4000000 in
theorem We (c:aY) (ai:List V) (h:aj) (H:eg h c ai) (Hq:iV [] c) {aS:V} {aR:List UInt8} (dX:cg h 1 aS aR.length (dp aR)) (hlen:aR.length≤1073741824) {steps:Int} (Gc:0≤steps) (aM:steps≤100000):
 bB Tryz.prog 40 [.agg ai,.ay,aS,.int .i64 steps] h fun x aa=>∃l,yC c aR steps l∧rf h.next aa l x∧Ext h aa:=by
 obtain ⟨aN,aP,aw,rfl,cU,dU,cw⟩:=H.open
 refine Uz rfl (bP ?_)
 unfold LF
 have iE:=cU.one
 have iG:=dU.one
 have ol:=cw.one
 have kx:=dX.one
 simp +contextual only [iE.1,iE.2.1,iG.1,iG.2.1,ol.1,ol.2.1,↓ad,af,simprocAttr]
 have aI:Ext h ((h.new (.aq [.int .i64 c.k,.int .i64 c.x,.int .i64 c.n,.str c.s,aN,aP,aw] 0 false)).new (.aq [.int .i64 0,.int .i64 0,.int .i64 0,.int .i64 0,.ay] 0 false)):=((Ext.refl h).new _).new _
 have bF:((h.new (.aq [.int .i64 c.k,.int .i64 c.x,.int .i64 c.n,.str c.s,aN,aP,aw] 0 false)).new (.aq [.int .i64 0,.int .i64 0,.int .i64 0,.int .i64 0,.ay] 0 false)).get (ao h.next)=.aq [.int .i64 c.k,.int .i64 c.x,.int .i64 c.n,.str c.s,aN,aP,aw] 0 false:=by
  rw [eB,if_neg (by rw [iH,cO];omega),gi]
 have ff:((h.new (.aq [.int .i64 c.k,.int .i64 c.x,.int .i64 c.n,.str c.s,aN,aP,aw] 0 false)).new (.aq [.int .i64 0,.int .i64 0,.int .i64 0,.int .i64 0,.ay] 0 false)).get (ao (h.next+1))=.aq [.int .i64 0,.int .i64 0,.int .i64 0,.int .i64 0,.ay] 0 false:=by
  rw [eB,if_pos (by rw [cO])]
 have dE:((h.new (.aq [.int .i64 c.k,.int .i64 c.x,.int .i64 c.n,.str c.s,aN,aP,aw] 0 false)).new (.aq [.int .i64 0,.int .i64 0,.int .i64 0,.int .i64 0,.ay] 0 false)).next=h.next+2:=by rw [cO,cO]
 generalize ((h.new (.aq [.int .i64 c.k,.int .i64 c.x,.int .i64 c.n,.str c.s,aN,aP,aw] 0 false)).new (.aq [.int .i64 0,.int .i64 0,.int .i64 0,.int .i64 0,.ay] 0 false))=H1 at *
 refine aV (Wf H1) ?_
 rintro pm al ⟨D,bh⟩
 have mf:=bh.next
 have Ii:pm.one=true∧pm.cells=[pm]∧pm.e3=true:=by
  obtain ⟨_,_,_,_,_,_,_,_,_,rfl,_⟩:=D
  exact ⟨rfl,rfl,rfl⟩
 have kA:=aI.trans bh
 have bM:al.get (ao h.next)=.aq [.int .i64 c.k,.int .i64 c.x,.int .i64 c.n,.str c.s,aN,aP,aw] 0 false:=by rw [bh.get _ (cZ (by omega))];exact bF
 have z0:al.get (ao (h.next+1))=.aq [.int .i64 0,.int .i64 0,.int .i64 0,.int .i64 0,.ay] 0 false:=by rw [bh.get _ (cZ (by omega))];exact ff
 have Es:=dX.ext kA
 have Ej:ib al (.ptr (ao h.next) 0) c:=ib.box bM (cZ (by omega)) (H.ext kA)
 simp +contextual only [kx.1,kx.2.1,kx.2.2,Ii.1,Ii.2.1,Ii.2.2,↓ad,af,simprocAttr]
 have gv:eo al (al.new (.aq [aS,.int .i64 0,.int .i64 0,.int .i64 0,.int .i64 0,.ay,.bool false,.ptr (ao h.next) 0,.ch,.ay,.ay,pm] 0 false)) (ao al.next) (jP (fun _=>.no) (fun b=>b=ao al.next) .oc) [] aS pm (start c) 0 (.ptr (ao h.next) 0) .ch .ay .ay:=by
  refine ⟨⟨(Ext.refl al).new _,fun b ah=>?_,rfl,fun i v q=>(by cases i<;>simp [start] at q)⟩,mJ rfl,gi _,Ej,.nil,⟨[],⟨rfl,rfl⟩,fun b q=>q.elim,rfl,fun i a u q=>(by simp [start] at q)⟩,⟨rfl,rfl⟩,fun b q=>q.elim⟩
  by_cases q:b=ao al.next
  · subst q;rw [cS,cO];omega
  · rw [mI (p:=fun b=>b=ao al.next) q] at ah;exact absurd rfl ah
 generalize kK:ao al.next=ar at *
 generalize (al.new (.aq [aS,.int .i64 0,.int .i64 0,.int .i64 0,.int .i64 0,.ay,.bool false,.ptr (ao h.next) 0,.ch,.ay,.ay,pm] 0 false))=eb at *
 refine fw (fun r aa=>r 9=.ptr ar 0∧r 3=.int .i64 steps∧r 8=.ptr (ao (h.next+1)) 0∧∃i:Nat,(∀j,j<i→((start c).nth aR j).fQ=false)∧(i:Int)≤steps∧∃aO aL,dx al aa ar aO aL aS pm ((start c).nth aR i) i) (fun r aa=>steps.toNat-A4 aa ar) ?_ ?_
 · exact ⟨by simp only [↓ad,bj,simprocAttr],by simp only [↓ad,bj,simprocAttr],by simp only [↓ad,bj,simprocAttr],0,fun j q=>(by omega),Gc,_,_,_,_,_,_,gv⟩
 · rintro r aa ⟨h0,cj,hZ,i,pT,aG,aO,aL,jC,eq,fG,da,M⟩
   unfold LG
   have cJ:=M.get
   have m1:A4 aa ar=i:=by unfold A4;rw [cJ,qN];simp
   have W:=de.nth (aR:=aR) Hq i
   have Bj:aa.get (ao (h.next+1))=.aq [.int .i64 0,.int .i64 0,.int .i64 0,.int .i64 0,.ay] 0 false:=by rw [M.rep.ext.get _ (cZ (by omega))];exact z0
   have Av:(ar=ao (h.next+1))=False:=eq_false fun q=>by have:=M.b6.1;rw [q,cS] at this;omega
   have Bl:(ao (h.next+1)=ar)=False:=eq_false fun q=>by have:=M.b6.1;rw [←q,cS] at this;omega
   have dm:=M.dk.one
   have mV:∀(aO:fs) (aL:List a6) (S:ax) (g:aj) (jC eq fG da:V) (k:cT),eo al g ar aO aL aS pm S i jC eq fG da→cm h.next (g.set (ao (h.next+1)) k) 1 da S.out.length (dp S.out)∧Ext h (g.set (ao (h.next+1)) k):=by
    intro aO aL S g jC eq fG da k M
    refine ⟨(M.dk.1.mono (by omega)).mod ((Mod.refl (fun b=>b=ao (h.next+1)) g).set (fun _=>rfl) k) fun b q e=>?_,(kA.trans M.rep.ext).set (by omega) _⟩
    have:=M.dk.1.base q
    rw [e,cS] at this
    omega
   cases bD:((start c).nth aR i).fQ with
   | true=>
     rw [bD] at cJ
     simp +contextual only [h0,cj,hZ,cJ,bD,Bj,Av,Bl,dm.1,dm.2.1,↓ad,af,simprocAttr]
     have av:=mV aO aL _ aa jC eq fG da (.aq [.int .i64 ((start c).nth aR i).eZ,.int .i64 ((start c).nth aR i).fg,.int .i64 ((start c).nth aR i).read,.int .i64 i,da] 0 false) M
     exact ⟨⟨((start c).nth aR i).eZ,((start c).nth aR i).fg,((start c).nth aR i).read,i,((start c).nth aR i).out⟩,⟨i,pT,aG,.inl bD,by rw [if_pos bD]⟩,⟨da,rfl,av.1⟩,av.2⟩
   | false=>
     rw [bD] at cJ
     by_cases aX:(i:Int)<steps
     · have rD:=eq_true aX
       have w:IntKind.i64.wrap ((i:Int)+1)=((i+1:Nat):Int):=by rw [wrap_i64 (by omega) (by omega)];rfl
       have aH:=M.next ((start c).nth aR i) ((i+1:Nat):Int) jC eq fG da rfl M.co M.dB M.wr M.dk
       rw [bD] at aH
       simp +contextual only [h0,cj,hZ,cJ,bD,rD,w,↓ad,af,simprocAttr]
       obtain ⟨tn,an,bk⟩:=W.c.shape
       refine aV (agf ⟨_,_,_,_,aH⟩ (W.ok (by omega)) (by have:=W.wl;omega) tn bk an D Es hlen W.read) ?_
       rintro x ak ⟨ez,gw,M2⟩
       simp +contextual only [h0,cj,hZ,↓ad,af,simprocAttr]
       have u9:=M2
       obtain ⟨_,_,_,_,u9⟩:=u9
       have He:A4 ak ar=i+1:=by unfold A4;rw [u9.get,qN];simp
       refine ⟨⟨i+1,fun j bS=>?_,by omega,ez,gw,M2⟩,by rw [m1,He];omega⟩
       by_cases e:j=i
       · subst e;exact bD
       · exact pT j (by omega)
     · have rD:=eq_false aX
       simp +contextual only [h0,cj,hZ,cJ,bD,rD,Bj,Av,Bl,dm.1,dm.2.1,↓ad,af,simprocAttr]
       have aH:=M.next {(start c).nth aR i with eZ:=4} i jC eq fG da rfl M.co M.dB M.wr M.dk
       have av:=mV aO aL _ _ jC eq fG da (.aq [.int .i64 4,.int .i64 ((start c).nth aR i).fg,.int .i64 ((start c).nth aR i).read,.int .i64 i,da] 0 false) aH
       simp only [bD] at av
       exact ⟨⟨4,((start c).nth aR i).fg,((start c).nth aR i).read,i,((start c).nth aR i).out⟩,⟨i,pT,aG,.inr (by omega),by rw [bD];rfl⟩,⟨da,rfl,av.1⟩,av.2⟩
def qi (c:aY) (aR:List UInt8) (steps:Int) (l:tF):Prop:=if sE c≠0∨steps<0 then l=⟨5,0,0,0,[]⟩ else yC c aR steps l
theorem afL {c:aY} {aS:List UInt8} {steps:Int} {l m:tF} (h:qi c aS steps l) (aa:qi c aS steps m):l=m:=by
 unfold qi at h aa
 split at h
 · rename_i q
   rw [if_pos q] at aa
   rw [h,aa]
 · rename_i q
   rw [if_neg q] at aa
   exact Wg h aa
theorem RT {c:aY} (hm:may (fun b c=>ej b c) c=may c7 c) (av:fit 1048576 c) (h:sE c=0):iV [] c:=by
 unfold sE at h
 by_cases ae:may c7 c=true
 · rw [ae] at h
   simp only [Bool.not_true,Bool.false_eq_true,if_false] at h
   split at h
   · omega
   · split at h
     · omega
     · rename_i q
       refine ⟨by rw [hm];exact ae,?_,av⟩
       cases a2:free c [] with
       | nil=>rfl
       | cons z l=>
         have:z ∈ rising (free c []):=H3.2 (by rw [a2];simp)
         have:=List.length_pos_of_mem this
         omega
 · rw [Bool.not_eq_true] at ae
   rw [ae] at h
   simp only [Bool.not_false,if_true] at h
   omega
set_option maxHeartbeats 2000000 in
theorem afJ (c:aY) (ai:List V) (h:aj) (H:eg h c ai) (hw:wt c≤400) {aS:V} {aR:List UInt8} (dX:cg h 1 aS aR.length (dp aR)) (hlen:aR.length≤1073741824) {steps:Int} (aM:steps≤100000):
 bB Tryz.prog 13 [.agg ai,aS,.int .i64 steps] h fun x aa=>∃l,qi c aR steps l∧rf h.next aa l x∧Ext h aa:=by
 obtain ⟨aN,aP,aw,rfl,cU,dU,cw⟩:=H.open
 refine T8 rfl (bP ?_)
 unfold K0
 have iE:=cU.one
 have iG:=dU.one
 have ol:=cw.one
 have aI:Ext h ((h.new (.aq [.int .i64 c.k,.int .i64 c.x,.int .i64 c.n,.str c.s,aN,aP,aw] 0 false)).new (.aq [.int .i64 0,.int .i64 0,.int .i64 0,.int .i64 0,.ay] 0 false)):=((Ext.refl h).new _).new _
 have bF:((h.new (.aq [.int .i64 c.k,.int .i64 c.x,.int .i64 c.n,.str c.s,aN,aP,aw] 0 false)).new (.aq [.int .i64 0,.int .i64 0,.int .i64 0,.int .i64 0,.ay] 0 false)).get (ao h.next)=.aq [.int .i64 c.k,.int .i64 c.x,.int .i64 c.n,.str c.s,aN,aP,aw] 0 false:=by
  rw [eB,if_neg (by rw [iH,cO];omega),gi]
 have ff:((h.new (.aq [.int .i64 c.k,.int .i64 c.x,.int .i64 c.n,.str c.s,aN,aP,aw] 0 false)).new (.aq [.int .i64 0,.int .i64 0,.int .i64 0,.int .i64 0,.ay] 0 false)).get (ao (h.next+1))=.aq [.int .i64 0,.int .i64 0,.int .i64 0,.int .i64 0,.ay] 0 false:=by
  rw [eB,if_pos (by rw [cO])]
 have dE:((h.new (.aq [.int .i64 c.k,.int .i64 c.x,.int .i64 c.n,.str c.s,aN,aP,aw] 0 false)).new (.aq [.int .i64 0,.int .i64 0,.int .i64 0,.int .i64 0,.ay] 0 false)).next=h.next+2:=by rw [cO,cO]
 simp +contextual only [iE.1,iE.2.1,iG.1,iG.2.1,ol.1,ol.2.1,↓ad,af,simprocAttr]
 generalize ((h.new (.aq [.int .i64 c.k,.int .i64 c.x,.int .i64 c.n,.str c.s,aN,aP,aw] 0 false)).new (.aq [.int .i64 0,.int .i64 0,.int .i64 0,.int .i64 0,.ay] 0 false))=H1 at *
 refine aV (R4 c _ H1 (H.ext aI) hw) ?_
 rintro x ak ⟨rfl,bh⟩
 have mf:=bh.next
 have bz:ak.get (ao h.next)=.aq [.int .i64 c.k,.int .i64 c.x,.int .i64 c.n,.str c.s,aN,aP,aw] 0 false:=by rw [bh.get _ (cZ (by omega))];exact bF
 have e9:ak.get (ao (h.next+1))=.aq [.int .i64 0,.int .i64 0,.int .i64 0,.int .i64 0,.ay] 0 false:=by rw [bh.get _ (cZ (by omega))];exact ff
 have eP:=aI.trans bh
 have Bk:∀(k:cT),Ext h (ak.set (ao (h.next+1)) k):=fun k=>eP.set (by omega) _
 have no:∀k:cT,cm h.next (ak.set (ao (h.next+1)) k) 1 .ay 0 (dp []):=fun k=>⟨rfl,rfl⟩
 by_cases aD:sE c=0
 · have nw:=eq_true aD
   by_cases bI:steps<0
   · have fu:=eq_true bI
     simp +contextual only [nw,fu,bz,e9,↓ad,af,simprocAttr]
     exact ⟨⟨5,0,0,0,[]⟩,(by unfold qi;rw [if_pos (.inr bI)]),⟨.ay,rfl,no _⟩,Bk _⟩
   · have fu:=eq_false bI
     simp +contextual only [nw,fu,bz,e9,↓ad,af,simprocAttr]
     have av:=pK c hw
     refine aV (We c _ ak (H.ext eP) (RT (Dk hw) av aD) (dX.ext eP) hlen (by omega) aM) ?_
     rintro x aC ⟨l,aK,⟨bn,rfl,O⟩,cp⟩
     have z3:aC.get (ao (h.next+1))=.aq [.int .i64 0,.int .i64 0,.int .i64 0,.int .i64 0,.ay] 0 false:=by rw [cp.get _ (cZ (by omega))];exact e9
     have dm:=O.v.one
     simp +contextual only [z3,dm.1,dm.2.1,↓ad,af,simprocAttr]
     refine ⟨l,(by unfold qi;rw [if_neg (by intro q;rcases q with q | q;exact q aD;exact bI q)];exact aK),⟨bn,rfl,?_⟩,(eP.trans cp).set (by omega) _⟩
     refine (O.mono (by omega)).mod ((Mod.refl (fun b=>b=ao (h.next+1)) aC).set (fun _=>rfl) _) fun b q e=>?_
     have:=O.base q
     rw [e,cS] at this
     omega
 · have nw:=eq_false aD
   simp +contextual only [nw,bz,e9,↓ad,af,simprocAttr]
   exact ⟨⟨5,0,0,0,[]⟩,(by unfold qi;rw [if_pos (.inl aD)]),⟨.ay,rfl,no _⟩,Bk _⟩
end Go.Proofs.YtjbiefneffiogaaGreat
namespace Go.Proofs.YtjbiefneffiogaaGreat
def Nj (n:Int):Prop:=n=0∨n=1∨n=6
structure ahE (S T:ax):Prop where
 read:S.read≤T.read
 out:S.out <+:T.out
 eZ:Nj S.eZ→Nj T.eZ
section
variable (S:ax)
end
end Go.Proofs.YtjbiefneffiogaaGreat
namespace Go.Proofs.YtjbiefneffiogaaGreat
open Go bA
theorem Q3 {h:aj} {v w:V} {n m:Nat} {a b:List UInt8} (cU:cg h 1 v n (dp a)) (u2:cg h 1 w m (dp b)):bB Tryz.prog 17 [v,w] h fun x aa=>x=.bool (decide (a=b))∧aa=h:=by
 refine Up rfl (bP ?_)
 unfold Lr
 simp +contextual only [M1 cU,M1 u2,Q2,↓ad,af,simprocAttr]
theorem rf.open {B:Nat} {h:aj} {l:tF} {x:V} (H:rf B h l x):∃bn,x=.agg [.int .i64 l.eZ,.int .i64 l.fg,.int .i64 l.read,.int .i64 l.steps,bn]∧cm B h 1 bn l.out.length (dp l.out)∧bn.one=true∧bn.cells=[bn]∧bn.e3=true:=by
 obtain ⟨bn,aQ,aB⟩:=H
 exact ⟨bn,aQ,aB,aB.v.one⟩
deriving instance DecidableEq for tF
set_option maxHeartbeats 1000000 in
theorem afP {h:aj} {B Bn:Nat} {l m:tF} {x y:V} (R8:rf B h l x) (R9:rf Bn h m y):bB Tryz.prog 15 [x,y] h fun z aa=>z=.bool (decide (l=m))∧Ext h aa:=by
 obtain ⟨v,rfl,V,pb⟩:=R8.open
 obtain ⟨w,rfl,W,dm⟩:=R9.open
 obtain ⟨bf,eJ,m5,nC,abQ⟩:=l
 obtain ⟨uC,x6,fY,ob,x7⟩:=m
 simp only at V W
 refine Uj rfl (bP ?_)
 unfold Ld
 have bZ:Ext h ((h.new (.aq [.int .i64 bf,.int .i64 eJ,.int .i64 m5,.int .i64 nC,v] 0 false)).new (.aq [.int .i64 uC,.int .i64 x6,.int .i64 fY,.int .i64 ob,w] 0 false)):=((Ext.refl h).new _).new _
 by_cases ae:bf=uC
 rotate_left
 · have dN:=eq_false ae
   simp +contextual only [pb.1,pb.2.1,dm.1,dm.2.1,dN,↓ad,af,simprocAttr]
   exact ⟨by simp [ae],bZ⟩
 have dN:=eq_true ae
 by_cases ak:eJ=x6
 rotate_left
 · have k6:=eq_false ak
   simp +contextual only [pb.1,pb.2.1,dm.1,dm.2.1,dN,k6,↓ad,af,simprocAttr]
   exact ⟨by simp [ak],bZ⟩
 have k6:=eq_true ak
 by_cases aC:m5=fY
 rotate_left
 · have k7:=eq_false aC
   simp +contextual only [pb.1,pb.2.1,dm.1,dm.2.1,dN,k6,k7,↓ad,af,simprocAttr]
   exact ⟨by simp [aC],bZ⟩
 have k7:=eq_true aC
 by_cases bq:nC=ob
 rotate_left
 · have mb:=eq_false bq
   simp +contextual only [pb.1,pb.2.1,dm.1,dm.2.1,dN,k6,k7,mb,↓ad,af,simprocAttr]
   exact ⟨by simp [bq],bZ⟩
 have mb:=eq_true bq
 simp +contextual only [pb.1,pb.2.1,dm.1,dm.2.1,dN,k6,k7,mb,↓ad,af,simprocAttr]
 refine aV (Q3 (V.v.ext bZ) (W.v.ext bZ)) ?_
 rintro z dZ ⟨rfl,rfl⟩
 simp +contextual only [↓ad,af,simprocAttr]
 refine ⟨?_,bZ⟩
 congr 1
 simp [ae,ak,aC,bq]
theorem VC:Tryz.prog.cellsOf 5=1:=by kernel_rfl
theorem Km:∀l:List UInt8,l.flatMap (fun i=>[V.int .u8 i.toNat])=dp l
 | []=>rfl
 | a::l=>by rw [List.flatMap_cons,Km l];rfl
theorem adz {h:aj} {n m:Nat} {v:V} {len:Nat} (H:y7 h 1 v len m (fun k=>er Tryz.prog h n k 5)):∃a:List UInt8,cg h 1 v a.length (dp a)∧a.length≤m:=by
 obtain ⟨_,_,_,_,_,us,ms,ae,ak,aC,bq⟩:=H
 have Hg:=A9 fun i k q=>(bq i k q).1
 obtain ⟨iZ,bF,bz,cL⟩:=collect (fun i:UInt8=>[V.int .u8 i.toNat]) 1 (fun _=>True) len us ae.1 (fun i aG=>by
  obtain ⟨k,an⟩:∃k,ms[i]? =some k:=⟨_,List.getElem?_eq_getElem (by omega)⟩
  obtain ⟨a,e,q⟩:=(bq i k an).2.int Tryz.underlying5
  have bd:0≤a∧a≤255:=by simpa [Lit.wf,IntKind.min,IntKind.max,IntKind.signed,IntKind.bits] using q
  refine ⟨UInt8.ofNat a.toNat,?_,trivial⟩
  rw [e]
  simp only [UInt8.toNat_ofNat']
  congr 2
  omega)
 subst bF
 rw [bz,Km] at ae
 exact ⟨iZ,ae,by omega⟩
theorem JU {P:Program} {a:Int} (bU:gJ a):(eH.int .and).run P (.int .i64 a) (.int .i64 255)=some (.int .i64 (a % 256)):=by
 have ae:(BitVec.ofInt 64 a&&& BitVec.ofInt 64 255).toNat=(a % 256).toNat:=by
  rw [BitVec.toNat_and,BitVec.toNat_ofInt,BitVec.toNat_ofInt]
  have ak:((255:Int) % ((2 ^ 64:Nat):Int)).toNat=2 ^ 8-1:=by decide
  rw [ak,Nat.and_two_pow_sub_one_eq_mod]
  omega
 have aC:(eH.int .and).run P (.int .i64 a) (.int .i64 255)=some (.int .i64 (IntKind.i64.wrap (BitVec.ofInt 64 a&&& BitVec.ofInt 64 255).toNat)):=rfl
 rw [aC,ae,wrap_i64 (by omega) (by omega)]
 congr 2
 omega
theorem Kj (a:Int):ax.byteOf (a % 256)=ax.byteOf a:=by unfold ax.byteOf;congr 2;omega
theorem iq {h:aj} {aF:List Int} {v:V} {n:Nat} (H:cg h 1 v n (cd aF)) (a7:n=aF.length) (z:Int) (i:Nat) (bI:z=i) (aG:i<aF.length):∃b o,fc 1 v (.int .i64 z)=some (.ptr b o)∧hX (h.get b) o=some (.int .i64 (aF[i]'aG)):=by
 subst bI;subst a7
 obtain ⟨b,o,aI,bh⟩:=ints_at H (k:=.i64) aG
 exact ⟨b,_,aI,bh⟩
def ll:List (List UInt8):=[[97,100,100],[115,117,98],[109,117,108],[100,105,118],[109,111,100],[101,113],[108,116],[108,101],[98,121,116,101],[106,111,105,110],[115,101,116],[110,101,103],[103,101,116,99],[112,117,116,99],[112,117,116,115],[115,105,122,101],[99,104,114],[99,117,116]]
theorem adU:∀n:Fin 18,(ll.getD n.1 []=[97,100,100]↔n.1=0)∧(ll.getD n.1 []=[115,117,98]↔n.1=1)∧(ll.getD n.1 []=[109,117,108]↔n.1=2)∧(ll.getD n.1 []=[100,105,118]↔n.1=3)∧(ll.getD n.1 []=[109,111,100]↔n.1=4)∧(ll.getD n.1 []=[101,113]↔n.1=5)∧(ll.getD n.1 []=[108,116]↔n.1=6)∧(ll.getD n.1 []=[108,101]↔n.1=7)∧(ll.getD n.1 []=[98,121,116,101]↔n.1=8)∧(ll.getD n.1 []=[106,111,105,110]↔n.1=9)∧(ll.getD n.1 []=[115,101,116]↔n.1=10)∧(ll.getD n.1 []=[110,101,103]↔n.1=11)∧(ll.getD n.1 []=[103,101,116,99]↔n.1=12)∧(ll.getD n.1 []=[112,117,116,99]↔n.1=13)∧(ll.getD n.1 []=[112,117,116,115]↔n.1=14)∧(ll.getD n.1 []=[115,105,122,101]↔n.1=15)∧(ll.getD n.1 []=[99,104,114]↔n.1=16)∧(ll.getD n.1 []=[99,117,116]↔n.1=17):=by decide +kernel
theorem eL (n:Nat) (a7:n<18) {s:List UInt8} (aM:s=ll.getD n []):(s=[97,100,100])=(n=0)∧(s=[115,117,98])=(n=1)∧(s=[109,117,108])=(n=2)∧(s=[100,105,118])=(n=3)∧(s=[109,111,100])=(n=4)∧(s=[101,113])=(n=5)∧(s=[108,116])=(n=6)∧(s=[108,101])=(n=7)∧(s=[98,121,116,101])=(n=8)∧(s=[106,111,105,110])=(n=9)∧(s=[115,101,116])=(n=10)∧(s=[110,101,103])=(n=11)∧(s=[103,101,116,99])=(n=12)∧(s=[112,117,116,99])=(n=13)∧(s=[112,117,116,115])=(n=14)∧(s=[115,105,122,101])=(n=15)∧(s=[99,104,114])=(n=16)∧(s=[99,117,116])=(n=17):=by
 subst aM
 obtain ⟨al,ae,ak,aC,bq,dZ,eM,c9,fK,jG,j7,jd,mT,sL,ua,xE,xF,xG⟩:=adU ⟨n,a7⟩
 exact ⟨propext al,propext ae,propext ak,propext aC,propext bq,propext dZ,propext eM,propext c9,propext fK,propext jG,propext j7,propext jd,propext mT,propext sL,propext ua,propext xE,propext xF,propext xG⟩
theorem ae9 {s:List UInt8} (aM:s=[97,100,100]) (dF bQ:Int) {v:V} {h:aj} (H:cg h 1 v 2 (cd [dF,bQ])):bB Tryz.prog 155 [.str s,v] h fun x aa=>x=.bool (decide (dF=1)&&(decide (bQ=1)&&true))∧aa=h:=by
 have E:=eL 0 (by decide) aM
 obtain ⟨cX,eG,i0,a8⟩:=iq H rfl 0 0 rfl (by simp)
 simp only [List.getElem_cons_zero,List.getElem_cons_succ] at a8
 obtain ⟨b0,dz,i1,bf⟩:=iq H rfl 1 1 rfl (by simp)
 simp only [List.getElem_cons_zero,List.getElem_cons_succ] at bf
 refine lC rfl (bP ?_)
 unfold k1
 by_cases al:dF=1
 · have c_:=eq_true al
   by_cases ae:bQ=1
   · have dN:=eq_true ae
     simp +contextual only [i0,a8,i1,bf,c_,dN,E,decide_true,Bool.and_self,↓ad,af,simprocAttr]
   · have dN:=eq_false ae
     simp +contextual only [i0,a8,i1,bf,c_,dN,E,decide_true,decide_false,Bool.false_and,Bool.true_and,Bool.and_self,↓ad,af,simprocAttr]
 · have c_:=eq_false al
   simp +contextual only [i0,a8,i1,bf,c_,E,decide_true,decide_false,Bool.false_and,Bool.true_and,Bool.and_self,↓ad,af,simprocAttr]
theorem afo {s:List UInt8} (aM:s=[115,117,98]) (dF bQ:Int) {v:V} {h:aj} (H:cg h 1 v 2 (cd [dF,bQ])):bB Tryz.prog 155 [.str s,v] h fun x aa=>x=.bool (decide (dF=1)&&(decide (bQ=1)&&true))∧aa=h:=by
 have E:=eL 1 (by decide) aM
 obtain ⟨cX,eG,i0,a8⟩:=iq H rfl 0 0 rfl (by simp)
 simp only [List.getElem_cons_zero,List.getElem_cons_succ] at a8
 obtain ⟨b0,dz,i1,bf⟩:=iq H rfl 1 1 rfl (by simp)
 simp only [List.getElem_cons_zero,List.getElem_cons_succ] at bf
 refine lC rfl (bP ?_)
 unfold k1
 by_cases al:dF=1
 · have c_:=eq_true al
   by_cases ae:bQ=1
   · have dN:=eq_true ae
     simp +contextual only [i0,a8,i1,bf,c_,dN,E,decide_true,Bool.and_self,↓ad,af,simprocAttr]
   · have dN:=eq_false ae
     simp +contextual only [i0,a8,i1,bf,c_,dN,E,decide_true,decide_false,Bool.false_and,Bool.true_and,Bool.and_self,↓ad,af,simprocAttr]
 · have c_:=eq_false al
   simp +contextual only [i0,a8,i1,bf,c_,E,decide_true,decide_false,Bool.false_and,Bool.true_and,Bool.and_self,↓ad,af,simprocAttr]
theorem afi {s:List UInt8} (aM:s=[109,117,108]) (dF bQ:Int) {v:V} {h:aj} (H:cg h 1 v 2 (cd [dF,bQ])):bB Tryz.prog 155 [.str s,v] h fun x aa=>x=.bool (decide (dF=1)&&(decide (bQ=1)&&true))∧aa=h:=by
 have E:=eL 2 (by decide) aM
 obtain ⟨cX,eG,i0,a8⟩:=iq H rfl 0 0 rfl (by simp)
 simp only [List.getElem_cons_zero,List.getElem_cons_succ] at a8
 obtain ⟨b0,dz,i1,bf⟩:=iq H rfl 1 1 rfl (by simp)
 simp only [List.getElem_cons_zero,List.getElem_cons_succ] at bf
 refine lC rfl (bP ?_)
 unfold k1
 by_cases al:dF=1
 · have c_:=eq_true al
   by_cases ae:bQ=1
   · have dN:=eq_true ae
     simp +contextual only [i0,a8,i1,bf,c_,dN,E,decide_true,Bool.and_self,↓ad,af,simprocAttr]
   · have dN:=eq_false ae
     simp +contextual only [i0,a8,i1,bf,c_,dN,E,decide_true,decide_false,Bool.false_and,Bool.true_and,Bool.and_self,↓ad,af,simprocAttr]
 · have c_:=eq_false al
   simp +contextual only [i0,a8,i1,bf,c_,E,decide_true,decide_false,Bool.false_and,Bool.true_and,Bool.and_self,↓ad,af,simprocAttr]
theorem afb {s:List UInt8} (aM:s=[100,105,118]) (dF bQ:Int) {v:V} {h:aj} (H:cg h 1 v 2 (cd [dF,bQ])):bB Tryz.prog 155 [.str s,v] h fun x aa=>x=.bool (decide (dF=1)&&(decide (bQ=1)&&true))∧aa=h:=by
 have E:=eL 3 (by decide) aM
 obtain ⟨cX,eG,i0,a8⟩:=iq H rfl 0 0 rfl (by simp)
 simp only [List.getElem_cons_zero,List.getElem_cons_succ] at a8
 obtain ⟨b0,dz,i1,bf⟩:=iq H rfl 1 1 rfl (by simp)
 simp only [List.getElem_cons_zero,List.getElem_cons_succ] at bf
 refine lC rfl (bP ?_)
 unfold k1
 by_cases al:dF=1
 · have c_:=eq_true al
   by_cases ae:bQ=1
   · have dN:=eq_true ae
     simp +contextual only [i0,a8,i1,bf,c_,dN,E,decide_true,Bool.and_self,↓ad,af,simprocAttr]
   · have dN:=eq_false ae
     simp +contextual only [i0,a8,i1,bf,c_,dN,E,decide_true,decide_false,Bool.false_and,Bool.true_and,Bool.and_self,↓ad,af,simprocAttr]
 · have c_:=eq_false al
   simp +contextual only [i0,a8,i1,bf,c_,E,decide_true,decide_false,Bool.false_and,Bool.true_and,Bool.and_self,↓ad,af,simprocAttr]
theorem afh {s:List UInt8} (aM:s=[109,111,100]) (dF bQ:Int) {v:V} {h:aj} (H:cg h 1 v 2 (cd [dF,bQ])):bB Tryz.prog 155 [.str s,v] h fun x aa=>x=.bool (decide (dF=1)&&(decide (bQ=1)&&true))∧aa=h:=by
 have E:=eL 4 (by decide) aM
 obtain ⟨cX,eG,i0,a8⟩:=iq H rfl 0 0 rfl (by simp)
 simp only [List.getElem_cons_zero,List.getElem_cons_succ] at a8
 obtain ⟨b0,dz,i1,bf⟩:=iq H rfl 1 1 rfl (by simp)
 simp only [List.getElem_cons_zero,List.getElem_cons_succ] at bf
 refine lC rfl (bP ?_)
 unfold k1
 by_cases al:dF=1
 · have c_:=eq_true al
   by_cases ae:bQ=1
   · have dN:=eq_true ae
     simp +contextual only [i0,a8,i1,bf,c_,dN,E,decide_true,Bool.and_self,↓ad,af,simprocAttr]
   · have dN:=eq_false ae
     simp +contextual only [i0,a8,i1,bf,c_,dN,E,decide_true,decide_false,Bool.false_and,Bool.true_and,Bool.and_self,↓ad,af,simprocAttr]
 · have c_:=eq_false al
   simp +contextual only [i0,a8,i1,bf,c_,E,decide_true,decide_false,Bool.false_and,Bool.true_and,Bool.and_self,↓ad,af,simprocAttr]
theorem afc {s:List UInt8} (aM:s=[101,113]) (dF bQ:Int) {v:V} {h:aj} (H:cg h 1 v 2 (cd [dF,bQ])):bB Tryz.prog 155 [.str s,v] h fun x aa=>x=.bool (decide (dF=1)&&(decide (bQ=1)&&true))∧aa=h:=by
 have E:=eL 5 (by decide) aM
 obtain ⟨cX,eG,i0,a8⟩:=iq H rfl 0 0 rfl (by simp)
 simp only [List.getElem_cons_zero,List.getElem_cons_succ] at a8
 obtain ⟨b0,dz,i1,bf⟩:=iq H rfl 1 1 rfl (by simp)
 simp only [List.getElem_cons_zero,List.getElem_cons_succ] at bf
 refine lC rfl (bP ?_)
 unfold k1
 by_cases al:dF=1
 · have c_:=eq_true al
   by_cases ae:bQ=1
   · have dN:=eq_true ae
     simp +contextual only [i0,a8,i1,bf,c_,dN,E,decide_true,Bool.and_self,↓ad,af,simprocAttr]
   · have dN:=eq_false ae
     simp +contextual only [i0,a8,i1,bf,c_,dN,E,decide_true,decide_false,Bool.false_and,Bool.true_and,Bool.and_self,↓ad,af,simprocAttr]
 · have c_:=eq_false al
   simp +contextual only [i0,a8,i1,bf,c_,E,decide_true,decide_false,Bool.false_and,Bool.true_and,Bool.and_self,↓ad,af,simprocAttr]
theorem afg {s:List UInt8} (aM:s=[108,116]) (dF bQ:Int) {v:V} {h:aj} (H:cg h 1 v 2 (cd [dF,bQ])):bB Tryz.prog 155 [.str s,v] h fun x aa=>x=.bool (decide (dF=1)&&(decide (bQ=1)&&true))∧aa=h:=by
 have E:=eL 6 (by decide) aM
 obtain ⟨cX,eG,i0,a8⟩:=iq H rfl 0 0 rfl (by simp)
 simp only [List.getElem_cons_zero,List.getElem_cons_succ] at a8
 obtain ⟨b0,dz,i1,bf⟩:=iq H rfl 1 1 rfl (by simp)
 simp only [List.getElem_cons_zero,List.getElem_cons_succ] at bf
 refine lC rfl (bP ?_)
 unfold k1
 by_cases al:dF=1
 · have c_:=eq_true al
   by_cases ae:bQ=1
   · have dN:=eq_true ae
     simp +contextual only [i0,a8,i1,bf,c_,dN,E,decide_true,Bool.and_self,↓ad,af,simprocAttr]
   · have dN:=eq_false ae
     simp +contextual only [i0,a8,i1,bf,c_,dN,E,decide_true,decide_false,Bool.false_and,Bool.true_and,Bool.and_self,↓ad,af,simprocAttr]
 · have c_:=eq_false al
   simp +contextual only [i0,a8,i1,bf,c_,E,decide_true,decide_false,Bool.false_and,Bool.true_and,Bool.and_self,↓ad,af,simprocAttr]
theorem aff {s:List UInt8} (aM:s=[108,101]) (dF bQ:Int) {v:V} {h:aj} (H:cg h 1 v 2 (cd [dF,bQ])):bB Tryz.prog 155 [.str s,v] h fun x aa=>x=.bool (decide (dF=1)&&(decide (bQ=1)&&true))∧aa=h:=by
 have E:=eL 7 (by decide) aM
 obtain ⟨cX,eG,i0,a8⟩:=iq H rfl 0 0 rfl (by simp)
 simp only [List.getElem_cons_zero,List.getElem_cons_succ] at a8
 obtain ⟨b0,dz,i1,bf⟩:=iq H rfl 1 1 rfl (by simp)
 simp only [List.getElem_cons_zero,List.getElem_cons_succ] at bf
 refine lC rfl (bP ?_)
 unfold k1
 by_cases al:dF=1
 · have c_:=eq_true al
   by_cases ae:bQ=1
   · have dN:=eq_true ae
     simp +contextual only [i0,a8,i1,bf,c_,dN,E,decide_true,Bool.and_self,↓ad,af,simprocAttr]
   · have dN:=eq_false ae
     simp +contextual only [i0,a8,i1,bf,c_,dN,E,decide_true,decide_false,Bool.false_and,Bool.true_and,Bool.and_self,↓ad,af,simprocAttr]
 · have c_:=eq_false al
   simp +contextual only [i0,a8,i1,bf,c_,E,decide_true,decide_false,Bool.false_and,Bool.true_and,Bool.and_self,↓ad,af,simprocAttr]
theorem ae' {s:List UInt8} (aM:s=[98,121,116,101]) (dF bQ:Int) {v:V} {h:aj} (H:cg h 1 v 2 (cd [dF,bQ])):bB Tryz.prog 155 [.str s,v] h fun x aa=>x=.bool (decide (dF=2)&&(decide (bQ=1)&&true))∧aa=h:=by
 have E:=eL 8 (by decide) aM
 obtain ⟨cX,eG,i0,a8⟩:=iq H rfl 0 0 rfl (by simp)
 simp only [List.getElem_cons_zero,List.getElem_cons_succ] at a8
 obtain ⟨b0,dz,i1,bf⟩:=iq H rfl 1 1 rfl (by simp)
 simp only [List.getElem_cons_zero,List.getElem_cons_succ] at bf
 refine lC rfl (bP ?_)
 unfold k1
 by_cases al:dF=2
 · have c_:=eq_true al
   by_cases ae:bQ=1
   · have dN:=eq_true ae
     simp +contextual only [i0,a8,i1,bf,c_,dN,E,decide_true,Bool.and_self,↓ad,af,simprocAttr]
   · have dN:=eq_false ae
     simp +contextual only [i0,a8,i1,bf,c_,dN,E,decide_true,decide_false,Bool.false_and,Bool.true_and,Bool.and_self,↓ad,af,simprocAttr]
 · have c_:=eq_false al
   simp +contextual only [i0,a8,i1,bf,c_,E,decide_true,decide_false,Bool.false_and,Bool.true_and,Bool.and_self,↓ad,af,simprocAttr]
theorem afe {s:List UInt8} (aM:s=[106,111,105,110]) (dF bQ:Int) {v:V} {h:aj} (H:cg h 1 v 2 (cd [dF,bQ])):bB Tryz.prog 155 [.str s,v] h fun x aa=>x=.bool (decide (dF=2)&&(decide (bQ=2)&&true))∧aa=h:=by
 have E:=eL 9 (by decide) aM
 obtain ⟨cX,eG,i0,a8⟩:=iq H rfl 0 0 rfl (by simp)
 simp only [List.getElem_cons_zero,List.getElem_cons_succ] at a8
 obtain ⟨b0,dz,i1,bf⟩:=iq H rfl 1 1 rfl (by simp)
 simp only [List.getElem_cons_zero,List.getElem_cons_succ] at bf
 refine lC rfl (bP ?_)
 unfold k1
 by_cases al:dF=2
 · have c_:=eq_true al
   by_cases ae:bQ=2
   · have dN:=eq_true ae
     simp +contextual only [i0,a8,i1,bf,c_,dN,E,decide_true,Bool.and_self,↓ad,af,simprocAttr]
   · have dN:=eq_false ae
     simp +contextual only [i0,a8,i1,bf,c_,dN,E,decide_true,decide_false,Bool.false_and,Bool.true_and,Bool.and_self,↓ad,af,simprocAttr]
 · have c_:=eq_false al
   simp +contextual only [i0,a8,i1,bf,c_,E,decide_true,decide_false,Bool.false_and,Bool.true_and,Bool.and_self,↓ad,af,simprocAttr]
theorem afm {s:List UInt8} (aM:s=[115,101,116]) (dF bQ:Int) {v:V} {h:aj} (H:cg h 1 v 2 (cd [dF,bQ])):bB Tryz.prog 155 [.str s,v] h fun x aa=>x=.bool (decide (dF=4)&&true)∧aa=h:=by
 have E:=eL 10 (by decide) aM
 obtain ⟨cX,eG,i0,a8⟩:=iq H rfl 0 0 rfl (by simp)
 simp only [List.getElem_cons_zero,List.getElem_cons_succ] at a8
 refine lC rfl (bP ?_)
 unfold k1
 by_cases al:dF=4
 · have c_:=eq_true al
   simp +contextual only [i0,a8,c_,E,decide_true,Bool.and_self,↓ad,af,simprocAttr]
 · have c_:=eq_false al
   simp +contextual only [i0,a8,c_,E,decide_true,decide_false,Bool.false_and,Bool.true_and,Bool.and_self,↓ad,af,simprocAttr]
theorem afj {s:List UInt8} (aM:s=[110,101,103]) (dF:Int) {v:V} {h:aj} (H:cg h 1 v 1 (cd [dF])):bB Tryz.prog 155 [.str s,v] h fun x aa=>x=.bool (decide (dF=1)&&true)∧aa=h:=by
 have E:=eL 11 (by decide) aM
 obtain ⟨cX,eG,i0,a8⟩:=iq H rfl 0 0 rfl (by simp)
 simp only [List.getElem_cons_zero,List.getElem_cons_succ] at a8
 refine lC rfl (bP ?_)
 unfold k1
 by_cases al:dF=1
 · have c_:=eq_true al
   simp +contextual only [i0,a8,c_,E,decide_true,Bool.and_self,↓ad,af,simprocAttr]
 · have c_:=eq_false al
   simp +contextual only [i0,a8,c_,E,decide_true,decide_false,Bool.false_and,Bool.true_and,Bool.and_self,↓ad,af,simprocAttr]
theorem afd {s:List UInt8} (aM:s=[103,101,116,99]) (dF:Int) {v:V} {h:aj} (H:cg h 1 v 1 (cd [dF])):bB Tryz.prog 155 [.str s,v] h fun x aa=>x=.bool (true)∧aa=h:=by
 have E:=eL 12 (by decide) aM
 refine lC rfl (bP ?_)
 unfold k1
 simp +contextual only [E,decide_true,Bool.and_self,↓ad,af,simprocAttr]
theorem afk {s:List UInt8} (aM:s=[112,117,116,99]) (dF:Int) {v:V} {h:aj} (H:cg h 1 v 1 (cd [dF])):bB Tryz.prog 155 [.str s,v] h fun x aa=>x=.bool (decide (dF=1)&&true)∧aa=h:=by
 have E:=eL 13 (by decide) aM
 obtain ⟨cX,eG,i0,a8⟩:=iq H rfl 0 0 rfl (by simp)
 simp only [List.getElem_cons_zero,List.getElem_cons_succ] at a8
 refine lC rfl (bP ?_)
 unfold k1
 by_cases al:dF=1
 · have c_:=eq_true al
   simp +contextual only [i0,a8,c_,E,decide_true,Bool.and_self,↓ad,af,simprocAttr]
 · have c_:=eq_false al
   simp +contextual only [i0,a8,c_,E,decide_true,decide_false,Bool.false_and,Bool.true_and,Bool.and_self,↓ad,af,simprocAttr]
theorem afl {s:List UInt8} (aM:s=[112,117,116,115]) (dF:Int) {v:V} {h:aj} (H:cg h 1 v 1 (cd [dF])):bB Tryz.prog 155 [.str s,v] h fun x aa=>x=.bool (decide (dF=2)&&true)∧aa=h:=by
 have E:=eL 14 (by decide) aM
 obtain ⟨cX,eG,i0,a8⟩:=iq H rfl 0 0 rfl (by simp)
 simp only [List.getElem_cons_zero,List.getElem_cons_succ] at a8
 refine lC rfl (bP ?_)
 unfold k1
 by_cases al:dF=2
 · have c_:=eq_true al
   simp +contextual only [i0,a8,c_,E,decide_true,Bool.and_self,↓ad,af,simprocAttr]
 · have c_:=eq_false al
   simp +contextual only [i0,a8,c_,E,decide_true,decide_false,Bool.false_and,Bool.true_and,Bool.and_self,↓ad,af,simprocAttr]
theorem afn {s:List UInt8} (aM:s=[115,105,122,101]) (dF:Int) {v:V} {h:aj} (H:cg h 1 v 1 (cd [dF])):bB Tryz.prog 155 [.str s,v] h fun x aa=>x=.bool (decide (dF=2)&&true)∧aa=h:=by
 have E:=eL 15 (by decide) aM
 obtain ⟨cX,eG,i0,a8⟩:=iq H rfl 0 0 rfl (by simp)
 simp only [List.getElem_cons_zero,List.getElem_cons_succ] at a8
 refine lC rfl (bP ?_)
 unfold k1
 by_cases al:dF=2
 · have c_:=eq_true al
   simp +contextual only [i0,a8,c_,E,decide_true,Bool.and_self,↓ad,af,simprocAttr]
 · have c_:=eq_false al
   simp +contextual only [i0,a8,c_,E,decide_true,decide_false,Bool.false_and,Bool.true_and,Bool.and_self,↓ad,af,simprocAttr]
theorem ae_ {s:List UInt8} (aM:s=[99,104,114]) (dF:Int) {v:V} {h:aj} (H:cg h 1 v 1 (cd [dF])):bB Tryz.prog 155 [.str s,v] h fun x aa=>x=.bool (decide (dF=1)&&true)∧aa=h:=by
 have E:=eL 16 (by decide) aM
 obtain ⟨cX,eG,i0,a8⟩:=iq H rfl 0 0 rfl (by simp)
 simp only [List.getElem_cons_zero,List.getElem_cons_succ] at a8
 refine lC rfl (bP ?_)
 unfold k1
 by_cases al:dF=1
 · have c_:=eq_true al
   simp +contextual only [i0,a8,c_,E,decide_true,Bool.and_self,↓ad,af,simprocAttr]
 · have c_:=eq_false al
   simp +contextual only [i0,a8,c_,E,decide_true,decide_false,Bool.false_and,Bool.true_and,Bool.and_self,↓ad,af,simprocAttr]
theorem afa {s:List UInt8} (aM:s=[99,117,116]) (dF bQ cB:Int) {v:V} {h:aj} (H:cg h 1 v 3 (cd [dF,bQ,cB])):bB Tryz.prog 155 [.str s,v] h fun x aa=>x=.bool (decide (dF=2)&&(decide (bQ=1)&&(decide (cB=1)&&true)))∧aa=h:=by
 have E:=eL 17 (by decide) aM
 obtain ⟨cX,eG,i0,a8⟩:=iq H rfl 0 0 rfl (by simp)
 simp only [List.getElem_cons_zero,List.getElem_cons_succ] at a8
 obtain ⟨b0,dz,i1,bf⟩:=iq H rfl 1 1 rfl (by simp)
 simp only [List.getElem_cons_zero,List.getElem_cons_succ] at bf
 obtain ⟨cG,fi,i2,eJ⟩:=iq H rfl 2 2 rfl (by simp)
 simp only [List.getElem_cons_zero,List.getElem_cons_succ] at eJ
 refine lC rfl (bP ?_)
 unfold k1
 by_cases al:dF=2
 · have c_:=eq_true al
   by_cases ae:bQ=1
   · have dN:=eq_true ae
     by_cases ak:cB=1
     · have k6:=eq_true ak
       simp +contextual only [i0,a8,i1,bf,i2,eJ,c_,dN,k6,E,decide_true,Bool.and_self,↓ad,af,simprocAttr]
     · have k6:=eq_false ak
       simp +contextual only [i0,a8,i1,bf,i2,eJ,c_,dN,k6,E,decide_true,decide_false,Bool.false_and,Bool.true_and,Bool.and_self,↓ad,af,simprocAttr]
   · have dN:=eq_false ae
     simp +contextual only [i0,a8,i1,bf,i2,eJ,c_,dN,E,decide_true,decide_false,Bool.false_and,Bool.true_and,Bool.and_self,↓ad,af,simprocAttr]
 · have c_:=eq_false al
   simp +contextual only [i0,a8,i1,bf,i2,eJ,c_,E,decide_true,decide_false,Bool.false_and,Bool.true_and,Bool.and_self,↓ad,af,simprocAttr]
theorem aeA {s:List UInt8} (aM:s=[97,100,100]) (a b:Int) (h:aj) (bU:gJ a) (ah:gJ b):bB Tryz.prog 159 [.str s,.int .i64 a,.int .i64 b] h fun x aa=>∃y cs,x=.tuple [y,.bool true]∧pe (.int (wr (a+b)))=some cs∧g7 h aa y cs:=by
 have E:=eL 0 (by decide) aM
 refine rp rfl (bP ?_)
 unfold qm
 have bd:-2305843009213693952≤a+b∧a+b≤2305843009213693952:=by obtain ⟨bw,b3⟩:=bU;obtain ⟨b0,cG⟩:=ah;constructor<;>omega
 have w:IntKind.i64.wrap (a+b)=a+b:=wrap_i64 (by omega) (by omega)
 simp +contextual only [w,E,↓ad,af,simprocAttr]
 refine iz (yo (a+b) h bd) ?_
 simp +contextual only [w,E,↓ad,af,simprocAttr]
 refine aV (q2 h (wr (a+b))) ?_
 rintro y ae F
 simp +contextual only [w,E,↓ad,af,simprocAttr]
 exact ⟨y,_,rfl,rfl,F⟩
theorem aeJ {s:List UInt8} (aM:s=[115,117,98]) (a b:Int) (h:aj) (bU:gJ a) (ah:gJ b):bB Tryz.prog 159 [.str s,.int .i64 a,.int .i64 b] h fun x aa=>∃y cs,x=.tuple [y,.bool true]∧pe (.int (wr (a-b)))=some cs∧g7 h aa y cs:=by
 have E:=eL 1 (by decide) aM
 refine rp rfl (bP ?_)
 unfold qm
 have bd:-2305843009213693952≤a-b∧a-b≤2305843009213693952:=by obtain ⟨bw,b3⟩:=bU;obtain ⟨b0,cG⟩:=ah;constructor<;>omega
 have w:IntKind.i64.wrap (a-b)=a-b:=wrap_i64 (by omega) (by omega)
 simp +contextual only [w,E,↓ad,af,simprocAttr]
 refine iz (yo (a-b) h bd) ?_
 simp +contextual only [w,E,↓ad,af,simprocAttr]
 refine aV (q2 h (wr (a-b))) ?_
 rintro y ae F
 simp +contextual only [w,E,↓ad,af,simprocAttr]
 exact ⟨y,_,rfl,rfl,F⟩
theorem aeI {s:List UInt8} (aM:s=[109,117,108]) (a b:Int) (h:aj) (bU:gJ a) (ah:gJ b):bB Tryz.prog 159 [.str s,.int .i64 a,.int .i64 b] h fun x aa=>∃y cs,x=.tuple [y,.bool true]∧pe (.int (wr (a * b)))=some cs∧g7 h aa y cs:=by
 have E:=eL 2 (by decide) aM
 refine rp rfl (bP ?_)
 unfold qm
 have bd:-2305843009213693952≤a * b∧a * b≤2305843009213693952:=by exact QV bU ah
 have w:IntKind.i64.wrap (a * b)=a * b:=wrap_i64 (by omega) (by omega)
 simp +contextual only [w,E,↓ad,af,simprocAttr]
 refine iz (yo (a * b) h bd) ?_
 simp +contextual only [w,E,↓ad,af,simprocAttr]
 refine aV (q2 h (wr (a * b))) ?_
 rintro y ae F
 simp +contextual only [w,E,↓ad,af,simprocAttr]
 exact ⟨y,_,rfl,rfl,F⟩
theorem aeD {s:List UInt8} (aM:s=[101,113]) (a b:Int) (h:aj) (bU:gJ a) (ah:gJ b):bB Tryz.prog 159 [.str s,.int .i64 a,.int .i64 b] h fun x aa=>∃y cs,x=.tuple [y,.bool true]∧pe (ax.nG (decide (a=b)))=some cs∧g7 h aa y cs:=by
 have E:=eL 5 (by decide) aM
 refine rp rfl (bP ?_)
 unfold qm
 simp +contextual only [E,↓ad,af,simprocAttr]
 refine aV (IK h (decide (a=b))) ?_
 rintro y ae F
 simp +contextual only [E,↓ad,af,simprocAttr]
 exact ⟨y,_,rfl,rfl,F⟩
theorem aeF {s:List UInt8} (aM:s=[108,116]) (a b:Int) (h:aj) (bU:gJ a) (ah:gJ b):bB Tryz.prog 159 [.str s,.int .i64 a,.int .i64 b] h fun x aa=>∃y cs,x=.tuple [y,.bool true]∧pe (ax.nG (decide (a<b)))=some cs∧g7 h aa y cs:=by
 have E:=eL 6 (by decide) aM
 refine rp rfl (bP ?_)
 unfold qm
 simp +contextual only [E,↓ad,af,simprocAttr]
 refine aV (IK h (decide (a<b))) ?_
 rintro y ae F
 simp +contextual only [E,↓ad,af,simprocAttr]
 exact ⟨y,_,rfl,rfl,F⟩
theorem aeE {s:List UInt8} (aM:s=[108,101]) (a b:Int) (h:aj) (bU:gJ a) (ah:gJ b):bB Tryz.prog 159 [.str s,.int .i64 a,.int .i64 b] h fun x aa=>∃y cs,x=.tuple [y,.bool true]∧pe (ax.nG (decide (a≤b)))=some cs∧g7 h aa y cs:=by
 have E:=eL 7 (by decide) aM
 refine rp rfl (bP ?_)
 unfold qm
 simp +contextual only [E,↓ad,af,simprocAttr]
 refine aV (IK h (decide (a≤b))) ?_
 rintro y ae F
 simp +contextual only [E,↓ad,af,simprocAttr]
 exact ⟨y,_,rfl,rfl,F⟩
theorem aeB {s:List UInt8} (aM:s=[100,105,118]) (a b:Int) (h:aj) (bU:gJ a) (ah:gJ b) (al:b≠0):bB Tryz.prog 159 [.str s,.int .i64 a,.int .i64 b] h fun x aa=>∃y cs,x=.tuple [y,.bool true]∧pe (.int (wr (a.tdiv b)))=some cs∧g7 h aa y cs:=by
 have E:=eL 3 (by decide) aM
 refine rp rfl (bP ?_)
 unfold qm
 have bd:=QT bU al
 have k:(eH.int .quo).run Tryz.prog (.int .i64 a) (.int .i64 b)=some (.int .i64 (a.tdiv b)):=by
  rw [O6 .i64 a b al,wrap_i64 (by omega) (by omega)]
 have z:(b=0)=False:=eq_false al
 simp +contextual only [k,z,E,↓ad,af,simprocAttr]
 refine iz (yo (a.tdiv b) h ⟨by omega,by omega⟩) ?_
 simp +contextual only [k,z,E,↓ad,af,simprocAttr]
 refine aV (q2 h (wr (a.tdiv b))) ?_
 rintro y ae F
 simp +contextual only [k,z,E,↓ad,af,simprocAttr]
 exact ⟨y,_,rfl,rfl,F⟩
theorem aeC {s:List UInt8} (aM:s=[100,105,118]) (a:Int) (h:aj):bB Tryz.prog 159 [.str s,.int .i64 a,.int .i64 0] h fun x aa=>x=.tuple [.ch,.bool false]∧aa=h:=by
 have E:=eL 3 (by decide) aM
 refine rp rfl (bP ?_)
 unfold qm
 simp +contextual only [E,↓ad,af,simprocAttr]
theorem aeG {s:List UInt8} (aM:s=[109,111,100]) (a b:Int) (h:aj) (bU:gJ a) (ah:gJ b) (al:b≠0):bB Tryz.prog 159 [.str s,.int .i64 a,.int .i64 b] h fun x aa=>∃y cs,x=.tuple [y,.bool true]∧pe (.int (wr (a.tmod b)))=some cs∧g7 h aa y cs:=by
 have E:=eL 4 (by decide) aM
 refine rp rfl (bP ?_)
 unfold qm
 have bd:=QU (a:=a) ah al
 have k:(eH.int .rem).run Tryz.prog (.int .i64 a) (.int .i64 b)=some (.int .i64 (a.tmod b)):=by
  rw [HI .i64 a b al]
 have z:(b=0)=False:=eq_false al
 simp +contextual only [k,z,E,↓ad,af,simprocAttr]
 refine iz (yo (a.tmod b) h ⟨by omega,by omega⟩) ?_
 simp +contextual only [k,z,E,↓ad,af,simprocAttr]
 refine aV (q2 h (wr (a.tmod b))) ?_
 rintro y ae F
 simp +contextual only [k,z,E,↓ad,af,simprocAttr]
 exact ⟨y,_,rfl,rfl,F⟩
theorem aeH {s:List UInt8} (aM:s=[109,111,100]) (a:Int) (h:aj):bB Tryz.prog 159 [.str s,.int .i64 a,.int .i64 0] h fun x aa=>x=.tuple [.ch,.bool false]∧aa=h:=by
 have E:=eL 4 (by decide) aM
 refine rp rfl (bP ?_)
 unfold qm
 simp +contextual only [E,↓ad,af,simprocAttr]
section
variable {al h aa:aj} {ar:a6} {K:fs} {au:List a6} {aS pm:V} {S:ax} {steps:Int} {aN aP wN b4 b8 bn:V}
set_option maxRecDepth 4000 in
set_option maxHeartbeats 2000000 in
theorem afs {s:List UInt8} (aM:s=[106,111,105,110]) (M:ec al h ar K au aS pm S steps) (O:Ok S) {a1 bX:Nat} {aw:V} (A:ew h au [a1,bX] aw) (an:cV (S.val a1)=2∧cV (S.val bX)=2):
 bB Tryz.prog 158 [.ptr ar 0,.str s,aw] h fun x aa=>∃aO aL,ec al aa ar aO aL aS pm (S.join [a1,bX]) steps:=by
 have E:=eL 9 (by decide) aM
 obtain ⟨_,_,_,_,_,_,M⟩:=M
 obtain ⟨a0,cA⟩:=p1 an.1
 obtain ⟨e1,cX,eG,fU,_,_,_,_,_,_,_,_,b7,_,b2⟩:=M.arg A 0 0 a1 rfl rfl
 rw [cA] at b2
 simp only [cV,dG,e8] at b2
 have a8:=b2 _ (Ext.refl _)
 obtain ⟨bw,di⟩:=p1 an.2
 obtain ⟨ju,b0,dz,k5,_,_,_,_,_,_,_,_,cH,_,b9⟩:=M.arg A 1 1 bX rfl rfl
 rw [di] at b9
 simp only [cV,dG,e8] at b9
 have bf:=b9 _ (Ext.refl _)
 refine Fu rfl (bP ?_)
 unfold B_
 have vP:=O.texts _ _ cA
 have fC:=O.texts _ _ di
 have dL:IntKind.i64.wrap ((a0.length:Int) + (bw.length:Int))=(a0.length:Int) + (bw.length:Int):=wrap_i64 (by omega) (by omega)
 by_cases bI:(a0.length:Int) + (bw.length:Int)≤4096
 · have fu:=eq_true bI
   have E9:(eH.str .add).run Tryz.prog (.str a0) (.str bw)=some (.str (a0++bw)):=by rw [IP,if_pos (by unfold top;omega)]
   simp +contextual only [b7,a8.1,a8.2,cH,bf.1,bf.2,dL,fu,E9,E,↓ad,af,simprocAttr]
   refine aV (IJ _ (a0++bw)) ?_
   rintro x aC F
   obtain ⟨aO,aL,bL,rfl,a7,t⟩:=M.make (v:=.text (a0++bw)) F rfl
   simp +contextual only [E,↓ad,af,simprocAttr]
   refine aV (jX ⟨_,_,_,_,_,_,bL⟩ O.w a7) ?_
   rintro x bq ⟨cP,bC⟩
   simp +contextual only [E,↓ad,af,simprocAttr]
   refine ⟨cP,aL,?_⟩
   simp only [ax.join,List.getD_cons_zero,List.getD_cons_succ,cA,di]
   rw [if_pos (by omega)]
   exact bC
 · have fu:=eq_false bI
   simp +contextual only [b7,a8.1,a8.2,cH,bf.1,bf.2,dL,fu,E,↓ad,af,simprocAttr]
   refine aV (oj _ 2 .ay ⟨rfl,rfl,rfl⟩) ?_
   rintro x aC F
   obtain ⟨aO,aL,bL,rfl,a7,t⟩:=M.make (v:=.dn 2 []) F rfl
   simp +contextual only [E,↓ad,af,simprocAttr]
   refine aV (tl ⟨_,_,_,_,_,_,bL⟩ O.w a7) ?_
   rintro x bq ⟨cP,bC⟩
   simp +contextual only [E,↓ad,af,simprocAttr]
   refine ⟨cP,aL,?_⟩
   simp only [ax.join,List.getD_cons_zero,List.getD_cons_succ,cA,di]
   rw [if_neg (by omega)]
   exact bC
set_option maxRecDepth 4000 in
set_option maxHeartbeats 2000000 in
theorem afq {s:List UInt8} (aM:s=[98,121,116,101]) (M:ec al h ar K au aS pm S steps) (O:Ok S) {a1 bX:Nat} {aw:V} (A:ew h au [a1,bX] aw) (an:cV (S.val a1)=2∧cV (S.val bX)=1):
 bB Tryz.prog 158 [.ptr ar 0,.str s,aw] h fun x aa=>∃aO aL,ec al aa ar aO aL aS pm (S.oN [a1,bX]) steps:=by
 have E:=eL 8 (by decide) aM
 obtain ⟨_,_,_,_,_,_,M⟩:=M
 obtain ⟨a0,cA⟩:=p1 an.1
 obtain ⟨e1,cX,eG,fU,_,_,_,_,_,_,_,_,b7,_,b2⟩:=M.arg A 0 0 a1 rfl rfl
 rw [cA] at b2
 simp only [cV,dG,e8] at b2
 have a8:=b2 _ (Ext.refl _)
 obtain ⟨bw,di⟩:=hj an.2
 obtain ⟨ju,b0,dz,k5,_,_,_,_,_,_,_,_,cH,_,b9⟩:=M.arg A 1 1 bX rfl rfl
 rw [di] at b9
 simp only [cV,dG,e8] at b9
 have bf:=b9 _ (Ext.refl _)
 refine Fu rfl (bP ?_)
 unfold B_
 have vP:=O.texts _ _ cA
 have fC:=O.ints _ _ di
 by_cases bI:0≤bw
 · have fu:=eq_true bI
   by_cases bK:bw < (a0.length:Int)
   · have hx:=eq_true bK
     have jh:qK.run (.str a0) (.int .i64 bw)=some (.int .u8 (((a0[bw.toNat]?).getD 0).toNat:Int)):=by rw [IQ,if_pos (by omega)]
     have vx:=(a0[bw.toNat]?.getD 0).toNat_lt
     have hF:IntKind.i64.wrap (((a0[bw.toNat]?.getD 0).toNat:Nat):Int)=(((a0[bw.toNat]?.getD 0).toNat:Nat):Int):=wrap_i64 (by omega) (by omega)
     simp +contextual only [b7,a8.1,a8.2,cH,bf.1,bf.2,fu,hx,jh,hF,E,↓ad,af,simprocAttr]
     refine aV (q2 _ (((a0[bw.toNat]?.getD 0).toNat:Nat):Int)) ?_
     rintro x aC F
     obtain ⟨aO,aL,bL,rfl,a7,t⟩:=M.make (v:=.int (((a0[bw.toNat]?.getD 0).toNat:Nat):Int)) F rfl
     simp +contextual only [E,↓ad,af,simprocAttr]
     refine aV (jX ⟨_,_,_,_,_,_,bL⟩ O.w a7) ?_
     rintro x bq ⟨cP,bC⟩
     simp +contextual only [E,↓ad,af,simprocAttr]
     refine ⟨cP,aL,?_⟩
     simp only [ax.oN,List.getD_cons_zero,List.getD_cons_succ,cA,di]
     rw [if_pos (by omega)]
     exact bC
   · have hx:=eq_false bK
     simp +contextual only [b7,a8.1,a8.2,cH,bf.1,bf.2,fu,hx,E,↓ad,af,simprocAttr]
     refine aV (oj _ 2 .ay ⟨rfl,rfl,rfl⟩) ?_
     rintro x aC F
     obtain ⟨aO,aL,bL,rfl,a7,t⟩:=M.make (v:=.dn 2 []) F rfl
     simp +contextual only [E,↓ad,af,simprocAttr]
     refine aV (tl ⟨_,_,_,_,_,_,bL⟩ O.w a7) ?_
     rintro x bq ⟨cP,bC⟩
     simp +contextual only [E,↓ad,af,simprocAttr]
     refine ⟨cP,aL,?_⟩
     simp only [ax.oN,List.getD_cons_zero,List.getD_cons_succ,cA,di]
     rw [if_neg (by omega)]
     exact bC
 · have fu:=eq_false bI
   simp +contextual only [b7,a8.1,a8.2,cH,bf.1,bf.2,fu,E,↓ad,af,simprocAttr]
   refine aV (oj _ 2 .ay ⟨rfl,rfl,rfl⟩) ?_
   rintro x aC F
   obtain ⟨aO,aL,bL,rfl,a7,t⟩:=M.make (v:=.dn 2 []) F rfl
   simp +contextual only [E,↓ad,af,simprocAttr]
   refine aV (tl ⟨_,_,_,_,_,_,bL⟩ O.w a7) ?_
   rintro x bq ⟨cP,bC⟩
   simp +contextual only [E,↓ad,af,simprocAttr]
   refine ⟨cP,aL,?_⟩
   simp only [ax.oN,List.getD_cons_zero,List.getD_cons_succ,cA,di]
   rw [if_neg (by omega)]
   exact bC
set_option maxRecDepth 4000 in
set_option maxHeartbeats 2000000 in
theorem afr {s:List UInt8} (aM:s=[99,117,116]) (M:ec al h ar K au aS pm S steps) (O:Ok S) {a1 bX gT:Nat} {aw:V} (A:ew h au [a1,bX,gT] aw) (an:cV (S.val a1)=2∧cV (S.val bX)=1∧cV (S.val gT)=1):
 bB Tryz.prog 158 [.ptr ar 0,.str s,aw] h fun x aa=>∃aO aL,ec al aa ar aO aL aS pm (S.cut [a1,bX,gT]) steps:=by
 have E:=eL 17 (by decide) aM
 obtain ⟨_,_,_,_,_,_,M⟩:=M
 obtain ⟨a0,cA⟩:=p1 an.1
 obtain ⟨e1,cX,eG,fU,_,_,_,_,_,_,_,_,b7,_,b2⟩:=M.arg A 0 0 a1 rfl rfl
 rw [cA] at b2
 simp only [cV,dG,e8] at b2
 have a8:=b2 _ (Ext.refl _)
 obtain ⟨bw,di⟩:=hj an.2.1
 obtain ⟨ju,b0,dz,k5,_,_,_,_,_,_,_,_,cH,_,b9⟩:=M.arg A 1 1 bX rfl rfl
 rw [di] at b9
 simp only [cV,dG,e8] at b9
 have bf:=b9 _ (Ext.refl _)
 obtain ⟨b3,mU⟩:=hj an.2.2
 obtain ⟨zV,cG,fi,WM,_,_,_,_,_,_,_,_,im,_,jV⟩:=M.arg A 2 2 gT rfl rfl
 rw [mU] at jV
 simp only [cV,dG,e8] at jV
 have eJ:=jV _ (Ext.refl _)
 refine Fu rfl (bP ?_)
 unfold B_
 have vP:=O.texts _ _ cA
 have fC:=O.ints _ _ di
 have ht:=O.ints _ _ mU
 have dw:IntKind.i64.wrap (bw+b3)=bw+b3:=wrap_i64 (by omega) (by omega)
 by_cases bI:0≤bw
 · have fu:=eq_true bI
   by_cases bK:0≤b3
   · have hx:=eq_true bK
     by_cases az:bw+b3≤(a0.length:Int)
     · have m3:=eq_true az
       have g_:mx (.str a0) (some (.int .i64 bw)) (some (.int .i64 (bw+b3))) none=some (.str ((a0.drop bw.toNat).take b3.toNat)):=by
        rw [IW,if_pos (by omega)]
        congr 4
        omega
       simp +contextual only [b7,a8.1,a8.2,cH,bf.1,bf.2,im,eJ.1,eJ.2,fu,hx,m3,dw,g_,E,↓ad,af,simprocAttr]
       refine aV (IJ _ ((a0.drop bw.toNat).take b3.toNat)) ?_
       rintro x aC F
       obtain ⟨aO,aL,bL,rfl,a7,t⟩:=M.make (v:=.text ((a0.drop bw.toNat).take b3.toNat)) F rfl
       simp +contextual only [b7,a8.1,a8.2,cH,bf.1,bf.2,im,eJ.1,eJ.2,E,↓ad,af,simprocAttr]
       refine aV (jX ⟨_,_,_,_,_,_,bL⟩ O.w a7) ?_
       rintro x bq ⟨cP,bC⟩
       simp +contextual only [b7,a8.1,a8.2,cH,bf.1,bf.2,im,eJ.1,eJ.2,E,↓ad,af,simprocAttr]
       refine ⟨cP,aL,?_⟩
       simp only [ax.cut,List.getD_cons_zero,List.getD_cons_succ,cA,di,mU]
       rw [if_pos (by omega)]
       exact bC
     · have m3:=eq_false az
       simp +contextual only [b7,a8.1,a8.2,cH,bf.1,bf.2,im,eJ.1,eJ.2,fu,hx,m3,dw,E,↓ad,af,simprocAttr]
       refine aV (oj _ 2 .ay ⟨rfl,rfl,rfl⟩) ?_
       rintro x aC F
       obtain ⟨aO,aL,bL,rfl,a7,t⟩:=M.make (v:=.dn 2 []) F rfl
       simp +contextual only [E,↓ad,af,simprocAttr]
       refine aV (tl ⟨_,_,_,_,_,_,bL⟩ O.w a7) ?_
       rintro x bq ⟨cP,bC⟩
       simp +contextual only [E,↓ad,af,simprocAttr]
       refine ⟨cP,aL,?_⟩
       simp only [ax.cut,List.getD_cons_zero,List.getD_cons_succ,cA,di,mU]
       rw [if_neg (by omega)]
       exact bC
   · have hx:=eq_false bK
     simp +contextual only [b7,a8.1,a8.2,cH,bf.1,bf.2,im,eJ.1,eJ.2,fu,hx,E,↓ad,af,simprocAttr]
     refine aV (oj _ 2 .ay ⟨rfl,rfl,rfl⟩) ?_
     rintro x aC F
     obtain ⟨aO,aL,bL,rfl,a7,t⟩:=M.make (v:=.dn 2 []) F rfl
     simp +contextual only [E,↓ad,af,simprocAttr]
     refine aV (tl ⟨_,_,_,_,_,_,bL⟩ O.w a7) ?_
     rintro x bq ⟨cP,bC⟩
     simp +contextual only [E,↓ad,af,simprocAttr]
     refine ⟨cP,aL,?_⟩
     simp only [ax.cut,List.getD_cons_zero,List.getD_cons_succ,cA,di,mU]
     rw [if_neg (by omega)]
     exact bC
 · have fu:=eq_false bI
   simp +contextual only [b7,a8.1,a8.2,cH,bf.1,bf.2,im,eJ.1,eJ.2,fu,E,↓ad,af,simprocAttr]
   refine aV (oj _ 2 .ay ⟨rfl,rfl,rfl⟩) ?_
   rintro x aC F
   obtain ⟨aO,aL,bL,rfl,a7,t⟩:=M.make (v:=.dn 2 []) F rfl
   simp +contextual only [E,↓ad,af,simprocAttr]
   refine aV (tl ⟨_,_,_,_,_,_,bL⟩ O.w a7) ?_
   rintro x bq ⟨cP,bC⟩
   simp +contextual only [E,↓ad,af,simprocAttr]
   refine ⟨cP,aL,?_⟩
   simp only [ax.cut,List.getD_cons_zero,List.getD_cons_succ,cA,di,mU]
   rw [if_neg (by omega)]
   exact bC
end
end Go.Proofs.YtjbiefneffiogaaGreat
namespace Go.Proofs.YtjbiefneffiogaaGreat
open Go bA
section
variable {al h aa:aj} {ar:a6} {K:fs} {au:List a6} {aS pm:V} {S:ax} {steps:Int} {aN aP wN b4 b8 bn:V}
def jw:bE→bE
 | .seq _ c=>c
 | c=>c
def CL:bE→bE
 | .seq c _=>c
 | c=>c
def ke:bE:=jw (jw (jw i'))
theorem TO:i'=.seq (CL i') (.seq (CL (jw i')) (.seq (CL (jw (jw i'))) ke)):=rfl
set_option maxRecDepth 4000 in
set_option maxHeartbeats 4000000 in
theorem lS {s:List UInt8} {b:Bool} {bx:List Nat} {aw:V} {Q:cW→bV→aj→Prop} (M:ep al h ar K au aS pm S steps aN aP wN b4 b8 bn) (jU:bx.length≤3) (A:ew h au bx aw)
 (aM:∀v ae,cg ae 1 v bx.length (cd (bx.map fun j=>cV (S.val j)))→bB Tryz.prog 155 [.str s,v] ae fun x aa=>x=.bool b∧aa=ae)
 (ht:b=false→∀r aa,ec al aa ar K au aS pm S.gp steps→Q .ret r aa)
 (H:b=true→∀r ae,r 0=.ptr ar 0→r 1=.str s→r 2=aw→ep al ae ar K au aS pm S steps aN aP wN b4 b8 bn→ew ae au bx aw→bR Tryz.prog [.c ke] .normal r ae Q):
 bR Tryz.prog [.c i'] .normal (bV.aq [.ptr ar 0,.str s,aw]) h Q:=by
 rw [TO]
 generalize ke=rest at H ⊢
 unfold i'
 simp only [jw,CL]
 have bZ:Ext h (h.new (.aq [] 0 false)):=(Ext.refl h).new _
 have dJ:=M.rep.ext.next
 have z1:=A.1.len
 simp +contextual only [↓ad,af,simprocAttr]
 refine fw (fun r aa=>r 0=.ptr ar 0∧r 1=.str s∧r 2=aw∧∃i:Nat,r 7=.int .i64 i∧i≤bx.length∧Ext h aa∧cm h.next aa 1 (r 6) i (cd ((bx.take i).map fun j=>cV (S.val j)))) (fun r aa=>bx.length - (r 7).gn) ?_ ?_
 · exact ⟨by simp only [↓ad,bj,simprocAttr],by simp only [↓ad,bj,simprocAttr],by simp only [↓ad,bj,simprocAttr],0,by simp only [↓ad,bj,simprocAttr]<;>rfl,Nat.zero_le _,bZ,by simp only [↓ad,bj,simprocAttr];exact cm.empty (h:=h) 1 (Nat.le_refl _)⟩
 · rintro r ae ⟨bl,aU,bm,i,fr,aG,aI,dW⟩
   unfold KE
   generalize OE:r 6=v6 at *
   have mZ:=aI.next
   have aH:=M.ext aI
   have cz:=A.ext aI
   by_cases aX:i<bx.length
   · have bM:((i:Int) < (bx.length:Int))=True:=eq_true (by omega)
     have gD:=gq aX (by omega)
     obtain ⟨bS,b,o,cC,_,_,_,_,_,_,_,_,b_,_,cD⟩:=aH.arg cz i i (bx[i]'aX) rfl (List.getElem?_eq_getElem aX)
     have l:=cD _ (Ext.refl _)
     obtain ⟨dg,aC,ca,b',cE,fR,fN⟩:=iW (cs:=[.int .i64 (cV (S.val (bx[i]'aX)))]) (by omega) dW mZ (by unfold top;omega) rfl rfl
     simp +contextual only [bl,aU,bm,fr,OE,z1,bM,b_,l.1,l.2,ca,gD,↓ad,af,simprocAttr]
     refine ⟨⟨i+1,rfl,aX,?_,?_⟩,by omega⟩
     · exact aI.lf cE (fun b q=>dW.base q)
     · rw [List.take_succ_eq_append_getElem aX,List.map_append,show ∀a b:List Int,cd (a++b)=cd a++cd b from fun a b=>by simp [cd]]
       exact b'
   · have bM:((i:Int) < (bx.length:Int))=False:=eq_false (by omega)
     obtain rfl:i=bx.length:=by omega
     rw [List.take_length] at dW
     simp +contextual only [bl,aU,bm,fr,OE,z1,bM,↓ad,af,simprocAttr]
     refine aV (aM _ _ dW.v) ?_
     rintro x ak ⟨rfl,a2⟩
     obtain rfl:ae=ak:=a2.symm
     cases b with
     | false=>
       simp +contextual only [bl,aU,bm,↓ad,af,simprocAttr]
       refine aV (mv ⟨_,_,_,_,_,_,aH⟩ 6) ?_
       rintro y aC bC
       simp +contextual only [↓ad,af,simprocAttr]
       exact ht rfl _ _ bC
     | true=>
       simp +contextual only [bl,aU,bm,↓ad,af,simprocAttr]
       exact H rfl _ _ (by simp only [bl,↓ad,bj,simprocAttr]) (by simp only [aU,↓ad,bj,simprocAttr]) (by simp only [bm,↓ad,bj,simprocAttr]) aH cz
set_option maxRecDepth 4000 in
set_option maxHeartbeats 4000000 in
theorem aeN {s:List UInt8} (aM:s=[97,100,100]) (M:ec al h ar K au aS pm S steps) (O:Ok S) {aR:List UInt8} (dX:cg al 1 aS aR.length (dp aR)) (hlen:aR.length≤1073741824) (fD:S.read≤aR.length) {a1 bX:Nat} {aw:V} (A:ew h au [a1,bX] aw):
 bB Tryz.prog 111 [.ptr ar 0,.str s,aw] h fun x aa=>∃aO aL,ec al aa ar aO aL aS pm (S.gg [a1,bX] fun a b=>S.dT (.int (wr (a+b)))) steps:=by
 have E:=eL 0 (by decide) aM
 obtain ⟨hQ,hR,hA,lV,lX,lW,M⟩:=M
 refine lB rfl (bP (lS (b:=dA S [a1,bX] [1,1]) M (bx:=[a1,bX]) (by simp) A (fun v ae V=>ae9 aM _ _ V) ?_ ?_))
 · intro an c0 bq bC
   refine ⟨trivial,_,rfl,K,au,?_⟩
   rw [rW an]
   exact bC
 intro an r ae bl aU bm aH cz
 unfold ke i'
 simp only [jw]
 simp only [dA,Bool.and_true,Bool.and_eq_true,decide_eq_true_eq] at an
 obtain ⟨a0,cA⟩:=hj an.1
 obtain ⟨e1,cX,eG,fU,_,_,_,_,_,_,_,_,b7,_,b2⟩:=aH.arg cz 0 0 a1 rfl rfl
 rw [cA] at b2
 simp only [cV,dG,e8] at b2
 have a8:=b2 _ (Ext.refl _)
 obtain ⟨bw,di⟩:=hj an.2
 obtain ⟨ju,b0,dz,k5,_,_,_,_,_,_,_,_,cH,_,b9⟩:=aH.arg cz 1 1 bX rfl rfl
 rw [di] at b9
 simp only [cV,dG,e8] at b9
 have bf:=b9 _ (Ext.refl _)
 simp +contextual only [bl,aU,bm,b7,a8.1,a8.2,cH,bf.1,bf.2,E,↓ad,af,simprocAttr]
 refine aV (aeA aM a0 bw ae (O.ints _ _ cA) (O.ints _ _ di)) ?_
 rintro x dZ ⟨y,cs,rfl,hg,Fr⟩
 obtain ⟨aO,aL,bL,rfl,a7,t⟩:=aH.make Fr hg
 obtain ⟨_,_,cp,_⟩:=Fr
 have gj:=b2 _ cp
 have gk:=b9 _ cp
 simp +contextual only [bl,aU,bm,b7,a8.1,a8.2,cH,bf.1,bf.2,gj.1,gj.2,gk.1,gk.2,E,↓ad,af,simprocAttr]
 refine aV (jX ⟨_,_,_,_,_,_,bL⟩ O.w a7) ?_
 rintro x bq ⟨cP,bC⟩
 simp +contextual only [bl,aU,bm,E,↓ad,af,simprocAttr]
 refine ⟨cP,aL,?_⟩
 simp only [ax.gg,List.getD_cons_zero,List.getD_cons_succ,cA,di]
 exact bC
set_option maxRecDepth 4000 in
set_option maxHeartbeats 4000000 in
theorem ae5 {s:List UInt8} (aM:s=[115,117,98]) (M:ec al h ar K au aS pm S steps) (O:Ok S) {aR:List UInt8} (dX:cg al 1 aS aR.length (dp aR)) (hlen:aR.length≤1073741824) (fD:S.read≤aR.length) {a1 bX:Nat} {aw:V} (A:ew h au [a1,bX] aw):
 bB Tryz.prog 111 [.ptr ar 0,.str s,aw] h fun x aa=>∃aO aL,ec al aa ar aO aL aS pm (S.gg [a1,bX] fun a b=>S.dT (.int (wr (a-b)))) steps:=by
 have E:=eL 1 (by decide) aM
 obtain ⟨hQ,hR,hA,lV,lX,lW,M⟩:=M
 refine lB rfl (bP (lS (b:=dA S [a1,bX] [1,1]) M (bx:=[a1,bX]) (by simp) A (fun v ae V=>afo aM _ _ V) ?_ ?_))
 · intro an c0 bq bC
   refine ⟨trivial,_,rfl,K,au,?_⟩
   rw [rW an]
   exact bC
 intro an r ae bl aU bm aH cz
 unfold ke i'
 simp only [jw]
 simp only [dA,Bool.and_true,Bool.and_eq_true,decide_eq_true_eq] at an
 obtain ⟨a0,cA⟩:=hj an.1
 obtain ⟨e1,cX,eG,fU,_,_,_,_,_,_,_,_,b7,_,b2⟩:=aH.arg cz 0 0 a1 rfl rfl
 rw [cA] at b2
 simp only [cV,dG,e8] at b2
 have a8:=b2 _ (Ext.refl _)
 obtain ⟨bw,di⟩:=hj an.2
 obtain ⟨ju,b0,dz,k5,_,_,_,_,_,_,_,_,cH,_,b9⟩:=aH.arg cz 1 1 bX rfl rfl
 rw [di] at b9
 simp only [cV,dG,e8] at b9
 have bf:=b9 _ (Ext.refl _)
 simp +contextual only [bl,aU,bm,b7,a8.1,a8.2,cH,bf.1,bf.2,E,↓ad,af,simprocAttr]
 refine aV (aeJ aM a0 bw ae (O.ints _ _ cA) (O.ints _ _ di)) ?_
 rintro x dZ ⟨y,cs,rfl,hg,Fr⟩
 obtain ⟨aO,aL,bL,rfl,a7,t⟩:=aH.make Fr hg
 obtain ⟨_,_,cp,_⟩:=Fr
 have gj:=b2 _ cp
 have gk:=b9 _ cp
 simp +contextual only [bl,aU,bm,b7,a8.1,a8.2,cH,bf.1,bf.2,gj.1,gj.2,gk.1,gk.2,E,↓ad,af,simprocAttr]
 refine aV (jX ⟨_,_,_,_,_,_,bL⟩ O.w a7) ?_
 rintro x bq ⟨cP,bC⟩
 simp +contextual only [bl,aU,bm,E,↓ad,af,simprocAttr]
 refine ⟨cP,aL,?_⟩
 simp only [ax.gg,List.getD_cons_zero,List.getD_cons_succ,cA,di]
 exact bC
set_option maxRecDepth 4000 in
set_option maxHeartbeats 4000000 in
theorem aeZ {s:List UInt8} (aM:s=[109,117,108]) (M:ec al h ar K au aS pm S steps) (O:Ok S) {aR:List UInt8} (dX:cg al 1 aS aR.length (dp aR)) (hlen:aR.length≤1073741824) (fD:S.read≤aR.length) {a1 bX:Nat} {aw:V} (A:ew h au [a1,bX] aw):
 bB Tryz.prog 111 [.ptr ar 0,.str s,aw] h fun x aa=>∃aO aL,ec al aa ar aO aL aS pm (S.gg [a1,bX] fun a b=>S.dT (.int (wr (a * b)))) steps:=by
 have E:=eL 2 (by decide) aM
 obtain ⟨hQ,hR,hA,lV,lX,lW,M⟩:=M
 refine lB rfl (bP (lS (b:=dA S [a1,bX] [1,1]) M (bx:=[a1,bX]) (by simp) A (fun v ae V=>afi aM _ _ V) ?_ ?_))
 · intro an c0 bq bC
   refine ⟨trivial,_,rfl,K,au,?_⟩
   rw [rW an]
   exact bC
 intro an r ae bl aU bm aH cz
 unfold ke i'
 simp only [jw]
 simp only [dA,Bool.and_true,Bool.and_eq_true,decide_eq_true_eq] at an
 obtain ⟨a0,cA⟩:=hj an.1
 obtain ⟨e1,cX,eG,fU,_,_,_,_,_,_,_,_,b7,_,b2⟩:=aH.arg cz 0 0 a1 rfl rfl
 rw [cA] at b2
 simp only [cV,dG,e8] at b2
 have a8:=b2 _ (Ext.refl _)
 obtain ⟨bw,di⟩:=hj an.2
 obtain ⟨ju,b0,dz,k5,_,_,_,_,_,_,_,_,cH,_,b9⟩:=aH.arg cz 1 1 bX rfl rfl
 rw [di] at b9
 simp only [cV,dG,e8] at b9
 have bf:=b9 _ (Ext.refl _)
 simp +contextual only [bl,aU,bm,b7,a8.1,a8.2,cH,bf.1,bf.2,E,↓ad,af,simprocAttr]
 refine aV (aeI aM a0 bw ae (O.ints _ _ cA) (O.ints _ _ di)) ?_
 rintro x dZ ⟨y,cs,rfl,hg,Fr⟩
 obtain ⟨aO,aL,bL,rfl,a7,t⟩:=aH.make Fr hg
 obtain ⟨_,_,cp,_⟩:=Fr
 have gj:=b2 _ cp
 have gk:=b9 _ cp
 simp +contextual only [bl,aU,bm,b7,a8.1,a8.2,cH,bf.1,bf.2,gj.1,gj.2,gk.1,gk.2,E,↓ad,af,simprocAttr]
 refine aV (jX ⟨_,_,_,_,_,_,bL⟩ O.w a7) ?_
 rintro x bq ⟨cP,bC⟩
 simp +contextual only [bl,aU,bm,E,↓ad,af,simprocAttr]
 refine ⟨cP,aL,?_⟩
 simp only [ax.gg,List.getD_cons_zero,List.getD_cons_succ,cA,di]
 exact bC
set_option maxRecDepth 4000 in
set_option maxHeartbeats 4000000 in
theorem aeS {s:List UInt8} (aM:s=[100,105,118]) (M:ec al h ar K au aS pm S steps) (O:Ok S) {aR:List UInt8} (dX:cg al 1 aS aR.length (dp aR)) (hlen:aR.length≤1073741824) (fD:S.read≤aR.length) {a1 bX:Nat} {aw:V} (A:ew h au [a1,bX] aw):
 bB Tryz.prog 111 [.ptr ar 0,.str s,aw] h fun x aa=>∃aO aL,ec al aa ar aO aL aS pm (S.gg [a1,bX] fun a b=>if b=0 then S.nF (.dn 1 []) else S.dT (.int (wr (a.tdiv b)))) steps:=by
 have E:=eL 3 (by decide) aM
 obtain ⟨hQ,hR,hA,lV,lX,lW,M⟩:=M
 refine lB rfl (bP (lS (b:=dA S [a1,bX] [1,1]) M (bx:=[a1,bX]) (by simp) A (fun v ae V=>afb aM _ _ V) ?_ ?_))
 · intro an c0 bq bC
   refine ⟨trivial,_,rfl,K,au,?_⟩
   rw [rW an]
   exact bC
 intro an r ae bl aU bm aH cz
 unfold ke i'
 simp only [jw]
 simp only [dA,Bool.and_true,Bool.and_eq_true,decide_eq_true_eq] at an
 obtain ⟨a0,cA⟩:=hj an.1
 obtain ⟨e1,cX,eG,fU,_,_,_,_,_,_,_,_,b7,_,b2⟩:=aH.arg cz 0 0 a1 rfl rfl
 rw [cA] at b2
 simp only [cV,dG,e8] at b2
 have a8:=b2 _ (Ext.refl _)
 obtain ⟨bw,di⟩:=hj an.2
 obtain ⟨ju,b0,dz,k5,_,_,_,_,_,_,_,_,cH,_,b9⟩:=aH.arg cz 1 1 bX rfl rfl
 rw [di] at b9
 simp only [cV,dG,e8] at b9
 have bf:=b9 _ (Ext.refl _)
 by_cases bI:bw=0
 · subst bI
   simp +contextual only [bl,aU,bm,b7,a8.1,a8.2,cH,bf.1,bf.2,E,↓ad,af,simprocAttr]
   refine aV (aeC aM a0 ae) ?_
   rintro x dZ ⟨rfl,rfl⟩
   simp +contextual only [bl,aU,bm,b7,a8.1,a8.2,cH,bf.1,bf.2,E,↓ad,af,simprocAttr]
   refine aV (oj _ 1 .ay ⟨rfl,rfl,rfl⟩) ?_
   rintro x aC F
   obtain ⟨aO,aL,bL,rfl,a7,t⟩:=aH.make (v:=.dn 1 []) F rfl
   simp +contextual only [bl,aU,bm,b7,a8.1,a8.2,cH,bf.1,bf.2,E,↓ad,af,simprocAttr]
   refine aV (tl ⟨_,_,_,_,_,_,bL⟩ O.w a7) ?_
   rintro x bq ⟨cP,bC⟩
   simp +contextual only [bl,aU,bm,b7,a8.1,a8.2,cH,bf.1,bf.2,E,↓ad,af,simprocAttr]
   refine ⟨cP,aL,?_⟩
   simp only [ax.gg,List.getD_cons_zero,List.getD_cons_succ,cA,di,if_true]
   exact bC
 simp +contextual only [bl,aU,bm,b7,a8.1,a8.2,cH,bf.1,bf.2,E,↓ad,af,simprocAttr]
 refine aV (aeB aM a0 bw ae (O.ints _ _ cA) (O.ints _ _ di) bI) ?_
 rintro x dZ ⟨y,cs,rfl,hg,Fr⟩
 obtain ⟨aO,aL,bL,rfl,a7,t⟩:=aH.make Fr hg
 obtain ⟨_,_,cp,_⟩:=Fr
 have gj:=b2 _ cp
 have gk:=b9 _ cp
 simp +contextual only [bl,aU,bm,b7,a8.1,a8.2,cH,bf.1,bf.2,gj.1,gj.2,gk.1,gk.2,E,↓ad,af,simprocAttr]
 refine aV (jX ⟨_,_,_,_,_,_,bL⟩ O.w a7) ?_
 rintro x bq ⟨cP,bC⟩
 simp +contextual only [bl,aU,bm,E,↓ad,af,simprocAttr]
 refine ⟨cP,aL,?_⟩
 simp only [ax.gg,List.getD_cons_zero,List.getD_cons_succ,cA,di]
 rw [if_neg bI]
 exact bC
set_option maxRecDepth 4000 in
set_option maxHeartbeats 4000000 in
theorem aeY {s:List UInt8} (aM:s=[109,111,100]) (M:ec al h ar K au aS pm S steps) (O:Ok S) {aR:List UInt8} (dX:cg al 1 aS aR.length (dp aR)) (hlen:aR.length≤1073741824) (fD:S.read≤aR.length) {a1 bX:Nat} {aw:V} (A:ew h au [a1,bX] aw):
 bB Tryz.prog 111 [.ptr ar 0,.str s,aw] h fun x aa=>∃aO aL,ec al aa ar aO aL aS pm (S.gg [a1,bX] fun a b=>if b=0 then S.nF (.dn 1 []) else S.dT (.int (wr (a.tmod b)))) steps:=by
 have E:=eL 4 (by decide) aM
 obtain ⟨hQ,hR,hA,lV,lX,lW,M⟩:=M
 refine lB rfl (bP (lS (b:=dA S [a1,bX] [1,1]) M (bx:=[a1,bX]) (by simp) A (fun v ae V=>afh aM _ _ V) ?_ ?_))
 · intro an c0 bq bC
   refine ⟨trivial,_,rfl,K,au,?_⟩
   rw [rW an]
   exact bC
 intro an r ae bl aU bm aH cz
 unfold ke i'
 simp only [jw]
 simp only [dA,Bool.and_true,Bool.and_eq_true,decide_eq_true_eq] at an
 obtain ⟨a0,cA⟩:=hj an.1
 obtain ⟨e1,cX,eG,fU,_,_,_,_,_,_,_,_,b7,_,b2⟩:=aH.arg cz 0 0 a1 rfl rfl
 rw [cA] at b2
 simp only [cV,dG,e8] at b2
 have a8:=b2 _ (Ext.refl _)
 obtain ⟨bw,di⟩:=hj an.2
 obtain ⟨ju,b0,dz,k5,_,_,_,_,_,_,_,_,cH,_,b9⟩:=aH.arg cz 1 1 bX rfl rfl
 rw [di] at b9
 simp only [cV,dG,e8] at b9
 have bf:=b9 _ (Ext.refl _)
 by_cases bI:bw=0
 · subst bI
   simp +contextual only [bl,aU,bm,b7,a8.1,a8.2,cH,bf.1,bf.2,E,↓ad,af,simprocAttr]
   refine aV (aeH aM a0 ae) ?_
   rintro x dZ ⟨rfl,rfl⟩
   simp +contextual only [bl,aU,bm,b7,a8.1,a8.2,cH,bf.1,bf.2,E,↓ad,af,simprocAttr]
   refine aV (oj _ 1 .ay ⟨rfl,rfl,rfl⟩) ?_
   rintro x aC F
   obtain ⟨aO,aL,bL,rfl,a7,t⟩:=aH.make (v:=.dn 1 []) F rfl
   simp +contextual only [bl,aU,bm,b7,a8.1,a8.2,cH,bf.1,bf.2,E,↓ad,af,simprocAttr]
   refine aV (tl ⟨_,_,_,_,_,_,bL⟩ O.w a7) ?_
   rintro x bq ⟨cP,bC⟩
   simp +contextual only [bl,aU,bm,b7,a8.1,a8.2,cH,bf.1,bf.2,E,↓ad,af,simprocAttr]
   refine ⟨cP,aL,?_⟩
   simp only [ax.gg,List.getD_cons_zero,List.getD_cons_succ,cA,di,if_true]
   exact bC
 simp +contextual only [bl,aU,bm,b7,a8.1,a8.2,cH,bf.1,bf.2,E,↓ad,af,simprocAttr]
 refine aV (aeG aM a0 bw ae (O.ints _ _ cA) (O.ints _ _ di) bI) ?_
 rintro x dZ ⟨y,cs,rfl,hg,Fr⟩
 obtain ⟨aO,aL,bL,rfl,a7,t⟩:=aH.make Fr hg
 obtain ⟨_,_,cp,_⟩:=Fr
 have gj:=b2 _ cp
 have gk:=b9 _ cp
 simp +contextual only [bl,aU,bm,b7,a8.1,a8.2,cH,bf.1,bf.2,gj.1,gj.2,gk.1,gk.2,E,↓ad,af,simprocAttr]
 refine aV (jX ⟨_,_,_,_,_,_,bL⟩ O.w a7) ?_
 rintro x bq ⟨cP,bC⟩
 simp +contextual only [bl,aU,bm,E,↓ad,af,simprocAttr]
 refine ⟨cP,aL,?_⟩
 simp only [ax.gg,List.getD_cons_zero,List.getD_cons_succ,cA,di]
 rw [if_neg bI]
 exact bC
set_option maxRecDepth 4000 in
set_option maxHeartbeats 4000000 in
theorem aeT {s:List UInt8} (aM:s=[101,113]) (M:ec al h ar K au aS pm S steps) (O:Ok S) {aR:List UInt8} (dX:cg al 1 aS aR.length (dp aR)) (hlen:aR.length≤1073741824) (fD:S.read≤aR.length) {a1 bX:Nat} {aw:V} (A:ew h au [a1,bX] aw):
 bB Tryz.prog 111 [.ptr ar 0,.str s,aw] h fun x aa=>∃aO aL,ec al aa ar aO aL aS pm (S.gg [a1,bX] fun a b=>S.dT (ax.nG (decide (a=b)))) steps:=by
 have E:=eL 5 (by decide) aM
 obtain ⟨hQ,hR,hA,lV,lX,lW,M⟩:=M
 refine lB rfl (bP (lS (b:=dA S [a1,bX] [1,1]) M (bx:=[a1,bX]) (by simp) A (fun v ae V=>afc aM _ _ V) ?_ ?_))
 · intro an c0 bq bC
   refine ⟨trivial,_,rfl,K,au,?_⟩
   rw [rW an]
   exact bC
 intro an r ae bl aU bm aH cz
 unfold ke i'
 simp only [jw]
 simp only [dA,Bool.and_true,Bool.and_eq_true,decide_eq_true_eq] at an
 obtain ⟨a0,cA⟩:=hj an.1
 obtain ⟨e1,cX,eG,fU,_,_,_,_,_,_,_,_,b7,_,b2⟩:=aH.arg cz 0 0 a1 rfl rfl
 rw [cA] at b2
 simp only [cV,dG,e8] at b2
 have a8:=b2 _ (Ext.refl _)
 obtain ⟨bw,di⟩:=hj an.2
 obtain ⟨ju,b0,dz,k5,_,_,_,_,_,_,_,_,cH,_,b9⟩:=aH.arg cz 1 1 bX rfl rfl
 rw [di] at b9
 simp only [cV,dG,e8] at b9
 have bf:=b9 _ (Ext.refl _)
 simp +contextual only [bl,aU,bm,b7,a8.1,a8.2,cH,bf.1,bf.2,E,↓ad,af,simprocAttr]
 refine aV (aeD aM a0 bw ae (O.ints _ _ cA) (O.ints _ _ di)) ?_
 rintro x dZ ⟨y,cs,rfl,hg,Fr⟩
 obtain ⟨aO,aL,bL,rfl,a7,t⟩:=aH.make Fr hg
 obtain ⟨_,_,cp,_⟩:=Fr
 have gj:=b2 _ cp
 have gk:=b9 _ cp
 simp +contextual only [bl,aU,bm,b7,a8.1,a8.2,cH,bf.1,bf.2,gj.1,gj.2,gk.1,gk.2,E,↓ad,af,simprocAttr]
 refine aV (jX ⟨_,_,_,_,_,_,bL⟩ O.w a7) ?_
 rintro x bq ⟨cP,bC⟩
 simp +contextual only [bl,aU,bm,E,↓ad,af,simprocAttr]
 refine ⟨cP,aL,?_⟩
 simp only [ax.gg,List.getD_cons_zero,List.getD_cons_succ,cA,di]
 exact bC
set_option maxRecDepth 4000 in
set_option maxHeartbeats 4000000 in
theorem aeX {s:List UInt8} (aM:s=[108,116]) (M:ec al h ar K au aS pm S steps) (O:Ok S) {aR:List UInt8} (dX:cg al 1 aS aR.length (dp aR)) (hlen:aR.length≤1073741824) (fD:S.read≤aR.length) {a1 bX:Nat} {aw:V} (A:ew h au [a1,bX] aw):
 bB Tryz.prog 111 [.ptr ar 0,.str s,aw] h fun x aa=>∃aO aL,ec al aa ar aO aL aS pm (S.gg [a1,bX] fun a b=>S.dT (ax.nG (decide (a<b)))) steps:=by
 have E:=eL 6 (by decide) aM
 obtain ⟨hQ,hR,hA,lV,lX,lW,M⟩:=M
 refine lB rfl (bP (lS (b:=dA S [a1,bX] [1,1]) M (bx:=[a1,bX]) (by simp) A (fun v ae V=>afg aM _ _ V) ?_ ?_))
 · intro an c0 bq bC
   refine ⟨trivial,_,rfl,K,au,?_⟩
   rw [rW an]
   exact bC
 intro an r ae bl aU bm aH cz
 unfold ke i'
 simp only [jw]
 simp only [dA,Bool.and_true,Bool.and_eq_true,decide_eq_true_eq] at an
 obtain ⟨a0,cA⟩:=hj an.1
 obtain ⟨e1,cX,eG,fU,_,_,_,_,_,_,_,_,b7,_,b2⟩:=aH.arg cz 0 0 a1 rfl rfl
 rw [cA] at b2
 simp only [cV,dG,e8] at b2
 have a8:=b2 _ (Ext.refl _)
 obtain ⟨bw,di⟩:=hj an.2
 obtain ⟨ju,b0,dz,k5,_,_,_,_,_,_,_,_,cH,_,b9⟩:=aH.arg cz 1 1 bX rfl rfl
 rw [di] at b9
 simp only [cV,dG,e8] at b9
 have bf:=b9 _ (Ext.refl _)
 simp +contextual only [bl,aU,bm,b7,a8.1,a8.2,cH,bf.1,bf.2,E,↓ad,af,simprocAttr]
 refine aV (aeF aM a0 bw ae (O.ints _ _ cA) (O.ints _ _ di)) ?_
 rintro x dZ ⟨y,cs,rfl,hg,Fr⟩
 obtain ⟨aO,aL,bL,rfl,a7,t⟩:=aH.make Fr hg
 obtain ⟨_,_,cp,_⟩:=Fr
 have gj:=b2 _ cp
 have gk:=b9 _ cp
 simp +contextual only [bl,aU,bm,b7,a8.1,a8.2,cH,bf.1,bf.2,gj.1,gj.2,gk.1,gk.2,E,↓ad,af,simprocAttr]
 refine aV (jX ⟨_,_,_,_,_,_,bL⟩ O.w a7) ?_
 rintro x bq ⟨cP,bC⟩
 simp +contextual only [bl,aU,bm,E,↓ad,af,simprocAttr]
 refine ⟨cP,aL,?_⟩
 simp only [ax.gg,List.getD_cons_zero,List.getD_cons_succ,cA,di]
 exact bC
set_option maxRecDepth 4000 in
set_option maxHeartbeats 4000000 in
theorem aeW {s:List UInt8} (aM:s=[108,101]) (M:ec al h ar K au aS pm S steps) (O:Ok S) {aR:List UInt8} (dX:cg al 1 aS aR.length (dp aR)) (hlen:aR.length≤1073741824) (fD:S.read≤aR.length) {a1 bX:Nat} {aw:V} (A:ew h au [a1,bX] aw):
 bB Tryz.prog 111 [.ptr ar 0,.str s,aw] h fun x aa=>∃aO aL,ec al aa ar aO aL aS pm (S.gg [a1,bX] fun a b=>S.dT (ax.nG (decide (a≤b)))) steps:=by
 have E:=eL 7 (by decide) aM
 obtain ⟨hQ,hR,hA,lV,lX,lW,M⟩:=M
 refine lB rfl (bP (lS (b:=dA S [a1,bX] [1,1]) M (bx:=[a1,bX]) (by simp) A (fun v ae V=>aff aM _ _ V) ?_ ?_))
 · intro an c0 bq bC
   refine ⟨trivial,_,rfl,K,au,?_⟩
   rw [rW an]
   exact bC
 intro an r ae bl aU bm aH cz
 unfold ke i'
 simp only [jw]
 simp only [dA,Bool.and_true,Bool.and_eq_true,decide_eq_true_eq] at an
 obtain ⟨a0,cA⟩:=hj an.1
 obtain ⟨e1,cX,eG,fU,_,_,_,_,_,_,_,_,b7,_,b2⟩:=aH.arg cz 0 0 a1 rfl rfl
 rw [cA] at b2
 simp only [cV,dG,e8] at b2
 have a8:=b2 _ (Ext.refl _)
 obtain ⟨bw,di⟩:=hj an.2
 obtain ⟨ju,b0,dz,k5,_,_,_,_,_,_,_,_,cH,_,b9⟩:=aH.arg cz 1 1 bX rfl rfl
 rw [di] at b9
 simp only [cV,dG,e8] at b9
 have bf:=b9 _ (Ext.refl _)
 simp +contextual only [bl,aU,bm,b7,a8.1,a8.2,cH,bf.1,bf.2,E,↓ad,af,simprocAttr]
 refine aV (aeE aM a0 bw ae (O.ints _ _ cA) (O.ints _ _ di)) ?_
 rintro x dZ ⟨y,cs,rfl,hg,Fr⟩
 obtain ⟨aO,aL,bL,rfl,a7,t⟩:=aH.make Fr hg
 obtain ⟨_,_,cp,_⟩:=Fr
 have gj:=b2 _ cp
 have gk:=b9 _ cp
 simp +contextual only [bl,aU,bm,b7,a8.1,a8.2,cH,bf.1,bf.2,gj.1,gj.2,gk.1,gk.2,E,↓ad,af,simprocAttr]
 refine aV (jX ⟨_,_,_,_,_,_,bL⟩ O.w a7) ?_
 rintro x bq ⟨cP,bC⟩
 simp +contextual only [bl,aU,bm,E,↓ad,af,simprocAttr]
 refine ⟨cP,aL,?_⟩
 simp only [ax.gg,List.getD_cons_zero,List.getD_cons_succ,cA,di]
 exact bC
end
end Go.Proofs.YtjbiefneffiogaaGreat
namespace Go.Proofs.YtjbiefneffiogaaGreat
open Go bA
section
variable {al h aa:aj} {ar:a6} {K:fs} {au:List a6} {aS pm:V} {S:ax} {steps:Int} {aN aP wN b4 b8 bn:V}
set_option maxRecDepth 4000 in
set_option maxHeartbeats 4000000 in
theorem ae0 {s:List UInt8} (aM:s=[110,101,103]) (M:ec al h ar K au aS pm S steps) (O:Ok S) {aR:List UInt8} (dX:cg al 1 aS aR.length (dp aR)) (hlen:aR.length≤1073741824) (fD:S.read≤aR.length) {a1:Nat} {aw:V} (A:ew h au [a1] aw):
 bB Tryz.prog 111 [.ptr ar 0,.str s,aw] h fun x aa=>∃aO aL,ec al aa ar aO aL aS pm (S.jW [a1] fun a=>S.dT (.int (wr (-a)))) steps:=by
 have E:=eL 11 (by decide) aM
 obtain ⟨hQ,hR,hA,lV,lX,lW,M⟩:=M
 refine lB rfl (bP (lS (b:=dA S [a1] [1]) M (bx:=[a1]) (by simp) A (fun v ae V=>afj aM _ V) ?_ ?_))
 · intro an c0 bq bC
   refine ⟨trivial,_,rfl,K,au,?_⟩
   rw [yf an]
   exact bC
 intro an r ae bl aU bm aH cz
 unfold ke i'
 simp only [jw]
 simp only [dA,Bool.and_true,Bool.and_eq_true,decide_eq_true_eq] at an
 obtain ⟨a0,cA⟩:=hj an
 obtain ⟨e1,cX,eG,fU,_,_,_,_,_,_,_,_,b7,_,b2⟩:=aH.arg cz 0 0 a1 rfl rfl
 rw [cA] at b2
 simp only [cV,dG,e8] at b2
 have a8:=b2 _ (Ext.refl _)
 have bd:=O.ints _ _ cA
 have aZ:IntKind.i64.wrap (0-a0)=-a0:=by rw [wrap_i64 (by omega) (by omega)];omega
 simp +contextual only [bl,aU,bm,b7,a8.1,a8.2,aZ,E,↓ad,af,simprocAttr]
 refine iz (yo (-a0) ae ⟨by omega,by omega⟩) ?_
 simp +contextual only [bl,aU,bm,b7,a8.1,a8.2,aZ,E,↓ad,af,simprocAttr]
 refine aV (q2 ae (wr (-a0))) ?_
 rintro x aC F
 obtain ⟨aO,aL,bL,rfl,a7,t⟩:=aH.make (v:=.int (wr (-a0))) F rfl
 simp +contextual only [bl,aU,bm,E,↓ad,af,simprocAttr]
 refine aV (jX ⟨_,_,_,_,_,_,bL⟩ O.w a7) ?_
 rintro x bq ⟨cP,bC⟩
 simp +contextual only [bl,aU,bm,E,↓ad,af,simprocAttr]
 refine ⟨cP,aL,?_⟩
 simp only [ax.jW,List.getD_cons_zero,List.getD_cons_succ,cA]
 exact bC
set_option maxRecDepth 4000 in
set_option maxHeartbeats 4000000 in
theorem aeU {s:List UInt8} (aM:s=[103,101,116,99]) (M:ec al h ar K au aS pm S steps) (O:Ok S) {aR:List UInt8} (dX:cg al 1 aS aR.length (dp aR)) (hlen:aR.length≤1073741824) (fD:S.read≤aR.length) {a1:Nat} {aw:V} (A:ew h au [a1] aw):
 bB Tryz.prog 111 [.ptr ar 0,.str s,aw] h fun x aa=>∃aO aL,ec al aa ar aO aL aS pm (S.t_ aR) steps:=by
 have E:=eL 12 (by decide) aM
 obtain ⟨hQ,hR,hA,lV,lX,lW,M⟩:=M
 refine lB rfl (bP (lS (b:=true) M (bx:=[a1]) (by simp) A (fun v ae V=>afd aM _ V) (fun q=>absurd q (by decide)) ?_))
 intro an r ae bl aU bm aH cz
 unfold ke i'
 simp only [jw]
 have cJ:=aH.get
 have aK:=dX.len
 have kx:=dX.one
 by_cases bd:S.read=aR.length
 · have o2:((S.read:Int)=(aR.length:Int))=True:=eq_true (by omega)
   simp +contextual only [bl,aU,bm,cJ,aK,o2,E,↓ad,af,simprocAttr]
   refine aV (q2 ae (-1)) ?_
   rintro x aC F
   obtain ⟨aO,aL,bL,rfl,a7,t⟩:=aH.make (v:=.int (-1)) F rfl
   simp +contextual only [bl,aU,bm,E,↓ad,af,simprocAttr]
   refine aV (jX ⟨_,_,_,_,_,_,bL⟩ O.w a7) ?_
   rintro x bq ⟨cP,bC⟩
   simp +contextual only [bl,aU,bm,E,↓ad,af,simprocAttr]
   refine ⟨cP,aL,?_⟩
   simp only [ax.t_,Nat.le_refl]
   rw [if_pos (by omega)]
   exact bC
 · have o2:((S.read:Int)=(aR.length:Int))=False:=eq_false (by omega)
   have dL:IntKind.i64.wrap ((S.read:Int)+1)=((S.read+1:Nat):Int):=by rw [wrap_i64 (by omega) (by omega)];rfl
   have dw:IntKind.i64.wrap (((S.read+1:Nat):Int)-1)=(S.read:Int):=by rw [wrap_i64 (by omega) (by omega)];omega
   have M2:=aH.next {S with read:=S.read+1} steps _ _ _ _ _ _ rfl aH.co aH.dB aH.wr aH.dk
   have ee:=M2.get
   obtain ⟨b,o,b_,cD⟩:=Kl dX (k:=.i64) (i:=S.read) (by omega)
   have vx:=(aR[S.read]?.getD 0).toNat_lt
   have hF:IntKind.i64.wrap (((aR[S.read]?.getD 0).toNat:Nat):Int)=(((aR[S.read]?.getD 0).toNat:Nat):Int):=wrap_i64 (by omega) (by omega)
   have b9:=cD _ M2.rep.ext
   simp only [du] at b9
   simp +contextual only [bl,aU,bm,cJ,ee,aK,o2,dL,dw,hF,b_,b9,kx.1,kx.2.1,E,↓ad,af,simprocAttr]
   refine aV (q2 _ (((aR[S.read]?.getD 0).toNat:Nat):Int)) ?_
   rintro x aC Fr
   obtain ⟨aO,aL,bL,rfl,a7,t⟩:=M2.make (v:=.int (((aR[S.read]?.getD 0).toNat:Nat):Int)) Fr rfl
   have jc:=bL.get
   have rP:=cD _ bL.rep.ext
   simp +contextual only [bl,aU,bm,rm,cJ,ee,jc,aK,o2,dL,dw,hF,b_,b9,rP,kx.1,kx.2.1,E,↓ad,af,simprocAttr]
   refine aV (jX ⟨_,_,_,_,_,_,bL⟩ O.w a7) ?_
   rintro x bq ⟨cP,bC⟩
   simp +contextual only [bl,aU,bm,rm,cJ,ee,jc,aK,o2,dL,dw,hF,b_,b9,rP,kx.1,kx.2.1,E,↓ad,af,simprocAttr]
   refine ⟨cP,aL,?_⟩
   have YB:¬aR.length≤S.read:=by omega
   simp only [ax.t_,if_neg YB]
   exact bC
set_option maxRecDepth 4000 in
set_option maxHeartbeats 4000000 in
theorem ae1 {s:List UInt8} (aM:s=[112,117,116,99]) (M:ec al h ar K au aS pm S steps) (O:Ok S) {aR:List UInt8} (dX:cg al 1 aS aR.length (dp aR)) (hlen:aR.length≤1073741824) (fD:S.read≤aR.length) {a1:Nat} {aw:V} (A:ew h au [a1] aw):
 bB Tryz.prog 111 [.ptr ar 0,.str s,aw] h fun x aa=>∃aO aL,ec al aa ar aO aL aS pm (S.jW [a1] fun a=>{S with out:=S.out++[ax.byteOf a]}.dT (.dn 0 [])) steps:=by
 have E:=eL 13 (by decide) aM
 obtain ⟨hQ,hR,hA,lV,lX,lW,M⟩:=M
 refine lB rfl (bP (lS (b:=dA S [a1] [1]) M (bx:=[a1]) (by simp) A (fun v ae V=>afk aM _ V) ?_ ?_))
 · intro an c0 bq bC
   refine ⟨trivial,_,rfl,K,au,?_⟩
   rw [yf an]
   exact bC
 intro an r ae bl aU bm aH cz
 unfold ke i'
 simp only [jw]
 simp only [dA,Bool.and_true,Bool.and_eq_true,decide_eq_true_eq] at an
 obtain ⟨a0,cA⟩:=hj an
 obtain ⟨e1,cX,eG,fU,_,_,_,_,_,_,_,_,b7,_,b2⟩:=aH.arg cz 0 0 a1 rfl rfl
 rw [cA] at b2
 simp only [cV,dG,e8] at b2
 have a8:=b2 _ (Ext.refl _)
 have bd:=O.ints _ _ cA
 have aZ:IntKind.u8.wrap (a0 % 256)=((ax.byteOf a0).toNat:Int):=by rw [wrap_u8,Kj]
 have Jg:=JU (P:=Tryz.prog) bd
 have cJ:=aH.get
 have xv:Ext ae (ae.new (.aq [.int .u8 ((ax.byteOf a0).toNat:Int)] 0 false)):=(Ext.refl ae).new _
 have ht:=O.out
 obtain ⟨dg,aC,ca,b',cE,fR,fN⟩:=iW (cs:=[.int .u8 ((ax.byteOf a0).toNat:Int)]) (by omega) aH.dk.1 aH.rep.ext.next (by unfold top;omega) rfl rfl
 have r0:cm al.next aC 1 dg (S.out++[ax.byteOf a0]).length (dp (S.out++[ax.byteOf a0])):=by
  rw [zl,List.length_append];exact b'
 obtain ⟨kY,bL⟩:=aH.wrote r0 cE (fun b q=>by rcases fN b q with r | r;exact .inl r;exact .inr (by omega))
 have jc:aC.get ar=_:=(aH.zC cE).trans cJ
 have dm:=b'.v.one
 have Ga:=(xv.get ar aH.b6.2).trans cJ
 have ml:=b2 _ xv
 have An:=ml.1
 rw [eB] at An
 simp +contextual only [rm,cJ,Ga,jc,bl,aU,bm,b7,a8.1,a8.2,An,ml.1,ml.2,aZ,Jg,ca,dm.1,dm.2.1,E,↓ad,af,simprocAttr]
 refine aV (oj _ 0 .ay ⟨rfl,rfl,rfl⟩) ?_
 rintro x bq Fr
 obtain ⟨aO,aL,bC,rfl,a7,t⟩:=bL.make (v:=.dn 0 []) Fr rfl
 simp +contextual only [bl,aU,bm,E,↓ad,af,simprocAttr]
 refine aV (jX ⟨_,_,_,_,_,_,bC⟩ O.w a7) ?_
 rintro x dZ ⟨u7,oD⟩
 simp +contextual only [bl,aU,bm,E,↓ad,af,simprocAttr]
 refine ⟨u7,aL,?_⟩
 simp only [ax.jW,List.getD_cons_zero,cA]
 exact oD
set_option maxRecDepth 4000 in
set_option maxHeartbeats 4000000 in
theorem ae2 {s:List UInt8} (aM:s=[112,117,116,115]) (M:ec al h ar K au aS pm S steps) (O:Ok S) {aR:List UInt8} (dX:cg al 1 aS aR.length (dp aR)) (hlen:aR.length≤1073741824) (fD:S.read≤aR.length) {a1:Nat} {aw:V} (A:ew h au [a1] aw):
 bB Tryz.prog 111 [.ptr ar 0,.str s,aw] h fun x aa=>∃aO aL,ec al aa ar aO aL aS pm (S.mA [a1] fun t=>{S with out:=S.out++t}.dT (.dn 0 [])) steps:=by
 have E:=eL 14 (by decide) aM
 obtain ⟨hQ,hR,hA,lV,lX,lW,M⟩:=M
 refine lB rfl (bP (lS (b:=dA S [a1] [2]) M (bx:=[a1]) (by simp) A (fun v ae V=>afl aM _ V) ?_ ?_))
 · intro an c0 bq bC
   refine ⟨trivial,_,rfl,K,au,?_⟩
   rw [D4 an]
   exact bC
 intro an r ae bl aU bm aH cz
 unfold ke i'
 simp only [jw]
 simp only [dA,Bool.and_true,Bool.and_eq_true,decide_eq_true_eq] at an
 obtain ⟨a0,cA⟩:=p1 an
 obtain ⟨e1,cX,eG,fU,_,_,_,_,_,_,_,_,b7,_,b2⟩:=aH.arg cz 0 0 a1 rfl rfl
 rw [cA] at b2
 simp only [cV,dG,e8] at b2
 have a8:=b2 _ (Ext.refl _)
 have cJ:=aH.get
 have ht:=O.out
 have vP:=O.texts _ _ cA
 obtain ⟨dg,aC,ca,b',cE,fN⟩:=JW a0 aH.dk.1 aH.rep.ext.next (by unfold top;omega)
 have r0:cm al.next aC 1 dg (S.out++a0).length (dp (S.out++a0)):=by
  rw [zl,List.length_append];exact b'
 obtain ⟨kY,bL⟩:=aH.wrote r0 cE fN
 have jc:aC.get ar=_:=(aH.zC cE).trans cJ
 have dm:=b'.v.one
 simp +contextual only [rm,cJ,jc,bl,aU,bm,b7,a8.1,a8.2,ca,dm.1,dm.2.1,E,↓ad,af,simprocAttr]
 refine aV (oj _ 0 .ay ⟨rfl,rfl,rfl⟩) ?_
 rintro x bq Fr
 obtain ⟨aO,aL,bC,rfl,a7,t⟩:=bL.make (v:=.dn 0 []) Fr rfl
 simp +contextual only [bl,aU,bm,E,↓ad,af,simprocAttr]
 refine aV (jX ⟨_,_,_,_,_,_,bC⟩ O.w a7) ?_
 rintro x dZ ⟨u7,oD⟩
 simp +contextual only [bl,aU,bm,E,↓ad,af,simprocAttr]
 refine ⟨u7,aL,?_⟩
 simp only [ax.mA,List.getD_cons_zero,cA]
 exact oD
set_option maxRecDepth 4000 in
set_option maxHeartbeats 4000000 in
theorem ae4 {s:List UInt8} (aM:s=[115,105,122,101]) (M:ec al h ar K au aS pm S steps) (O:Ok S) {aR:List UInt8} (dX:cg al 1 aS aR.length (dp aR)) (hlen:aR.length≤1073741824) (fD:S.read≤aR.length) {a1:Nat} {aw:V} (A:ew h au [a1] aw):
 bB Tryz.prog 111 [.ptr ar 0,.str s,aw] h fun x aa=>∃aO aL,ec al aa ar aO aL aS pm (S.mA [a1] fun t=>S.dT (.int t.length)) steps:=by
 have E:=eL 15 (by decide) aM
 obtain ⟨hQ,hR,hA,lV,lX,lW,M⟩:=M
 refine lB rfl (bP (lS (b:=dA S [a1] [2]) M (bx:=[a1]) (by simp) A (fun v ae V=>afn aM _ V) ?_ ?_))
 · intro an c0 bq bC
   refine ⟨trivial,_,rfl,K,au,?_⟩
   rw [D4 an]
   exact bC
 intro an r ae bl aU bm aH cz
 unfold ke i'
 simp only [jw]
 simp only [dA,Bool.and_true,Bool.and_eq_true,decide_eq_true_eq] at an
 obtain ⟨a0,cA⟩:=p1 an
 obtain ⟨e1,cX,eG,fU,_,_,_,_,_,_,_,_,b7,_,b2⟩:=aH.arg cz 0 0 a1 rfl rfl
 rw [cA] at b2
 simp only [cV,dG,e8] at b2
 have a8:=b2 _ (Ext.refl _)
 simp +contextual only [bl,aU,bm,b7,a8.1,a8.2,E,↓ad,af,simprocAttr]
 refine aV (q2 ae a0.length) ?_
 rintro x aC F
 obtain ⟨aO,aL,bL,rfl,a7,t⟩:=aH.make (v:=.int a0.length) F rfl
 simp +contextual only [bl,aU,bm,E,↓ad,af,simprocAttr]
 refine aV (jX ⟨_,_,_,_,_,_,bL⟩ O.w a7) ?_
 rintro x bq ⟨cP,bC⟩
 simp +contextual only [bl,aU,bm,E,↓ad,af,simprocAttr]
 refine ⟨cP,aL,?_⟩
 simp only [ax.mA,List.getD_cons_zero,List.getD_cons_succ,cA]
 exact bC
set_option maxRecDepth 4000 in
set_option maxHeartbeats 4000000 in
theorem aeP {s:List UInt8} (aM:s=[99,104,114]) (M:ec al h ar K au aS pm S steps) (O:Ok S) {aR:List UInt8} (dX:cg al 1 aS aR.length (dp aR)) (hlen:aR.length≤1073741824) (fD:S.read≤aR.length) {a1:Nat} {aw:V} (A:ew h au [a1] aw):
 bB Tryz.prog 111 [.ptr ar 0,.str s,aw] h fun x aa=>∃aO aL,ec al aa ar aO aL aS pm (S.jW [a1] fun a=>S.dT (.text [ax.byteOf a])) steps:=by
 have E:=eL 16 (by decide) aM
 obtain ⟨hQ,hR,hA,lV,lX,lW,M⟩:=M
 refine lB rfl (bP (lS (b:=dA S [a1] [1]) M (bx:=[a1]) (by simp) A (fun v ae V=>ae_ aM _ V) ?_ ?_))
 · intro an c0 bq bC
   refine ⟨trivial,_,rfl,K,au,?_⟩
   rw [yf an]
   exact bC
 intro an r ae bl aU bm aH cz
 unfold ke i'
 simp only [jw]
 simp only [dA,Bool.and_true,Bool.and_eq_true,decide_eq_true_eq] at an
 obtain ⟨a0,cA⟩:=hj an
 obtain ⟨e1,cX,eG,fU,_,_,_,_,_,_,_,_,b7,_,b2⟩:=aH.arg cz 0 0 a1 rfl rfl
 rw [cA] at b2
 simp only [cV,dG,e8] at b2
 have a8:=b2 _ (Ext.refl _)
 have bd:=O.ints _ _ cA
 have aZ:IntKind.u8.wrap (a0 % 256)=((ax.byteOf a0).toNat:Int):=by rw [wrap_u8,Kj]
 have Jg:=JU (P:=Tryz.prog) bd
 have k3:nT.run (.slice (ao ae.next) 0 1 1) (ae.new (.aq [.int .u8 ((ax.byteOf a0).toNat:Int)] 0 false))=.val (.str [ax.byteOf a0]) (ae.new (.aq [.int .u8 ((ax.byteOf a0).toNat:Int)] 0 false)):=M3 [ax.byteOf a0] ae (show 1≤top by decide)
 have M2:=aH.ext ((Ext.refl ae).new (.aq [.int .u8 ((ax.byteOf a0).toNat:Int)] 0 false))
 simp +contextual only [bl,aU,bm,b7,a8.1,a8.2,aZ,Jg,k3,E,↓ad,af,simprocAttr]
 refine aV (IJ _ [ax.byteOf a0]) ?_
 rintro x aC F
 obtain ⟨aO,aL,bL,rfl,a7,t⟩:=M2.make (v:=.text [ax.byteOf a0]) F rfl
 simp +contextual only [bl,aU,bm,E,↓ad,af,simprocAttr]
 refine aV (jX ⟨_,_,_,_,_,_,bL⟩ O.w a7) ?_
 rintro x bq ⟨cP,bC⟩
 simp +contextual only [bl,aU,bm,E,↓ad,af,simprocAttr]
 refine ⟨cP,aL,?_⟩
 simp only [ax.jW,List.getD_cons_zero,List.getD_cons_succ,cA]
 exact bC
set_option maxRecDepth 4000 in
set_option maxHeartbeats 4000000 in
theorem aeO {s:List UInt8} (aM:s=[98,121,116,101]) (M:ec al h ar K au aS pm S steps) (O:Ok S) {aR:List UInt8} (dX:cg al 1 aS aR.length (dp aR)) (hlen:aR.length≤1073741824) (fD:S.read≤aR.length) {a1 bX:Nat} {aw:V} (A:ew h au [a1,bX] aw):
 bB Tryz.prog 111 [.ptr ar 0,.str s,aw] h fun x aa=>∃aO aL,ec al aa ar aO aL aS pm (S.oN [a1,bX]) steps:=by
 have E:=eL 8 (by decide) aM
 obtain ⟨hQ,hR,hA,lV,lX,lW,M⟩:=M
 refine lB rfl (bP (lS (b:=dA S [a1,bX] [2,1]) M (bx:=[a1,bX]) (by simp) A (fun v ae V=>ae' aM _ _ V) ?_ ?_))
 · intro an c0 bq bC
   refine ⟨trivial,_,rfl,K,au,?_⟩
   rw [Ki an]
   exact bC
 intro an r ae bl aU bm aH cz
 unfold ke i'
 simp only [jw]
 simp only [dA,Bool.and_true,Bool.and_eq_true,decide_eq_true_eq] at an
 simp +contextual only [bl,aU,bm,E,↓ad,af,simprocAttr]
 refine aV (afq aM ⟨_,_,_,_,_,_,aH⟩ O cz an) ?_
 rintro x bq ⟨cP,y_,bC⟩
 simp +contextual only [bl,aU,bm,E,↓ad,af,simprocAttr]
 exact ⟨cP,y_,bC⟩
set_option maxRecDepth 4000 in
set_option maxHeartbeats 4000000 in
theorem aeR {s:List UInt8} (aM:s=[99,117,116]) (M:ec al h ar K au aS pm S steps) (O:Ok S) {aR:List UInt8} (dX:cg al 1 aS aR.length (dp aR)) (hlen:aR.length≤1073741824) (fD:S.read≤aR.length) {a1 bX gT:Nat} {aw:V} (A:ew h au [a1,bX,gT] aw):
 bB Tryz.prog 111 [.ptr ar 0,.str s,aw] h fun x aa=>∃aO aL,ec al aa ar aO aL aS pm (S.cut [a1,bX,gT]) steps:=by
 have E:=eL 17 (by decide) aM
 obtain ⟨hQ,hR,hA,lV,lX,lW,M⟩:=M
 refine lB rfl (bP (lS (b:=dA S [a1,bX,gT] [2,1,1]) M (bx:=[a1,bX,gT]) (by simp) A (fun v ae V=>afa aM _ _ _ V) ?_ ?_))
 · intro an c0 bq bC
   refine ⟨trivial,_,rfl,K,au,?_⟩
   rw [M' an]
   exact bC
 intro an r ae bl aU bm aH cz
 unfold ke i'
 simp only [jw]
 simp only [dA,Bool.and_true,Bool.and_eq_true,decide_eq_true_eq] at an
 simp +contextual only [bl,aU,bm,E,↓ad,af,simprocAttr]
 refine aV (afr aM ⟨_,_,_,_,_,_,aH⟩ O cz an) ?_
 rintro x bq ⟨cP,y_,bC⟩
 simp +contextual only [bl,aU,bm,E,↓ad,af,simprocAttr]
 exact ⟨cP,y_,bC⟩
set_option maxRecDepth 4000 in
set_option maxHeartbeats 4000000 in
theorem aeV {s:List UInt8} (aM:s=[106,111,105,110]) (M:ec al h ar K au aS pm S steps) (O:Ok S) {aR:List UInt8} (dX:cg al 1 aS aR.length (dp aR)) (hlen:aR.length≤1073741824) (fD:S.read≤aR.length) {a1 bX:Nat} {aw:V} (A:ew h au [a1,bX] aw):
 bB Tryz.prog 111 [.ptr ar 0,.str s,aw] h fun x aa=>∃aO aL,ec al aa ar aO aL aS pm (S.join [a1,bX]) steps:=by
 have E:=eL 9 (by decide) aM
 obtain ⟨hQ,hR,hA,lV,lX,lW,M⟩:=M
 refine lB rfl (bP (lS (b:=dA S [a1,bX] [2,2]) M (bx:=[a1,bX]) (by simp) A (fun v ae V=>afe aM _ _ V) ?_ ?_))
 · intro an c0 bq bC
   refine ⟨trivial,_,rfl,K,au,?_⟩
   rw [O5 an]
   exact bC
 intro an r ae bl aU bm aH cz
 unfold ke i'
 simp only [jw]
 simp only [dA,Bool.and_true,Bool.and_eq_true,decide_eq_true_eq] at an
 simp +contextual only [bl,aU,bm,E,↓ad,af,simprocAttr]
 refine aV (afs aM ⟨_,_,_,_,_,_,aH⟩ O cz an) ?_
 rintro x bq ⟨cP,y_,bC⟩
 simp +contextual only [bl,aU,bm,E,↓ad,af,simprocAttr]
 exact ⟨cP,y_,bC⟩
set_option maxRecDepth 4000 in
set_option maxHeartbeats 4000000 in
theorem ae3 {s:List UInt8} (aM:s=[115,101,116]) (M:ec al h ar K au aS pm S steps) (O:Ok S) {aR:List UInt8} (dX:cg al 1 aS aR.length (dp aR)) (hlen:aR.length≤1073741824) (fD:S.read≤aR.length) {a1 bX:Nat} {aw:V} (A:ew h au [a1,bX] aw):
 bB Tryz.prog 111 [.ptr ar 0,.str s,aw] h fun x aa=>∃aO aL,ec al aa ar aO aL aS pm (S.pq [a1,bX]) steps:=by
 have E:=eL 10 (by decide) aM
 obtain ⟨hQ,hR,hA,lV,lX,lW,M⟩:=M
 refine lB rfl (bP (lS (b:=dA S [a1] [4]) M (bx:=[a1,bX]) (by simp) A (fun v ae V=>afm aM _ _ V) ?_ ?_))
 · intro an c0 bq bC
   refine ⟨trivial,_,rfl,K,au,?_⟩
   have dq:S.pq [a1,bX]=S.gp:=by
    simp only [dA,Bool.and_true,decide_eq_false_iff_not] at an
    simp only [ax.pq,List.getD_cons_zero]
    cases bk:S.val a1<;>first | rfl | (rw [bk] at an;exact absurd rfl an)
   rw [dq]
   exact bC
 intro an r ae bl aU bm aH cz
 unfold ke i'
 simp only [jw]
 simp only [dA,Bool.and_true,Bool.and_eq_true,decide_eq_true_eq] at an
 obtain ⟨t,bg,bk⟩:=we an
 obtain ⟨e1,cX,eG,fU,aQ,aB,a',aiO,ea,fy,fZ,aiC,b7,jO,b2⟩:=aH.arg cz 0 0 a1 rfl rfl
 obtain ⟨ju,b0,dz,k5,_,_,_,_,_,_,_,_,cH,_,b9⟩:=aH.arg cz 1 1 bX rfl rfl
 have a8:=b2 _ (Ext.refl _)
 have bf:=b9 _ (Ext.refl _)
 rw [bk] at a8 b2 jO
 simp only [cV,dG,e8] at a8 b2
 have xV:S.pq [a1,bX]=if t=0∧bg.length=1 then {S with st:=S.st.set a1 (.dn 0 [bX])}.dT (.dn 0 []) else S.gp:=by
  simp only [ax.pq,List.getD_cons_zero,List.getD_cons_succ,bk]
 have Rv:∀aC,ec al aC ar K au aS pm S.gp steps→¬(t=0∧bg.length=1)→∃aO aL,ec al aC ar aO aL aS pm (S.pq [a1,bX]) steps:=fun aC bC ht=>⟨K,au,by rw [xV,if_neg ht];exact bC⟩
 by_cases aJ:t=0
 rotate_left
 · have m2:=eq_false aJ
   simp +contextual only [bl,aU,bm,b7,cH,a8.1,bf.1,a8.2,bf.2,m2,E,↓ad,af,simprocAttr]
   refine aV (mv ⟨_,_,_,_,_,_,aH⟩ 6) ?_
   rintro x bq bC
   simp +contextual only [bl,aU,bm,E,↓ad,af,simprocAttr]
   exact Rv _ bC (by omega)
 subst aJ
 obtain ⟨f1,f2,f3⟩:=jO
 have aK:=f1.v.len
 by_cases jT:bg.length=1
 rotate_left
 · have GB:((bg.length:Int)=1)=False:=eq_false (by omega)
   simp +contextual only [bl,aU,bm,b7,cH,a8.1,bf.1,a8.2,bf.2,aK,GB,E,↓ad,af,simprocAttr]
   refine aV (mv ⟨_,_,_,_,_,_,aH⟩ 6) ?_
   rintro x bq bC
   simp +contextual only [bl,aU,bm,E,↓ad,af,simprocAttr]
   exact Rv _ bC (by omega)
 rw [jT] at aK f1
 obtain ⟨ki,tZ,Ng,ahX,Nh⟩:=f1.v.jf (k:=.i64) (i:=0) (by decide)
 have hr:=Fc f1.v (k:=.i64) (i:=0) (by decide) Ng
 have FL:fc 1 fU (.int .i64 0)=some (.ptr ki tZ):=by simpa using Ng
 obtain ⟨k,ca,_,cE,fR⟩:=f1.Ir hr (c:=0) (by simp [jT]) (y:=c5 au bX) rfl rfl
 rw [Nat.add_zero] at ca
 have pc:qL 1 ae ki tZ (.ptr (ed au bX) 0) (ae.get ki)=some (ae.set ki k):=ca
 have ff:((((1:Nat):Int))=1)=True:=eq_true rfl
 have cn:=f2 ki Nh
 have t:dd al K ae au K (ae.set ki k) au (·=.lE a1):=dd.s' cn (f1.base Nh)
 have vE:a1<S.st.length:=by rw [←aH.rep.len];exact e1
 have Ag:(bg.map (c5 au)).set 0 (c5 au bX)=[bX].map (c5 au):=by
  match bg,jT with
  | [a],_=>rfl
 rw [Ag] at cE
 obtain ⟨fv,WL,f_,FJ,eI,dg,_⟩:=aH.rep.val a1 _ (ax.Ea vE)
 rw [bk] at dg
 have hg:=Ie (a8.2.symm.trans eI)
 cases dg
 simp only [List.cons.injEq,true_and,and_true] at hg
 obtain ⟨rfl,rfl,rfl,rfl,rfl,rfl,rfl,rfl,rfl⟩:=hg
 have M2:ep al (ae.set ki k) ar K au aS pm {S with st:=S.st.set a1 (.dn 0 [bX])} steps hQ hR hA lV lX lW:=by
  have kK:K ar≠.no:=by rw [aH.dv];simp
  refine ⟨aH.rep.D9 (i:=a1) (v:=.dn 0 [bX]) t (by simp) (by intro j bS;simpa using bS) (by simp) ?_,aH.dv,?_,aH.co,aH.dB.cy t (by simp),aH.wr.cy t (by simp) (by simp),aH.dk.cy t (by simp)⟩
  · exact ⟨fv,fU,.ch,_,by rw [t.get _ (by rw [fv];simp) (by rw [fv];simp)];exact a8.2,rfl,⟨cE,f2,by simpa using ju⟩,trivial⟩
  · rw [t.get ar kK (by rw [aH.dv];simp)];exact aH.get
 simp +contextual only [bl,aU,bm,b7,cH,a8.1,bf.1,a8.2,bf.2,aK,ff,FL,pc,E,↓ad,af,simprocAttr]
 refine aV (oj _ 0 .ay ⟨rfl,rfl,rfl⟩) ?_
 rintro x aC Fr
 obtain ⟨aO,aL,bL,rfl,a7,t⟩:=M2.make (v:=.dn 0 []) Fr rfl
 simp +contextual only [bl,aU,bm,E,↓ad,af,simprocAttr]
 refine aV (jX ⟨_,_,_,_,_,_,bL⟩ O.w a7) ?_
 rintro x bq ⟨cP,bC⟩
 simp +contextual only [bl,aU,bm,E,↓ad,af,simprocAttr]
 refine ⟨cP,aL,?_⟩
 rw [xV,if_pos ⟨rfl,jT⟩]
 exact bC
end
end Go.Proofs.YtjbiefneffiogaaGreat
namespace Go.Proofs.YtjbiefneffiogaaGreat
open Go bA
section
variable {al h aa:aj} {ar:a6} {K:fs} {au:List a6} {aS pm:V} {S:ax} {steps:Int} {aN aP aw b4 b8 bn:V}
set_option maxHeartbeats 2000000 in
theorem aey (M:ep al h ar K au aS pm S steps aN aP aw b4 b8 bn) (a:At) (bk:a.k=1→a.n ∈ S.e.map Prod.fst):
 bB Tryz.prog 109 [.ptr ar 0,.agg a.enc] h fun x aa=>∃aO aL,ep al aa ar aO aL aS pm (S.atom a).1 steps aN aP aw b4 b8 bn∧x=c5 aL (S.atom a).2∧(S.atom a).2<aL.length∧Ext h aa∧dd al K h au aO aa aL (fun _=>False):=by
 obtain ⟨j3,hd,h4⟩:=a
 have enc:At.enc ⟨j3,hd,h4⟩=[.int .i64 j3,.int .i64 hd,.str h4]:=rfl
 rw [enc]
 refine TL rfl (bP ?_)
 unfold KB
 have hold:Old h ar:=M.b6.2
 have eK:(ao h.next=ar)=False:=gA hold (Nat.le_refl _)
 have aI:Ext h (h.new (.aq [.int .i64 j3,.int .i64 hd,.str h4] 0 false)):=(Ext.refl h).new _
 have aH:=M.ext aI
 have t0:=M.rep.ex aI
 by_cases bQ:j3=1
 · subst bQ
   have oY:=bk rfl
   simp +contextual only [eK,M.get,↓ad,af,simprocAttr]
   refine aV (aev _ K au hd b4 _ aH.dB oY) ?_
   rintro x ak ⟨rfl,rfl,aM⟩
   simp +contextual only [eK,M.get,↓ad,af,simprocAttr]
   have:S.atom ⟨1,hd,h4⟩=(S,mw S.e hd):=by simp only [ax.atom,if_true]
   rw [this]
   exact ⟨K,au,aH,rfl,aM,aI,t0⟩
 by_cases cB:j3=2
 · subst cB
   simp +contextual only [↓ad,af,simprocAttr]
   refine aV (q2 _ hd) ?_
   rintro x ak F
   obtain ⟨ez,gw,M2,rfl,aM,t⟩:=aH.make (v:=.int hd) F rfl
   obtain ⟨_,_,bh,_⟩:=F
   simp +contextual only [↓ad,af,simprocAttr]
   have:S.atom ⟨2,hd,h4⟩=(S.gf (.int hd),S.st.length):=rfl
   rw [this]
   exact ⟨ez,gw,M2,rfl,aM,aI.trans bh,t0.trans t⟩
 · have v_:=eq_false bQ
   have uy:=eq_false cB
   have F:g7 (h.new (.aq [.int .i64 j3,.int .i64 hd,.str h4] 0 false)) ((h.new (.aq [.int .i64 j3,.int .i64 hd,.str h4] 0 false)).new (.aq [.int .i64 2,.int .i64 0,.str h4,.int .i64 0,.int .i64 0,.int .i64 0,.str [],.ay,.ay,.ay,.ch,.ay,.bool false] 0 false)) (.ptr (ao (h.new (.aq [.int .i64 j3,.int .i64 hd,.str h4] 0 false)).next) 0) [.int .i64 2,.int .i64 0,.str h4,.int .i64 0,.int .i64 0,.int .i64 0,.str [],.ay,.ay,.ay,.ch,.ay,.bool false]:=pL _ _
   obtain ⟨ez,gw,M2,az,aM,t⟩:=aH.make (v:=.text h4) F rfl
   obtain ⟨_,_,bh,_⟩:=F
   simp +contextual only [v_,uy,↓ad,af,simprocAttr]
   have:S.atom ⟨j3,hd,h4⟩=(S.gf (.text h4),S.st.length):=by simp only [ax.atom,if_neg bQ,if_neg cB]
   rw [this]
   rw [cO] at az
   exact ⟨ez,gw,M2,az,aM,aI.trans bh,t0.trans t⟩
set_option maxHeartbeats 8000000 in
theorem ae6 (M:ec al h ar K au aS pm S steps) (aD:eg al S.c [.int .i64 S.c.k,.int .i64 S.c.x,.int .i64 S.c.n,.str S.c.s,aN,aP,aw]) (g8:1≤S.c.l.length) (aK:S.c.l.length≤1048577) (an:∀f ∈ S.c.l.dropLast,1≤f.l.length):
 bB Tryz.prog 115 [.ptr ar 0,.agg [.int .i64 S.c.k,.int .i64 S.c.x,.int .i64 S.c.n,.str S.c.s,aN,aP,aw]] h fun x aa=>∃aO aL,ec al aa ar aO aL aS pm S.pj steps:=by
 obtain ⟨bw,t1,bf,eq,fG,da,M⟩:=M
 obtain ⟨u',nM,cw⟩:=aD.parts
 have dz:=u'.one
 have fi:=nM.one
 have gz:=cw.one
 have hlen:=cw.len
 have dJ:=M.rep.ext.next
 have Ob:S.c.l.dropLast.length=S.c.l.length-1:=List.length_dropLast
 have dL:IntKind.i64.wrap ((S.c.l.length:Int)-1)=((S.c.l.dropLast.length:Nat):Int):=by rw [wrap_i64 (by omega) (by omega)];omega
 have aI:Ext h (h.new (.aq [.int .i64 S.c.k,.int .i64 S.c.x,.int .i64 S.c.n,.str S.c.s,aN,aP,aw] 0 false)):=(Ext.refl h).new _
 have b0:(h.new (.aq [.int .i64 S.c.k,.int .i64 S.c.x,.int .i64 S.c.n,.str S.c.s,aN,aP,aw] 0 false)).get (ao h.next)=.aq [.int .i64 S.c.k,.int .i64 S.c.x,.int .i64 S.c.n,.str S.c.s,aN,aP,aw] 0 false:=gi _
 have dE:(h.new (.aq [.int .i64 S.c.k,.int .i64 S.c.x,.int .i64 S.c.n,.str S.c.s,aN,aP,aw] 0 false)).next=h.next+1:=cO _ _
 have aH:=M.ext aI
 have acG:(ar=ao h.next)=False:=lM M.b6.2 (Nat.le_refl _)
 have acQ:(ao h.next=ar)=False:=gA M.b6.2 (Nat.le_refl _)
 generalize jT:S.c.l.dropLast=bg at *
 refine TT rfl (bP ?_)
 unfold KI
 simp +contextual only [dz.1,dz.2.1,fi.1,fi.2.1,gz.1,gz.2.1,↓ad,af,simprocAttr]
 generalize h.new (.aq [.int .i64 S.c.k,.int .i64 S.c.x,.int .i64 S.c.n,.str S.c.s,aN,aP,aw] 0 false)=H1 at *
 refine fw (fun r aa=>r 0=.ptr ar 0∧r 3=.ptr (ao h.next) 0∧∃i:Nat,r 5=.int .i64 i∧i≤bg.length∧∃aO aL f_,ep al aa ar aO aL aS pm (S.fF (bg.take i)) steps bw t1 bf f_ fG da∧h.next+1≤aa.next∧aa.get (ao h.next)=.aq [.int .i64 S.c.k,.int .i64 S.c.x,.int .i64 S.c.n,.str S.c.s,aN,aP,aw] 0 false∧
  cm (h.next+1) aa 1 (r 4) i ((List.range' S.st.length i).map (c5 aL))∧(∀b,(r 4).bb b→aO b=.no)∧aO (ao h.next)=.no) (fun r aa=>bg.length - (r 5).gn) ?_ ?_
 · exact ⟨by simp only [↓ad,bj,simprocAttr],by simp only [↓ad,bj,simprocAttr],0,by simp only [↓ad,bj,simprocAttr]<;>rfl,by omega,K,au,eq,aH,by omega,b0,by simp only [↓ad,bj,simprocAttr];exact ⟨rfl,rfl⟩,by simp only [↓ad,bj,simprocAttr];exact fun b q=>q.elim,M.rep.tmp (by rw [cS];exact Nat.le_refl _)⟩
 · rintro r aa ⟨bl,cj,i,e7,aG,aO,aL,f_,M,a7,dQ,dW,ig,xI⟩
   unfold KJ
   generalize CV:r 4=v at *
   obtain ⟨aeb,aeg,aee,aef,q0⟩:=ax.QG S (bg.take i)
   have cJ:=M.get
   have PJ:(ao aa.next=ao h.next)=False:=eq_false (by rw [iH];omega)
   by_cases aX:i<bg.length
   · have bM:((i:Int) < (bg.length:Int))=True:=eq_true (by omega)
     have w:=gq aX (by omega)
     have ur:=ax.QH S bg aX
     have g1:S.c.l[i]'(by omega)=bg[i]:=by
      have:S.c.l.dropLast[i]? =bg[i]? :=by rw [jT]
      rw [List.getElem?_dropLast,if_pos (by omega),List.getElem?_eq_getElem (by omega),List.getElem?_eq_getElem aX] at this
      simpa using this
     obtain ⟨ki,tZ,F5,F6,zB,Ak,av,F1,rQ⟩:=cw.pG (k:=.i64) (i:=i) (by omega)
     rw [g1] at av rQ
     have km:=an bg[i] (List.getElem_mem aX)
     generalize bg[i]=f at *
     obtain ⟨_,_,Er⟩:=av.parts
     obtain ⟨hD,vp,mS,gt,ry,vX,bp,vq,wh⟩:=Er.pG (k:=.i64) (i:=0) (by omega)
     have uu:fc 7 zB (.int .i64 0)=some (.ptr hD vp):=vX
     obtain ⟨sq,sr,pz⟩:=bp.parts
     have gR:=sq.one
     have ha:=sr.one
     have gB:=pz.one
     have qP:=rQ aa M.rep.ext
     have uA:=wh aa M.rep.ext
     have GF:f.l.headD f=f.l[0]'(by omega):=by
      rw [List.headD_eq_head?_getD,List.head?_eq_getElem?,List.getElem?_eq_getElem (by omega)];rfl
     generalize f.l[0]'(by omega)=g at *
     have F:g7 aa (aa.new (.aq [.int .i64 3,.int .i64 f.x,.str [],.int .i64 g.k,.int .i64 g.x,.int .i64 g.n,.str g.s,mS,gt,ry,.ch,.ay,.bool false] 0 false)) (.ptr (ao aa.next) 0) [.int .i64 3,.int .i64 f.x,.str [],.int .i64 g.k,.int .i64 g.x,.int .i64 g.n,.str g.s,mS,gt,ry,.ch,.ay,.bool false]:=pL _ _
     obtain ⟨ez,gw,M2,bK,aM,t⟩:=M.Ar F bp .nil
     obtain ⟨_,_,bh,_⟩:=F
     have lh:(ao aa.next=ki)=False:=gA (M.rep.ext.b6 F1) (Nat.le_refl _)
     have acX:(ao aa.next=hD)=False:=gA (M.rep.ext.b6 vq) (Nat.le_refl _)
     have vt:S.st.length+i≤aL.length:=by rw [M.rep.len,q0,List.length_take];omega
     have fP:=dW.ext bh
     rw [←t.ym (DI vt)] at fP
     rw [q0,List.length_take,Nat.min_eq_left (by omega)] at bK aM
     have mf:=bh.next
     obtain ⟨dg,aC,ca,b',cE,fR,fN⟩:=iW (cs:=[.ptr (ao aa.next) 0]) (by omega) fP (by omega) (by unfold top;omega) rfl rfl
     have mN:∀b,v.bb b→ez b=.no:=fun b q=>by
      by_cases aB:ez b=.no
      · exact aB
      · have:=t.fresh b (ig b q) aB
        have:=dW.v.b6 q
        unfold Old at this
        omega
     have bL:=M2.rU cE (fun b q=>⟨mN b q,by have:=dW.base q;omega⟩)
     have jc:=bL.get
     have De:=rQ _ bL.rep.ext
     have pc:=ca
     simp only [cO] at pc
     have Gt:¬v.bb (ao h.next):=fun q=>by have:=dW.base q;rw [cS] at this;omega
     have Th:(aa.new (.aq [.int .i64 3,.int .i64 f.x,.str [],.int .i64 g.k,.int .i64 g.x,.int .i64 g.n,.str g.s,mS,gt,ry,.ch,.ay,.bool false] 0 false)).get (ao h.next)=.aq [.int .i64 S.c.k,.int .i64 S.c.x,.int .i64 S.c.n,.str S.c.s,aN,aP,aw] 0 false:=by rw [bh.get _ (cZ (by omega))];exact dQ
     have zc:aC.get (ao h.next)=.aq [.int .i64 S.c.k,.int .i64 S.c.x,.int .i64 S.c.n,.str S.c.s,aN,aP,aw] 0 false:=by rw [cE.get _ (cZ (by omega)) Gt];exact Th
     have acK:(ao aC.next=ao h.next)=False:=eq_false (by rw [iH];omega)
     have acJ:(ao aC.next=ar)=False:=gA bL.b6.2 (Nat.le_refl _)
     have acr:(ar=ao aC.next)=False:=lM bL.b6.2 (Nat.le_refl _)
     have acI:(ao aC.next=ki)=False:=gA (bL.rep.ext.b6 F1) (Nat.le_refl _)
     have fx:=bL.dB.one
     have eV:=(Ext.refl aC).new (.aq [.int .i64 f.n,c5 gw (S.st.length+i),f_] 0 false)
     obtain ⟨cP,bC,jZ,t4⟩:=bL.env eV (b:=ao aC.next) (by rw [cS];exact Nat.le_refl _) uI (gi _) bL.dB aM
     rw [←bK] at bC jZ t4 eV
     have Ou:=eV.next
     simp +contextual only [bl,cj,e7,CV,hlen,dL,bM,cJ,dQ,zc,PJ,acK,acJ,acr,acI,lh,acX,Ak,qP.1,qP.2.1,qP.2.2.1,qP.2.2.2,uu,uA.1,gR.1,gR.2.1,ha.1,ha.2.1,gB.1,gB.2.1,ca,pc,jc,De.2.2.1,fx.1,fx.2.1,fx.2.2,acG,acQ,w,↓ad,af,simprocAttr]
     have GM:ez (ao h.next)=.no:=by
      by_cases aB:ez (ao h.next)=.no
      · exact aB
      · have:=t.fresh _ xI aB;rw [cS] at this;omega
     have Yi:cP (ao h.next)=.no:=by
      by_cases aB:cP (ao h.next)=.no
      · exact aB
      · have:=t4.fresh _ GM aB;rw [cS] at this;omega
     refine ⟨⟨i+1,rfl,aX,cP,gw,.ptr (ao aC.next) 0,?_,by omega,?_,?_,Yi⟩,by omega⟩
     · rw [ur]
       have GP:(S.fF (bg.take i)).st.length=S.st.length+i:=by rw [q0,List.length_take];omega
       have:=bC.next ((S.fF (bg.take i)).iI f) steps bw t1 bf (.ptr (ao aC.next) 0) fG da (by simp only [ax.iI,ax.gf,GF]) bC.co (by simp only [ax.iI];rw [GP];exact jZ) bC.wr bC.dk
       exact this
     · rw [List.range'_1_concat,List.map_append]
       have m:=(Mod.refl (fun b=>b=ar) (aC.new (.aq [.int .i64 f.n,.ptr (ao aa.next) 0,f_] 0 false))).set (fun _=>rfl) (.aq [aS,fG,.int .i64 (S.fF (bg.take i)).eZ,.int .i64 (S.fF (bg.take i)).fg,.int .i64 (S.fF (bg.take i)).read,.int .i64 steps,da,.bool (S.fF (bg.take i)).fQ,.int .i64 (S.fF (bg.take i)).c.k,.int .i64 (S.fF (bg.take i)).c.x,.int .i64 (S.fF (bg.take i)).c.n,.str (S.fF (bg.take i)).c.s,bw,t1,bf,.ptr (ao aC.next) 0,.ay] 0 false)
       have r0:=b'
       rw [bK] at r0
       refine (r0.ext eV).mod m fun b q e=>?_
       rw [e] at q
       have zH:ez ar=.oc:=bL.dv
       rcases fN ar q with q | q
       · rw [mN ar q] at zH;cases zH
       · have:=M2.b6.2;omega
     · intro b q
       have aB:ez b=.no:=by
        rcases fN b q with q | q
        · exact mN b q
        · exact M2.rep.tmp (by omega)
       by_cases a':cP b=.no
       · exact a'
       · have:=t4.fresh b aB a'
         have:=b'.v.b6 q
         unfold Old at this
         omega
   · have bM:((i:Int) < (bg.length:Int))=False:=eq_false (by omega)
     obtain rfl:i=bg.length:=by omega
     rw [List.take_length] at M cJ q0
     have RO:=dW.v.len
     simp +contextual only [bl,cj,e7,CV,hlen,dL,bM,dQ,↓ad,af,simprocAttr]
     clear bM e7
     generalize cr:S.fF bg=T at *
     refine fw (fun r fo=>r 0=.ptr ar 0∧r 3=.ptr (ao h.next) 0∧r 4=v∧∃j:Nat,r 7=.int .i64 j∧j≤bg.length∧ep al fo ar aO aL aS pm {T with st:=ax.h' T.e S.st.length T.st (bg.take j)} steps bw t1 bf f_ fG da∧
      cm (h.next+1) fo 1 v bg.length ((List.range' S.st.length bg.length).map (c5 aL))∧fo.get (ao h.next)=.aq [.int .i64 S.c.k,.int .i64 S.c.x,.int .i64 S.c.n,.str S.c.s,aN,aP,aw] 0 false) (fun r fo=>bg.length - (r 7).gn) ?_ ?_
     · exact ⟨by simp only [bl,↓ad,bj,simprocAttr],by simp only [cj,↓ad,bj,simprocAttr],by simp only [CV,↓ad,bj,simprocAttr],0,by simp only [↓ad,bj,simprocAttr]<;>rfl,by omega,M,dW,dQ⟩
     · clear bl cj CV cJ M dW dQ PJ
       rintro r aa ⟨bl,cj,c0,j,fr,bS,M,dW,dQ⟩
       unfold KK
       have cJ:=M.get
       have RP:=dW.v.len
       by_cases aX:j<bg.length
       · have bM:((j:Int) < (bg.length:Int))=True:=eq_true (by omega)
         have w:=gq aX (by omega)
         have vt:S.st.length+bg.length≤aL.length:=by
          rw [M.rep.len]
          show _≤(ax.h' T.e S.st.length T.st (bg.take j)).length
          have:∀(l:List aY) (a:Nat) (st:List eR),(ax.h' T.e a st l).length=st.length:=by
           intro l
           induction l with
           | nil=>intro a st;rfl
           | cons g l bN=>intro a st;rw [ax.h',bN,List.length_set]
          rw [this,q0]
          exact Nat.le_refl _
         have A:ew aa aL (List.range' S.st.length bg.length) v:=⟨by rw [List.length_range'];exact dW.v,DI vt⟩
         obtain ⟨b,o,b_,cD,jU⟩:=A.at (k:=.i64) (i:=j) (by rw [List.length_range'];exact aX)
         have j8:(List.range' S.st.length bg.length).getD j 0=S.st.length+j:=by
          rw [List.getD_eq_getElem?_getD,List.getElem?_eq_getElem (by rw [List.length_range'];exact aX),List.getElem_range']
          simp
         rw [j8] at cD jU
         have acj:=cD aa (Ext.refl _)
         have qI:(ax.h' T.e S.st.length T.st (bg.take j))[S.st.length+j]? =some (.fn bg[j].x (bg[j].l.headD bg[j]) []):=by
          rw [Ix _ _ _ _ _ (by rw [List.length_take];omega),←cr]
          exact ax.QF S bg j aX
         obtain ⟨kM,cC,Wo,cs,fA,⟨qX,qZ,qY,CJ,rfl⟩,_,_⟩:=M.rep.val _ _ qI
         have fx:=M.dB.one
         have fq:=(M.rep.new (ed aL (S.st.length+j)) (by rw [kM];simp)).1
         have o1:(ed aL (S.st.length+j)=ao h.next)=False:=eq_false fun q=>by rw [q,xI] at kM;cases kM
         have Zq:∀c:cT,¬v.bb (ed aL (S.st.length+j)):=fun _ q=>by rw [ig _ q] at kM;cases kM
         simp +contextual only [c5,bl,cj,c0,fr,bM,cJ,RP,b_,acj,fA,fx.1,fx.2.1,w,↓ad,af,simprocAttr]
         have t:dd al aO aa aL aO (aa.set (ed aL (S.st.length+j)) (.aq [.int .i64 3,.int .i64 bg[j].x,.str [],.int .i64 (bg[j].l.headD bg[j]).k,.int .i64 (bg[j].l.headD bg[j]).x,.int .i64 (bg[j].l.headD bg[j]).n,.str (bg[j].l.headD bg[j]).s,qX,qZ,qY,f_,.ay,.bool false] 0 false)) aL (·=.val (S.st.length+j)):=dd.s' kM fq
         refine ⟨⟨j+1,rfl,aX,?_,?_,?_⟩,by omega⟩
         · have kK:aO ar≠.no:=by rw [M.dv];simp
           have dq:ax.h' T.e S.st.length T.st (bg.take (j+1))=(ax.h' T.e S.st.length T.st (bg.take j)).set (S.st.length+j) (.fn bg[j].x (bg[j].l.headD bg[j]) T.e):=by
            rw [List.take_succ_eq_append_getElem aX,Iy,List.length_take,Nat.min_eq_left (by omega)]
           rw [dq]
           have FT:eE aa aO aL f_ T.e:=M.dB
           refine ⟨M.rep.D9 (i:=S.st.length+j) t (by intro k an;simpa using an) (by simp) (by simp) ?_,M.dv,?_,M.co,M.dB.cy t (by simp),M.wr.cy t (by simp) (by simp),M.dk.cy t (by simp)⟩
           · exact ⟨kM,cC,f_,_,by rw [du,if_pos rfl],⟨qX,qZ,qY,CJ,rfl⟩,trivial,FT.cy t (by simp)⟩
           · rw [t.get ar kK (by rw [M.dv];simp)];exact M.get
         · have m:=(Mod.refl (fun b=>b=ed aL (S.st.length+j)) aa).set (fun _=>rfl) (.aq [.int .i64 3,.int .i64 bg[j].x,.str [],.int .i64 (bg[j].l.headD bg[j]).k,.int .i64 (bg[j].l.headD bg[j]).x,.int .i64 (bg[j].l.headD bg[j]).n,.str (bg[j].l.headD bg[j]).s,qX,qZ,qY,f_,.ay,.bool false] 0 false)
           refine dW.mod m fun b q e=>?_
           rw [e] at q
           exact Zq .dead q
         · simp only [o1,↓reduceIte];exact dQ
       · have bM:((j:Int) < (bg.length:Int))=False:=eq_false (by omega)
         obtain rfl:j=bg.length:=by omega
         rw [List.take_length] at M
         obtain ⟨ki,tZ,F5,F6,zB,Ak,av,F1,rQ⟩:=cw.pG (k:=.i64) (i:=bg.length) (by omega)
         have qP:=rQ aa M.rep.ext
         obtain ⟨sq,sr,pz⟩:=av.parts
         have gR:=sq.one
         have ha:=sr.one
         have gB:=pz.one
         simp +contextual only [bl,cj,c0,fr,bM,cJ,RP,dQ,hlen,dL,Ak,qP.1,gR.1,gR.2.1,ha.1,ha.2.1,gB.1,gB.2.1,↓ad,af,simprocAttr]
         have Ha:S.pj={T with st:=ax.h' T.e S.st.length T.st bg,c:=S.c.l[bg.length]'(by omega)}:=by
          simp only [ax.pj,jT,cr]
          congr 1
          rw [List.getLastD_eq_getLast?,List.getLast?_eq_getElem?,List.getElem?_eq_getElem (by omega)]
          simp only [Option.getD_some]
          congr 1
          omega
         rw [Ha]
         exact ⟨aO,aL,_,_,_,_,_,_,M.next {T with st:=ax.h' T.e S.st.length T.st bg,c:=S.c.l[bg.length]'(by omega)} steps F5 F6 zB f_ fG da rfl av M.dB M.wr M.dk⟩
end
end Go.Proofs.YtjbiefneffiogaaGreat
namespace Go.Proofs.YtjbiefneffiogaaGreat
open Go bA
section
variable {al h aa:aj} {ar:a6} {K:fs} {au:List a6} {aS pm:V} {S:ax} {steps:Int} {aN aP aw b4 b8 bn:V}
theorem aeQ (M:ec al h ar K au aS pm S steps) (O:Ok S) {aR:List UInt8} (dX:cg al 1 aS aR.length (dp aR)) (hlen:aR.length≤1073741824) (fD:S.read≤aR.length)
 {bx:List Nat} {aw:V} (A:ew h au bx aw) {s:List UInt8} (aM:(bx.length:Int)=eO s) (ae:0<eO s):
 bB Tryz.prog 111 [.ptr ar 0,.str s,aw] h fun x aa=>∃aO aL,ec al aa ar aO aL aS pm (S.oh aR s bx) steps:=by
 by_cases ak:s ∈ td
 · have aJ:eO s=2:=by unfold eO;rw [if_pos ak]
   rw [aJ] at aM
   obtain ⟨a1,bX,rfl⟩:=Pk aM
   simp only [td,List.mem_cons,List.not_mem_nil,or_false] at ak
   rcases ak with rfl | rfl | rfl | rfl | rfl | rfl | rfl | rfl | rfl | rfl | rfl
   · exact aeN rfl M O dX hlen fD A
   · exact ae5 rfl M O dX hlen fD A
   · exact aeZ rfl M O dX hlen fD A
   · exact aeS rfl M O dX hlen fD A
   · exact aeY rfl M O dX hlen fD A
   · exact aeT rfl M O dX hlen fD A
   · exact aeX rfl M O dX hlen fD A
   · exact aeW rfl M O dX hlen fD A
   · exact aeO rfl M O dX hlen fD A
   · exact aeV rfl M O dX hlen fD A
   · exact ae3 rfl M O dX hlen fD A
 by_cases aC:s ∈ qW
 · have aJ:eO s=1:=by unfold eO;rw [if_neg ak,if_pos aC]
   rw [aJ] at aM
   obtain ⟨a1,rfl⟩:=Pj aM
   simp only [qW,List.mem_cons,List.not_mem_nil,or_false] at aC
   rcases aC with rfl | rfl | rfl | rfl | rfl | rfl
   · exact ae0 rfl M O dX hlen fD A
   · exact aeU rfl M O dX hlen fD A
   · exact ae1 rfl M O dX hlen fD A
   · exact ae2 rfl M O dX hlen fD A
   · exact ae4 rfl M O dX hlen fD A
   · exact aeP rfl M O dX hlen fD A
 by_cases bq:s=[99,117,116]
 · subst bq
   have aJ:eO [99,117,116]=3:=by decide
   rw [aJ] at aM
   obtain ⟨a1,bX,gT,rfl⟩:=Pl aM
   exact aeR rfl M O dX hlen fD A
 · unfold eO at ae
   rw [if_neg ak,if_neg aC,if_neg bq] at ae
   omega
set_option maxHeartbeats 16000000 in
theorem ae8 (M:ec al h ar K au aS pm S steps) (O:Ok S) (hw:S.w.length≤1000000000) (c8:Shape S.c) (bk:∀a ∈ S.c.a,a.k=1→a.n ∈ S.e.map Prod.fst) (gG:1≤S.c.k∧S.c.k≤12)
 {aR:List UInt8} (dX:cg al 1 aS aR.length (dp aR)) (hlen:aR.length≤1073741824) (fD:S.read≤aR.length):bB Tryz.prog 60 [.ptr ar 0] h fun x aa=>∃aO aL,ec al aa ar aO aL aS pm (S.step aR) steps:=by
 obtain ⟨aN,aP,aw,eq,fG,da,M⟩:=M
 have aD:=M.co
 obtain ⟨cU,dU,cw⟩:=aD.parts
 have cJ:=M.get
 have dz:=cU.one
 have fi:=dU.one
 have gz:=cw.one
 have z1:=cU.len
 have dJ:=M.rep.ext.next
 have oo:=c8.oo
 have eK:(ao h.next=ar)=False:=gA M.b6.2 (Nat.le_refl _)
 have gH:(ar=ao h.next)=False:=lM M.b6.2 (Nat.le_refl _)
 have aI:Ext h ((h.new (.aq [.int .i64 0,.int .i64 0,.int .i64 0,.str [],.ay,.ay,.ay] 0 false)).set (ao h.next) (.aq [.int .i64 S.c.k,.int .i64 S.c.x,.int .i64 S.c.n,.str S.c.s,aN,aP,aw] 0 false)):=((Ext.refl h).new _).set (Nat.le_refl _) _
 have b0:((h.new (.aq [.int .i64 0,.int .i64 0,.int .i64 0,.str [],.ay,.ay,.ay] 0 false)).set (ao h.next) (.aq [.int .i64 S.c.k,.int .i64 S.c.x,.int .i64 S.c.n,.str S.c.s,aN,aP,aw] 0 false)).get (ao h.next)=.aq [.int .i64 S.c.k,.int .i64 S.c.x,.int .i64 S.c.n,.str S.c.s,aN,aP,aw] 0 false:=by rw [du,if_pos rfl]
 have dE:((h.new (.aq [.int .i64 0,.int .i64 0,.int .i64 0,.str [],.ay,.ay,.ay] 0 false)).set (ao h.next) (.aq [.int .i64 S.c.k,.int .i64 S.c.x,.int .i64 S.c.n,.str S.c.s,aN,aP,aw] 0 false)).next=h.next+1:=by rw [gU,cO]
 have aH:=M.ext aI
 refine UN rfl (bP ?_)
 unfold L8
 simp +contextual only [cJ,eK,gH,dz.1,dz.2.1,fi.1,fi.2.1,gz.1,gz.2.1,↓ad,af,simprocAttr]
 generalize ((h.new (.aq [.int .i64 0,.int .i64 0,.int .i64 0,.str [],.ay,.ay,.ay] 0 false)).set (ao h.next) (.aq [.int .i64 S.c.k,.int .i64 S.c.x,.int .i64 S.c.n,.str S.c.s,aN,aP,aw] 0 false))=H1 at *
 refine fw (fun r aa=>r 0=.ptr ar 0∧r 2=.ptr (ao h.next) 0∧∃i:Nat,r 4=.int .i64 i∧i≤S.c.a.length∧∃aO aL,ep al aa ar aO aL aS pm (S.atoms (S.c.a.take i)).1 steps aN aP aw eq fG da∧h.next+1≤aa.next∧aa.get (ao h.next)=.aq [.int .i64 S.c.k,.int .i64 S.c.x,.int .i64 S.c.n,.str S.c.s,aN,aP,aw] 0 false∧
  cm (h.next+1) aa 1 (r 3) i ((S.atoms (S.c.a.take i)).2.map (c5 aL))∧(∀j ∈ (S.atoms (S.c.a.take i)).2,j<aL.length)∧(∀b,(r 3).bb b→aO b=.no)∧aO (ao h.next)=.no) (fun r aa=>S.c.a.length - (r 4).gn) ?_ ?_
 · exact ⟨by simp only [↓ad,bj,simprocAttr],by simp only [↓ad,bj,simprocAttr],0,by simp only [↓ad,bj,simprocAttr]<;>rfl,by omega,K,au,aH,by omega,b0,by simp only [↓ad,bj,simprocAttr];exact ⟨rfl,rfl⟩,(by intro j q;cases q),by simp only [↓ad,bj,simprocAttr];exact fun b q=>q.elim,M.rep.tmp (by rw [cS];exact Nat.le_refl _)⟩
 · rintro r aa ⟨bl,bm,i,c0,aG,aO,aL,M,a7,dQ,dW,fP,ig,xI⟩
   unfold L9
   generalize g9:r 3=v at *
   by_cases aX:i<S.c.a.length
   · have bM:((i:Int) < (S.c.a.length:Int))=True:=eq_true (by omega)
     obtain ⟨b,o,b_,cD,_⟩:=sy (cU.ext M.rep.ext) (k:=.i64) aX
     have w:=gq aX (by omega)
     obtain ⟨kG,c6,k4,np,l9,hB⟩:=ax.l7 S (S.c.a.take i)
     have hr:=ax.J5 S S.c.a aX
     have sT:S.c.a[i] ∈ S.c.a:=List.getElem_mem aX
     simp +contextual only [bl,bm,c0,g9,z1,bM,dQ,b_,cD,↓ad,af,simprocAttr]
     refine aV (aey M S.c.a[i] (fun q=>by rw [kG];exact bk _ sT q)) ?_
     rintro x ak ⟨ez,gw,M2,rfl,aM,bh,t⟩
     have mf:=bh.next
     have tH:=dW.ext bh
     rw [←t.ym fP] at tH
     obtain ⟨dg,aC,ca,b',cE,fR,fN⟩:=iW (cs:=[.ptr (ed gw ((S.atoms (S.c.a.take i)).1.atom S.c.a[i]).2) 0]) (by omega) tH (by omega) (by unfold top;omega) rfl rfl
     simp +contextual only [c5,bl,bm,c0,g9,ca,w,↓ad,af,simprocAttr]
     have mN:∀b,v.bb b→ez b=.no:=fun b q=>by
      by_cases aB:ez b=.no
      · exact aB
      · have:=t.fresh b (ig b q) aB
        have:=dW.v.b6 q
        unfold Old at this
        omega
     have GM:ez (ao h.next)=.no:=by
      by_cases aB:ez (ao h.next)=.no
      · exact aB
      · have:=t.fresh _ xI aB;rw [cS] at this;omega
     have Gt:¬v.bb (ao h.next):=fun q=>by have:=dW.base q;rw [cS] at this;omega
     refine ⟨⟨i+1,rfl,aX,ez,gw,?_⟩,by omega⟩
     rw [hr]
     refine ⟨M2.rU cE (fun b q=>⟨mN b q,by have:=dW.base q;omega⟩),by omega,by rw [cE.get _ (cZ (by omega)) Gt,bh.get _ (cZ (by omega))];exact dQ,?_,?_,?_,GM⟩
     · rw [List.map_append];exact b'
     · intro j q
       rcases List.mem_append.1 q with q | q
       · exact Nat.lt_of_lt_of_le (fP j q) t.len
       · simp only [List.mem_cons,List.not_mem_nil,or_false] at q;subst q;exact aM
     · intro b q
       rcases fN b q with q | q
       · exact mN b q
       · exact M2.rep.tmp (by omega)
   · have bM:((i:Int) < (S.c.a.length:Int))=False:=eq_false (by omega)
     obtain rfl:i=S.c.a.length:=by omega
     rw [List.take_length] at M dW fP
     obtain ⟨kG,c6,k4,np,l9,hB⟩:=ax.l7 S S.c.a
     have hT:=O.atoms S.c.a c8.at_
     have dq:S.step aR=(S.atoms S.c.a).1.dI aR (S.atoms S.c.a).2:=rfl
     have Eg:cm (h.next+1) aa 1 v (S.atoms S.c.a).2.length ((S.atoms S.c.a).2.map (c5 aL)):=by rw [hB];exact dW
     rw [dq]
     clear dq dW bM b0 aH z1 aI dE
     generalize (S.atoms S.c.a).1=T at *
     generalize (S.atoms S.c.a).2=bx at *
     have cz:ew aa aL bx v:=⟨Eg.v,fP⟩
     have ee:=M.get
     have aiF:(S.c.a.length:Int)=(S.c.a.length:Int):=rfl
     have gO:=cU.len
     have nh:ec al aa ar aO aL aS pm T steps:=⟨_,_,_,_,_,_,M⟩
     have an:S.c.k=1∨S.c.k=2∨S.c.k=3∨S.c.k=4∨S.c.k=5∨S.c.k=6∨S.c.k=7∨S.c.k=8∨S.c.k=9∨S.c.k=10∨S.c.k=11∨S.c.k=12:=by omega
     have hh:((S.c.a.length:Int) < (S.c.a.length:Int))=False:=eq_false (by omega)
     rcases an with an | an | an | an | an | an | an | an | an | an | an | an
     · rw [an] at dQ
       have fh:T.c.k=1:=by rw [c6];exact an
       obtain ⟨a1,rfl⟩:∃a1,bx=[a1]:=by
        have:bx.length=1:=by rw [hB];exact c8.bw (by omega)
        match bx,this with
        | [a],_=>exact ⟨a,rfl⟩
       obtain ⟨e1,cX,eG,fU,_,_,_,_,_,_,_,_,b7,jO,b2⟩:=M.arg cz 0 0 a1 rfl rfl
       have e5:=b2 _ (Ext.refl _)
       simp +contextual only [bl,bm,c0,g9,gO,hh,dQ,b7,e5.1,↓ad,af,simprocAttr]
       refine aV (jX nh hT.w e1) ?_
       rintro y ak ⟨ez,M2⟩
       simp +contextual only [bl,bm,c0,g9,gO,hh,dQ,b7,e5.1,↓ad,af,simprocAttr]
       refine ⟨ez,aL,?_⟩
       have:T.dI aR [a1]=T.nb a1:=by simp only [ax.dI,fh,↓reduceIte,Int.reduceEq,reduceCtorEq,false_or,or_false,or_true,true_or,List.getD_cons_zero,List.getD_cons_succ]
       rw [this]
       exact M2
     · rw [an] at dQ
       have fh:T.c.k=2:=by rw [c6];exact an
       have g8:=c8.eJ (by omega)
       obtain ⟨hD,vp,mS,gt,ry,vX,bp,vq,wh⟩:=cw.pG (k:=.i64) (i:=0) (by omega)
       have uu:fc 7 aw (.int .i64 0)=some (.ptr hD vp):=vX
       obtain ⟨sq,sr,pz⟩:=bp.parts
       have gR:=sq.one
       have ha:=sr.one
       have gB:=pz.one
       have fx:=M.dB.one
       obtain ⟨us,dL,dw,hF,h2⟩:=M.wr
       have Gi:T.w.length≤1000000000:=by rw [k4];exact hw
       have kk:S.c.l=[S.c.l[0]'(by omega),S.c.l[1]'(by omega)]:=by
        refine List.ext_getElem (by simpa using g8) fun i ae ak=>?_
        match i,ak with
        | 0,_=>rfl
        | 1,_=>rfl
        | i+2,h=>simp only [List.length_cons,List.length_nil] at h;omega
       rw [an] at aD
       obtain ⟨dg,aC,ca,b',cE,fR,fN⟩:=iW (size:=8) (cs:=[.int .i64 2,.int .i64 S.c.x,.int .i64 S.c.n,.str S.c.s,aN,aP,aw,eq]) (by omega) dL M.rep.ext.next (by unfold top;omega) rfl (by simp only [gh,dz.1,fi.1,gz.1,fx.1,Bool.and_self];rfl)
       obtain ⟨kY,bL⟩:=M.waited (a:=⟨false,S.c.x,S.c.l[1]'(by omega),T.e⟩) (lk:=S.c.l[0]'(by omega)) (eh:=S.c) (by rw [an];exact aD) (by rw [an];rfl) rfl kk M.dB dL (by rw [an];exact b') cE (fun b q=>by rcases fN b q with r | r;exact .inl r;exact .inr (by omega)) ⟨us,rfl,hF,h2⟩
       have bC:=bL.next {T with w:=⟨false,S.c.x,S.c.l[1]'(by omega),T.e⟩::T.w,c:=S.c.l[0]'(by omega)} steps mS gt ry eq dg da rfl bp bL.dB bL.wr bL.dk
       have dm:=b'.v.one
       have n7:(ao aa.next=ar)=False:=gA M.b6.2 (Nat.le_refl _)
       have n9:(aa.next=h.next)=False:=eq_false (by omega)
       have jc:aC.get ar=_:=(cE.get ar M.b6.2 (fun q=>by have:=dw ar q;rw [M.dv] at this;cases this)).trans ee
       have zc:aC.get (ao h.next)=_:=(cE.get (ao h.next) (cZ (by omega)) (fun q=>by have:=dw _ q;rw [xI] at this;cases this)).trans dQ
       have cp:Ext al aC:=⟨by have:=M.rep.ext.next;omega,fun b ah=>(cE.get b (Nat.lt_of_lt_of_le ah M.rep.ext.next) (fun q=>by have:=dL.base q;unfold Old at ah;omega)).trans (M.rep.ext.get b ah)⟩
       have uA:=wh aC cp
       have n8:(ar=hD)=False:=eq_false fun q=>by have:=M.b6.1;rw [q] at this;unfold Old at vq;omega
       have nz:T.et 0=S.c.l[0]'(by omega):=by
        simp only [ax.et,c6]
        rw [List.getD_eq_getElem?_getD,List.getElem?_eq_getElem (by omega)];rfl
       have km:T.et 1=S.c.l[1]'(by omega):=by
        simp only [ax.et,c6]
        rw [List.getD_eq_getElem?_getD,List.getElem?_eq_getElem (by omega)];rfl
       have:T.dI aR bx={T with w:=⟨false,S.c.x,S.c.l[1]'(by omega),T.e⟩::T.w,c:=S.c.l[0]'(by omega)}:=by
        simp only [ax.dI,fh,↓reduceIte,Int.reduceEq,reduceCtorEq,false_or,or_false,or_true,true_or,ax.waits,nz,km]
        rw [c6]
        rfl
       rw [this]
       simp +contextual only [bl,bm,c0,g9,gO,hh,dQ,ee,n7,gH,eK,n8,n9,jc,zc,ca,uu,uA.1,dz.1,dz.2.1,fi.1,fi.2.1,gz.1,gz.2.1,gR.1,gR.2.1,ha.1,ha.2.1,gB.1,gB.2.1,fx.1,fx.2.1,fx.2.2,dm.1,dm.2.1,↓ad,af,simprocAttr]
       exact ⟨kY,aL,_,_,_,_,_,_,bC⟩
     · rw [an] at dQ
       have fh:T.c.k=3:=by rw [c6];exact an
       obtain ⟨ca,b'⟩:=c8.cE an
       simp +contextual only [bl,bm,c0,g9,gO,hh,dQ,↓ad,af,simprocAttr]
       refine aV (aeQ nh hT dX hlen (by rw [l9];exact fD) cz (s:=S.c.s) (by rw [hB];exact ca) b') ?_
       rintro y ak ⟨ez,gw,M2⟩
       simp +contextual only [bl,bm,c0,g9,gO,hh,dQ,↓ad,af,simprocAttr]
       refine ⟨ez,gw,?_⟩
       have:T.dI aR bx=T.oh aR T.c.s bx:=by simp only [ax.dI,fh,↓reduceIte,Int.reduceEq,reduceCtorEq,false_or,or_false,or_true,true_or,List.getD_cons_zero,List.getD_cons_succ]
       rw [this]
       exact (by rw [c6];exact M2)
     · rw [an] at dQ
       have fh:T.c.k=4:=by rw [c6];exact an
       simp +contextual only [bl,bm,c0,g9,gO,hh,dQ,↓ad,af,simprocAttr]
       refine aV (oj aa S.c.n v Eg.v.one) ?_
       rintro y ak F
       obtain ⟨ez,gw,M2,rfl,GV⟩:=M.HV F (Eg.mono (by omega)) ig fP
       simp +contextual only [bl,bm,c0,g9,gO,hh,dQ,↓ad,af,simprocAttr]
       refine aV (jX ⟨_,_,_,_,_,_,M2⟩ hT.w GV) ?_
       rintro y ak ⟨kY,bL⟩
       simp +contextual only [bl,bm,c0,g9,gO,hh,dQ,↓ad,af,simprocAttr]
       refine ⟨kY,gw,?_⟩
       have:T.dI aR bx=T.dT (.dn T.c.n bx):=by simp only [ax.dI,fh,↓reduceIte,Int.reduceEq,reduceCtorEq,false_or,or_false,or_true,true_or,List.getD_cons_zero,List.getD_cons_succ]
       rw [this]
       exact (by rw [c6];exact bL)
     · rw [an] at dQ
       have fh:T.c.k=5:=by rw [c6];exact an
       obtain ⟨a1,rfl⟩:∃a1,bx=[a1]:=by
        have:bx.length=1:=by rw [hB];exact c8.bw (by omega)
        match bx,this with
        | [a],_=>exact ⟨a,rfl⟩
       obtain ⟨e1,cX,eG,fU,_,_,_,_,_,_,_,_,b7,jO,b2⟩:=M.arg cz 0 0 a1 rfl rfl
       have e5:=b2 _ (Ext.refl _)
       obtain ⟨dE,e6⟩:=c8.n5 an
       have W3:T.dI aR [a1]=T.l_ T.c.n a1:=by simp only [ax.dI,fh,↓reduceIte,Int.reduceEq,reduceCtorEq,false_or,or_false,List.getD_cons_zero]
       rw [W3]
       by_cases bq:¬cV (T.val a1)=4
       · have mb:=eq_false bq
         simp +contextual only [bl,bm,c0,g9,gO,hh,dQ,b7,e5.1,e5.2,mb,↓ad,af,simprocAttr]
         refine aV (mv nh 6) ?_
         rintro y ak M2
         simp +contextual only [bl,bm,c0,g9,gO,hh,dQ,↓ad,af,simprocAttr]
         refine ⟨aO,aL,?_⟩
         have:T.l_ T.c.n a1=T.gp:=by
          simp only [ax.l_]
          cases bk:T.val a1<;>first | rfl | (rw [bk] at bq;exact (bq rfl).elim)
         rw [this]
         exact M2
       obtain ⟨t,bg,Hm⟩:=we (Decidable.not_not.1 bq)
       rw [Hm] at e5 jO
       simp only [cV,dG,e8] at e5
       obtain ⟨f1,f2,f3⟩:=jO
       have hK:=f1.v.len
       by_cases xR:(bg.length:Int)≤S.c.n
       · have vJ:=eq_true xR
         simp +contextual only [bl,bm,c0,g9,gO,hh,dQ,b7,e5.1,e5.2,hK,vJ,↓ad,af,simprocAttr]
         refine aV (mv nh 6) ?_
         rintro y ak M2
         simp +contextual only [bl,bm,c0,g9,gO,hh,dQ,↓ad,af,simprocAttr]
         refine ⟨aO,aL,?_⟩
         have:T.l_ T.c.n a1=T.gp:=by
          simp only [ax.l_,Hm]
          rw [c6,if_pos xR]
         rw [this]
         exact M2
       have vJ:=eq_false xR
       obtain ⟨m,hm⟩:∃m:Nat,S.c.n=(m:Int):=⟨S.c.n.toNat,by omega⟩
       have uY:ew aa aL bg fU:=⟨f1.v,f3⟩
       obtain ⟨cG,aiJ,im,jV,zV⟩:=uY.at (k:=.i64) (i:=m) (by omega)
       rw [←hm] at im
       have Aq:=jV _ (Ext.refl _)
       simp +contextual only [bl,bm,c0,g9,gO,hh,dQ,b7,e5.1,e5.2,hK,vJ,im,Aq,↓ad,af,simprocAttr]
       refine aV (jX nh hT.w zV) ?_
       rintro y ak ⟨ez,M2⟩
       simp +contextual only [bl,bm,c0,g9,gO,hh,dQ,b7,e5.1,e5.2,im,Aq,↓ad,af,simprocAttr]
       refine ⟨ez,aL,?_⟩
       have:T.l_ T.c.n a1=T.nb (bg.getD m 0):=by
        simp only [ax.l_,Hm]
        rw [c6,if_neg xR,hm]
        rfl
       rw [this]
       exact M2
     · rw [an] at dQ
       have fh:T.c.k=6:=by rw [c6];exact an
       obtain ⟨a1,bX,rfl⟩:∃a1 bX,bx=[a1,bX]:=by
        have:bx.length=2:=by rw [hB];exact c8.b3 an
        match bx,this with
        | [a,b],_=>exact ⟨a,b,rfl⟩
       obtain ⟨e1,cX,eG,fU,_,_,_,_,_,_,_,_,b7,jO,b2⟩:=M.arg cz 0 0 a1 rfl rfl
       have e5:=b2 _ (Ext.refl _)
       obtain ⟨ju,b0,aiI,k5,_,_,_,_,_,_,_,_,cH,nJ,b9⟩:=M.arg cz 1 1 bX rfl rfl
       have x5:=b9 _ (Ext.refl _)
       by_cases aC:¬cV (T.val a1)=3
       · have k7:=eq_false aC
         simp +contextual only [bl,bm,c0,g9,gO,hh,dQ,b7,e5.1,e5.2,cH,x5.1,k7,↓ad,af,simprocAttr]
         refine aV (mv nh 6) ?_
         rintro y ak M2
         simp +contextual only [bl,bm,c0,g9,gO,hh,dQ,↓ad,af,simprocAttr]
         refine ⟨aO,aL,?_⟩
         have:T.dI aR [a1,bX]=T.gp:=by
          have:T.dI aR [a1,bX]=T.call a1 bX:=by simp only [ax.dI,fh,↓reduceIte,Int.reduceEq,reduceCtorEq,false_or,or_false,List.getD_cons_zero,List.getD_cons_succ]
          rw [this]
          simp only [ax.call]
          cases bk:T.val a1<;>first | rfl | (rw [bk] at aC;exact (aC rfl).elim)
         rw [this]
         exact M2
       have k7:=eq_true (Decidable.not_not.1 aC)
       simp +contextual only [bl,bm,c0,g9,gO,hh,dQ,b7,e5.1,e5.2,cH,x5.1,k7,Decidable.not_not.1 aC,↓ad,af,simprocAttr]
       refine aV (ael nh e1 ju (Decidable.not_not.1 aC)) ?_
       rintro y ak ⟨ez,gw,M2⟩
       simp +contextual only [bl,bm,c0,g9,gO,hh,dQ,b7,e5.1,cH,x5.1,↓ad,af,simprocAttr]
       refine ⟨ez,gw,?_⟩
       have:T.dI aR [a1,bX]=T.call a1 bX:=by simp only [ax.dI,fh,↓reduceIte,Int.reduceEq,reduceCtorEq,false_or,or_false,or_true,true_or,List.getD_cons_zero,List.getD_cons_succ]
       rw [this]
       exact M2
     · rw [an] at dQ
       have fh:T.c.k=7:=by rw [c6];exact an
       have oZ:=c8.HK an
       obtain ⟨hD,vp,mS,gt,ry,vX,bp,vq,wh⟩:=cw.pG (k:=.i64) (i:=0) (by omega)
       have uu:fc 7 aw (.int .i64 0)=some (.ptr hD vp):=vX
       obtain ⟨sq,sr,pz⟩:=bp.parts
       have gR:=sq.one
       have ha:=sr.one
       have gB:=pz.one
       have fx:=M.dB.one
       have uA:=wh aa M.rep.ext
       have F:g7 aa (aa.new (.aq [.int .i64 3,.int .i64 S.c.x,.str [],.int .i64 (S.c.l[0]'(by omega)).k,.int .i64 (S.c.l[0]'(by omega)).x,.int .i64 (S.c.l[0]'(by omega)).n,.str (S.c.l[0]'(by omega)).s,mS,gt,ry,eq,.ay,.bool false] 0 false)) (.ptr (ao aa.next) 0) [.int .i64 3,.int .i64 S.c.x,.str [],.int .i64 (S.c.l[0]'(by omega)).k,.int .i64 (S.c.l[0]'(by omega)).x,.int .i64 (S.c.l[0]'(by omega)).n,.str (S.c.l[0]'(by omega)).s,mS,gt,ry,eq,.ay,.bool false]:=pL _ _
       obtain ⟨ez,gw,M2,bK,GV,t⟩:=M.Ar F bp M.dB
       have n7:(ao aa.next=ar)=False:=gA M.b6.2 (Nat.le_refl _)
       have n8:(ao aa.next=hD)=False:=gA (M.rep.ext.b6 vq) (Nat.le_refl _)
       have n9:(aa.next=h.next)=False:=eq_false (by omega)
       have GN:T.et 0=S.c.l[0]'(by omega):=by
        simp only [ax.et,c6]
        rw [List.getD_eq_getElem?_getD,List.getElem?_eq_getElem (by omega)];rfl
       have:T.dI aR bx=T.dT (.fn T.c.x (T.et 0) T.e):=by simp only [ax.dI,fh,↓reduceIte,Int.reduceEq,reduceCtorEq,false_or,or_false]
       rw [this,GN,c6]
       generalize (S.c.l[0]'(by omega))=d at *
       simp +contextual only [bl,bm,c0,g9,gO,hh,dQ,ee,n7,n8,n9,uu,uA.1,gR.1,gR.2.1,ha.1,ha.2.1,gB.1,gB.2.1,fx.1,fx.2.1,fx.2.2,↓ad,af,simprocAttr]
       rw [bK]
       refine aV (jX ⟨_,_,_,_,_,_,M2⟩ hT.w GV) ?_
       rintro y ak ⟨kY,bL⟩
       simp +contextual only [bl,bm,c0,g9,gO,hh,dQ,ee,n7,n8,n9,uu,uA.1,gR.1,gR.2.1,ha.1,ha.2.1,gB.1,gB.2.1,fx.1,fx.2.1,fx.2.2,↓ad,af,simprocAttr]
       exact ⟨kY,gw,bL⟩
     · rw [an] at dQ
       have fh:T.c.k=8:=by rw [c6];exact an
       obtain ⟨aiP,ad_⟩:=c8.HL an
       simp +contextual only [bl,bm,c0,g9,gO,hh,dQ,↓ad,af,simprocAttr]
       refine aV (by have R:=ae6 (aN:=aN) (aP:=aP) (aw:=aw) nh (by rw [c6];exact aD) (by rw [c6];omega) (by rw [c6];have:=c8.g_;omega) (by rw [c6];intro f av;rw [ad_ f av];exact Nat.le_refl _);rw [c6,an] at R;exact R) ?_
       rintro y ak ⟨ez,gw,M2⟩
       simp +contextual only [bl,bm,c0,g9,gO,hh,dQ,↓ad,af,simprocAttr]
       refine ⟨ez,gw,?_⟩
       have:T.dI aR bx=T.pj:=by simp only [ax.dI,fh,↓reduceIte,Int.reduceEq,reduceCtorEq,false_or,or_false,or_true,true_or,List.getD_cons_zero,List.getD_cons_succ]
       rw [this]
       exact M2
     · rw [an] at dQ
       have fh:T.c.k=9:=by rw [c6];exact an
       obtain ⟨a1,rfl⟩:∃a1,bx=[a1]:=by
        have:bx.length=1:=by rw [hB];exact c8.bw (by omega)
        match bx,this with
        | [a],_=>exact ⟨a,rfl⟩
       obtain ⟨e1,cX,eG,fU,_,_,_,_,_,_,_,_,b7,jO,b2⟩:=M.arg cz 0 0 a1 rfl rfl
       have e5:=b2 _ (Ext.refl _)
       simp +contextual only [bl,bm,c0,g9,gO,hh,dQ,b7,e5.1,↓ad,af,simprocAttr]
       refine aV (by have R:=afp (aN:=aN) (aP:=aP) (aw:=aw) nh fh (by rw [c6,←an];exact aD) e1 (by rw [c6];exact c8.st) (by rw [c6];have:=c8.g_;omega);rw [c6] at R;exact R) ?_
       rintro y ak M2
       simp +contextual only [bl,bm,c0,g9,gO,hh,dQ,b7,e5.1,↓ad,af,simprocAttr]
       refine ⟨aO,aL,?_⟩
       have:T.dI aR [a1]=T.h6 false a1:=by simp only [ax.dI,fh,↓reduceIte,Int.reduceEq,reduceCtorEq,false_or,or_false,or_true,true_or,List.getD_cons_zero,List.getD_cons_succ]
       rw [this]
       exact M2
     · rw [an] at dQ
       have fh:T.c.k=10:=by rw [c6];exact an
       obtain ⟨a1,rfl⟩:∃a1,bx=[a1]:=by
        have:bx.length=1:=by rw [hB];exact c8.bw (by omega)
        match bx,this with
        | [a],_=>exact ⟨a,rfl⟩
       obtain ⟨e1,cX,eG,fU,_,_,_,_,_,_,_,_,b7,jO,b2⟩:=M.arg cz 0 0 a1 rfl rfl
       have e5:=b2 _ (Ext.refl _)
       simp +contextual only [bl,bm,c0,g9,gO,hh,dQ,b7,e5.1,↓ad,af,simprocAttr]
       refine aV (by have R:=aem (aN:=aN) (aP:=aP) (aw:=aw) nh fh (by rw [c6,←an];exact aD) e1 (by rw [c6];exact c8.st) (by rw [c6];have:=c8.g_;omega);rw [c6] at R;exact R) ?_
       rintro y ak M2
       simp +contextual only [bl,bm,c0,g9,gO,hh,dQ,b7,e5.1,↓ad,af,simprocAttr]
       refine ⟨aO,aL,?_⟩
       have:T.dI aR [a1]=T.h6 true a1:=by simp only [ax.dI,fh,↓reduceIte,Int.reduceEq,reduceCtorEq,false_or,or_false,or_true,true_or,List.getD_cons_zero,List.getD_cons_succ]
       rw [this]
       exact M2
     · rw [an] at dQ
       have fh:T.c.k=11:=by rw [c6];exact an
       have g8:=c8.eJ (by omega)
       obtain ⟨hD,vp,mS,gt,ry,vX,bp,vq,wh⟩:=cw.pG (k:=.i64) (i:=0) (by omega)
       have uu:fc 7 aw (.int .i64 0)=some (.ptr hD vp):=vX
       obtain ⟨sq,sr,pz⟩:=bp.parts
       have gR:=sq.one
       have ha:=sr.one
       have gB:=pz.one
       have fx:=M.dB.one
       obtain ⟨us,dL,dw,hF,h2⟩:=M.wr
       have Gi:T.w.length≤1000000000:=by rw [k4];exact hw
       have kk:S.c.l=[S.c.l[0]'(by omega),S.c.l[1]'(by omega)]:=by
        refine List.ext_getElem (by simpa using g8) fun i ae ak=>?_
        match i,ak with
        | 0,_=>rfl
        | 1,_=>rfl
        | i+2,h=>simp only [List.length_cons,List.length_nil] at h;omega
       rw [an] at aD
       obtain ⟨dg,aC,ca,b',cE,fR,fN⟩:=iW (size:=8) (cs:=[.int .i64 11,.int .i64 S.c.x,.int .i64 S.c.n,.str S.c.s,aN,aP,aw,eq]) (by omega) dL M.rep.ext.next (by unfold top;omega) rfl (by simp only [gh,dz.1,fi.1,gz.1,fx.1,Bool.and_self];rfl)
       obtain ⟨kY,bL⟩:=M.waited (a:=⟨true,S.c.x,S.c.l[1]'(by omega),T.e⟩) (lk:=S.c.l[0]'(by omega)) (eh:=S.c) (by rw [an];exact aD) (by rw [an];rfl) rfl kk M.dB dL (by rw [an];exact b') cE (fun b q=>by rcases fN b q with r | r;exact .inl r;exact .inr (by omega)) ⟨us,rfl,hF,h2⟩
       have bC:=bL.next {T with w:=⟨true,S.c.x,S.c.l[1]'(by omega),T.e⟩::T.w,c:=S.c.l[0]'(by omega)} steps mS gt ry eq dg da rfl bp bL.dB bL.wr bL.dk
       have dm:=b'.v.one
       have n7:(ao aa.next=ar)=False:=gA M.b6.2 (Nat.le_refl _)
       have n9:(aa.next=h.next)=False:=eq_false (by omega)
       have jc:aC.get ar=_:=(cE.get ar M.b6.2 (fun q=>by have:=dw ar q;rw [M.dv] at this;cases this)).trans ee
       have zc:aC.get (ao h.next)=_:=(cE.get (ao h.next) (cZ (by omega)) (fun q=>by have:=dw _ q;rw [xI] at this;cases this)).trans dQ
       have cp:Ext al aC:=⟨by have:=M.rep.ext.next;omega,fun b ah=>(cE.get b (Nat.lt_of_lt_of_le ah M.rep.ext.next) (fun q=>by have:=dL.base q;unfold Old at ah;omega)).trans (M.rep.ext.get b ah)⟩
       have uA:=wh aC cp
       have n8:(ar=hD)=False:=eq_false fun q=>by have:=M.b6.1;rw [q] at this;unfold Old at vq;omega
       have nz:T.et 0=S.c.l[0]'(by omega):=by
        simp only [ax.et,c6]
        rw [List.getD_eq_getElem?_getD,List.getElem?_eq_getElem (by omega)];rfl
       have km:T.et 1=S.c.l[1]'(by omega):=by
        simp only [ax.et,c6]
        rw [List.getD_eq_getElem?_getD,List.getElem?_eq_getElem (by omega)];rfl
       have:T.dI aR bx={T with w:=⟨true,S.c.x,S.c.l[1]'(by omega),T.e⟩::T.w,c:=S.c.l[0]'(by omega)}:=by
        simp only [ax.dI,fh,↓reduceIte,Int.reduceEq,reduceCtorEq,false_or,or_false,or_true,true_or,ax.waits,nz,km]
        rw [c6]
        rfl
       rw [this]
       simp +contextual only [bl,bm,c0,g9,gO,hh,dQ,ee,n7,gH,eK,n8,n9,jc,zc,ca,uu,uA.1,dz.1,dz.2.1,fi.1,fi.2.1,gz.1,gz.2.1,gR.1,gR.2.1,ha.1,ha.2.1,gB.1,gB.2.1,fx.1,fx.2.1,fx.2.2,dm.1,dm.2.1,↓ad,af,simprocAttr]
       exact ⟨kY,aL,_,_,_,_,_,_,bC⟩
     · rw [an] at dQ
       have fh:T.c.k=12:=by rw [c6];exact an
       obtain ⟨a1,rfl⟩:∃a1,bx=[a1]:=by
        have:bx.length=1:=by rw [hB];exact c8.bw (by omega)
        match bx,this with
        | [a],_=>exact ⟨a,rfl⟩
       obtain ⟨e1,cX,eG,fU,_,_,_,_,_,_,_,_,b7,jO,b2⟩:=M.arg cz 0 0 a1 rfl rfl
       have e5:=b2 _ (Ext.refl _)
       simp +contextual only [bl,bm,c0,g9,gO,hh,dQ,b7,e5.1,↓ad,af,simprocAttr]
       refine aV (tl nh hT.w e1) ?_
       rintro y ak ⟨ez,M2⟩
       simp +contextual only [bl,bm,c0,g9,gO,hh,dQ,b7,e5.1,↓ad,af,simprocAttr]
       refine ⟨ez,aL,?_⟩
       have:T.dI aR [a1]=T.p6 a1:=by simp only [ax.dI,fh,↓reduceIte,Int.reduceEq,reduceCtorEq,false_or,or_false,or_true,true_or,List.getD_cons_zero,List.getD_cons_succ]
       rw [this]
       exact M2
end
end Go.Proofs.YtjbiefneffiogaaGreat
namespace Go.Proofs.YtjbiefneffiogaaGreat
open Go bA
noncomputable def A2 (h:aj) (ar:a6):Nat:=match hX (h.get ar) 5 with
 | some (.int _ n)=>n.toNat
 | _=>0
set_option maxHeartbeats 4000000 in
theorem aen (c:aY) (ai:List V) (h:aj) (H:eg h c ai) (Hq:iV [] c) {aS:V} {aR:List UInt8} (dX:cg h 1 aS aR.length (dp aR)) (hlen:aR.length≤1073741824) {steps:Int} (Gc:0≤steps) (aM:steps≤100000):
 bB Tryz.prog 41 [.agg ai,.ay,aS,.int .i64 steps] h fun x aa=>∃l,yC c aR steps l∧rf h.next aa l x∧Ext h aa:=by
 obtain ⟨aN,aP,aw,rfl,cU,dU,cw⟩:=H.open
 refine UA rfl (bP ?_)
 unfold LH
 have iE:=cU.one
 have iG:=dU.one
 have ol:=cw.one
 have kx:=dX.one
 simp +contextual only [iE.1,iE.2.1,iG.1,iG.2.1,ol.1,ol.2.1,↓ad,af,simprocAttr]
 have aI:Ext h ((h.new (.aq [.int .i64 c.k,.int .i64 c.x,.int .i64 c.n,.str c.s,aN,aP,aw] 0 false)).new (.aq [.int .i64 0,.int .i64 0,.int .i64 0,.int .i64 0,.ay] 0 false)):=((Ext.refl h).new _).new _
 have bF:((h.new (.aq [.int .i64 c.k,.int .i64 c.x,.int .i64 c.n,.str c.s,aN,aP,aw] 0 false)).new (.aq [.int .i64 0,.int .i64 0,.int .i64 0,.int .i64 0,.ay] 0 false)).get (ao h.next)=.aq [.int .i64 c.k,.int .i64 c.x,.int .i64 c.n,.str c.s,aN,aP,aw] 0 false:=by
  rw [eB,if_neg (by rw [iH,cO];omega),gi]
 have ff:((h.new (.aq [.int .i64 c.k,.int .i64 c.x,.int .i64 c.n,.str c.s,aN,aP,aw] 0 false)).new (.aq [.int .i64 0,.int .i64 0,.int .i64 0,.int .i64 0,.ay] 0 false)).get (ao (h.next+1))=.aq [.int .i64 0,.int .i64 0,.int .i64 0,.int .i64 0,.ay] 0 false:=by
  rw [eB,if_pos (by rw [cO])]
 have dE:((h.new (.aq [.int .i64 c.k,.int .i64 c.x,.int .i64 c.n,.str c.s,aN,aP,aw] 0 false)).new (.aq [.int .i64 0,.int .i64 0,.int .i64 0,.int .i64 0,.ay] 0 false)).next=h.next+2:=by rw [cO,cO]
 generalize ((h.new (.aq [.int .i64 c.k,.int .i64 c.x,.int .i64 c.n,.str c.s,aN,aP,aw] 0 false)).new (.aq [.int .i64 0,.int .i64 0,.int .i64 0,.int .i64 0,.ay] 0 false))=H1 at *
 have kA:=aI
 have bM:H1.get (ao h.next)=.aq [.int .i64 c.k,.int .i64 c.x,.int .i64 c.n,.str c.s,aN,aP,aw] 0 false:=bF
 have z0:H1.get (ao (h.next+1))=.aq [.int .i64 0,.int .i64 0,.int .i64 0,.int .i64 0,.ay] 0 false:=ff
 have Es:=dX.ext kA
 have Ej:=H.ext kA
 simp +contextual only [kx.1,kx.2.1,kx.2.2,bF,iE.1,iE.2.1,iG.1,iG.2.1,ol.1,ol.2.1,↓ad,af,simprocAttr]
 have gv:ep H1 (H1.new (.aq [aS,.ay,.int .i64 0,.int .i64 0,.int .i64 0,.int .i64 0,.ay,.bool false,.int .i64 c.k,.int .i64 c.x,.int .i64 c.n,.str c.s,aN,aP,aw,.ch,.ay] 0 false)) (ao H1.next) (jP (fun _=>.no) (fun b=>b=ao H1.next) .oc) [] aS .ay (start c) 0 aN aP aw .ch .ay .ay:=by
  refine ⟨⟨(Ext.refl H1).new _,fun b ah=>?_,rfl,fun i v q=>(by cases i<;>simp [start] at q)⟩,mJ rfl,gi _,Ej,.nil,⟨[],⟨rfl,rfl⟩,fun b q=>q.elim,rfl,fun i a u q=>(by simp [start] at q)⟩,⟨rfl,rfl⟩,fun b q=>q.elim⟩
  by_cases q:b=ao H1.next
  · subst q;rw [cS,cO];omega
  · rw [mI (p:=fun b=>b=ao H1.next) q] at ah;exact absurd rfl ah
 generalize kK:ao H1.next=ar at *
 generalize (H1.new (.aq [aS,.ay,.int .i64 0,.int .i64 0,.int .i64 0,.int .i64 0,.ay,.bool false,.int .i64 c.k,.int .i64 c.x,.int .i64 c.n,.str c.s,aN,aP,aw,.ch,.ay] 0 false))=eb at *
 refine fw (fun r aa=>r 9=.ptr ar 0∧r 3=.int .i64 steps∧r 8=.ptr (ao (h.next+1)) 0∧∃i:Nat,(∀j,j<i→((start c).nth aR j).fQ=false)∧(i:Int)≤steps∧∃aO aL,ec H1 aa ar aO aL aS .ay ((start c).nth aR i) i) (fun r aa=>steps.toNat-A2 aa ar) ?_ ?_
 · exact ⟨by simp only [↓ad,bj,simprocAttr],by simp only [↓ad,bj,simprocAttr],by simp only [↓ad,bj,simprocAttr],0,fun j q=>(by omega),Gc,_,_,_,_,_,_,_,_,gv⟩
 · rintro r aa ⟨h0,cj,hZ,i,pT,aG,aO,aL,qX,qZ,qY,eq,fG,da,M⟩
   unfold LI
   have cJ:=M.get
   have m1:A2 aa ar=i:=by unfold A2;rw [cJ,qN];simp
   have W:=de.nth (aR:=aR) Hq i
   have Bj:aa.get (ao (h.next+1))=.aq [.int .i64 0,.int .i64 0,.int .i64 0,.int .i64 0,.ay] 0 false:=by rw [M.rep.ext.get _ (cZ (by omega))];exact z0
   have Av:(ar=ao (h.next+1))=False:=eq_false fun q=>by have:=M.b6.1;rw [q,cS] at this;omega
   have Bl:(ao (h.next+1)=ar)=False:=eq_false fun q=>by have:=M.b6.1;rw [←q,cS] at this;omega
   have dm:=M.dk.one
   have mV:∀(aO:fs) (aL:List a6) (S:ax) (g:aj) (qX qZ qY eq fG da:V) (k:cT),ep H1 g ar aO aL aS .ay S i qX qZ qY eq fG da→cm h.next (g.set (ao (h.next+1)) k) 1 da S.out.length (dp S.out)∧Ext h (g.set (ao (h.next+1)) k):=by
    intro aO aL S g qX qZ qY eq fG da k M
    refine ⟨(M.dk.1.mono (by omega)).mod ((Mod.refl (fun b=>b=ao (h.next+1)) g).set (fun _=>rfl) k) fun b q e=>?_,(kA.trans M.rep.ext).set (by omega) _⟩
    have:=M.dk.1.base q
    rw [e,cS] at this
    omega
   cases bD:((start c).nth aR i).fQ with
   | true=>
     rw [bD] at cJ
     simp +contextual only [h0,cj,hZ,cJ,bD,Bj,Av,Bl,dm.1,dm.2.1,↓ad,af,simprocAttr]
     have av:=mV aO aL _ aa qX qZ qY eq fG da (.aq [.int .i64 ((start c).nth aR i).eZ,.int .i64 ((start c).nth aR i).fg,.int .i64 ((start c).nth aR i).read,.int .i64 i,da] 0 false) M
     exact ⟨⟨((start c).nth aR i).eZ,((start c).nth aR i).fg,((start c).nth aR i).read,i,((start c).nth aR i).out⟩,⟨i,pT,aG,.inl bD,by rw [if_pos bD]⟩,⟨da,rfl,av.1⟩,av.2⟩
   | false=>
     rw [bD] at cJ
     by_cases aX:(i:Int)<steps
     · have rD:=eq_true aX
       have w:IntKind.i64.wrap ((i:Int)+1)=((i+1:Nat):Int):=by rw [wrap_i64 (by omega) (by omega)];rfl
       have aH:=M.next ((start c).nth aR i) ((i+1:Nat):Int) qX qZ qY eq fG da rfl M.co M.dB M.wr M.dk
       rw [bD] at aH
       simp +contextual only [h0,cj,hZ,cJ,bD,rD,w,↓ad,af,simprocAttr]
       obtain ⟨tn,an,bk⟩:=W.c.shape
       refine aV (ae8 ⟨_,_,_,_,_,_,aH⟩ (W.ok (by omega)) (by have:=W.wl;omega) tn bk an Es hlen W.read) ?_
       rintro x ak ⟨ez,gw,M2⟩
       simp +contextual only [h0,cj,hZ,↓ad,af,simprocAttr]
       have u9:=M2
       obtain ⟨_,_,_,_,_,_,u9⟩:=u9
       have He:A2 ak ar=i+1:=by unfold A2;rw [u9.get,qN];simp
       refine ⟨⟨i+1,fun j bS=>?_,by omega,ez,gw,M2⟩,by rw [m1,He];omega⟩
       by_cases e:j=i
       · subst e;exact bD
       · exact pT j (by omega)
     · have rD:=eq_false aX
       simp +contextual only [h0,cj,hZ,cJ,bD,rD,Bj,Av,Bl,dm.1,dm.2.1,↓ad,af,simprocAttr]
       have aH:=M.next {(start c).nth aR i with eZ:=4} i qX qZ qY eq fG da rfl M.co M.dB M.wr M.dk
       have av:=mV aO aL _ _ qX qZ qY eq fG da (.aq [.int .i64 4,.int .i64 ((start c).nth aR i).fg,.int .i64 ((start c).nth aR i).read,.int .i64 i,da] 0 false) aH
       simp only [bD] at av
       exact ⟨⟨4,((start c).nth aR i).fg,((start c).nth aR i).read,i,((start c).nth aR i).out⟩,⟨i,pT,aG,.inr (by omega),by rw [bD];rfl⟩,⟨da,rfl,av.1⟩,av.2⟩
set_option maxHeartbeats 2000000 in
theorem ae7 (c:aY) (ai:List V) (h:aj) (H:eg h c ai) (hw:wt c≤400) {aS:V} {aR:List UInt8} (dX:cg h 1 aS aR.length (dp aR)) (hlen:aR.length≤1073741824) {steps:Int} (aM:steps≤100000):
 bB Tryz.prog 14 [.agg ai,aS,.int .i64 steps] h fun x aa=>∃l,qi c aR steps l∧rf h.next aa l x∧Ext h aa:=by
 obtain ⟨aN,aP,aw,rfl,cU,dU,cw⟩:=H.open
 refine Uc rfl (bP ?_)
 unfold K7
 have iE:=cU.one
 have iG:=dU.one
 have ol:=cw.one
 have aI:Ext h ((h.new (.aq [.int .i64 c.k,.int .i64 c.x,.int .i64 c.n,.str c.s,aN,aP,aw] 0 false)).new (.aq [.int .i64 0,.int .i64 0,.int .i64 0,.int .i64 0,.ay] 0 false)):=((Ext.refl h).new _).new _
 have bF:((h.new (.aq [.int .i64 c.k,.int .i64 c.x,.int .i64 c.n,.str c.s,aN,aP,aw] 0 false)).new (.aq [.int .i64 0,.int .i64 0,.int .i64 0,.int .i64 0,.ay] 0 false)).get (ao h.next)=.aq [.int .i64 c.k,.int .i64 c.x,.int .i64 c.n,.str c.s,aN,aP,aw] 0 false:=by
  rw [eB,if_neg (by rw [iH,cO];omega),gi]
 have ff:((h.new (.aq [.int .i64 c.k,.int .i64 c.x,.int .i64 c.n,.str c.s,aN,aP,aw] 0 false)).new (.aq [.int .i64 0,.int .i64 0,.int .i64 0,.int .i64 0,.ay] 0 false)).get (ao (h.next+1))=.aq [.int .i64 0,.int .i64 0,.int .i64 0,.int .i64 0,.ay] 0 false:=by
  rw [eB,if_pos (by rw [cO])]
 have dE:((h.new (.aq [.int .i64 c.k,.int .i64 c.x,.int .i64 c.n,.str c.s,aN,aP,aw] 0 false)).new (.aq [.int .i64 0,.int .i64 0,.int .i64 0,.int .i64 0,.ay] 0 false)).next=h.next+2:=by rw [cO,cO]
 simp +contextual only [iE.1,iE.2.1,iG.1,iG.2.1,ol.1,ol.2.1,↓ad,af,simprocAttr]
 generalize ((h.new (.aq [.int .i64 c.k,.int .i64 c.x,.int .i64 c.n,.str c.s,aN,aP,aw] 0 false)).new (.aq [.int .i64 0,.int .i64 0,.int .i64 0,.int .i64 0,.ay] 0 false))=H1 at *
 refine aV (aec c _ H1 (H.ext aI) hw) ?_
 rintro x ak ⟨rfl,bh⟩
 have mf:=bh.next
 have bz:ak.get (ao h.next)=.aq [.int .i64 c.k,.int .i64 c.x,.int .i64 c.n,.str c.s,aN,aP,aw] 0 false:=by rw [bh.get _ (cZ (by omega))];exact bF
 have e9:ak.get (ao (h.next+1))=.aq [.int .i64 0,.int .i64 0,.int .i64 0,.int .i64 0,.ay] 0 false:=by rw [bh.get _ (cZ (by omega))];exact ff
 have eP:=aI.trans bh
 have Bk:∀(k:cT),Ext h (ak.set (ao (h.next+1)) k):=fun k=>eP.set (by omega) _
 have no:∀k:cT,cm h.next (ak.set (ao (h.next+1)) k) 1 .ay 0 (dp []):=fun k=>⟨rfl,rfl⟩
 by_cases aD:sE c=0
 · have nw:=eq_true aD
   by_cases bI:steps<0
   · have fu:=eq_true bI
     simp +contextual only [nw,fu,bz,e9,↓ad,af,simprocAttr]
     exact ⟨⟨5,0,0,0,[]⟩,(by unfold qi;rw [if_pos (.inr bI)]),⟨.ay,rfl,no _⟩,Bk _⟩
   · have fu:=eq_false bI
     simp +contextual only [nw,fu,bz,e9,↓ad,af,simprocAttr]
     have av:=pK c hw
     refine aV (aen c _ ak (H.ext eP) (RT (Dk hw) av aD) (dX.ext eP) hlen (by omega) aM) ?_
     rintro x aC ⟨l,aK,⟨bn,rfl,O⟩,cp⟩
     have z3:aC.get (ao (h.next+1))=.aq [.int .i64 0,.int .i64 0,.int .i64 0,.int .i64 0,.ay] 0 false:=by rw [cp.get _ (cZ (by omega))];exact e9
     have dm:=O.v.one
     simp +contextual only [z3,dm.1,dm.2.1,↓ad,af,simprocAttr]
     refine ⟨l,(by unfold qi;rw [if_neg (by intro q;rcases q with q | q;exact q aD;exact bI q)];exact aK),⟨bn,rfl,?_⟩,(eP.trans cp).set (by omega) _⟩
     refine (O.mono (by omega)).mod ((Mod.refl (fun b=>b=ao (h.next+1)) aC).set (fun _=>rfl) _) fun b q e=>?_
     have:=O.base q
     rw [e,cS] at this
     omega
 · have nw:=eq_false aD
   simp +contextual only [nw,bz,e9,↓ad,af,simprocAttr]
   exact ⟨⟨5,0,0,0,[]⟩,(by unfold qi;rw [if_pos (.inl aD)]),⟨.ay,rfl,no _⟩,Bk _⟩
def iM:bE:=
 .seq (.ag [dM 3 0,dV 6])
 (.seq (.seq (.ag [cK 11 3,y4 12 11,ab 13 12,fJ 14 1 13,lx 15 14 13,EY 16 15 13,fI 17 13 16,ab 18 17,fJ 19 2 18,⟨some 20,.bin (.int .gtr) (.t 19) (.c (.int .i64 2000)),(some (18,false)),[19,18]⟩,fI 21 18 20])
 (.cond (.t 21)
 (.seq (.ag [⟨some 22,.call 11 [],none,[]⟩,ab 6 22])
 (.ret))
 (.skip)))
 (.seq (.ag [cK 23 3,⟨some 24,.call 12 [(.t 23)],none,[23]⟩,⟨some 25,.h5 0 1 [(.int .u8 0)] [],none,[]⟩,ab 26 1,ie 27 25 26,nf 7,⟨none,.st 7 (.t 7) (.t 24),none,[7,24]⟩,ab 8 27])
 (.seq (.ag [cK 28 7,ab 29 8,ab 30 2,yT 31 28 29 30,rb 9,⟨none,.st 5 (.t 9) (.t 31),none,[9,31]⟩])
 (.seq (.ag [cK 32 3,ab 33 1,ab 34 2,⟨some 35,.call 14 [(.t 32),(.t 33),(.t 34)],none,[32,33,34]⟩,rb 10,⟨none,.st 5 (.t 10) (.t 35),none,[10,35]⟩])
 (.seq (.ag [xa 36 9,xa 37 10,⟨some 38,.call 15 [(.t 36),(.t 37)],none,[36,37]⟩,ab 39 38,kV 40 7 39,kV 41 3 39,EH 42 40 41 39,cN 43 39 42,ab 44 43,dH 45 8 44,dH 46 1 44,⟨some 47,.call 17 [(.t 45),(.t 46)],(some (44,true)),[45,46,44]⟩,cN 48 44 47,ab 49 48,BA 50 49,cN 51 49 50,ab 6 51])
 (.ret))))))
theorem Uy:cv 3 52 [.t 6] iM:=cx Tryz.func3 (by kernel_rfl) (by kernel_rfl) rfl (by kernel_rfl) (by kernel_rfl)
def tP:bE:=
 .seq (.ag [dV 8])
 (.seq (.seq (.ag [ab 18 1,⟨some 19,.bin (.int .lss) (.t 18) (.c (.int .i64 (-1073741824))),none,[18]⟩,ab 20 19,fJ 21 1 20,⟨some 22,.bin (.int .gtr) (.t 21) (.c (.int .i64 1073741823)),(some (20,false)),[21,20]⟩,fI 23 20 22,ab 24 23,fJ 25 2 24,⟨some 26,.bin (.int .lss) (.t 25) (.c (.int .i64 (-1073741824))),(some (24,false)),[25,24]⟩,fI 27 24 26,ab 28 27,fJ 29 2 28,⟨some 30,.bin (.int .gtr) (.t 29) (.c (.int .i64 1073741823)),(some (28,false)),[29,28]⟩,fI 31 28 30,ab 32 31,fJ 33 3 32,BQ 34 33 32,⟨some 35,.bin (.int .gtr) (.t 34) (.c (.int .i64 4096)),(some (32,false)),[34,32]⟩,fI 36 32 35])
 (.cond (.t 36)
 (.seq (.ag [⟨some 37,.call 11 [],none,[]⟩,ab 8 37])
 (.ret))
 (.skip)))
 (.seq (.ag [⟨some 38,.h5 18 1 [(.str [])] [(0,1,(.c (.str [97,100,100]))),(1,1,(.c (.str [115,117,98]))),(2,1,(.c (.str [109,117,108]))),(3,1,(.c (.str [100,105,118]))),(4,1,(.c (.str [109,111,100]))),(5,1,(.c (.str [110,101,103]))),(6,1,(.c (.str [101,113]))),(7,1,(.c (.str [108,116]))),(8,1,(.c (.str [108,101]))),(9,1,(.c (.str [99,104,114]))),(10,1,(.c (.str [112,117,116,99]))),(11,1,(.c (.str [98,121,116,101]))),(12,1,(.c (.str [99,117,116]))),(13,1,(.c (.str [106,111,105,110]))),(14,1,(.c (.str [115,105,122,101]))),(15,1,(.c (.str [112,117,116,115]))),(16,1,(.c (.str [115,101,116]))),(17,1,(.c (.str [103,101,116,99])))],none,[]⟩,ab 9 38])
 (.seq (.ag [ab 39 9,ab 40 0,ab 41 9,db 42 41,⟨some 43,.call 18 [(.t 40),(.t 42)],none,[40,42]⟩,h3 44 39 43,aE 45 44,ab 10 45])
 (.seq (.ag [ab 46 1,JE 47 46,ab 48 2,JE 49 48,ab 50 3,⟨some 51,.build [(.int .i64 0),(.int .i64 0),(.str [])] [(0,1,(.c (.int .i64 3))),(2,1,(.t 50))],none,[50]⟩,y0 11,y0 12,y0 13,⟨none,.st 3 (.t 11) (.t 47),none,[11,47]⟩,⟨none,.st 3 (.t 12) (.t 49),none,[12,49]⟩,⟨none,.st 3 (.t 13) (.t 51),none,[13,51]⟩])
 (.seq (.ag [kW 52 11,kW 53 12,EZ 54 52 53,ab 14 54])
 (.seq (.seq (.ag [ab 55 10])
 (.block 0 (.seq (.seq (.ag [BF 57 55,ab 56 57])
 (.cond (.t 56)
 (.skip)
 (.seq (.ag [BK 58 55,ab 56 58])
 (.cond (.t 56)
 (.skip)
 (.seq (.ag [BH 59 55,ab 56 59])
 (.cond (.t 56)
 (.skip)
 (.ag [BG 60 55,ab 56 60])))))))
 (.cond (.t 56)
 (.ag [kW 61 11,⟨some 62,.h5 1 3 [(.int .i64 0),(.int .i64 0),(.str [])] [(0,3,(.t 61))],none,[61]⟩,ab 14 62])
 (.seq (.ag [yK 64 55,ab 63 64])
 (.cond (.t 63)
 (.ag [kW 65 13,kW 66 11,EZ 67 65 66,ab 14 67])
 (.seq (.ag [yM 69 55,ab 68 69])
 (.cond (.t 68)
 (.ag [kW 70 13,kW 71 11,kW 72 12,⟨some 73,.h5 3 3 [(.int .i64 0),(.int .i64 0),(.str [])] [(0,3,(.t 70)),(3,3,(.t 71)),(6,3,(.t 72))],none,[70,71,72]⟩,ab 14 73])
 (.seq (.ag [yL 75 55,ab 74 75])
 (.cond (.t 74)
 (.ag [kW 76 13,kW 77 13,EZ 78 76 77,ab 14 78])
 (.seq (.seq (.ag [BJ 80 55,ab 79 80])
 (.cond (.t 79)
 (.skip)
 (.ag [BI 81 55,ab 79 81])))
 (.cond (.t 79)
 (.ag [kW 82 13,⟨some 83,.h5 1 3 [(.int .i64 0),(.int .i64 0),(.str [])] [(0,3,(.t 82))],none,[82]⟩,ab 14 83])
 (.skip)))))))))))))
 (.seq (.ag [ab 84 10,ab 85 14,⟨some 86,.build [(.int .i64 0),(.int .i64 0),(.int .i64 0),(.str []),.ay,.ay,.ay] [(0,1,(.c (.int .i64 3))),(3,1,(.t 84)),(4,1,(.t 85))],none,[84,85]⟩,⟨some 87,.call 19 [],none,[]⟩,⟨some 88,.h5 2 7 [(.int .i64 0),(.int .i64 0),(.int .i64 0),(.str []),.ay,.ay,.ay] [(0,7,(.t 86)),(7,7,(.t 87))],none,[86,87]⟩,⟨some 89,.build [(.int .i64 0),(.int .i64 0),(.int .i64 0),(.str []),.ay,.ay,.ay] [(0,1,(.c (.int .i64 2))),(1,1,(.c (.int .i64 1))),(6,1,(.t 88))],none,[88]⟩,nf 15,⟨none,.st 7 (.t 15) (.t 89),none,[15,89]⟩])
 (.seq (.draw [cK 90 15,⟨some 91,.h5 1 1 [(.int .u8 0)] [(0,1,(.c (.int .u8 7)))],none,[]⟩,cK 93 15,⟨some 94,.h5 1 1 [(.int .u8 0)] [(0,1,(.c (.int .u8 7)))],none,[]⟩,rb 16,rb 17,⟨some 92,.call 13 [(.t 90),(.t 91),(.c (.int .i64 40))],none,[90,91]⟩,⟨some 95,.call 14 [(.t 93),(.t 94),(.c (.int .i64 40))],none,[93,94]⟩,⟨none,.st 5 (.t 16) (.t 92),none,[16,92]⟩,⟨none,.st 5 (.t 17) (.t 95),none,[17,95]⟩] [(0,[6]),(2,[6,7])])
 (.seq (.ag [xa 96 16,xa 97 17,⟨some 98,.call 15 [(.t 96),(.t 97)],none,[96,97]⟩,ab 99 98,BA 100 99,cN 101 99 100,ab 8 101])
 (.ret))))))))))
def FA:bE:=
 .seq (.ag [dM 4 0,dV 8])
 (.seq (.ag [⟨some 12,.call 7 [],none,[]⟩,ab 9 12])
 (.seq (.seq (.ag [cK 13 4,y4 14 13,ab 15 14,fJ 16 1 15,lx 17 16 15,EY 18 17 15,fI 19 15 18,ab 20 19,fJ 21 2 20,w' 22 21 20,fI 23 20 22,ab 24 23,fJ 25 2 24,E0 26 25 24,fI 27 24 26,ab 28 27,fJ 29 3 28,w' 30 29 28,fI 31 28 30,ab 32 31,fJ 33 3 32,E0 34 33 32,fI 35 32 34])
 (.cond (.t 35)
 (.seq (.ag [ab 36 9,ab 8 36])
 (.ret))
 (.skip)))
 (.seq (.ag [cK 37 4,ab 38 1,ab 39 2,yT 40 37 38 39,rb 10,⟨none,.st 5 (.t 10) (.t 40),none,[10,40]⟩])
 (.seq (.ag [cK 41 4,ab 42 1,ab 43 2,ab 44 3,oz 45 43 44,yT 46 41 42 45,rb 11,⟨none,.st 5 (.t 11) (.t 46),none,[11,46]⟩])
 (.seq (.seq (.ag [cK 47 4,⟨some 48,.call 20 [(.t 47)],none,[47]⟩,wX 49 48])
 (.cond (.t 49)
 (.seq (.ag [ab 50 9,ab 51 50,⟨some 52,.gl 5 (.t 10),(some (51,true)),[10,51]⟩,⟨some 53,.build [(.int .i64 0),(.int .i64 0),(.int .i64 0),(.int .i64 0),.ay] [(0,1,(.c (.int .i64 5)))],(some (51,true)),[51]⟩,⟨some 54,.call 15 [(.t 52),(.t 53)],(some (51,true)),[52,53,51]⟩,cN 55 51 54,ab 56 55,⟨some 57,.gl 5 (.t 11),(some (56,true)),[11,56]⟩,⟨some 58,.gl 5 (.t 10),(some (56,true)),[10,56]⟩,⟨some 59,.call 15 [(.t 57),(.t 58)],(some (56,true)),[57,58,56]⟩,cN 60 56 59,ab 8 60])
 (.ret))
 (.skip)))
 (.seq (.seq (.ag [ng 61 10,aE 62 61,ab 63 2,⟨some 64,.bin (.int .gtr) (.t 62) (.t 63),none,[62,63]⟩,ab 65 64,⟨some 66,.c2 0 (.t 10),(some (65,false)),[10,65]⟩,f' 67 66 65,⟨some 68,.bin (.int .eql) (.t 67) (.c (.int .i64 4)),(some (65,false)),[67,65]⟩,fJ 69 68 65,qd 70 10 69,cY 71 70 69,dH 72 2 69,⟨some 73,.bin (.int .neq) (.t 71) (.t 72),(some (69,true)),[71,72,69]⟩,⟨some 74,.pick (.t 69) (.t 73) (.c (.bool false)),(some (65,false)),[69,73,65]⟩,fI 75 65 74,ab 76 75,se 77 10 76,f' 78 77 76,fJ 79 1 76,lx 80 79 76,EW 81 78 80 76,fI 82 76 81,ab 83 82,se 84 11 83,f' 85 84 83,se 86 10 83,f' 87 86 83,⟨some 88,.bin (.int .lss) (.t 85) (.t 87),(some (83,false)),[85,87,83]⟩,fI 89 83 88,ab 90 89,Bv 91 11 90,f' 92 91 90,Bv 93 10 90,f' 94 93 90,⟨some 95,.call 38 [(.t 92),(.t 94)],(some (90,false)),[92,94,90]⟩,yV 96 95 90,fI 97 90 96])
 (.cond (.t 97)
 (.seq (.ag [dV 8])
 (.ret))
 (.skip)))
 (.seq (.ag [ab 98 9,ab 99 98,yZ 100 10 99,cY 101 100 99,⟨some 102,.bin (.int .eql) (.t 101) (.c (.int .i64 4)),(some (99,true)),[101,99]⟩,dH 103 102 99,⟨some 104,.gl 5 (.t 10),(some (103,false)),[10,103]⟩,⟨some 105,.gl 5 (.t 11),(some (103,false)),[11,103]⟩,⟨some 106,.call 15 [(.t 104),(.t 105)],(some (103,false)),[104,105,103]⟩,q8 107 103 106 99,cN 108 99 107,ab 8 108])
 (.ret))))))))
def Vo:bE:=
 .seq (.seq (.ag [ab 60 15,ab 61 14,db 62 61,fz 63 60 62])
 (.cond (.t 63)
 (.skip)
 (.exit 0)))
 (.seq (.block 1 (.seq (.ag [ab 66 14,ab 67 15,h3 68 66 67,aE 69 68,ab 70 1,ab 71 15,oz 72 70 71,oy 73 69 72])
 (.cond (.t 73)
 (.seq (.ag [dV 8])
 (.ret))
 (.skip))))
 (.ag [ab 64 15,e' 65 64,ab 15 65]))
def FB:bE:=
 .seq (.ag [dM 4 0,dV 8])
 (.seq (.ag [⟨some 17,.call 11 [],none,[]⟩,ab 9 17])
 (.seq (.seq (.ag [cK 18 4,y4 19 18,ab 20 19,fJ 21 2 20,lx 22 21 20,EY 23 22 20,fI 24 20 23,ab 25 24,fJ 26 3 25,E0 27 26 25,fI 28 25 27])
 (.cond (.t 28)
 (.seq (.ag [ab 29 9,ab 8 29])
 (.ret))
 (.skip)))
 (.seq (.ag [cK 31 4,ab 32 1,⟨some 33,.call 29 [(.t 31),(.t 32)],none,[31,32]⟩,ab 30 33,tB 34 30,tC 35 30,nf 10,⟨none,.st 7 (.t 10) (.t 34),none,[10,34]⟩,ab 11 35])
 (.seq (.seq (.ag [ab 36 11,wX 37 36])
 (.cond (.t 37)
 (.seq (.ag [ab 38 9,ab 39 38,kV 40 4 39,⟨some 41,.call 20 [(.t 40)],(some (39,true)),[40,39]⟩,Ew 42 41 39,dH 43 42 39,fJ 44 1 43,w' 45 44 43,q8 46 43 45 39,dH 47 46 39,fJ 48 1 47,⟨some 49,.bin (.int .gtr) (.t 48) (.c (.int .i64 1048175)),(some (47,false)),[48,47]⟩,q8 50 47 49 39,cN 51 39 50,ab 8 51])
 (.ret))
 (.skip)))
 (.seq (.ag [cK 53 10,ab 54 1,⟨some 55,.call 29 [(.t 53),(.t 54)],none,[53,54]⟩,ab 52 55,tB 56 52,tC 57 52,nf 12,⟨none,.st 7 (.t 12) (.t 56),none,[12,56]⟩,ab 13 57])
 (.seq (.ag [cK 58 10,⟨some 59,.call 25 [(.t 58)],none,[58]⟩,ab 14 59])
 (.seq (.seq (.ag [ey 15])
 (.block 0 (.loop Vo)))
 (.seq (.draw [cK 74 4,ab 75 2,ab 76 3,cK 78 10,ab 79 2,ab 80 3,yT 77 74 75 76,yT 81 78 79 80,⟨some 82,.call 15 [(.t 77),(.t 81)],none,[77,81]⟩,ab 16 82] [(0,[6]),(3,[6,7])])
 (.seq (.draw [ab 83 9,ab 84 83,dH 85 16 84,cN 86 84 85,ab 87 86,dH 88 13 87,sf 89 88 87,cN 90 87 89,ab 91 90,kV 92 12 91,kV 93 10 91,EH 94 92 93 91,cN 95 91 94,ab 96 95,dH 97 14 96,q7 98 97 96,kV 99 4 96,⟨some 100,.call 25 [(.t 99)],(some (96,true)),[99,96]⟩,q7 101 100 96,q' 102 98 101 96,cN 103 96 102,ab 104 103,kV 105 10 104,kV 107 4 104,⟨some 106,.call 22 [(.t 105)],(some (104,true)),[105,104]⟩,⟨some 108,.call 22 [(.t 107)],(some (104,true)),[107,104]⟩,q' 109 106 108 104,cN 110 104 109,ab 8 110] [(9,[11]),(10,[11]),(16,[17]),(22,[24]),(23,[24,25])])
 (.ret))))))))))
end Go.Proofs.YtjbiefneffiogaaGreat
namespace Go.Proofs.YtjbiefneffiogaaGreat
open Go bA
set_option maxHeartbeats 8000000 in
theorem afK (c:aY) (av:fit 1048576 c) (ai:List V) (h:aj) (H:eg h c ai) {aS:V} {aR:List UInt8} (dX:cg h 1 aS aR.length (dp aR)) (mY:aR.length≤1048576) (steps:Int):
 bB Tryz.prog 3 [.agg ai,aS,.int .i64 steps] h fun x aa=>x=.bool true:=by
 obtain ⟨aN,aP,aw,rfl,cU,dU,cw⟩:=H.open
 have iE:=cU.one
 have iG:=dU.one
 have ol:=cw.one
 have GI:=dX.len
 refine Uy rfl (bP ?_)
 unfold iM
 have aI:Ext h (h.new (.aq [.int .i64 c.k,.int .i64 c.x,.int .i64 c.n,.str c.s,aN,aP,aw] 0 false)):=(Ext.refl h).new _
 have b0:(h.new (.aq [.int .i64 c.k,.int .i64 c.x,.int .i64 c.n,.str c.s,aN,aP,aw] 0 false)).get (ao h.next)=.aq [.int .i64 c.k,.int .i64 c.x,.int .i64 c.n,.str c.s,aN,aP,aw] 0 false:=gi _
 have dE:(h.new (.aq [.int .i64 c.k,.int .i64 c.x,.int .i64 c.n,.str c.s,aN,aP,aw] 0 false)).next=h.next+1:=cO _ _
 simp +contextual only [iE.1,iE.2.1,iG.1,iG.2.1,ol.1,ol.2.1,↓ad,af,simprocAttr]
 generalize h.new (.aq [.int .i64 c.k,.int .i64 c.x,.int .i64 c.n,.str c.s,aN,aP,aw] 0 false)=H1 at *
 refine aV (abZ c av _ _ (H.ext aI)) ?_
 rintro z ak ⟨rfl,bh⟩
 have mf:=bh.next
 have cG:ak.get (ao h.next)=.aq [.int .i64 c.k,.int .i64 c.x,.int .i64 c.n,.str c.s,aN,aP,aw] 0 false:=by rw [bh.get _ (cZ (by omega))];exact b0
 by_cases hw:400<wt c
 · have Ai:=eq_true hw
   simp +contextual only [Ai,decide_true,↓ad,af,simprocAttr]
   refine aV (B1 _) ?_
   rintro x bz ⟨rfl,rfl⟩
   simp +contextual only [↓ad,af,simprocAttr]
 have Ai:=decide_eq_false hw
 by_cases aG:100 < (aR.length:Int)
 · have sQ:=eq_true aG
   simp +contextual only [Ai,GI,sQ,decide_true,↓ad,af,simprocAttr]
   refine aV (B1 _) ?_
   rintro x bz ⟨rfl,rfl⟩
   simp +contextual only [↓ad,af,simprocAttr]
 have sQ:=eq_false aG
 by_cases CW:2000<steps
 · have Hd:=eq_true CW
   simp +contextual only [Ai,GI,sQ,Hd,decide_true,↓ad,af,simprocAttr]
   refine aV (B1 _) ?_
   rintro x bz ⟨rfl,rfl⟩
   simp +contextual only [↓ad,af,simprocAttr]
 have Hd:=eq_false CW
 have OP:wt c≤400:=by omega
 have eP:=aI.trans bh
 simp +contextual only [Ai,GI,sQ,Hd,cG,decide_true,↓ad,af,simprocAttr]
 refine aV (M7 (size c) c (Nat.le_refl _) av _ ak (H.ext eP)) ?_
 rintro x aC ⟨us,rfl,q5,cp⟩
 have Ot:=cp.next
 have J:=q5.co
 obtain ⟨lU,ut,ul,rfl,E1,E2,BT⟩:=J.open
 have Qd:=E1.one
 have Qm:=E2.one
 have Qf:=BT.one
 have fa:aC.get (ao h.next)=.aq [.int .i64 c.k,.int .i64 c.x,.int .i64 c.n,.str c.s,aN,aP,aw] 0 false:=by rw [cp.get _ (cZ (by omega))];exact cG
 have lZ:=eP.trans cp
 have iu:Ext aC (aC.new (.aq [] 0 false)):=(Ext.refl aC).new _
 obtain ⟨kU,bq,ca,b',cE,fR⟩:=sw (B:=aC.next) (size:=1) (by omega) (cm.empty (h:=aC) 1 (Nat.le_refl _)) ((dX.ext lZ).ext iu) (by rw [cO];omega) (by unfold top;omega) (Fo aR)
 have eV:Ext aC bq:=iu.lf cE (fun b ah=>by
  have:b=ao aC.next:=ah
  rw [this,cS];exact Nat.le_refl _)
 rw [List.nil_append,Nat.zero_add] at b'
 have Ou:=eV.next
 have j':=b'.v.one
 have gZ:bq.get (ao h.next)=.aq [.int .i64 c.k,.int .i64 c.x,.int .i64 c.n,.str c.s,aN,aP,aw] 0 false:=by rw [eV.get _ (cZ (by omega))];exact fa
 have ac0:(bq.next=h.next)=False:=eq_false (by omega)
 simp +contextual only [fa,gZ,ca,j'.1,j'.2.1,Qd.1,Qd.2.1,Qm.1,Qm.2.1,Qf.1,Qf.2.1,ac0,↓ad,af,simprocAttr]
 have wQ:Ext bq ((bq.new (.aq [.int .i64 0,.int .i64 0,.int .i64 0,.str [],.ay,.ay,.ay] 0 false)).set (ao bq.next) (.aq [.int .i64 c.k,.int .i64 c.x,.int .i64 c.n,.str c.s,lU,ut,ul] 0 false)):=((Ext.refl bq).new _).set (Nat.le_refl _) _
 have sB:((bq.new (.aq [.int .i64 0,.int .i64 0,.int .i64 0,.str [],.ay,.ay,.ay] 0 false)).set (ao bq.next) (.aq [.int .i64 c.k,.int .i64 c.x,.int .i64 c.n,.str c.s,lU,ut,ul] 0 false)).get (ao bq.next)=.aq [.int .i64 c.k,.int .i64 c.x,.int .i64 c.n,.str c.s,lU,ut,ul] 0 false:=by rw [du,if_pos rfl]
 have n5:((bq.new (.aq [.int .i64 0,.int .i64 0,.int .i64 0,.str [],.ay,.ay,.ay] 0 false)).set (ao bq.next) (.aq [.int .i64 c.k,.int .i64 c.x,.int .i64 c.n,.str c.s,lU,ut,ul] 0 false)).next=bq.next+1:=by rw [gU,cO]
 generalize ((bq.new (.aq [.int .i64 0,.int .i64 0,.int .i64 0,.str [],.ay,.ay,.ay] 0 false)).set (ao bq.next) (.aq [.int .i64 c.k,.int .i64 c.x,.int .i64 c.n,.str c.s,lU,ut,ul] 0 false))=dZ at *
 have hp:dZ.get (ao h.next)=.aq [.int .i64 c.k,.int .i64 c.x,.int .i64 c.n,.str c.s,aN,aP,aw] 0 false:=by rw [wQ.get _ (cZ (by omega))];exact gZ
 have R5:=(lZ.trans eV).trans wQ
 have cQ:=(J.ext eV).ext wQ
 refine aV (afJ c _ dZ cQ OP (b'.v.ext wQ) (by omega) (steps:=steps) (by omega)) ?_
 rintro x eM ⟨l,aK,L,iB⟩
 have aik:=iB.next
 obtain ⟨bn,rfl,V,pb⟩:=L.open
 have iY:eM.get (ao h.next)=.aq [.int .i64 c.k,.int .i64 c.x,.int .i64 c.n,.str c.s,aN,aP,aw] 0 false:=by rw [iB.get _ (cZ (by omega))];exact hp
 have Fy:eM.get (ao bq.next)=.aq [.int .i64 c.k,.int .i64 c.x,.int .i64 c.n,.str c.s,lU,ut,ul] 0 false:=by rw [iB.get _ (cZ (by omega))];exact sB
 have acL:(eM.next=h.next)=False:=eq_false (by omega)
 have acM:(eM.next=bq.next)=False:=eq_false (by omega)
 simp +contextual only [hp,sB,iY,Fy,pb.1,pb.2.1,acL,acM,↓ad,af,simprocAttr]
 have uV:Ext eM ((eM.new (.aq [.int .i64 0,.int .i64 0,.int .i64 0,.int .i64 0,.ay] 0 false)).set (ao eM.next) (.aq [.int .i64 l.eZ,.int .i64 l.fg,.int .i64 l.read,.int .i64 l.steps,bn] 0 false)):=((Ext.refl eM).new _).set (Nat.le_refl _) _
 have d7:((eM.new (.aq [.int .i64 0,.int .i64 0,.int .i64 0,.int .i64 0,.ay] 0 false)).set (ao eM.next) (.aq [.int .i64 l.eZ,.int .i64 l.fg,.int .i64 l.read,.int .i64 l.steps,bn] 0 false)).get (ao eM.next)=.aq [.int .i64 l.eZ,.int .i64 l.fg,.int .i64 l.read,.int .i64 l.steps,bn] 0 false:=by rw [du,if_pos rfl]
 have n7:((eM.new (.aq [.int .i64 0,.int .i64 0,.int .i64 0,.int .i64 0,.ay] 0 false)).set (ao eM.next) (.aq [.int .i64 l.eZ,.int .i64 l.fg,.int .i64 l.read,.int .i64 l.steps,bn] 0 false)).next=eM.next+1:=by rw [gU,cO]
 generalize ((eM.new (.aq [.int .i64 0,.int .i64 0,.int .i64 0,.int .i64 0,.ay] 0 false)).set (ao eM.next) (.aq [.int .i64 l.eZ,.int .i64 l.fg,.int .i64 l.read,.int .i64 l.steps,bn] 0 false))=c9 at *
 have j4:c9.get (ao h.next)=.aq [.int .i64 c.k,.int .i64 c.x,.int .i64 c.n,.str c.s,aN,aP,aw] 0 false:=by rw [uV.get _ (cZ (by omega))];exact iY
 have UY:c9.get (ao bq.next)=.aq [.int .i64 c.k,.int .i64 c.x,.int .i64 c.n,.str c.s,lU,ut,ul] 0 false:=by rw [uV.get _ (cZ (by omega))];exact Fy
 have En:=(R5.trans iB).trans uV
 refine aV (ae7 c _ c9 (H.ext En) OP (dX.ext En) (by omega) (steps:=steps) (by omega)) ?_
 rintro x fK ⟨m,hm,Sd,hq⟩
 have ail:=hq.next
 obtain ⟨Be,rfl,W,dm⟩:=Sd.open
 have J8:fK.get (ao h.next)=.aq [.int .i64 c.k,.int .i64 c.x,.int .i64 c.n,.str c.s,aN,aP,aw] 0 false:=by rw [hq.get _ (cZ (by omega))];exact j4
 have FA:fK.get (ao bq.next)=.aq [.int .i64 c.k,.int .i64 c.x,.int .i64 c.n,.str c.s,lU,ut,ul] 0 false:=by rw [hq.get _ (cZ (by omega))];exact UY
 have d8:fK.get (ao eM.next)=.aq [.int .i64 l.eZ,.int .i64 l.fg,.int .i64 l.read,.int .i64 l.steps,bn] 0 false:=by rw [hq.get _ (cZ (by omega))];exact d7
 have acN:(fK.next=h.next)=False:=eq_false (by omega)
 have acO:(fK.next=bq.next)=False:=eq_false (by omega)
 have acP:(fK.next=eM.next)=False:=eq_false (by omega)
 simp +contextual only [J8,FA,d8,dm.1,dm.2.1,acN,acO,acP,↓ad,af,simprocAttr]
 have wR:Ext fK ((fK.new (.aq [.int .i64 0,.int .i64 0,.int .i64 0,.int .i64 0,.ay] 0 false)).set (ao fK.next) (.aq [.int .i64 m.eZ,.int .i64 m.fg,.int .i64 m.read,.int .i64 m.steps,Be] 0 false)):=((Ext.refl fK).new _).set (Nat.le_refl _) _
 have n9:((fK.new (.aq [.int .i64 0,.int .i64 0,.int .i64 0,.int .i64 0,.ay] 0 false)).set (ao fK.next) (.aq [.int .i64 m.eZ,.int .i64 m.fg,.int .i64 m.read,.int .i64 m.steps,Be] 0 false)).next=fK.next+1:=by rw [gU,cO]
 generalize ((fK.new (.aq [.int .i64 0,.int .i64 0,.int .i64 0,.int .i64 0,.ay] 0 false)).set (ao fK.next) (.aq [.int .i64 m.eZ,.int .i64 m.fg,.int .i64 m.read,.int .i64 m.steps,Be] 0 false))=jG at *
 have FB:jG.get (ao bq.next)=.aq [.int .i64 c.k,.int .i64 c.x,.int .i64 c.n,.str c.s,lU,ut,ul] 0 false:=by rw [wR.get _ (cZ (by omega))];exact FA
 have J9:jG.get (ao h.next)=.aq [.int .i64 c.k,.int .i64 c.x,.int .i64 c.n,.str c.s,aN,aP,aw] 0 false:=by rw [wR.get _ (cZ (by omega))];exact J8
 have Jq:=(En.trans hq).trans wR
 have dH:=(((cQ.ext iB).ext uV).ext hq).ext wR
 have Sc:rf dZ.next jG l (.agg [.int .i64 l.eZ,.int .i64 l.fg,.int .i64 l.read,.int .i64 l.steps,bn]):=⟨bn,rfl,((V.ext uV).ext hq).ext wR⟩
 have Sg:rf c9.next jG m (.agg [.int .i64 m.eZ,.int .i64 m.fg,.int .i64 m.read,.int .i64 m.steps,Be]):=⟨Be,rfl,W.ext wR⟩
 refine aV (afP Sc Sg) ?_
 rintro z j7 ⟨rfl,kg⟩
 have d1:decide (l=m)=true:=decide_eq_true (afL aK hm)
 have B':j7.get (ao bq.next)=.aq [.int .i64 c.k,.int .i64 c.x,.int .i64 c.n,.str c.s,lU,ut,ul] 0 false:=by rw [kg.get _ (cZ (by omega))];exact FB
 have Td:j7.get (ao h.next)=.aq [.int .i64 c.k,.int .i64 c.x,.int .i64 c.n,.str c.s,aN,aP,aw] 0 false:=by rw [kg.get _ (cZ (by omega))];exact J9
 simp +contextual only [d1,J9,FB,Td,B',↓ad,af,simprocAttr]
 refine aV (Q4 (size c) c (Nat.le_refl _) av _ _ _ (dH.ext kg) (H.ext (Jq.trans kg))) ?_
 rintro z jd ⟨rfl,iA⟩
 simp +contextual only [↓ad,af,simprocAttr]
 refine aV (Q3 (((((((b'.v.ext wQ).ext iB).ext uV).ext hq).ext wR).ext kg).ext iA) (dX.ext ((Jq.trans kg).trans iA))) ?_
 rintro z mT ⟨rfl,rfl⟩
 have d2:decide (aR=aR)=true:=decide_eq_true rfl
 simp +contextual only [d2,↓ad,af,simprocAttr]
 refine aV (B1 _) ?_
 rintro z sL ⟨rfl,rfl⟩
 simp +contextual only [↓ad,af,simprocAttr]
end Go.Proofs.YtjbiefneffiogaaGreat
