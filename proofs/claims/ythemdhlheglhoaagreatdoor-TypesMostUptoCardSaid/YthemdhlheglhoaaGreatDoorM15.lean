/- The chapter's functions, walked by the abstract machine: plain lemmas, no condition. Printed by a program from longer texts: names made short. -/
import Derived.Test.YthemdhlheglhoaaGreatDoorM14
set_option linter.unusedSectionVars false
set_option linter.unusedSimpArgs false
set_option linter.unusedVariables false
set_option maxHeartbeats 64000000
noncomputable section
namespace Go.Proofs.YthemdhlheglhoaaGreatDoor
section
open Go aY
theorem DO {g cQ:bm} (h:g.le cQ) {i:Nat} {t:an} (k:At g i t):At cQ i t:=by
 induction k with
 | @var a b aJ e ae aC hH bC=>subst e;exact x6 (h.get ae) aC
 | @cd a b aJ l e ae aC az aD bd=>subst e;exact .cd rfl (h.get ae) aC az bd
theorem Wy {k n:Int} {x:List UInt8} {l:List an} (h:(an.mk k n x l).shape=true) (aD:¬k=1):k=2:=by
 rw [an.shape,Bool.and_eq_true] at h;have aa:=h.1;unfold an.own at aa;rw [if_neg (show ¬(an.mk k n x l).k=1 from aD)] at aa
 split at aa
 . rename_i q;exact q
 . cases aa
mutual
theorem DD:∀(t:an) (g:bm),t.shape=true->g.dz->At (t.add g).1 (t.add g).2 t
 | .mk k n s l,g,h,W=>by
   have ba:=mv _ h;rw [an.add];by_cases c:k=1
   . rw [if_pos c,GN h c];unfold iW;rw [an.lg,Bool.and_eq_true] at ba;have aQ:0<=n/\n<=1048575:=by
      have:=ba.1;simp only [c,ne_eq,not_true_eq_false,decide_false,Bool.false_or,Bool.and_eq_true,decide_eq_true_eq] at this;exact this
     obtain ⟨_,ke,_,_⟩:=Xy W (n:=n) aQ.1 aQ.2;have:ca n (g.var n).1.vars=some (g.var n).2:=by
      unfold bm.var;cases q:ca n g.vars with
      | some i=>exact q
      | none=>
        simp only;rw [B5,q];simp [ca]
     obtain ⟨aJ,aN,aZ,bJ⟩:=ke.e7 n _ this;have:=x6 aN aZ;rw [bJ] at this;exact this
   . have aD:=Wy h c;have a8:=GO h c;have aM:=zP h;rw [if_neg c,aD,a8];obtain ⟨a,b,d,e⟩:=tx l g (xd l aM) W;obtain ⟨p,q,r⟩:=My b s d;refine .cd (aJ:=⟨true,0,s,(cf l g).2⟩) rfl (by simp [bm.put,bm.N]) rfl (by simp [DE]) fun j x t ai au=>?_;exact DO p (O1 l g aM W j x t ai au)
theorem O1:∀(l:List an) (g:bm),ib l=true->g.dz->∀(j x:Nat) (t:an),(cf l g).2[j]? =some x->l[j]? =some t->At (cf l g).1 x t
 | [],g,_,_,j,x,t,ai,au=>by simp at au
 | u::l,g,h,W,j,x,t,ai,au=>by
   obtain ⟨aa,ad⟩:=qk h;obtain ⟨a,b,c,d⟩:=kv u g (mv u aa) W;obtain ⟨bs,bI,gN,h4⟩:=tx l _ (xd l ad) b;rw [cf] at ai ⊢;cases j with
   | zero=>
     simp only [List.getElem?_cons_zero,Option.some.injEq] at ai au;subst ai;subst au;exact DO bs (DD u g aa W)
   | succ j=>
     simp only [List.getElem?_cons_succ] at ai au;exact O1 l _ ad b j x t ai au
end
def py (g H:bm) (φ:Nat->Nat):Prop:=∀(i:Nat) (aJ:dy),g.nodes[i]? =some aJ->H.nodes[φ i]? =some ⟨aJ.cd,aJ.n,aJ.s,aJ.kids.map φ⟩
theorem py.congr {g H:bm} {φ nu:Nat->Nat} (W:g.dz) (M:py g H φ) (h:∀i,i<g.N->nu i=φ i):py g H nu:=fun i aJ e=>by rw [h i (List.getElem?_eq_some_iff.1 e).1,M i aJ e];congr 2;exact List.map_congr_left fun x ai=>(h x (W.sD e ai)).symm
theorem Z4 {H:bm} {r:Nat} {n:Int} (h:At H r (.mk 1 n [] [])):∃aJ,H.nodes[r]? =some aJ/\aJ.cd=false/\aJ.n=n:=by
 cases h with
 | var e ae aC hH bC=>subst e;exact ⟨_,ae,aC,rfl⟩
theorem Z3 {H:bm} {r:Nat} {s:List UInt8} {l:List an} (h:At H r (.mk 2 0 s l)):∃aJ,H.nodes[r]? =some aJ/\aJ.cd=true/\aJ.s=s/\l.length=aJ.kids.length/\∀(j x:Nat) (t:an),aJ.kids[j]? =some x->l[j]? =some t->At H x t:=by
 cases h with
 | cd e ae aC az aD=>subst e;exact ⟨_,ae,aC,rfl,az,aD⟩
mutual
theorem JA {H:bm} (pF:H.dz):∀(t:an) (g:bm) (φ:Nat->Nat) (r:Nat),t.shape=true->g.dz->py g H φ->At H r t->∃nu,(∀i,i<g.N->nu i=φ i)/\py (t.add g).1 H nu/\nu (t.add g).2=r
 | .mk k n s l,g,φ,r,h,W,M,A=>by
   rw [an.add];by_cases c:k=1
   . rw [GN h c] at A;obtain ⟨gh,bD,b3,cc⟩:=Z4 A;have ri:=(pF.var r gh bD b3).2.2.2;rw [cc] at ri;obtain ⟨fA,rs,_,_⟩:=pF.var r gh bD b3;rw [if_pos c];unfold bm.var;cases q:ca n g.vars with
     | some i=>
       refine ⟨φ,fun _ _=>rfl,M,?_⟩;obtain ⟨aJ,aN,aZ,bJ⟩:=W.e7 n i q;have:=pF.var _ _ (M i aJ aN) aZ;have bt:=this.2.2.2;rw [bJ,ri] at bt;exact (Option.some.inj bt).symm
     | none=>
       refine ⟨eE φ g.N r,fun i aq=>fE _ _ (by omega),fun i aJ e=>?_,gV _ _ _⟩;rcases mJ e with e | ⟨cz,rfl⟩
       . exact (py.congr W M fun i aq=>fE φ r (show i≠g.N by omega)) i aJ e
       . rw [show i=g.N from cz,gV,bD];obtain ⟨hH,bE,h9,p_⟩:=gh;simp only at b3 cc fA rs;rw [b3,cc,fA,rs];rfl
   . have aD:=Wy h c;have a8:=GO h c;have aM:=zP h;rw [aD,a8] at A;rw [if_neg c];obtain ⟨gh,bD,b3,cc,eJ,dZ⟩:=Z3 A;have ei:=pF.cd r gh bD b3;obtain ⟨a,b,d,e⟩:=tx l g (xd l aM) W;obtain ⟨nu,f1,f2,f3⟩:=Ri pF l g φ gh.kids aM W M eJ.symm dZ;refine ⟨eE nu (cf l g).1.N r,fun i aq=>?_,fun i aJ e=>?_,gV _ _ _⟩
     . have:=a.n;rw [fE _ _ (by omega)];exact f1 i aq
     . rcases mJ e with e | ⟨cz,rfl⟩
       . exact (py.congr b f2 fun i aq=>fE nu r (show i≠(cf l g).1.N by omega)) i aJ e
       . have hm:(cf l g).2.map (eE nu (cf l g).1.N r)=gh.kids:=by
          rw [<-f3];exact List.map_congr_left fun x ai=>fE _ _ (by have:=d x ai;omega)
         rw [show i=(cf l g).1.N from cz,gV,bD,hm];obtain ⟨hH,bE,h9,p_⟩:=gh;simp only at b3 cc ei;rw [b3,cc,ei]
theorem Ri {H:bm} (pF:H.dz):∀(l:List an) (g:bm) (φ:Nat->Nat) (rs:List Nat),ib l=true->g.dz->py g H φ->rs.length=l.length->(∀(j x:Nat) (t:an),rs[j]? =some x->l[j]? =some t->At H x t)->∃nu,(∀i,i<g.N->nu i=φ i)/\py (cf l g).1 H nu/\(cf l g).2.map nu=rs
 | [],g,φ,rs,_,_,M,az,_=>⟨φ,fun _ _=>rfl,M,by rw [List.length_eq_zero_iff.1 az];rfl⟩
 | t::l,g,φ,[],_,_,_,az,_=>by simp at az
 | t::l,g,φ,r::rs,h,W,M,az,hP=>by obtain ⟨aa,ad⟩:=qk h;obtain ⟨a,b,c,d⟩:=kv t g (mv t aa) W;obtain ⟨bs,bI,gN,h4⟩:=tx l _ (xd l ad) b;obtain ⟨NL,f1,f2,f3⟩:=JA pF t g φ r aa W M (hP 0 r t rfl rfl);obtain ⟨xz,bK,bT,en⟩:=Ri pF l _ NL rs ad b f2 (by simpa using az) fun j x u ai hu=>hP (j+1) x u (by simpa using ai) (by simpa using hu);rw [cf];have:=a.n;refine ⟨xz,fun i aq=>by rw [bK i (by omega),f1 i aq],bT,?_⟩;rw [List.map_cons,en,bK _ c,f3]
end
theorem abU {g H:bm} {E aw:List (Nat × Nat)} {φ:Nat->Nat} (M:py g H φ) (eB:∀p ∈ E,cD H aw (φ p.1) (φ p.2)) {a b:Nat} (h:cD g E a b):cD H aw (φ a) (φ b):=by
 induction h with
 | base h=>exact eB _ h
 | refl a=>exact .refl _
 | symm _ bd=>exact .symm bd
 | trans _ _ i1 i2=>exact .trans i1 i2
 | @dO a b x y i aJ b7 _ aV ae fh fH ai a1 bd=>exact .dO (i:=i) bd (M _ _ aV) (M _ _ ae) fh fH (by show (aJ.kids.map φ)[i]? =_;rw [List.getElem?_map,ai];rfl) (by show (b7.kids.map φ)[i]? =_;rw [List.getElem?_map,a1];rfl)
theorem abW {g H:bm} {E aw:List (Nat × Nat)} {φ:Nat->Nat} (M:py g H φ) (eB:∀p ∈ E,cD H aw (φ p.1) (φ p.2)) (h:iX g E):iX H aw:=by obtain ⟨a,b,aJ,b7,aa,ad,aH,bt,cI,cA⟩:=h;exact ⟨_,_,_,_,abU M eB aa,M _ _ ad,M _ _ aH,bt,cI,by simpa using cA⟩
structure Iq (B:Nat) (h:ah) (g:bm) (E:List (Nat × Nat)) (π:Nat->Nat) (bO:Nat->V) (w:Nat->Nat) (bE:Nat->Int) (ρ:Nat->Nat) (b4:aO):Prop where
 W:g.dz
 S:ij g ρ
 J:fS g E ρ []
 L:l4 g ρ bE
 CS:Way w ρ
 po:ys g
 pm:jT h g π bO w bE b4
 w0:∀i,i<g.N->B<=π i
 Ur:B<=dr b4
theorem aon {B:Nat} {a8 h:ah} {g:bm} {E:List (Nat × Nat)} {π:Nat->Nat} {bO:Nat->V} {w:Nat->Nat} {bE:Nat->Int} {ρ:Nat->Nat} {b4:aO} {ie:Nat} {cW dp c7:aO} {md:List (Nat × an)} {h':List (Nat × Bool)} {r:bc} {ra:V} {Q:db->bc->ah->Prop}
 (dc:B<=a8.next) (gJ:Ext a8 h) (yw:B=a8.next) (EX:g.N<=1000000) (U:Iq B h g E π bO w bE ρ b4) (M:kT h g π bO w bE ie cW dp c7 md h') (aql:B<=ie) (af0:B<=dr cW) (ap2:B<=dr dp) (gQ:B<=dr c7)
 (ap7:(eO (g.vars.map Prod.fst)).length<=1000000) (K:gy h 1 ra (eO (g.vars.map Prod.fst)).length (q9 (eO (g.vars.map Prod.fst)))) (aej:∀b i,i<g.N->ra.aW b->b≠aj (π i)) (D:rN g (cD g E) ρ md []) (eb:∀j,j<g.N->∃t,du g (cD g E) j t) (fl:∀(n:Int) (j:Nat),ca n g.vars=some j->∃t,(ρ j,t) ∈ md)
 (dE:r 8=.map b4) (iC:r 10=.ptr (aj ie) 0) (kN:r 11=ra)
 (cO:∀(r:bc) (k:ah) (eP:V),r 4=eP->r 5=.int .i64 (lb g E).2->gw k (dm a8.next k.next) (lb g E).1 eP->Ext a8 k->Q .ret r k):bl Tryz.prog [.c I0] .normal r h Q:=by
 have jY:=K.len;have ok:=K.one;have l5:=U.J.part;have zw:∀i,i<g.N->π i<h.next:=fun i aq=>U.pm.fX.lt aq
 unfold I0;simp +contextual only [dE,iC,kN,jY,ok.1,ok.2.1,↓al,aK,simprocAttr];refine gD (fun r k=>r 8=.map b4/\r 10=.ptr (aj ie) 0/\r 78=ra/\r 79=.int .i64 (eO (g.vars.map Prod.fst)).length/\∃(i:Nat) (v:V) (w':Nat->Nat),r 80=.int .i64 i/\r 14=v/\i<=(eO (g.vars.map Prod.fst)).length/\jT k g π bO w' bE b4/\kT k g π bO w' bE ie cW dp c7 md h'/\Way w' ρ/\
  gw k (dm h.next k.next) (((keyed g).take i).filterMap (fM g E)) v/\Ext a8 k/\Mod (jq g π) h k/\∀p ∈ ((keyed g).take i).filterMap (fM g E),p.2.size<=4096/\p.2.deep<=200) (fun r k=>(eO (g.vars.map Prod.fst)).length - (r 80).toN) ?_ ?_
 . exact ⟨by simp only [dE,↓al,br,simprocAttr],by simp only [iC,↓al,br,simprocAttr],by simp only [kN,↓al,br,simprocAttr],by simp only [↓al,br,simprocAttr],0,.bU,w,by simp only [↓al,br,simprocAttr]<;>rfl,by simp only [↓al,br,simprocAttr],Nat.zero_le _,U.pm,M,U.CS,gw.nil _ _,gJ,Mod.refl _ _,fun p af=>(by simp at af)⟩
 clear dE iC kN;rintro r k ⟨dE,iC,ph,pj,i,v,w',w8,j8,aq,gL,mD,qD,O,ka,xT,gm⟩;unfold IY;have iA:=O.one;have cu:=xT.next
 have aee:=gJ.next
 have yM:(keyed g).length=(eO (g.vars.map Prod.fst)).length:=by unfold keyed;rw [List.length_map]
 by_cases aT:i < (eO (g.vars.map Prod.fst)).length
 . have g0:((i:Int) < ((eO (g.vars.map Prod.fst)).length:Int))=True:=eq_true (by omega);obtain ⟨j,aJ,aN,aZ,bJ,dR,e_⟩:=Lv U.W aT;generalize aQ:(eO (g.vars.map Prod.fst))[i]=n at *;have a6:=lx aZ;have tl:gy k 1 ra _ _:=K.mod xT fun b q ⟨a,aV,z⟩=>aej b a aV q z;obtain ⟨vu,iz,Lk,Hs⟩:=tl.dD (k:=.i64) aT;have B0:=Hs.fy (i:=i) (by rw [FH];exact aT);have Bn:(q9 (eO (g.vars.map Prod.fst)))[i]'(by rw [FH];exact aT)=.int .i64 n:=by rw [<-aQ];simp [q9]
   rw [Bn,show iz+i=iz+i * 1 by omega] at B0;have e7:=gL.mp.look n .dX false;rw [aN] at e7;simp only [cond_false] at e7;have eR:IntKind.i64.wrap ((i:Int)+1)=((i+1:Nat):Int):=by rw [wrap_i64 (by omega) (by omega)];rfl
   simp +contextual only [dE,iC,ph,pj,w8,j8,g0,Lk,B0,e7,jR.eq,↓al,aK,simprocAttr];refine cF (zX gL.fX U.S qD a6) ?_;rintro bq bK ⟨rfl,bW,gX,vm,kR⟩;have Av:=mD.find gX kR;have apX:∀b,B<=dr b->(∀i,i<g.N->b≠aj (π i))->¬jq g π b:=fun b _ q ⟨i,aq,z⟩=>q i aq z;have OB:jT bK g π bO bW bE b4:=⟨gX,gL.mp.mod kR fun ⟨a,aV,z⟩=>gL.s1 a aV z,gL.s1,gL.s2⟩;obtain ⟨t,au⟩:=fl n j aN;have Eh:=D.all _ au;simp only at Eh;obtain ⟨t1,t2,t3,t4⟩:=Eh;have cp:=U.S.lt j a6;obtain ⟨eA,ex⟩:=ly cp;have gK:=gX.root ex (Way.root U.S vm (U.S.idem j));have anW:du g (cD g E) j t:=t3.rr l5 (U.J.done.2 (U.S.idem j));have y0:lf g E j=t:=Ha l5 anW;have Dq:gw bK (dm h.next k.next) _ v:=O.mod kR fun b q ⟨a,aV,z⟩=>by have:=zw a aV;unfold dm at q;rw [z,cm] at q;omega
   have cx:=kR.next
   have ej:Ext a8 bK:=ka.j5 kR fun b ⟨a,aV,z⟩=>by rw [z,cm];have:=U.w0 a aV;omega
   have Ot:Mod (jq g π) h bK:=xT.trans kR;have wy:=Av.hw.g;have aj7:=LG D.nodup au;have ls:=Av.ms.look (gX.key cp D.keys) (.int .i64 0) false;have ld:=Av.r7.look (gX.key cp D.keys) (.int .i64 0) false;rw [aj7] at ls ld;simp only [cond_false] at ls ld;have self:t=.mk 1 n [] []->gw bK (dm h.next bK.next) (((keyed g).take (i+1)).filterMap (fM g E)) v/\∀p ∈ ((keyed g).take (i+1)).filterMap (fM g E),p.2.size<=4096/\p.2.deep<=200:=fun q=>by rw [W_ _ e_,aah (by rw [y0];exact q)];simp only [Option.toList_none,List.append_nil];exact ⟨Dq.hJ fun b z=>by unfold dm at z ⊢;omega,gm⟩
   have vW:(eA.cd=false/\bE (ρ j)=n/\t=.mk 1 n [] [])\/(eA.cd=false/\(bE (ρ j)=n)=False/\t≠.mk 1 n [] [])\/(eA.cd=true/\True=True/\t≠.mk 1 n [] []):=by
    cases c:eA.cd with
    | false=>
      have Nq:=Xe U.S U.J U.L (U.S.idem j) ex c;have hg:=t3.uniq l5 (.refl _) Nq;by_cases bX:bE (ρ j)=n
      . exact .inl ⟨rfl,bX,by rw [hg,bX]⟩
      . exact .inr (.inl ⟨rfl,eq_false bX,fun z=>by rw [hg] at z;injection z with _ z;exact bX z⟩)
    | true=>
      obtain ⟨l,hg,_⟩:=Xd l5 t3 (.refl _) ex c;exact .inr (.inr ⟨rfl,rfl,fun z=>by rw [hg] at z;injection z with z _;omega⟩)
   rcases vW with ⟨aC,pZ,aM⟩ | vW
   . rw [aC] at gK;obtain ⟨b6,z2⟩:=self aM;simp +contextual only [dE,iC,ph,pj,w8,j8,gK,eq_true pZ,eR,jl,↓al,aK,simprocAttr];exact ⟨⟨i+1,v,bW,rfl,rfl,aT,OB,Av,vm,b6,ej,Ot,z2⟩,by omega⟩
   rcases vW with ⟨aC,pZ,aM⟩ | ⟨aC,pZ,aM⟩
   all_goals
    rw [aC] at gK;have ae:fM g E (n,j)=some (n,t):=by rw [Po (by rw [y0];exact aM),y0]
    by_cases Bq:t.size<=4096/\t.deep<=200
    . have s1:((4096:Int) < ((min t.size 4097:Nat):Int))=False:=eq_false (by omega);have s2:((200:Int) < ((t.deep:Nat):Int))=False:=eq_false (by omega);simp +contextual only [dE,iC,ph,pj,w8,j8,gK,pZ,wy,ls,ld,s1,s2,eR,jl,↓al,aK,simprocAttr];refine cF (Xf U.W U.S U.J U.L U.po t.size t (Nat.le_refl _) (by omega) (ρ j) bW bK cp t3 gX vm) ?_;rintro dx bT ⟨u,bV,rfl,Z,zb,fr,tw,M2⟩;have e8:=M2.next
      have Cp:=Z.one;have vf:=Av.find fr M2;have YS:jT bT g π bO bV bE b4:=⟨fr,OB.mp.mod M2 fun ⟨a,aV,z⟩=>gL.s1 a aV z,gL.s1,gL.s2⟩;have Aw:gw bT (dm h.next k.next) _ v:=Dq.mod M2 fun b q ⟨a,aV,z⟩=>by have:=zw a aV;unfold dm at q;rw [z,cm] at q;omega
      have bL:Ext a8 bT:=ej.j5 M2 fun b ⟨a,aV,z⟩=>by rw [z,cm];have:=U.w0 a aV;omega
      have E5:((keyed g).take i |>.filterMap (fM g E)).length<=1000000:=by have:=List.length_filterMap_le (fM g E) ((keyed g).take i);rw [List.length_take] at this;omega
      obtain ⟨c1,en,b0,b1,cS,iU⟩:=Aw.add (t:=(n,t)) (T:=dm bK.next bT.next) (u:=u) Z (fun b q z=>by unfold dm at q z;omega) (fun b q=>by unfold dm at q;unfold Old;omega) (fun b q=>by unfold dm at q;unfold Old;omega) (by unfold top;omega) zb;have nh:=b1.one;have y8:∀b,v.aW b->h.next<=dr b:=fun b q=>by have:=O.ba _ q;unfold dm at this;omega
      have xo:∀c,dr c<h.next->¬v.aW c:=fun c aC q=>by have:=y8 c q;omega
      have agl:∀a,a<g.N->¬v.aW (aj (π a)):=fun a aV=>xo _ (by rw [cm];exact zw a aV);have agk:∀a b,a<g.N->(bO a).aW b->¬v.aW b:=fun a b aV ae=>xo _ (by have:=U.pm.fX.q' aV ae;unfold Old at this;exact this);have hy:=fr.mod cS agl agk;have agh:¬v.aW b4:=xo _ (by have:=U.pm.mp.bP;unfold Old at this;exact this);have Fp:¬v.aW (aj ie):=xo _ (by rw [cm];exact M.hw.lt);have BH:¬v.aW cW:=xo _ (by have:=M.ms.bP;unfold Old at this;exact this);have agi:¬v.aW dp:=xo _ (by have:=M.r7.bP;unfold Old at this;exact this);have agj:¬v.aW c7:=xo _ (by have:=M.op.bP;unfold Old at this;exact this);have YT:jT en g π bO bV bE b4:=⟨hy,YS.mp.mod cS agh,gL.s1,gL.s2⟩;have Yz:kT en g π bO bV bE ie cW dp c7 md h':=⟨hy,vf.hw.mod cS Fp,vf.ms.mod cS BH,vf.r7.mod cS agi,vf.op.mod cS agj,M.d1,M.d2,M.d3,M.zu,M.p_⟩;have bb:((keyed g).take (i+1)).filterMap (fM g E)=((keyed g).take i).filterMap (fM g E)++[(n,t)]:=by rw [W_ _ e_,ae];rfl
      have alI:lr 5 v (.slice (aj bT.next) 0 1 1) (bT.new (.bx [.int .i64 n,.int .i64 t.k,.int .i64 t.n,.str t.s,u] 0 false))=.val c1 en:=b0;simp +contextual only [dE,iC,ph,pj,w8,j8,Cp.1,Cp.2.1,iA.1,iA.2.1,nh.1,nh.2.1,alI,eR,jl,↓al,aK,simprocAttr];refine ⟨⟨i+1,c1,bV,rfl,rfl,aT,YT,Yz,tw,?_,bL.j5 cS fun b q=>by have:=y8 b q;omega,?_,?_⟩,by omega⟩
      . rw [bb];exact b1.hJ fun b q=>by unfold dm at q ⊢;omega
      . exact ((Ot.trans M2)).zU cS fun b q=>y8 b q
      . rw [bb];intro p af;rcases List.mem_append.1 af with af | af
        . exact gm p af
        . rw [List.mem_singleton] at af;subst af;exact Bq
    . have E8:lb g E=([],3):=GV U.J.kC eb ⟨(n,t),List.mem_filterMap.2 ⟨(n,j),List.mem_of_getElem? e_,ae⟩,Bq⟩;by_cases yW:t.size<=4096
      . have s1:((4096:Int) < ((min t.size 4097:Nat):Int))=False:=eq_false (by omega);have s2:((200:Int) < ((t.deep:Nat):Int))=True:=eq_true (by omega);simp +contextual only [dE,iC,ph,pj,w8,j8,gK,pZ,wy,ls,ld,s1,s2,eR,jl,↓al,aK,simprocAttr];exact cO _ _ .bU (by simp only [↓al,br,simprocAttr]) (by simp only [E8,↓al,br,simprocAttr]) (by rw [E8];exact gw.nil _ _) ej
      . have s1:((4096:Int) < ((min t.size 4097:Nat):Int))=True:=eq_true (by omega);simp +contextual only [dE,iC,ph,pj,w8,j8,gK,pZ,wy,ls,ld,s1,eR,jl,↓al,aK,simprocAttr];exact cO _ _ .bU (by simp only [↓al,br,simprocAttr]) (by simp only [E8,↓al,br,simprocAttr]) (by rw [E8];exact gw.nil _ _) ej
 . have g0:((i:Int) < ((eO (g.vars.map Prod.fst)).length:Int))=False:=eq_false (by omega);rw [List.take_of_length_le (by rw [yM];omega)] at O gm;have bF:=GW U.J.kC eb gm;simp +contextual only [dE,iC,ph,pj,w8,j8,g0,iA.1,iA.2.1,↓al,aK,simprocAttr];exact cO _ _ v (by simp only [↓al,br,simprocAttr]) (by simp only [bF,↓al,br,simprocAttr]) (by rw [bF];exact O.hJ fun b q=>by unfold dm at q ⊢;omega) ka
theorem aom {B:Nat} {a8 h:ah} {g:bm} {E:List (Nat × Nat)} {π:Nat->Nat} {bO:Nat->V} {w:Nat->Nat} {bE:Nat->Int} {ρ:Nat->Nat} {b4:aO} {r:bc} {Q:db->bc->ah->Prop}
 (gJ:Ext a8 h) (yw:B=a8.next) (EX:g.N<=1000000) (mh:g.vars.length<=g.N) (U:Iq B h g E π bO w bE ρ b4) (dE:r 8=.map b4)
 (cO:∀(r:bc) (k:ah) (eP:V),r 4=eP->r 5=.int .i64 (lb g E).2->gw k (dm a8.next k.next) (lb g E).1 eP->Ext a8 k->Q .ret r k):bl Tryz.prog [.c IZ] .normal r h Q:=by
 have l5:=U.J.part;have aee:=gJ.next
 have LR:∀g:ah,p9 none g=.val (.map (aj g.next)) (g.new (.mp [] 0)):=fun g=>rfl;unfold IZ;have LS:∀{α:Type} (e:α->V) (k:ah),∃bo,k.new (.mp [] 0)=bo/\Ext k bo/\hM e π bo (aj k.next) []/\bo.next=k.next+1:=fun e k=>⟨_,rfl,(Ext.refl k).new _,hM.new e π k,rfl⟩
 obtain ⟨aa,ao,bq,Y1,eD⟩:=LS G7 h;obtain ⟨ad,ax,dx,X1,fe⟩:=LS Q7 aa;obtain ⟨aH,aL,nr,Ax,zg⟩:=LS V.bool ad;have pE:=Y1.ext dx;have Io:=pE.ext nr;have X2:=X1.ext nr;obtain ⟨bt,bY,ns,vk⟩:=fU aH [.map (aj h.next),.map (aj aa.next),.map (aj ad.next)];have n4:=ns.next
 have lw:=vk.lt;have AD:Ext h bt:=((bq.trans dx).trans nr).trans ns;have nC:=U.pm.ext AD;have zw:∀i,i<g.N->π i<h.next:=fun i aq=>U.pm.fX.lt aq
 have kS:kT bt g π bO w bE aH.next (aj h.next) (aj aa.next) (aj ad.next) [] []:=⟨nC.fX,vk,Io.ext ns,X2.ext ns,Ax.ext ns,fun q=>by have:=ed q;omega,fun q=>by have:=ed q;omega,fun q=>by have:=ed q;omega,fun i aq=>by have:=zw i aq;omega,fun i aq q=>by have:=U.pm.fX.q' aq q;unfold Old at this;rw [cm] at this;omega⟩
 simp +contextual only [dE,LR,ao,ax,aL,bY,↓al,aK,simprocAttr];refine cF (ait (.map b4) ⟨rfl,rfl,rfl⟩ bt) ?_;rintro dT cI ⟨n,rfl,Ym,lZ⟩;simp +contextual only [↓al,aK,simprocAttr];have oT:∀s ∈ g.vars.map Prod.fst,0<=s/\s<=1048575:=fun s aM=>by obtain ⟨p,af,rfl⟩:=List.mem_map.1 aM;obtain ⟨a,b⟩:=p;have az:=sG U.W.keys af;obtain ⟨aJ,aN,aZ,bJ⟩:=U.W.e7 _ _ az;have:=(U.W.var b aJ aN aZ).2.2.1;exact ⟨by simp only;omega,U.W.aq _ af⟩
 refine cF (anc Ym (nC.mp.ext lZ) U.W.keys (by omega) oT) ?_;rintro ra cA ⟨⟨HZ,apg,Yn⟩,xw⟩;have n5:=lZ.next
 have n6:=xw.next
 have jY:=HZ.len;have ok:=HZ.one;have k6:(eO (g.vars.map Prod.fst)).length=g.vars.length:=by rw [(uR _).length_eq,List.length_map]
 have Y_:Ext h cA:=(AD.trans lZ).trans xw;have kU:=(nC.ext lZ).ext xw;have Yw:kT cA g π bO w bE aH.next (aj h.next) (aj aa.next) (aj ad.next) [] []:=⟨kU.fX,(vk.ext lZ).ext xw,(kS.ms.ext lZ).ext xw,(kS.r7.ext lZ).ext xw,(kS.op.ext lZ).ext xw,kS.d1,kS.d2,kS.d3,kS.zu,kS.p_⟩
 simp +contextual only [jY,ok.1,ok.2.1,↓al,aK,simprocAttr];have KK:dr b4<h.next:=by have:=U.pm.mp.bP;unfold Old at this;exact this
 refine gD (fun r k=>r 8=.map b4/\r 10=.ptr (aj aH.next) 0/\r 11=ra/\r 65=ra/\r 66=.int .i64 (eO (g.vars.map Prod.fst)).length/\∃(i:Nat) (w':Nat->Nat) (md:List (Nat × an)) (h':List (Nat × Bool)),r 67=.int .i64 i/\i<=(eO (g.vars.map Prod.fst)).length/\jT k g π bO w' bE b4/\kT k g π bO w' bE aH.next (aj h.next) (aj aa.next) (aj ad.next) md h'/\Way w' ρ/\
  rN g (cD g E) ρ md []/\(∀i,(hq i h').getD false=decide (i ∈ ([]:List Nat)))/\(∀j ∈ h'.map Prod.fst,j<g.N)/\(∀(a:Nat) (n:Int) (j:Nat),a<i->(keyed g)[a]? =some (n,j)->∃t,(ρ j,t) ∈ md)/\Ext a8 k/\Mod (rL g π (aj h.next) (aj aa.next) (aj ad.next)) cA k) (fun r k=>(eO (g.vars.map Prod.fst)).length - (r 67).toN) ?_ ?_
 . exact ⟨by simp only [dE,↓al,br,simprocAttr],by simp only [↓al,br,simprocAttr],by simp only [↓al,br,simprocAttr],by simp only [↓al,br,simprocAttr],by simp only [↓al,br,simprocAttr],0,w,[],[],by simp only [↓al,br,simprocAttr]<;>rfl,Nat.zero_le _,kU,Yw,U.CS,⟨fun p af=>(by cases af),by simp,fun p af=>(by cases af)⟩,fun i=>(by simp [hq]),fun j a6=>(by simp at a6),fun a n j aV=>by omega,gJ.trans Y_,Mod.refl _ _⟩
 clear dE;rintro r k ⟨dE,iC,kN,MF,MG,i,w',md,h',MH,aq,gL,mD,qD,D,kk,mV,fl,ka,xT⟩;have Oh:∀b,ra.aW b->¬rL g π (aj h.next) (aj aa.next) (aj ad.next) b:=fun b q z=>by
  have ae:=Yn b q;rcases z with ⟨a,aV,z⟩ | z | z | z
  . have:=zw a aV;rw [z,cm] at ae;omega
  . rw [z,cm] at ae;omega
  . rw [z,cm] at ae;omega
  . rw [z,cm] at ae;omega
 have tl:gy k 1 ra _ _:=HZ.mod xT Oh;have yM:(keyed g).length=(eO (g.vars.map Prod.fst)).length:=by unfold keyed;rw [List.length_map]
 have Sa:∀b,rL g π (aj h.next) (aj aa.next) (aj ad.next) b->a8.next<=dr b:=fun b z=>by
  rcases z with ⟨a,aV,z⟩ | z | z | z
  . have:=U.w0 a aV;rw [z,cm];omega
  . rw [z,cm];omega
  . rw [z,cm];omega
  . rw [z,cm];omega
 unfold IX;by_cases aT:i < (eO (g.vars.map Prod.fst)).length
 . have g0:((i:Int) < ((eO (g.vars.map Prod.fst)).length:Int))=True:=eq_true (by omega);obtain ⟨j,aJ,aN,aZ,bJ,dR,e_⟩:=Lv U.W aT;generalize aQ:(eO (g.vars.map Prod.fst))[i]=n at *;have a6:=lx aZ;obtain ⟨vu,iz,Lk,Hs⟩:=tl.dD (k:=.i64) aT;have B0:=Hs.fy (i:=i) (by rw [FH];exact aT);have Bn:(q9 (eO (g.vars.map Prod.fst)))[i]'(by rw [FH];exact aT)=.int .i64 n:=by rw [<-aQ];simp [q9]
   rw [Bn,show iz+i=iz+i * 1 by omega] at B0;have e7:=gL.mp.look n .dX false;rw [aN] at e7;simp only [cond_false] at e7;have eR:IntKind.i64.wrap ((i:Int)+1)=((i+1:Nat):Int):=by rw [wrap_i64 (by omega) (by omega)];rfl
   simp +contextual only [dE,iC,MF,MG,MH,kN,g0,Lk,B0,e7,jR.eq,↓al,aK,simprocAttr];refine cF (Uy U.W (by omega) U.S U.J U.L (g.N+1) [] j w' md h' k (by simp) a6 mD qD (by simp) (fun q aA=>by cases aA) D kk mV) ?_;rintro v bT ⟨M2,⟨rfl,Bb⟩ | ⟨rfl,bV,B8,L8,t,Af,l7,X3,Fi,sj,sk,afc⟩⟩
   . have aG:=GX U.J.kC Bb;simp +contextual only [↓al,aK,simprocAttr];exact cO _ _ .bU (by simp only [↓al,br,simprocAttr]) (by simp only [aG,↓al,br,simprocAttr]) (by rw [aG];exact gw.nil _ _) (ka.j5 M2 Sa)
   . simp +contextual only [dE,iC,MF,MG,MH,kN,eR,↓al,aK,simprocAttr];refine ⟨⟨i+1,bV,B8,L8,rfl,aT,⟨Af.fX,gL.mp.mod M2 fun z=>?_,gL.s1,gL.s2⟩,Af,l7,X3,sj,sk,fun a m b aV e=>?_,ka.j5 M2 Sa,xT.trans M2⟩,by omega⟩
     . rcases z with ⟨a,aV,z⟩ | z | z | z
       . exact gL.s1 a aV z
       . rw [z,cm] at KK;omega
       . rw [z,cm] at KK;omega
       . rw [z,cm] at KK;omega
     . by_cases c:a<i
       . obtain ⟨u,hu⟩:=fl a m b c e;exact ⟨u,Fi _ hu⟩
       . have:a=i:=by omega
         subst this;rw [e_] at e;cases e;exact ⟨t,afc⟩
 . have g0:((i:Int) < ((eO (g.vars.map Prod.fst)).length:Int))=False:=eq_false (by omega);have Sx:∀(n:Int) (j:Nat),ca n g.vars=some j->∃t,(ρ j,t) ∈ md:=fun n j az=>by
    have hm:n ∈ eO (g.vars.map Prod.fst):=WJ.2 (List.mem_map_of_mem (f:=Prod.fst) (zm az));obtain ⟨a,aV,e⟩:=List.getElem_of_mem hm;obtain ⟨zf,aJ,aN,aZ,bJ,dR,e_⟩:=Lv U.W aV;rw [e] at aN e_;rw [az] at aN;cases aN;exact fl a n j (by omega) e_
   have eb:∀j,j<g.N->∃t,du g (cD g E) j t:=fun j a6=>by refine du.all l5 U.W (fun a aJ e c=>?_) (j+1) j (by omega) a6;obtain ⟨t,au⟩:=Sx _ _ (U.W.var a aJ e c).2.2.2;have Eh:=D.all _ au;exact ⟨t,Eh.2.2.1.rr l5 (U.J.done.2 (U.S.idem a))⟩
   simp +contextual only [dE,iC,MF,MG,MH,kN,g0,↓al,aK,simprocAttr];exact aon (B:=B) (a8:=a8) (by omega) ka yw EX ⟨U.W,U.S,U.J,U.L,qD,U.po,gL,U.w0,U.Ur⟩ mD (by omega) (by rw [cm];omega) (by rw [cm];omega) (by rw [cm];omega) (by omega) tl (fun b a aV q z=>Oh b q (.inl ⟨a,aV,z⟩)) D eb Sx (by simp only [dE,↓al,br,simprocAttr]) (by simp only [iC,↓al,br,simprocAttr]) (by simp only [kN,↓al,br,simprocAttr]) cO
theorem Xr {a b:List an} (h:¬(a.length=b.length/\(∀t ∈ a,t.check=0)/\(∀t ∈ b,t.check=0))):jO a b=([],2):=by
 unfold jO
 split
 . rename_i q;exact absurd q h
 . rfl
theorem aoj {a b:List an} (h:a.length=b.length/\(∀t ∈ a,t.check=0)/\(∀t ∈ b,t.check=0)):jO a b=lb (js (a.zip b) (⟨[],[]⟩,[])).1 (js (a.zip b) (⟨[],[]⟩,[])).2:=by
 unfold jO
 split
 . rfl
 . rename_i q;exact absurd h q
theorem D9 {t:an} (h:t.check=0):t.lg=true:=mv t (jt h).1
theorem Xs (a b:List an) (aV:cN a<=1000) (ae:cN b<=1000) (qm pv:V) (h:ah) (tm:dj Any h 4 (a.map an.enc) qm) (lp:dj Any h 4 (b.map an.enc) pv):
 c4 Tryz.prog 13 [qm,pv] h fun x ab=>(∃eP,x=.tuple [eP,.int .i64 (jO a b).2]/\gw ab (dm h.next ab.next) (jO a b).1 eP)/\Ext h ab:=by
 have eD:=tm.len;have fe:=lp.len;rw [List.length_map] at eD fe;have ap8:=sQ a;have tV:=sQ b;have dk:=tm.one;have dH:=lp.one;refine aaC.z rfl (dF ?_);rw [aaD];by_cases az:a.length=b.length
 rotate_left
 . have fP:((a.length:Int)=(b.length:Int))=False:=eq_false (by omega);have hu:=Xr (a:=a) (b:=b) fun q=>az q.1;simp +contextual only [eD,fe,fP,dk.1,dk.2.1,dH.1,dH.2.1,hu,↓al,aK,simprocAttr];exact ⟨⟨_,rfl,gw.nil _ _⟩,Ext.refl h⟩
 have fP:((a.length:Int)=(b.length:Int))=True:=eq_true (by omega);obtain ⟨aa,ao,aN,C2⟩:=fU h [qm,pv];have cx:=aN.next
 simp +contextual only [eD,fe,fP,dk.1,dk.2.1,dk.2.2,dH.1,dH.2.1,dH.2.2,ao,↓al,aK,simprocAttr];refine cF (ab2 a b (by omega) (by omega) h.next qm pv aa C2 (tm.ext aN) (lp.ext aN)) ?_;rintro xs ad ⟨Ar,aZ⟩;have bL:=aN.trans aZ;have nc:=Ar.len;have fm:=Ar.one;rw [List.length_map] at nc;have hlen:(a++b).length<=2000:=by rw [List.length_append];omega
 have afH:cN (a++b)<=2000:=by rw [Cx];omega
 simp +contextual only [nc,fm.1,fm.2.1,↓al,aK,simprocAttr];refine gD (fun r k=>r 0=qm/\r 1=pv/\r 26=xs/\r 27=.int .i64 (a++b).length/\∃i:Nat,r 28=.int .i64 i/\i<=(a++b).length/\(∀t ∈ (a++b).take i,t.check=0)/\Ext ad k) (fun r k=>(a++b).length - (r 28).toN) ?_ ?_
 . exact ⟨by simp only [↓al,br,simprocAttr],by simp only [↓al,br,simprocAttr],by simp only [↓al,br,simprocAttr],by simp only [↓al,br,simprocAttr],0,by simp only [↓al,br,simprocAttr]<;>rfl,Nat.zero_le _,fun t au=>(by simp at au),Ext.refl _⟩
 rintro r k ⟨bA,bD,om,mr,i,sT,aq,ir,ka⟩;unfold IV;by_cases aT:i < (a++b).length
 . have g0:((i:Int) < ((a++b).length:Int))=True:=eq_true (by omega);obtain ⟨nK,off,wl,dD,X,iK,ld⟩:=an.dO (Ar.ext ka) (k:=.i64) aT;have oI:=ld k (Ext.refl k);have dw:=iK.one;have b':(a++b)[i].size<=2000:=Nat.le_trans (uE (List.getElem_mem aT)) afH;obtain ⟨bK,dT,bq,Z⟩:=gM k z4 (cH (a++b)[i] wl);have eR:IntKind.i64.wrap ((i:Int)+1)=((i+1:Nat):Int):=by rw [wrap_i64 (by omega) (by omega)];rfl
   simp +contextual only [bA,bD,om,mr,sT,g0,dD,oI,dT,Z.g,dw.1,dw.2.1,↓al,aK,simprocAttr];refine cF (x9 (a++b)[i] (by omega) _ bK (X.ext bq)) ?_;rintro x bT ⟨rfl,dx⟩;by_cases aC:(a++b)[i].check=0
   . simp +contextual only [bA,bD,om,mr,sT,eq_true aC,eR,↓al,aK,simprocAttr];refine ⟨⟨i+1,rfl,aT,fun t au=>?_,(ka.trans bq).trans dx⟩,by omega⟩;rw [List.take_succ_eq_append_getElem aT] at au;rcases List.mem_append.1 au with au | au
     . exact ir t au
     . rw [List.mem_singleton] at au;rw [au];exact aC
   . have hu:=Xr (a:=a) (b:=b) fun q=>aC (by
      have:=List.getElem_mem aT;rcases List.mem_append.1 this with z | z
      . exact q.2.1 _ z
      . exact q.2.2 _ z)
     simp +contextual only [bA,bD,om,mr,sT,eq_false aC,hu,↓al,aK,simprocAttr];exact ⟨⟨_,rfl,gw.nil _ _⟩,((bL.trans ka).trans bq).trans dx⟩
 have g0:((i:Int) < ((a++b).length:Int))=False:=eq_false (by omega);rw [List.take_of_length_le (by omega)] at ir;have Ka:∀t ∈ a,t.check=0:=fun t au=>ir t (List.mem_append_left _ au);have Kb:∀t ∈ b,t.check=0:=fun t au=>ir t (List.mem_append_right _ au);have hu:=aoj (a:=a) (b:=b) ⟨az,Ka,Kb⟩;have Fx:(a.zip b).length=a.length:=by rw [List.length_zip,az,Nat.min_self]
 have agE:∀p ∈ a.zip b,p.1.lg=true/\p.2.lg=true:=fun p af=>by obtain ⟨b0,b1⟩:=p;have:=List.of_mem_zip af;exact ⟨D9 (Ka _ this.1),D9 (Kb _ this.2)⟩
 have LR:∀g:ah,p9 none g=.val (.map (aj g.next)) (g.new (.mp [] 0)):=fun g=>rfl;have fF:=bL.trans ka;have p_:=fF.next
 obtain ⟨bK,b4,ax,nX,bJ,kR,Bs,aft⟩:∃(bK:ah) (b4:aO),k.new (.mp [] 0)=bK/\aj k.next=b4/\Ext k bK/\iI (fun i=>V.ptr (aj i) 0) bK b4 ([]:List (Int × Nat))/\h.next<=dr b4/\¬Old h b4:=⟨_,_,rfl,rfl,(Ext.refl k).new _,iI.new _ k,by rw [cm];exact p_,Ga p_⟩
 simp +contextual only [bA,bD,om,mr,sT,g0,LR,ax,nX,eD,dk.1,dk.2.1,↓al,aK,simprocAttr];have xJ:dj (Old h) h 4 (a.map an.enc) qm:=tm.oi;have u7:dj (Old h) h 4 (b.map an.enc) pv:=lp.oi;refine gD (fun r k=>r 0=qm/\r 1=pv/\r 8=.map b4/\r 38=.int .i64 a.length/\∃(i:Nat) (G:bm × List (Nat × Nat)) (π:Nat->Nat) (bO:Nat->V) (w:Nat->Nat) (bE:Nat->Int) (ρ:Nat->Nat),r 39=.int .i64 i/\i<=a.length/\G=js ((a.zip b).take i) (⟨[],[]⟩,[])/\Iq h.next k G.1 G.2 π bO w bE ρ b4/\
  G.1.N<=cN (a.take i)+cN (b.take i)/\lW G.1<=cN (a.take i)+cN (b.take i)/\G.1.vars.length<=G.1.N/\Ext h k) (fun r k=>a.length - (r 39).toN) ?_ ?_
 . refine ⟨by simp only [bA,↓al,br,simprocAttr],by simp only [bD,↓al,br,simprocAttr],by simp only [↓al,br,simprocAttr],by simp only [↓al,br,simprocAttr],0,(⟨[],[]⟩,[]),fun i=>i,fun _=>.bU,fun i=>i,fun _=>0,fun i=>i,by simp only [↓al,br,simprocAttr]<;>rfl,Nat.zero_le _,rfl,⟨bm.dz.empty,⟨fun _=>rfl,fun _ h=>h,fun _ _=>rfl,fun a aJ e=>(by simp at e)⟩,⟨fun a b e=>e ▸ .refl a,fun p af=>(by cases af),fun p af=>(by cases af),fun a b aJ b7 e aa=>(by simp at aa)⟩,fun r aG=>absurd aG (Nat.not_lt_zero _),Way.refl,fun i aJ e=>(by simp at e),⟨⟨fun i aJ e=>(by simp at e),fun i aJ e=>(by simp at e),fun i j aq=>absurd aq (Nat.not_lt_zero _),fun i j aq=>absurd aq (Nat.not_lt_zero _)⟩,kR,fun i aq=>absurd aq (Nat.not_lt_zero _),fun i aq=>absurd aq (Nat.not_lt_zero _)⟩,fun i aq=>absurd aq (Nat.not_lt_zero _),Bs⟩,?_,?_,Nat.le_refl _,fF.trans bJ⟩
   . simp [bm.N]
   . simp [lW]
 clear bA bD om mr sT g0 ax bJ kR nX ka fF p_ bK r;clear k;rintro r k ⟨bA,bD,dE,oo,i,G,π,bO,w,bE,ρ,sU,aq,tN,U,apv,apw,Pk,ka⟩;unfold IW;by_cases aT:i<a.length
 . have g0:((i:Int) < (a.length:Int))=True:=eq_true (by omega);have E9:i<b.length:=by omega
   have Fw:(a.zip b)[i]? =some (a[i],b[i]):=by rw [List.getElem?_zip_eq_some];exact ⟨List.getElem?_eq_getElem aT,List.getElem?_eq_getElem E9⟩
   have agD:(a.zip b).take (i+1)=(a.zip b).take i++[(a[i],b[i])]:=by
    have Fv:i < (a.zip b).length:=by omega
    rw [List.take_succ_eq_append_getElem Fv];have:=List.getElem?_eq_getElem Fv;rw [this] at Fw;rw [Option.some.inj Fw]
   have R':js ((a.zip b).take (i+1)) (⟨[],[]⟩,[])=ps G (a[i],b[i]):=by rw [agD,ZB,<-tN]
   have Tc:=D9 (Ka _ (List.getElem_mem aT));have y8:=D9 (Kb _ (List.getElem_mem E9));have aqW:=Gv aT;have aqX:=Gv E9;have aqY:=w5 a (i+1);have aqZ:=w5 b (i+1);obtain ⟨apx,aqO,arc,o4,OR,Zd,T2⟩:=an.dO xJ (k:=.i64) aT;obtain ⟨nK,aqP,ard,agH,OS,Ze,T3⟩:=an.dO u7 (k:=.i64) E9;have hV:=Zd.one;have c7:=Ze.one;have eR:IntKind.i64.wrap ((i:Int)+1)=((i+1:Nat):Int):=by rw [wrap_i64 (by omega) (by omega)];rfl
   have Jk:=T2 k ka;have dp:=T3 k ka;simp +contextual only [bA,bD,dE,oo,sU,g0,o4,agH,Jk,dp,↓al,aK,simprocAttr];have oZ:∀j,j<G.1.N->w j<G.1.N:=fun j a6=>Way.lt U.S U.CS a6;have Lg:∀j,G.1.N<=j->w j=j:=fun j a6=>Way.root U.S U.CS (U.S.out j a6);have b8:∀b,Old h b->H' b4 b:=fun b q z=>aft (z ▸ q);refine cF (L6 a[i].size a[i] (Nat.le_refl _) (by omega) Tc G.1 π bO w bE b4 _ k U.W oZ Lg ((OR.ext ka).hJ b8) U.pm) ?_;rintro bq bK ⟨CX,FM,F9,rfl,gX,YA,m1⟩;obtain ⟨JS,Dx,aoP,apO⟩:=kv a[i] G.1 Tc U.W;have apU:=JS.n;have ej:Ext h bK:=ka.j5 m1 fun b q=>by rw [show b=b4 from q];exact Bs
   have Jl:=T2 bK ej;have Jm:=T3 bK ej;simp +contextual only [Jl,Jm,↓al,aK,simprocAttr];refine cF (L6 b[i].size b[i] (Nat.le_refl _) (by omega) y8 (a[i].add G.1).1 CX FM w F9 b4 _ bK Dx (fun j a6=>?_) (fun j a6=>Lg j (by omega)) ((OS.ext ej).hJ b8) gX) ?_
   . by_cases z:j<G.1.N
     . have:=oZ j z;omega
     . rw [Lg j (by omega)];exact a6
   rintro dx bT ⟨l0,q_,Cf,rfl,fr,qz,m2⟩;obtain ⟨JT,tu,ao3,adt⟩:=kv b[i] _ y8 Dx;have adH:=JT.n;have X5:Ext h bT:=ej.j5 m2 fun b q=>by rw [show b=b4 from q];exact Bs
   have JR:=JS.trans JT;have pE:=U.S.grow JR;have ck:=(U.J.grow U.S tu JR).push (a[i].add G.1).2 (b[i].add (a[i].add G.1).1).2;have H9:=YA.trans qz m1.next JS JT
   have lp:=l4.grow H9 tu U.S U.L JR;have aoQ:(a[i].add G.1).2 < (b[i].add (a[i].add G.1).1).1.N:=by omega
   have al':CX (a[i].add G.1).2=l0 (a[i].add G.1).2:=(qz.pi _ aoP).symm;have aq5:=Nj a[i] G.1;have aq6:=Nj b[i] (a[i].add G.1).1;have vS:=aoO (g:=(b[i].add (a[i].add G.1).1).1) (ρ:=ρ);have Ve:∀j,j < (b[i].add (a[i].add G.1).1).1.N->h.next<=l0 j:=fun j a6=>by
    by_cases z:j<G.1.N
    . rw [H9.pi j z];exact U.w0 j z
    . have:=H9.A9 j (by omega) a6;have:=ka.next;omega
   simp +contextual only [al',↓al,aK,simprocAttr];refine cF (aob tu (by omega) fr.fX pE U.CS lp ck aoQ ao3) ?_;rintro v en ⟨m3,iE,akQ,ao9,hy,Io,l7,t_⟩;have fF:Ext h en:=X5.j5 m3 fun b ⟨j,a6,q⟩=>by rw [q,cm];exact Ve j a6
   have er:a[i].po:=JB _ _ _ (Nat.le_refl _) OR;have cW:b[i].po:=JB _ _ _ (Nat.le_refl _) OS;rcases t_ with ⟨rfl,jV⟩ | ⟨rfl,dd,Yp⟩
   . have aeJ:lb (js (a.zip b) (⟨[],[]⟩,[])).1 (js (a.zip b) (⟨[],[]⟩,[])).2=([],290):=by
      refine GU ?_;have af7:js (a.zip b) (⟨[],[]⟩,[])=js ((a.zip b).drop (i+1)) (ps G (a[i],b[i])):=by rw [<-R',<-ZA,List.take_append_drop]
      rw [af7];obtain ⟨b6,z2,z3⟩:=OY ((a.zip b).drop (i+1)) (ps G (a[i],b[i])) (fun p af=>agE p (List.mem_of_mem_drop af)) tu;exact jV.mono b6 z3
     simp +contextual only [bA,bD,dE,oo,sU,hu,aeJ,Jk,dp,Jl,Jm,↓al,aK,simprocAttr];exact ⟨⟨_,rfl,gw.nil _ _⟩,fF⟩
   . simp +contextual only [bA,bD,dE,oo,sU,eR,Jk,dp,Jl,Jm,↓al,aK,simprocAttr];have aey:(ps G (a[i],b[i])).1.N<=cN (a.take (i+1))+cN (b.take (i+1)):=by show (b[i].add (a[i].add G.1).1).1.N<=_;omega
     have aez:lW (ps G (a[i],b[i])).1<=cN (a.take (i+1))+cN (b.take (i+1)):=by show lW (b[i].add (a[i].add G.1).1).1<=_;omega
     refine ⟨⟨i+1,ps G (a[i],b[i]),l0,q_,iE,akQ,ao9,rfl,aT,R'.symm,⟨tu,Io,dd,Yp,l7,Iy _ _ cW (Iy _ _ er U.po),⟨hy,fr.mp.mod m3 fun ⟨j,a6,q⟩=>fr.s1 j a6 q,fr.s1,fr.s2⟩,Ve,Bs⟩,aey,aez,Iz _ _ (Iz _ _ Pk),fF⟩,by omega⟩
 . have g0:((i:Int) < (a.length:Int))=False:=eq_false (by omega);rw [List.take_of_length_le (by omega)] at tN;have b0:=w5 a i;have b1:=w5 b i;simp +contextual only [bA,bD,dE,oo,sU,g0,↓al,aK,simprocAttr];refine aom (B:=h.next) ka rfl (by omega) Pk U (by simp only [dE,↓al,br,simprocAttr]) fun r k eP dR e_ O E=>?_;rw [tN] at e_ O;simp only [dR,e_,hu,↓al,br,simprocAttr];exact ⟨trivial,⟨eP,rfl,O⟩,E⟩
section
variable [Lay]
abbrev akD (aJ:dy) (l:V) (w:Nat):List V:=[.int .i64 (if aJ.cd=true then 2 else 1),.int .i64 aJ.n,.str aJ.s,.bU,l,.int .i64 w]
def akY (g:bm) (p8:Nat->V) (w:Nat->Nat):List (List V):=g.nodes.mapIdx fun i aJ=>akD aJ (p8 i) (w i)
def aov (l:List (Int × Nat)):List (List V):=l.map fun p=>[.int .i64 p.1,.int .i64 0,.int .i64 p.2,.str [],.bU]
structure apa (B:Nat) (h:ah) (nP:Nat) (g:bm) (p8:Nat->V) (w:Nat->Nat) (bad:Bool) (sL s_:V):Prop where
 aF:Has h nP [sL,s_,.bool bad]
 no:dW B h 6 sL g.N (akY g p8 w).flatten
 ara:dW B h 5 s_ g.vars.length (aov g.vars).flatten
 dO:∀(i:Nat) (aJ:dy),g.nodes[i]? =some aJ->gy h 1 (p8 i) aJ.kids.length (q9 (aJ.kids.map fun (x:Nat)=>(x:Int)))/\sX (p8 i)/\aJ.kids.length<=top
 wH:∀(i:Nat) (b:aO),i<g.N->(p8 i).aW b->B<=dr b/\¬sL.aW b/\¬s_.aW b/\b≠aj nP
 adq:B<=nP
 aqJ:¬sL.aW (aj nP)
 aq':¬s_.aW (aj nP)
 aqK:∀b,sL.aW b->¬s_.aW b
variable {B:Nat} {h ab:ah} {nP:Nat} {g:bm} {p8:Nat->V} {w:Nat->Nat} {bad:Bool} {sL s_:V}
end
section
variable [Lay]
variable {B:Nat} {h ab:ah} {nP:Nat} {g:bm} {p8:Nat->V} {w:Nat->Nat} {bad:Bool} {sL s_:V}
end
structure api (g cQ:bm) (p8 Uo:Nat->V) (sL akZ s_ aow:V) (B:Nat):Prop where
 p8:∀i,i<g.N->Uo i=p8 i
 A7:∀(i:Nat) (b:aO),g.N<=i->i<cQ.N->(Uo i).aW b->B<=dr b
 b8:∀b,akZ.aW b->sL.aW b\/B<=dr b
 pv:∀b,aow.aW b->s_.aW b\/B<=dr b
abbrev XS:List V:=[.int .i64 0,.int .i64 0,.str [],.bU,.bU,.int .i64 0]
section
variable [Lay]
end
section
variable [Lay]
end
structure RgOk (g:bm) (R:Nat->Nat->Prop) (st:Nat->Nat) (opens:List Nat):Prop where
 one:∀i,i<g.N->(st i=1↔i ∈ opens)
 two:∀i,i<g.N->st i=2->∃t,du g R i t
 le:∀i,i<g.N->st i<=2
structure apl (g:bm) (R:Nat->Nat->Prop) (iF ds:Nat->Nat):Prop where
 ks:∀i,i<g.N->iF i≠0->∃t,du g R i t/\iF i=min t.size 4097/\ds i=t.deep
section
variable [Lay]
end
end
end Go.Proofs.YthemdhlheglhoaaGreatDoor
