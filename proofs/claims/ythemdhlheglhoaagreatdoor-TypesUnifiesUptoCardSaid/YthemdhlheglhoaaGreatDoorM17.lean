/- The chapter's functions, walked by the abstract machine: plain lemmas, no condition. Printed by a program from longer texts: names made short. -/
import Derived.Test.YthemdhlheglhoaaGreatDoorM15
import Derived.Test.YthemdhlheglhoaaGreatDoorM16
import Derived.Test.YthemdhlheglhoaaGreatDoorM8
import Derived.Test.YthemdhlheglhoaaGreatDoorM4
set_option linter.unusedSectionVars false
set_option linter.unusedSimpArgs false
set_option linter.unusedVariables false
set_option maxHeartbeats 64000000
noncomputable section
namespace Go.Proofs.YthemdhlheglhoaaGreatDoor
section
open Go a7
section
variable {g:bp} {E:List (Nat × Nat)}
theorem Eb {p q:Int × _} (h:gk g E p=some q):q.1=p.1/\q.2=rR g E p.2:=by
 unfold gk at h
 split at h
 . cases h
 . cases h;exact ⟨rfl,rfl⟩
theorem He (W:g.ee) {p:Int × Nat} (h:p ∈ g.vars):∃aN,g.nodes[p.2]? =some aN/\aN.cj=false/\aN.n=p.1:=by obtain ⟨n,j⟩:=p;exact W.hI _ _ (w0 W.keys h)
theorem T0 (W:g.ee):(keyed g).Perm g.vars:=by
 unfold keyed;refine ((uY _).map _).trans ?_;rw [List.map_map];have:g.vars.map ((fun n=>(n,(ff n g.vars).getD 0)) ∘ Prod.fst)=g.vars:=by
  conv=>rhs;rw [<-List.map_id g.vars]
  refine List.map_congr_left fun p ag=>?_;obtain ⟨n,j⟩:=p;simp [w0 W.keys ag]
 rw [this]
theorem ait (W:g.ee):(keyed g).Pairwise fun a b=>a.1<b.1:=by unfold keyed;rw [List.pairwise_map];have aa:=MY (g.vars.map Prod.fst);have ad:(e6 (g.vars.map Prod.fst)).Nodup:=(uY _).nodup_iff.2 W.keys;have aJ:=aa.and ad;exact aJ.imp fun ⟨a,b⟩=>by simp only;omega
theorem an6 (W:g.ee):(((g.vars).filterMap (gk g E)).map Prod.fst).Nodup:=by
 have h:g.vars.Pairwise fun a b=>a.1≠b.1:=by have:=W.keys;unfold List.Nodup at this;rwa [List.pairwise_map] at this
 unfold List.Nodup;rw [List.pairwise_map];exact h.filterMap _ fun a bu cl b ae bL fc=>by rw [(Eb ae).1,(Eb fc).1];exact cl
theorem an5 (W:g.ee) {cy:hS} (ag:cy.Perm (g.vars.filterMap (gk g E))) (aR:cy.Pairwise fun a b=>a.1<b.1):cy=(keyed g).filterMap (gk g E):=by refine List.Perm.eq_of_pairwise (le:=fun a b=>a.1<b.1) (fun a b _ _ aa ad=>by omega) aR ?_ (ag.trans ((T0 W).filterMap _).symm);exact (ait W).filterMap _ fun a bu cl b ae bL fc=>by rw [(Eb ae).1,(Eb fc).1];exact cl
theorem Xu (W:g.ee) {q:Int × _}:q ∈ (keyed g).filterMap (gk g E)↔q ∈ g.vars.filterMap (gk g E):=((T0 W).filterMap _).mem_iff
theorem anl {ρ:Nat->Nat} (aD:¬mU g E) (W:g.ee) (h:∀i,i<g.N->∃t,dO g (cB g E) i t) (ay:∀(a:Nat) (p:Int × Nat),g.vars[a]? =some p->∀q,gk g E p=some q->q.2.size<=4096/\q.2.deep<=200):jD g E=((keyed g).filterMap (gk g E),0):=by refine WY aD h fun p ag=>?_;rw [Xu W,List.mem_filterMap] at ag;obtain ⟨a,a1,ae⟩:=ag;obtain ⟨i,an⟩:=List.getElem?_of_mem a1;exact ay i a an p ae
theorem WV (aD:¬mU g E) (W:g.ee) (h:∀i,i<g.N->∃t,dO g (cB g E) i t) {p:Int × Nat} {q:Int × _} (ag:p ∈ g.vars) (aC:gk g E p=some q) (ay:¬(q.2.size<=4096/\q.2.deep<=200)):jD g E=([],3):=
 WX aD h ⟨q,(Xu W).2 (List.mem_filterMap.2 ⟨p,ag,aC⟩),ay⟩
theorem Pq {ρ:Nat->Nat} (W:g.ee) (S:eU g ρ) (J:eA g E ρ []) (L:jJ g ρ) {p:Int × Nat} (ag:p ∈ g.vars) (h:ρ p.2=p.2):gk g E p=none:=by obtain ⟨aN,aP,a',cM⟩:=He W ag;have:=Nj J.part (Jk S J L h aP a');obtain ⟨n,j⟩:=p;refine Pr ?_;rw [this,cM]
theorem Pp {ρ:Nat->Nat} (W:g.ee) (S:eU g ρ) (J:eA g E ρ []) (L:jJ g ρ) {p:Int × Nat} (ag:p ∈ g.vars) (h:ρ p.2≠p.2) {t:aL} (aw:dO g (cB g E) p.2 t):gk g E p=some (p.1,t):=by
 obtain ⟨aN,aP,a',cM⟩:=He W ag;have Hb:=Nj J.part aw;obtain ⟨n,j⟩:=p;have b5:=S.lt j (hl aP);obtain ⟨b',ex⟩:=hT b5;obtain ⟨bA,bx,c4⟩:=Xq W S J L aw ex;have cl:rR g E j≠.mk 1 n [] []:=fun q=>by
  rw [Hb] at q;cases c:b'.cj with
  | true=>rw [c,q] at bA;cases bA
  | false=>
    have b2:=(W.var _ b' ex c).2.2.2;have b0:=(W.var _ aN aP a').2.2.2;rw [q] at bx;have:b'.n=aN.n:=by rw [<-bx,cM];rfl
    rw [this,b0] at b2;exact h (Option.some.inj b2).symm
 rw [Po cl,Hb]
end
section
variable [Lay]
theorem anz (N:Nat):h' (fun _=>0) N=List.replicate N (.int .i64 0):=by unfold h';refine List.ext_getElem (by simp) fun i aa ad=>by simp
theorem mk_zero {h:ai} {N:Nat} (bJ:N<=1000000):∃ab,s0 1 [.int .i64 0] (.int .i64 N) (.int .i64 N) h=.val (.slice (aj h.next) 0 N N) ab/\Ext h ab/\cD h.next ab 1 (.slice (aj h.next) 0 N N) N (h' (fun _=>0) N)/\ab.next=h.next+1:=by refine ⟨_,akq bJ,(Ext.refl h).new _,?_,by rw [gN]⟩;rw [anz];refine ⟨by simp,rfl,by rw [cc];exact Nat.le_refl _,gi (by rw [gN];omega),Nat.le_refl _,by unfold top;omega,_,0,false,ni _,by simp,by simp⟩
end
def IW:aW:=
 aW.seq (aW.draw [⟨(some 68),.b1 (.t 6),none,[6]⟩,
  ⟨(some 69),.h8 (.t 68),none,[68]⟩,
  ⟨(some 70),.eJ 0 (.t 69),none,[69]⟩,
  ⟨(some 71),.d_ (.t 70),none,[70]⟩,
  ⟨(some 72),.len .slice (.t 71),none,[71]⟩,
  ⟨(some 73),.s5 1 [(.int .i64 0)] (.t 72) (.t 72),none,[72,72]⟩,
  ⟨(some 74),.b1 (.t 6),none,[6]⟩,
  ⟨(some 75),.h8 (.t 74),none,[74]⟩,
  ⟨(some 76),.eJ 0 (.t 75),none,[75]⟩,
  ⟨(some 77),.d_ (.t 76),none,[76]⟩,
  ⟨(some 78),.len .slice (.t 77),none,[77]⟩,
  ⟨(some 79),.s5 1 [(.int .i64 0)] (.t 78) (.t 78),none,[78,78]⟩,
  ⟨(some 12),.b1 (.t 73),none,[73]⟩,
  ⟨(some 13),.b1 (.t 79),none,[79]⟩] [(3,[14]),(9,[14])])
 (aW.seq (aW.aq [⟨(some 14),.b1 (.c .bF),none,[]⟩])
 (aW.seq (aW.seq (aW.aq [⟨(some 15),.b1 (.c (.int .i64 0)),none,[]⟩])
  (aW.block 4 (aW.loop IT)))
 (aW.seq (aW.seq (aW.aq [⟨(some 19),.b1 (.c (.int .i64 0)),none,[]⟩])
  (aW.block 6 (aW.loop IU)))
 (aW.seq (aW.aq [⟨(some 155),.b1 (.t 14),none,[14]⟩,
   ⟨(some 156),.call 85 [(.t 155)],none,[155]⟩,
   ⟨(some 4),.b1 (.t 156),none,[156]⟩,
   ⟨(some 5),.b1 (.c (.int .i64 0)),none,[]⟩])
 (aW.ret)))))
def IV:aW:=
 aW.seq (aW.seq (aW.aq [⟨(some 45),.b1 (.t 6),none,[6]⟩,
  ⟨(some 46),.h8 (.t 45),none,[45]⟩,
  ⟨(some 47),.eJ 2 (.t 46),none,[46]⟩,
  ⟨(some 48),.d_ (.t 47),none,[47]⟩])
  (aW.cond (.t 48)
   (aW.seq (aW.aq [⟨(some 4),.b1 (.c .bF),none,[]⟩,
     ⟨(some 5),.b1 (.c (.int .i64 290)),none,[]⟩])
    (aW.ret))
   (aW.skip)))
 (aW.seq (aW.aq [⟨(some 49),.b1 (.t 6),none,[6]⟩,
   ⟨(some 50),.h8 (.t 49),none,[49]⟩,
   ⟨(some 51),.eJ 0 (.t 50),none,[50]⟩,
   ⟨(some 52),.d_ (.t 51),none,[51]⟩,
   ⟨(some 53),.len .slice (.t 52),none,[52]⟩,
   ⟨(some 54),.s5 1 [(.int .i64 0)] (.t 53) (.t 53),none,[53,53]⟩,
   ⟨(some 10),.b1 (.t 54),none,[54]⟩])
 (aW.seq (aW.seq (aW.aq [⟨(some 11),.b1 (.c (.int .i64 0)),none,[]⟩])
  (aW.block 2 (aW.loop IS)))
 IW))
theorem abl:Qz=aW.seq (aW.aq [⟨(some 4),.b1 (.c .bF),none,[]⟩,
 ⟨(some 5),.b1 (.c (.int .i64 0)),none,[]⟩])
 (aW.seq (aW.aq [⟨(some 21),.build [.bF,.bF,(.bool false)] [],none,[]⟩,
   ⟨(some 22),.box (.t 21),none,[21]⟩,
   ⟨(some 6),.b1 (.t 22),none,[22]⟩])
 (aW.seq (aW.seq (aW.aq [⟨(some 7),.b1 (.c (.int .i64 0)),none,[]⟩])
  (aW.block 0 (aW.loop IQ)))
 IV)):=rfl
theorem eM.Ih [Lay] {B:Nat} {h:ai} {bO:Nat} {g:bp} {bQ:Nat->V} {w:Nat->Nat} {bad:Bool} {b3 b8:V} (H:eM B h bO g bQ w bad b3 b8) {n N:Nat} (aV:h.next<=n):Ae bO g bQ b3 b8 (.slice (aj n) 0 N N):=by
 intro b q;have ae:b=aj n:=q;have bG:∀c,Old h c->b≠c:=fun c aD z=>by rw [<-z,ae] at aD;unfold Old at aD;rw [cc] at aD;omega
 refine ⟨bG _ (gi H.aB.lt),fun z=>bG b (H.no.v.bG z) rfl,fun z=>bG b (H.kb.v.bG z) rfl,fun i an z=>?_⟩;obtain ⟨aN,e⟩:=hT an;exact bG b ((H.c6 i aN e).1.bG z) rfl
theorem amL {B:Nat} {aX h:ai} {bO:Nat} {g:bp} {E:List (Nat × Nat)} {bQ:Nat->V} {w ρ:Nat->Nat} {b3 b8:V} {r:bd} {Q:dm->bd->ai->Prop}
 (fp:Ext aX h) (su:B=aX.next) (wo:g.N<=1000000) (l2:g.vars.length<=g.N) (W:g.ee) (S:eU g ρ) (J:eA g E ρ []) (L:jJ g ρ) (e2:Way w ρ) (kA:q3 g) (H:eM B h bO g bQ w false b3 b8) (dz:∀i,i<g.N->∃t,dO g (cB g E) i t) (cP:r 6=.ptr (aj bO) 0)
 (cO:∀(r:bd) (k:ai) (c8:V),r 4=c8->r 5=.int .i64 (jD g E).2->cJ Any k 5 ((jD g E).1.map lR) c8->Ext aX k->Q .ret r k):bo Tryz.prog [.c IW] .normal r h Q:=by
 have gF:=J.part;have aD:=J.kf;have JN:=fp.next
 have lW:=H.aB.lt;have on:=H.no.v.one;have dG:=H.kb.v.one;have j2:=H.no.v.len;have Ga:=H.kb.v.len;obtain ⟨aa,ar,aP,Ia,cS⟩:=mk_zero (h:=h) (N:=g.N) (by omega);obtain ⟨ad,av,a',h1,fP⟩:=mk_zero (h:=aa) (N:=g.N) (by omega);have H1:=H.ext aP;have cu:=H1.ext a';unfold IW;simp +contextual only [cP,H.aB.g,H1.aB.g,cu.aB.g,j2,ar,av,on.1,on.2.1,↓al,aE,simprocAttr];have o0:=H.Ih (N:=g.N) (Nat.le_refl _);have oZ:=H.Ih (n:=aa.next) (N:=g.N) (by omega);have tn:∀b,(V.slice (aj h.next) 0 g.N g.N).aM b->¬(V.slice (aj aa.next) 0 g.N g.N).aM b:=fun b q z=>by
  have gz:b=aj h.next:=q
  have aee:b=aj aa.next:=z
  have:=fu (gz.symm.trans aee);omega
 have ke:cD B ad 1 (.slice (aj h.next) 0 g.N g.N) g.N (h' (fun _=>0) g.N):=(Ia.ext a').mono (by omega);have N3:cD B ad 1 (.slice (aj aa.next) 0 g.N g.N) g.N (h' (fun _=>0) g.N):=h1.mono (by omega);obtain ⟨jk,sR⟩:∃jk,V.slice (aj h.next) 0 g.N g.N=jk:=⟨_,rfl⟩;obtain ⟨lQ,J6⟩:∃lQ,V.slice (aj aa.next) 0 g.N g.N=lQ:=⟨_,rfl⟩;have Ab:∀b,jk.aM b->aX.next<=cI b:=fun b q=>by rw [<-sR] at q;rw [show b=aj h.next from q,cc];omega
 have I_:∀b,lQ.aM b->aX.next<=cI b:=fun b q=>by rw [<-J6] at q;rw [show b=aj aa.next from q,cc];omega
 rw [sR] at o0 tn ke;rw [J6] at oZ tn N3;simp only [sR,J6];have cp:=(fp.trans aP).trans a';refine eY (fun r k=>r 6=.ptr (aj bO) 0/\r 12=jk/\r 13=lQ/\r 14=.bF/\∃(i:Nat) (fA ds:Nat->Nat),r 15=.int .i64 i/\i<=g.vars.length/\cD B k 1 jk g.N (h' fA g.N)/\cD B k 1 lQ g.N (h' ds g.N)/\DS g (cB g E) fA ds/\(∀(a:Nat) (p:Int × Nat),a<i->g.vars[a]? =some p->∀q,gk g E p=some q->q.2.size<=4096/\q.2.deep<=200)/\Mod (fun b=>jk.aM b\/lQ.aM b) ad k) (fun r _=>g.vars.length - (r 15).toN) ?_ ?_
 . exact ⟨by simp only [cP,↓al,bs,simprocAttr],by simp only [↓al,bs,simprocAttr],by simp only [↓al,bs,simprocAttr],by simp only [↓al,bs,simprocAttr],0,fun _=>0,fun _=>0,by simp only [↓al,bs,simprocAttr]<;>rfl,by omega,ke,N3,⟨fun i an q=>absurd rfl q⟩,fun a p a1=>by omega,Mod.refl _ _⟩
 clear cP;rintro r k ⟨cP,pC,uQ,ji,i,fA,ds,uR,an,vy,kO,pv,E9,gb⟩;have hj:eM B k bO g bQ w false b3 b8:=cu.mod gb (fun q=>q.elim (fun q=>(o0 _ q).1 rfl) fun q=>(oZ _ q).1 rfl) (fun b q z=>z.elim (fun z=>(o0 b z).2.1 q) fun z=>(oZ b z).2.1 q) (fun b q z=>z.elim (fun z=>(o0 b z).2.2.1 q) fun z=>(oZ b z).2.2.1 q) fun i b an q z=>z.elim (fun z=>(o0 b z).2.2.2 i an q) fun z=>(oZ b z).2.2.2 i an q;have eL:Ext aX k:=cp.hJ gb fun b q=>q.elim (Ab b) (I_ b);unfold IT;by_cases aO:i<g.vars.length
 . have g0:((i:Int) < (g.vars.length:Int))=True:=eq_true (by omega);have e:=List.getElem?_eq_getElem (l:=g.vars) (i:=i) aO;obtain ⟨b,off,ct,ae,ld⟩:=hj.Nw e;obtain ⟨qk,eK⟩:=ld k fun _ _=>rfl;have hm:=List.getElem_mem aO;obtain ⟨aN,Jq,acW,acX⟩:=He W hm;have aU:=hl Jq;have dk:=jj aO (by omega);simp +contextual only [cP,pC,uQ,ji,uR,hj.aB.g,Ga,g0,ct,eK,dG.1,dG.2.1,↓al,aE,simprocAttr];refine cz (xq hj S e2 aU) ?_;rintro x bA ⟨rfl,rfl⟩;by_cases c:ρ g.vars[i].2=g.vars[i].2
   . have fX:((ρ g.vars[i].2:Int)=(g.vars[i].2:Int))=True:=eq_true (by omega);simp +contextual only [cP,pC,uQ,ji,uR,fX,dk,↓al,aE,simprocAttr];refine ⟨⟨i+1,fA,ds,rfl,aO,vy,kO,pv,fun a p a1 ag q aC=>?_,gb⟩,by omega⟩;by_cases z:a=i
     . subst z;rw [e] at ag;cases ag;rw [Pq W S J L hm c] at aC;cases aC
     . exact E9 a p (by omega) ag q aC
   . have fX:((ρ g.vars[i].2:Int)=(g.vars[i].2:Int))=False:=eq_false (by omega);obtain ⟨t,aw⟩:=dz _ aU;have nm:=Pp W S J L hm c aw;simp +contextual only [cP,pC,uQ,ji,uR,fX,↓al,aE,simprocAttr];refine cz (WB W S J e2 o0 oZ tn (by omega) t.size t (Nat.le_refl _) _ fA ds bA aU aw hj vy kO pv) ?_;rintro x bx ⟨rfl,m2,aqF,NM,Ji,mq,iI,xc⟩;have acL:=Nk W S J _ t (Nat.le_refl _) [] _ aU aw List.nodup_nil (fun r aF=>by cases aF);by_cases bP:t.size<=4096
     . by_cases bY:t.deep<=200
       . have g1:((4096:Int) < ((min t.size 4097:Nat):Int))=False:=eq_false (by omega);have g2:((200:Int) < ((t.deep:Nat):Int))=False:=eq_false (by omega);simp +contextual only [cP,pC,uQ,ji,uR,g1,g2,dk,↓al,aE,simprocAttr];refine ⟨⟨i+1,NM,Ji,rfl,aO,mq,iI,xc,fun a p a1 ag q aC=>?_,gb.trans m2⟩,by omega⟩;by_cases z:a=i
         . subst z;rw [e] at ag;cases ag;rw [nm] at aC;cases aC;exact ⟨bP,bY⟩
         . exact E9 a p (by omega) ag q aC
       . have g1:((4096:Int) < ((min t.size 4097:Nat):Int))=False:=eq_false (by omega);have g2:((200:Int) < ((t.deep:Nat):Int))=True:=eq_true (by omega);have aR:=WV aD W dz hm nm fun q=>bY q.2;simp +contextual only [cP,pC,uQ,ji,uR,g1,g2,↓al,aE,simprocAttr];exact cO _ _ .bF (by simp only [↓al,bs,simprocAttr]) (by rw [aR];simp only [↓al,bs,simprocAttr]) (by rw [aR];exact cJ.nil _ _ _) (eL.hJ m2 fun b q=>q.elim (Ab b) (I_ b))
     . have g1:((4096:Int) < ((min t.size 4097:Nat):Int))=True:=eq_true (by omega);have aR:=WV aD W dz hm nm fun q=>bP q.1;simp +contextual only [cP,pC,uQ,ji,uR,g1,↓al,aE,simprocAttr];exact cO _ _ .bF (by simp only [↓al,bs,simprocAttr]) (by rw [aR];simp only [↓al,bs,simprocAttr]) (by rw [aR];exact cJ.nil _ _ _) (eL.hJ m2 fun b q=>q.elim (Ab b) (I_ b))
 have g0:((i:Int) < (g.vars.length:Int))=False:=eq_false (by omega);have aR:=anl (ρ:=ρ) aD W dz fun a p ag q aC=>E9 a p (by have:=(List.getElem?_eq_some_iff.1 ag).1;omega) ag q aC;simp +contextual only [cP,pC,uQ,ji,uR,hj.aB.g,Ga,g0,dG.1,dG.2.1,↓al,aE,simprocAttr];refine eY (fun r bj=>r 6=.ptr (aj bO) 0/\∃(i:Nat) (v:V),r 19=.int .i64 i/\r 14=v/\i<=g.vars.length/\eN bj (eB k.next bj.next) ((g.vars.take i).filterMap (gk g E)) v/\Ext k bj) (fun r _=>g.vars.length - (r 19).toN) ?_ ?_
 . exact ⟨by simp only [cP,↓al,bs,simprocAttr],0,.bF,by simp only [↓al,bs,simprocAttr]<;>rfl,by simp only [ji,↓al,bs,simprocAttr],by omega,by simpa using eN.nil _ _,Ext.refl k⟩
 clear cP pC uQ ji uR r;rintro r bj ⟨cP,i,v,CW,ji,an,O,Am⟩;have fh:=hj.ext Am;have Hk:=O.one;have aqI:=Am.next
 have Fq:=H.aB.lt;have aqG:=eL.next
 have yR:h.next<=k.next:=by have:=gb.next;have:=aP.next;have:=a'.next;omega
 unfold IU;by_cases aO:i<g.vars.length
 . have g0:((i:Int) < (g.vars.length:Int))=True:=eq_true (by omega);have e:=List.getElem?_eq_getElem (l:=g.vars) (i:=i) aO;obtain ⟨b,off,ct,ae,ld⟩:=fh.Nw e;obtain ⟨qk,eK⟩:=ld bj fun _ _=>rfl;have hm:=List.getElem_mem aO;obtain ⟨aN,Jq,acW,acX⟩:=He W hm;have aU:=hl Jq;have dk:=jj aO (by omega);have jd:=Ng (gk g E) e;simp +contextual only [cP,ji,CW,fh.aB.g,Ga,g0,ct,eK,dG.1,dG.2.1,↓al,aE,simprocAttr];refine cz (xq fh S e2 aU) ?_;rintro x bA ⟨rfl,rfl⟩;by_cases c:ρ g.vars[i].2=g.vars[i].2
   . have fX:((ρ g.vars[i].2:Int)=(g.vars[i].2:Int))=True:=eq_true (by omega);simp +contextual only [cP,ji,CW,fX,dk,↓al,aE,simprocAttr];refine ⟨⟨i+1,v,rfl,rfl,aO,?_,Am⟩,by omega⟩;rw [jd,Pq W S J L hm c];simpa using O
   . have fX:((ρ g.vars[i].2:Int)=(g.vars[i].2:Int))=False:=eq_false (by omega);obtain ⟨t,aw⟩:=dz _ aU;have nm:=Pp W S J L hm c aw;have cr:=(E9 i _ (by omega) e _ nm).1;simp +contextual only [cP,ji,CW,fX,fh.aB.g,ct,qk,dG.1,dG.2.1,↓al,aE,simprocAttr];refine cz (Ww W S J L e2 kA t.size t (Nat.le_refl _) (by simp only [] at cr;omega) _ bA aU aw fh) ?_;rintro x bx ⟨u,rfl,U,fk,sn⟩;have rE:=sn.next
     have rI:=U.one;have nZ:=O.ext sn;have Oc:=fh.ext sn;obtain ⟨ajs,aqn⟩:=ld bx fun b q=>sn.get b (fh.kb.v.bG q);obtain ⟨c9,c4,bZ,bX,b_,gV⟩:=nZ.add (t:=(g.vars[i].1,t)) (T:=eB bA.next bx.next) (u:=u) U (fun b q z=>by unfold eB at q z;omega) (fun b q=>by unfold eB at q;unfold Old;omega) (fun b q=>by unfold eB at q;unfold Old;omega) (by have:=List.length_filterMap_le (gk g E) (g.vars.take i);rw [List.length_take] at this;unfold top;omega) fk;have kp:=bX.one;have XL:∀b,v.aM b->k.next<=cI b:=fun b q=>by have:=O.bh b q;unfold eB at this;omega
     have akN:=b_.next
     have cM:Ext k c4:=(Am.trans sn).hJ b_ XL;have Yo:=hj.ext cM;obtain ⟨ajt,aqo⟩:=ld c4 fun b q=>(b_.get b (Oc.kb.v.bG q) fun z=>by have:=XL b z;have:=hj.kb.v.bG q;unfold Old at this;omega).trans (sn.get b (fh.kb.v.bG q));have adk:(bx.next=bO)=False:=eq_false (by omega);have yu:(aj bx.next=b)=False:=eq_false fun q=>by have:=fh.kb.v.bG ae;rw [<-q] at this;unfold Old at this;rw [cc] at this;omega
     simp +contextual only [adk,yu,if_false,cP,ji,CW,fh.aB.g,Oc.aB.g,Yo.aB.g,ct,qk,ajs,ajt,dG.1,dG.2.1,rI.1,rI.2.1,rI.2.2,bZ,Hk.1,Hk.2.1,kp.1,kp.2.1,dk,↓al,aE,simprocAttr];refine ⟨⟨i+1,c9,rfl,rfl,aO,?_,cM⟩,by omega⟩;rw [jd,nm];exact bX.jG fun b q=>by unfold eB at q ⊢;rcases q with q | q | q<;>omega
 have g0:((i:Int) < (g.vars.length:Int))=False:=eq_false (by omega);rw [List.take_of_length_le (by omega)] at O;simp +contextual only [cP,ji,CW,fh.aB.g,Ga,g0,dG.1,dG.2.1,Hk.1,Hk.2.1,↓al,aE,simprocAttr];refine cz (ano _ (by have:=List.length_filterMap_le (gk g E) g.vars;omega) (an6 W) v bj (O.fU fun _ _=>trivial)) ?_;rintro x bx ⟨cy,ag,af_,X,cM⟩;have aC:=an5 W ag af_;rw [aC] at X;have fx:=X.one;simp +contextual only [fx.1,fx.2.1,↓al,aE,simprocAttr];exact cO _ _ x (by simp only [↓al,bs,simprocAttr]) (by rw [aR];simp only [↓al,bs,simprocAttr]) (by rw [aR];exact X) ((eL.trans Am).trans cM)
theorem amK {B:Nat} {aX h:ai} {bO:Nat} {g:bp} {E:List (Nat × Nat)} {bQ:Nat->V} {w ρ:Nat->Nat} {bad:Bool} {b3 b8:V} {r:bd} {Q:dm->bd->ai->Prop}
 (fp:Ext aX h) (su:B=aX.next) (wo:g.N<=1000000) (l2:g.vars.length<=g.N) (W:g.ee) (S:eU g ρ) (J:nV g E ρ bad []) (L:jJ g ρ) (e2:Way w ρ) (kA:q3 g) (H:eM B h bO g bQ w bad b3 b8) (cP:r 6=.ptr (aj bO) 0)
 (cO:∀(r:bd) (k:ai) (c8:V),r 4=c8->r 5=.int .i64 (jD g E).2->cJ Any k 5 ((jD g E).1.map lR) c8->Ext aX k->Q .ret r k):bo Tryz.prog [.c IV] .normal r h Q:=by
 have JN:=fp.next
 have on:=H.no.v.one;have j2:=H.no.v.len;unfold IV;rcases J with ⟨rfl,aD⟩ | ⟨rfl,J⟩
 . have aR:=WW aD;simp +contextual only [cP,H.aB.g,↓al,aE,simprocAttr];exact cO _ _ .bF (by simp only [↓al,bs,simprocAttr]) (by rw [aR];simp only [↓al,bs,simprocAttr]) (by rw [aR];exact cJ.nil _ _ _) fp
 obtain ⟨aa,ar,aP,Ia,cS⟩:=mk_zero (h:=h) (N:=g.N) (by omega);have H1:=H.ext aP;have aD:=J.kf;simp +contextual only [cP,H.aB.g,j2,ar,on.1,on.2.1,↓al,aE,simprocAttr];have ap:=H.Ih (N:=g.N) (Nat.le_refl _);have ke:cD B aa 1 (.slice (aj h.next) 0 g.N g.N) g.N (h' (fun _=>0) g.N):=Ia.mono (by omega);obtain ⟨jk,sR⟩:∃jk,V.slice (aj h.next) 0 g.N g.N=jk:=⟨_,rfl⟩;have Ab:∀b,jk.aM b->aX.next<=cI b:=fun b q=>by rw [<-sR] at q;rw [show b=aj h.next from q,cc];omega
 rw [sR] at ap ke;simp only [sR];have ez:=fp.trans aP;refine eY (fun r k=>r 6=.ptr (aj bO) 0/\r 10=jk/\∃(i:Nat) (st:Nat->Nat),r 11=.int .i64 i/\i<=g.N/\cD B k 1 jk g.N (h' st g.N)/\RgOk g (cB g E) st []/\(∀j,j<i->∃t,dO g (cB g E) j t)/\Mod jk.aM aa k) (fun r _=>g.N - (r 11).toN) ?_ ?_
 . exact ⟨by simp only [cP,↓al,bs,simprocAttr],by simp only [↓al,bs,simprocAttr],0,fun _=>0,by simp only [↓al,bs,simprocAttr]<;>rfl,by omega,ke,⟨fun i an=>by simp,fun i an q=>(by cases q),fun i an=>Nat.zero_le _⟩,fun j aU=>by omega,Mod.refl _ _⟩
 clear cP;rintro r k ⟨cP,hL,i,st,jh,an,vy,pv,sM,gb⟩;have hj:=H1.O5 ap gb;have eL:Ext aX k:=ez.hJ gb fun b q=>Ab b q;unfold IS;by_cases aO:i<g.N
 . have g0:((i:Int) < (g.N:Int))=True:=eq_true (by omega);have dk:=jj aO (by omega);simp +contextual only [cP,hL,jh,hj.aB.g,j2,g0,on.1,on.2.1,↓al,aE,simprocAttr];refine cz (Wu W S J L e2 ap (by omega) (g.N+1) [] i st k (by simp) aO hj vy List.nodup_nil (fun r aF=>by cases aF) pv) ?_;rintro v bx ⟨M2,n3,⟨rfl,z,bn,afH⟩ | ⟨rfl,M3,pQ,xc,aw⟩⟩
   . have aR:=WZ aD ⟨z,bn,afH⟩;simp +contextual only [↓al,aE,simprocAttr];exact cO _ _ .bF (by simp only [↓al,bs,simprocAttr]) (by rw [aR];simp only [↓al,bs,simprocAttr]) (by rw [aR];exact cJ.nil _ _ _) (eL.hJ M2 fun b q=>Ab b q)
   . simp +contextual only [cP,hL,jh,dk,↓al,aE,simprocAttr];refine ⟨⟨i+1,M3,rfl,aO,pQ,xc,fun j aU=>?_,gb.trans M2⟩,by omega⟩;by_cases q:j=i
     . rw [q];exact aw
     . exact sM j (by omega)
 . have g0:((i:Int) < (g.N:Int))=False:=eq_false (by omega);simp +contextual only [cP,hL,jh,hj.aB.g,j2,g0,on.1,on.2.1,↓al,aE,simprocAttr];exact amL eL su wo l2 W S J L e2 kA hj (fun j aU=>sM j (by omega)) (by simp only [cP,↓al,bs,simprocAttr]) cO
theorem jJ.grow {g cH:bp} {ρ:Nat->Nat} (kv:cH.ee) (S:eU g ρ) (H:jJ g ρ) (aB:g.le cH):jJ cH ρ:=by
 intro x aN ex ak c y kn jV aZ;by_cases z:y<g.N
 . have agD:x<g.N:=by rw [<-aZ];exact S.lt y z
   rw [aB.bG z] at jV;rw [aB.bG agD] at ex;exact H x aN ex ak c y kn jV aZ
 . have:=S.out y (by omega);rw [this] at aZ;subst aZ;rw [ex] at jV;cases jV;exact Int.le_refl _
theorem nV.step {g cH:bp} {E:List (Nat × Nat)} {ρ:Nat->Nat} {bad:Bool} (S:eU g ρ) (W:cH.ee) (J:nV g E ρ bad []) (aB:g.le cH) (a b:Nat):nV cH ((a,b)::E) ρ bad [(a,b)]:=by
 rcases J with ⟨aa,ad⟩ | ⟨aa,ad⟩
 . exact .inl ⟨aa,ad.mono aB fun p ag=>List.mem_cons_of_mem _ ag⟩
 . exact .inr ⟨aa,(ad.grow S W aB).push a b⟩
theorem amJ (a b:List aL) (a1:ca a<=1000) (ae:ca b<=1000) (ay:a.length=b.length) (q6:∀t ∈ a,t.check=0) (q7:∀t ∈ b,t.check=0) (hZ gB:V) (h:ai) (kt:cJ Any h 4 (a.map aL.enc) hZ) (hA:cJ Any h 4 (b.map aL.enc) gB):
 db Tryz.prog 55 [hZ,gB] h fun x ab=>(∃c8,x=.tuple [c8,.int .i64 (qD a b).2]/\cJ Any ab 5 ((qD a b).1.map lR) c8)/\Ext h ab:=by
 have d':=kt.len;have eK:=hA.len;rw [List.length_map] at d' eK;have SW:=pz a;have rb:=pz b;have c7:=kt.one;have dq:=hA.one;have hu:=XF (a:=a) (b:=b) ⟨ay,q6,q7⟩;have B4:(a.zip b).length=a.length:=by rw [List.length_zip,ay,Nat.min_self]
 refine abk.z rfl (dB ?_);rw [abl];obtain ⟨aa,ar,aP,da⟩:=ic h [.bF,.bF,.bool false];have cS:=aP.next
 have Ck:=da.lt;have ts:cJ (Old h) h 4 (a.map aL.enc) hZ:=kt.rG;have rW:cJ (Old h) h 4 (b.map aL.enc) gB:=hA.rG;have oQ:eM h.next aa h.next ⟨[],[]⟩ (fun _=>.bF) (fun i=>i) false .bF .bF:=⟨da,⟨rfl,rfl⟩,⟨rfl,rfl⟩,fun i aN e=>by simp at e,fun i b an=>absurd an (Nat.not_lt_zero _),Nat.le_refl _,fun q=>q,fun q=>q,fun b q=>q.elim⟩
 simp +contextual only [ar,c7.1,c7.2.1,dq.1,dq.2.1,↓al,aE,simprocAttr];refine eY (fun r k=>r 0=hZ/\r 1=gB/\r 6=.ptr (aj h.next) 0/\∃(i:Nat) (G:bp × List (Nat × Nat)) (bQ:Nat->V) (w ρ:Nat->Nat) (bad:Bool) (b3 b8:V),r 7=.int .i64 i/\i<=a.length/\G=ja ((a.zip b).take i) (⟨[],[]⟩,[])/\eM h.next k h.next G.1 bQ w bad b3 b8/\G.1.ee/\eU G.1 ρ/\Way w ρ/\jJ G.1 ρ/\nV G.1 G.2 ρ bad []/\q3 G.1/\
  G.1.N<=ca (a.take i)+ca (b.take i)/\G.1.vars.length<=G.1.N/\Ext h k) (fun r k=>a.length - (r 7).toN) ?_ ?_
 . refine ⟨by simp only [↓al,bs,simprocAttr],by simp only [↓al,bs,simprocAttr],by simp only [↓al,bs,simprocAttr],0,(⟨[],[]⟩,[]),fun _=>.bF,fun i=>i,fun i=>i,false,.bF,.bF,by simp only [↓al,bs,simprocAttr]<;>rfl,Nat.zero_le _,rfl,oQ,bp.ee.empty,⟨fun _=>rfl,fun _ h=>h,fun _ _=>rfl,fun a aN e=>(by simp at e)⟩,Way.refl,fun x aN e=>(by simp at e),.inr ⟨rfl,⟨fun a b e=>e ▸ .refl a,fun p ag=>(by cases ag),fun p ag=>(by cases ag),fun a b aN cm e aa=>(by simp at aa)⟩⟩,fun i aN e=>(by simp at e),?_,Nat.le_refl _,aP⟩;simp [bp.N]
 rintro r k ⟨bq,bw,cP,i,G,bQ,w,ρ,bad,b3,b8,fg,an,kA,H,W,S,e2,nY,J,Tl,Z5,AS,eL⟩;have mO:=eL.next
 unfold IQ;by_cases aO:i<a.length
 . have g0:((i:Int) < (a.length:Int))=True:=eq_true (by omega);have nr:i<b.length:=by omega
   have wN:(a.zip b)[i]? =some (a[i],b[i]):=by rw [List.getElem?_zip_eq_some];exact ⟨List.getElem?_eq_getElem aO,List.getElem?_eq_getElem nr⟩
   have K9:(a.zip b).take (i+1)=(a.zip b).take i++[(a[i],b[i])]:=by
    have B2:i < (a.zip b).length:=by omega
    rw [List.take_succ_eq_append_getElem B2];have:=List.getElem?_eq_getElem B2;rw [this] at wN;rw [Option.some.inj wN]
   have E1:ja ((a.zip b).take (i+1)) (⟨[],[]⟩,[])=mT G (a[i],b[i]):=by rw [K9,OV,<-kA]
   have BY:=yc (q6 _ (List.getElem_mem aO));have sN:=yc (q7 _ (List.getElem_mem nr));have alZ:=uO aO;have al0:=uO nr;have al2:=nK a (i+1);have al3:=nK b (i+1);obtain ⟨Pk,Vd,XV,l3,vw,DU,zm⟩:=aL.c6 ts (k:=.i64) aO;obtain ⟨lO,Ve,XW,B7,vx,DV,zn⟩:=aL.c6 rW (k:=.i64) nr;have jy:=DU.one;have dr:=DV.one;have dk:IntKind.i64.wrap ((i:Int)+1)=((i+1:Nat):Int):=by rw [wrap_i64 (by omega) (by omega)];rfl
   have vK:=zm k eL;simp +contextual only [bq,bw,cP,fg,d',g0,l3,vK,↓al,aE,simprocAttr];have zc:∀j,G.1.N<=j->w j=j:=fun j aU=>Way.root S e2 (S.out j aU);have zr:∀{b3 b8:V} {k:ai} {g:bp} {bQ:Nat->V} {w:Nat->Nat} {bad:Bool},eM h.next k h.next g bQ w bad b3 b8->∀b,(b=aj h.next\/b3.aM b\/b8.aM b)->h.next<=cI b:=fun D b q=>by
    rcases q with q | q | q
    . rw [q,cc];exact Nat.le_refl _
    . exact D.no.base q
    . exact D.kb.base q
   refine cz (MB a[i].size a[i] (Nat.le_refl _) BY G.1 bQ b3 b8 _ k W mO (by omega) (by omega) zc ((vw.ext eL).jG fun b q=>q) H) ?_;rintro bz bA ⟨F_,Gr,Hf,rfl,H1,Oy,m1⟩;obtain ⟨yx,AK,X3,adG⟩:=r8 a[i] G.1 BY W;have apT:=OX a[i] G.1;have adU:=yx.n;have ez:Ext h bA:=eL.hJ m1 (zr H);have A7:=zn bA ez;simp +contextual only [bq,bw,cP,fg,B7,A7,↓al,aE,simprocAttr];refine cz (MB b[i].size b[i] (Nat.le_refl _) sN (a[i].add G.1).1 F_ Gr Hf _ bA AK (by have:=ez.next;omega) (by omega) (by omega) (fun j aU=>zc j (by omega)) ((vx.ext ez).jG fun b q=>q) H1) ?_;rintro ek bx ⟨w4,rD,xH,rfl,cu,AF,m2⟩;obtain ⟨yy,nb,NJ,JG⟩:=r8 b[i] _ sN AK;have JJ:=yy.n;have cp:Ext h bx:=ez.hJ m2 (zr H1);have vZ:=yx.trans yy;have lg:=S.grow vZ;have bS:=J.step S nb vZ (a[i].add G.1).2 (b[i].add (a[i].add G.1).1).2;have YA:=nY.grow nb S vZ;have MT:a[i].nO:=A_ _ _ _ (Nat.le_refl _) vw;have fT:b[i].nO:=A_ _ _ _ (Nat.le_refl _) vx;simp +contextual only [bq,bw,cP,fg,↓al,aE,simprocAttr];refine cz (Wq nb (kx (b[i].add (a[i].add G.1).1).1 ρ+1) ρ w bad [] _ _ bx (Nat.lt_succ_self _) lg e2 YA cu (by omega) NJ bS) ?_;rintro v c4 ⟨NN,im,Z8,rX,AJ,lj,HT,c',_,m3⟩;have kc:Ext h c4:=cp.hJ m3 fun b q=>zr cu b (by rcases q with q | q;exact .inl q;exact .inr (.inl q));have J0:(mT G (a[i],b[i])).1.N<=ca (a.take (i+1))+ca (b.take (i+1)):=by show (b[i].add (a[i].add G.1).1).1.N<=_;omega
   simp +contextual only [bq,bw,cP,fg,dk,↓al,aE,simprocAttr];exact ⟨⟨i+1,mT G (a[i],b[i]),w4,im,NN,Z8,rD,xH,rfl,aO,E1.symm,rX,nb,AJ,lj,HT,c',AN _ _ fT (AN _ _ MT Tl),J0,AO _ _ (AO _ _ AS),kc⟩,by omega⟩
 . have g0:((i:Int) < (a.length:Int))=False:=eq_false (by omega);rw [List.take_of_length_le (by omega)] at kA;have bZ:=nK a i;have bX:=nK b i;simp +contextual only [bq,bw,cP,fg,d',g0,↓al,aE,simprocAttr];refine amK (B:=h.next) eL rfl (by omega) AS W S J nY e2 Tl H (by simp only [cP,↓al,bs,simprocAttr]) fun r k c8 fM gf O E=>?_;rw [kA] at gf O;simp only [fM,gf,hu,↓al,bs,simprocAttr];exact ⟨trivial,⟨c8,rfl,O⟩,E⟩
theorem amT (a b:List aL) (a1:ca a<=1000) (ae:ca b<=1000) (hZ gB:V) (h:ai) (kt:cJ Any h 4 (a.map aL.enc) hZ) (hA:cJ Any h 4 (b.map aL.enc) gB):
 db Tryz.prog 14 [hZ,gB] h fun x ab=>(∃c8,x=.tuple [c8,.int .i64 (qD a b).2]/\cJ Any ab 5 ((qD a b).1.map lR) c8)/\Ext h ab:=by
 have d':=kt.len;have eK:=hA.len;rw [List.length_map] at d' eK;have SW:=pz a;have rb:=pz b;have c7:=kt.one;have dq:=hA.one;refine aaS.z rfl (dB ?_);unfold PZ;by_cases ay:a.length=b.length
 rotate_left
 . have eP:((a.length:Int)=(b.length:Int))=False:=eq_false (by omega);have hu:=C9 (a:=a) (b:=b) fun q=>ay q.1;simp +contextual only [d',eK,eP,c7.1,c7.2.1,dq.1,dq.2.1,hu,↓al,aE,simprocAttr];exact ⟨⟨_,rfl,cJ.nil _ _ _⟩,Ext.refl h⟩
 have eP:((a.length:Int)=(b.length:Int))=True:=eq_true (by omega);simp +contextual only [d',eK,eP,c7.1,c7.2.1,c7.2.2,dq.1,dq.2.1,dq.2.2,↓al,aE,simprocAttr];refine eY (fun r k=>r 0=hZ/\r 1=gB/\∃i:Nat,r 6=.int .i64 i/\i<=a.length/\(∀t ∈ a.take i,t.check=0)/\(∀t ∈ b.take i,t.check=0)/\Ext h k) (fun r k=>a.length - (r 6).toN) ?_ ?_
 . exact ⟨by simp only [↓al,bs,simprocAttr],by simp only [↓al,bs,simprocAttr],0,by simp only [↓al,bs,simprocAttr]<;>rfl,Nat.zero_le _,fun t aw=>(by simp at aw),fun t aw=>(by simp at aw),Ext.refl _⟩
 rintro r k ⟨bq,bw,i,cP,an,q6,q7,eL⟩;unfold P8;by_cases aO:i<a.length
 . have g0:((i:Int) < (a.length:Int))=True:=eq_true (by omega);have nr:i<b.length:=by omega
   obtain ⟨Pk,Vd,XV,l3,vw,DU,zm⟩:=aL.c6 (kt.ext eL) (k:=.i64) aO;obtain ⟨lO,Ve,XW,B7,vx,DV,zn⟩:=aL.c6 (hA.ext eL) (k:=.i64) nr;have vK:=zm k (Ext.refl k);have aqd:a[i].size<=1000:=Nat.le_trans (xk (List.getElem_mem aO)) a1;have ot:b[i].size<=1000:=Nat.le_trans (xk (List.getElem_mem nr)) ae;have dk:IntKind.i64.wrap ((i:Int)+1)=((i+1:Nat):Int):=by rw [wrap_i64 (by omega) (by omega)];rfl
   simp +contextual only [bq,bw,cP,d',g0,l3,vK,↓al,aE,simprocAttr];refine cz (Wa a[i] (by omega) _ k vw) ?_;rintro x bA ⟨rfl,bz⟩;by_cases bP:a[i].check=0
   . have dL:=zn bA bz;simp +contextual only [bq,bw,cP,eq_true bP,B7,dL,↓al,aE,simprocAttr];refine cz (Wa b[i] (by omega) _ bA (vx.ext bz)) ?_;rintro x bx ⟨rfl,ek⟩;by_cases bY:b[i].check=0
     . simp +contextual only [bq,bw,cP,eq_true bP,eq_true bY,dk,↓al,aE,simprocAttr];refine ⟨⟨i+1,rfl,aO,fun t aw=>?_,fun t aw=>?_,(eL.trans bz).trans ek⟩,by omega⟩
       . rw [List.take_succ_eq_append_getElem aO] at aw;rcases List.mem_append.1 aw with aw | aw
         . exact q6 t aw
         . rw [List.mem_singleton] at aw;rw [aw];exact bP
       . rw [List.take_succ_eq_append_getElem nr] at aw;rcases List.mem_append.1 aw with aw | aw
         . exact q7 t aw
         . rw [List.mem_singleton] at aw;rw [aw];exact bY
     . have hu:=C9 (a:=a) (b:=b) fun q=>bY (q.2.2 _ (List.getElem_mem nr));simp +contextual only [bq,bw,cP,eq_true bP,eq_false bY,hu,↓al,aE,simprocAttr];exact ⟨⟨_,rfl,cJ.nil _ _ _⟩,(eL.trans bz).trans ek⟩
   . have hu:=C9 (a:=a) (b:=b) fun q=>bP (q.2.1 _ (List.getElem_mem aO));simp +contextual only [bq,bw,cP,eq_false bP,hu,↓al,aE,simprocAttr];exact ⟨⟨_,rfl,cJ.nil _ _ _⟩,eL.trans bz⟩
 have g0:((i:Int) < (a.length:Int))=False:=eq_false (by omega);rw [List.take_of_length_le (by omega)] at q6 q7;simp +contextual only [bq,bw,cP,d',g0,c7.1,c7.2.1,dq.1,dq.2.1,↓al,aE,simprocAttr];refine cz (amJ a b a1 ae ay q6 q7 hZ gB k (kt.ext eL) (hA.ext eL)) ?_;rintro x bx ⟨⟨c8,rfl,O⟩,a'⟩;have os:=O.one;simp +contextual only [os.1,os.2.1,↓al,aE,simprocAttr];exact ⟨⟨c8,rfl,O⟩,eL.trans a'⟩
end
section
open Go a7 Go.RowKit
set_option maxRecDepth 100000 in
theorem Z3:Ns ctx 100000 11 []=true:=by kernel_rfl
theorem Z2 (h:ai):gv Tryz.prog 11 [] h (.bool true) h:=
 ab9 (by kernel_rfl) (fun E x q=>by subst q;simp [Rel]) ⟨_,Tryz.func11,by kernel_rfl⟩ (fun w hw=>an_ (C:=ctx) follows Cw hw alX (by kernel_rfl) (by kernel_rfl) Z3) h
theorem D' (h:ai):db Tryz.prog 11 [] h fun x ab=>x=.bool true/\ab=h:=⟨_,_,Z2 h,rfl,rfl⟩
end
section
open Go a7
theorem aon (a b:List aL) (a1:ca a<=1048576) (ae:ca b<=1048576) (hZ gB:V) (h:ai) (A:cJ Any h 4 (a.map aL.enc) hZ) (B:cJ Any h 4 (b.map aL.enc) gB):
 db Tryz.prog 3 [hZ,gB] h fun x _=>x=.bool true:=by
 have jy:=A.one;have dr:=B.one;refine aa'.z rfl (dB ?_);unfold c3;have aq_:∀{k:ai} {K:V->ai->Prop},K (.bool true) k->db Tryz.prog 11 [] k K:=fun {k K} q=>(D' k).mono fun v ab ⟨aP,a'⟩=>by rw [aP,a'];exact q
 simp +contextual only [jy.1,jy.2.1,dr.1,dr.2.1,↓al,aE,simprocAttr];refine cz (T7 a (by omega) 300 (by omega) hZ h A) ?_;rintro x aX ⟨⟨cb,rfl,bZ⟩,rfl⟩;cases cb with
 | true=>
   simp +contextual only [↓al,aE,simprocAttr];refine cz (D' _) ?_;rintro x aJ ⟨rfl,rfl⟩;simp +contextual only [↓al,aE,simprocAttr]
 | false=>
 have aj:=bZ rfl;simp +contextual only [jy.1,jy.2.1,dr.1,dr.2.1,↓al,aE,simprocAttr];refine cz (T7 b (by omega) 300 (by omega) gB aX B) ?_;rintro x aa ⟨⟨b9,rfl,bX⟩,rfl⟩;cases b9 with
 | true=>
   simp +contextual only [↓al,aE,simprocAttr];refine cz (D' _) ?_;rintro x aJ ⟨rfl,rfl⟩;simp +contextual only [↓al,aE,simprocAttr]
 | false=>
 have xg:=bX rfl;simp +contextual only [jy.1,jy.2.1,dr.1,dr.2.1,↓al,aE,simprocAttr];refine cz (I7 (ca a+1) a (by omega) (by omega) hZ aa A) ?_;rintro jO ad ⟨NU,a'⟩;have nH:=NU.one;simp +contextual only [jy.1,jy.2.1,dr.1,dr.2.1,nH.1,nH.2.1,↓al,aE,simprocAttr];refine cz (I7 (ca b+1) b (by omega) (by omega) gB ad (B.ext a')) ?_;rintro jP aJ ⟨NW,cM⟩;have pt:=NW.one;have NV:cJ Any aJ 4 (a.map aL.enc) jO:=(NU.jG fun _ _=>trivial).ext cM;have NX:cJ Any aJ 4 (b.map aL.enc) jP:=NW.jG fun _ _=>trivial;have kc:=a'.trans cM;simp +contextual only [jy.1,jy.2.1,dr.1,dr.2.1,nH.1,nH.2.1,pt.1,pt.2.1,↓al,aE,simprocAttr];refine cz (aoo a b (by omega) (by omega) jO jP aJ NV NX) ?_;rintro x bE ⟨⟨sp,rfl,OD⟩,fM⟩;have oS:=kc.trans fM;have zG:=OD.one;simp +contextual only [jy.1,jy.2.1,dr.1,dr.2.1,nH.1,nH.2.1,pt.1,pt.2.1,zG.1,zG.2.1,↓al,aE,simprocAttr];refine cz (amT a b (by omega) (by omega) hZ gB bE (A.ext oS) (B.ext oS)) ?_;rintro x dn ⟨⟨am0,rfl,OC⟩,gf⟩;have Hu:=oS.trans gf;have GD:=OC.one;have OE:=OD.ext gf;simp +contextual only [jy.1,jy.2.1,dr.1,dr.2.1,nH.1,nH.2.1,pt.1,pt.2.1,zG.1,zG.2.1,GD.1,GD.2.1,↓al,aE,simprocAttr];refine cz (anu (qD a b).1 sp am0 dn (OE.fU fun _ _=>trivial) OC) ?_;rintro x dH ⟨rfl,pW⟩;have apa:=Hu.trans pW;simp +contextual only [jy.1,jy.2.1,dr.1,dr.2.1,nH.1,nH.2.1,pt.1,pt.2.1,zG.1,zG.2.1,GD.1,GD.2.1,↓al,aE,simprocAttr];refine cz (alB _ _ sp dH (OE.ext pW)) ?_;rintro x jW m7;have Jl:Ext aJ jW:=((fM.trans gf).trans pW).hJ m7 fun b q=>by unfold eB at q;exact q.1
 have Ak:=kc.trans Jl;simp +contextual only [jy.1,jy.2.1,dr.1,dr.2.1,nH.1,nH.2.1,pt.1,pt.2.1,↓al,aE,simprocAttr];refine cz (WD a jO hZ jW (NV.ext Jl) (A.ext Ak)) ?_;rintro x p2 ⟨rfl,RB⟩;simp +contextual only [jy.1,jy.2.1,dr.1,dr.2.1,nH.1,nH.2.1,pt.1,pt.2.1,↓al,aE,simprocAttr];refine cz (WD b jP gB p2 ((NX.ext Jl).ext RB) (B.ext (Ak.trans RB))) ?_;rintro x E0 ⟨rfl,apG⟩;simp +contextual only [↓al,aE,simprocAttr];refine cz (D' _) ?_;rintro x apU ⟨rfl,rfl⟩;simp +contextual only [↓al,aE,simprocAttr]
end
end Go.Proofs.YthemdhlheglhoaaGreatDoor
