/- The chapter's functions, walked by the abstract machine: plain lemmas, no condition. Printed by a program from longer texts: names made short. -/
import Derived.Test.YthemdhlheglhoaaGreatDoorM15
import Derived.Test.YthemdhlheglhoaaGreatDoorM16
import Derived.Test.YthemdhlheglhoaaGreatDoorM8
import Derived.Test.YthemdhlheglhoaaGreatDoorM4
import Derived.Test.YthemdhlheglhoaaGreatDoorM10
import Derived.Lay
import Derived.LaidLaws
import Derived.PinnedBridge
import Derived.Lib.LaidU8T
import Derived.Shelf.Vars
import Derived.MakeChecks
set_option linter.unusedSectionVars false
set_option linter.unusedSimpArgs false
set_option linter.unusedVariables false
set_option maxHeartbeats 64000000
noncomputable section
namespace Go.Proofs.YthemdhlheglhoaaGreatDoor
section
open Go a8
section
variable {g:bp} {E:List (Nat × Nat)}
theorem Ee {p q:Int × _} (h:gh g E p=some q):q.1=p.1/\q.2=rN g E p.2:=by
 unfold gh at h
 split at h
 . cases h
 . cases h;exact ⟨rfl,rfl⟩
theorem Hf (W:g.dX) {p:Int × Nat} (h:p ∈ g.vars):∃aL,g.nodes[p.2]? =some aL/\aL.ch=false/\aL.n=p.1:=by obtain ⟨n,j⟩:=p;exact W.hF _ _ (wX W.keys h)
theorem TM (W:g.dX):(keyed g).Perm g.vars:=by
 unfold keyed;refine ((uW _).map _).trans ?_;rw [List.map_map];have:g.vars.map ((fun n=>(n,(e_ n g.vars).getD 0)) ∘ Prod.fst)=g.vars:=by
  conv=>rhs;rw [<-List.map_id g.vars]
  refine List.map_congr_left fun p af=>?_;obtain ⟨n,j⟩:=p;simp [wX W.keys af]
 rw [this]
theorem aic (W:g.dX):(keyed g).Pairwise fun a b=>a.1<b.1:=by unfold keyed;rw [List.pairwise_map];have aa:=MT (g.vars.map Prod.fst);have ad:(e0 (g.vars.map Prod.fst)).Nodup:=(uW _).nodup_iff.2 W.keys;have aJ:=aa.and ad;exact aJ.imp fun ⟨a,b⟩=>by simp only;omega
theorem anV (W:g.dX):(((g.vars).filterMap (gh g E)).map Prod.fst).Nodup:=by
 have h:g.vars.Pairwise fun a b=>a.1≠b.1:=by have:=W.keys;unfold List.Nodup at this;rwa [List.pairwise_map] at this
 unfold List.Nodup;rw [List.pairwise_map];exact h.filterMap _ fun a bw ck b ae bL e9=>by rw [(Ee ae).1,(Ee e9).1];exact ck
theorem anU (W:g.dX) {cv:gW} (af:cv.Perm (g.vars.filterMap (gh g E))) (aS:cv.Pairwise fun a b=>a.1<b.1):cv=(keyed g).filterMap (gh g E):=by refine List.Perm.eq_of_pairwise (le:=fun a b=>a.1<b.1) (fun a b _ _ aa ad=>by omega) aS ?_ (af.trans ((TM W).filterMap _).symm);exact (aic W).filterMap _ fun a bw ck b ae bL e9=>by rw [(Ee ae).1,(Ee e9).1];exact ck
theorem Xa (W:g.dX) {q:Int × _}:q ∈ (keyed g).filterMap (gh g E)↔q ∈ g.vars.filterMap (gh g E):=((TM W).filterMap _).mem_iff
theorem am_ {ρ:Nat->Nat} (aD:¬mN g E) (W:g.dX) (h:∀i,i<g.N->∃t,dJ g (cy g E) i t) (aA:∀(a:Nat) (p:Int × Nat),g.vars[a]? =some p->∀q,gh g E p=some q->q.2.size<=4096/\q.2.deep<=200):jv g E=((keyed g).filterMap (gh g E),0):=by refine WD aD h fun p af=>?_;rw [Xa W,List.mem_filterMap] at af;obtain ⟨a,a1,ae⟩:=af;obtain ⟨i,ao⟩:=List.getElem?_of_mem a1;exact aA i a ao p ae
theorem WA (aD:¬mN g E) (W:g.dX) (h:∀i,i<g.N->∃t,dJ g (cy g E) i t) {p:Int × Nat} {q:Int × _} (af:p ∈ g.vars) (aC:gh g E p=some q) (aA:¬(q.2.size<=4096/\q.2.deep<=200)):jv g E=([],3):=
 WC aD h ⟨q,(Xa W).2 (List.mem_filterMap.2 ⟨p,af,aC⟩),aA⟩
theorem Pj {ρ:Nat->Nat} (W:g.dX) (S:eP g ρ) (J:ev g E ρ []) (L:jC g ρ) {p:Int × Nat} (af:p ∈ g.vars) (h:ρ p.2=p.2):gh g E p=none:=by obtain ⟨aL,aP,bf,c4⟩:=Hf W af;have:=Nd J.part (Jh S J L h aP bf);obtain ⟨n,j⟩:=p;refine Pk ?_;rw [this,c4]
theorem Ph {ρ:Nat->Nat} (W:g.dX) (S:eP g ρ) (J:ev g E ρ []) (L:jC g ρ) {p:Int × Nat} (af:p ∈ g.vars) (h:ρ p.2≠p.2) {t:aM} (av:dJ g (cy g E) p.2 t):gh g E p=some (p.1,t):=by
 obtain ⟨aL,aP,bf,c4⟩:=Hf W af;have Hc:=Nd J.part av;obtain ⟨n,j⟩:=p;have b4:=S.lt j (hn aP);obtain ⟨b_,ex⟩:=hK b4;obtain ⟨bz,bx,cU⟩:=W8 W S J L av ex;have ck:rN g E j≠.mk 1 n [] []:=fun q=>by
  rw [Hc] at q;cases c:b_.ch with
  | true=>rw [c,q] at bz;cases bz
  | false=>
    have b3:=(W.var _ b_ ex c).2.2.2;have b2:=(W.var _ aL aP bf).2.2.2;rw [q] at bx;have:b_.n=aL.n:=by rw [<-bx,c4];rfl
    rw [this,b2] at b3;exact h (Option.some.inj b3).symm
 rw [Pg ck,Hc]
end
section
variable [Lay]
theorem ann (N:Nat):h4 (fun _=>0) N=List.replicate N (.int .i64 0):=by unfold h4;refine List.ext_getElem (by simp) fun i aa ad=>by simp
theorem mk_zero {h:ah} {N:Nat} (bJ:N<=1000000):∃ab,sW 1 [.int .i64 0] (.int .i64 N) (.int .i64 N) h=.val (.slice (aj h.next) 0 N N) ab/\Ext h ab/\cJ h.next ab 1 (.slice (aj h.next) 0 N N) N (h4 (fun _=>0) N)/\ab.next=h.next+1:=by refine ⟨_,akf bJ,(Ext.refl h).new _,?_,by rw [gk]⟩;rw [ann];refine ⟨by simp,rfl,by rw [b9];exact Nat.le_refl _,fW (by rw [gk];omega),Nat.le_refl _,by unfold top;omega,_,0,false,nd _,by simp,by simp⟩
end
def IS:aY:=
 aY.seq (aY.draw [⟨(some 68),.b0 (.t 6),none,[6]⟩,
  ⟨(some 69),.h2 (.t 68),none,[68]⟩,
  ⟨(some 70),.eH 0 (.t 69),none,[69]⟩,
  ⟨(some 71),.d' (.t 70),none,[70]⟩,
  ⟨(some 72),.len .slice (.t 71),none,[71]⟩,
  ⟨(some 73),.sZ 1 [(.int .i64 0)] (.t 72) (.t 72),none,[72,72]⟩,
  ⟨(some 74),.b0 (.t 6),none,[6]⟩,
  ⟨(some 75),.h2 (.t 74),none,[74]⟩,
  ⟨(some 76),.eH 0 (.t 75),none,[75]⟩,
  ⟨(some 77),.d' (.t 76),none,[76]⟩,
  ⟨(some 78),.len .slice (.t 77),none,[77]⟩,
  ⟨(some 79),.sZ 1 [(.int .i64 0)] (.t 78) (.t 78),none,[78,78]⟩,
  ⟨(some 12),.b0 (.t 73),none,[73]⟩,
  ⟨(some 13),.b0 (.t 79),none,[79]⟩] [(3,[14]),(9,[14])])
 (aY.seq (aY.aq [⟨(some 14),.b0 (.c .bB),none,[]⟩])
 (aY.seq (aY.seq (aY.aq [⟨(some 15),.b0 (.c (.int .i64 0)),none,[]⟩])
  (aY.block 4 (aY.loop IN)))
 (aY.seq (aY.seq (aY.aq [⟨(some 19),.b0 (.c (.int .i64 0)),none,[]⟩])
  (aY.block 6 (aY.loop IP)))
 (aY.seq (aY.aq [⟨(some 155),.b0 (.t 14),none,[14]⟩,
   ⟨(some 156),.call 85 [(.t 155)],none,[155]⟩,
   ⟨(some 4),.b0 (.t 156),none,[156]⟩,
   ⟨(some 5),.b0 (.c (.int .i64 0)),none,[]⟩])
 (aY.ret)))))
def IQ:aY:=
 aY.seq (aY.seq (aY.aq [⟨(some 45),.b0 (.t 6),none,[6]⟩,
  ⟨(some 46),.h2 (.t 45),none,[45]⟩,
  ⟨(some 47),.eH 2 (.t 46),none,[46]⟩,
  ⟨(some 48),.d' (.t 47),none,[47]⟩])
  (aY.cond (.t 48)
   (aY.seq (aY.aq [⟨(some 4),.b0 (.c .bB),none,[]⟩,
     ⟨(some 5),.b0 (.c (.int .i64 290)),none,[]⟩])
    (aY.ret))
   (aY.skip)))
 (aY.seq (aY.aq [⟨(some 49),.b0 (.t 6),none,[6]⟩,
   ⟨(some 50),.h2 (.t 49),none,[49]⟩,
   ⟨(some 51),.eH 0 (.t 50),none,[50]⟩,
   ⟨(some 52),.d' (.t 51),none,[51]⟩,
   ⟨(some 53),.len .slice (.t 52),none,[52]⟩,
   ⟨(some 54),.sZ 1 [(.int .i64 0)] (.t 53) (.t 53),none,[53,53]⟩,
   ⟨(some 10),.b0 (.t 54),none,[54]⟩])
 (aY.seq (aY.seq (aY.aq [⟨(some 11),.b0 (.c (.int .i64 0)),none,[]⟩])
  (aY.block 2 (aY.loop IM)))
 IS))
theorem aa3:Qm=aY.seq (aY.aq [⟨(some 4),.b0 (.c .bB),none,[]⟩,
 ⟨(some 5),.b0 (.c (.int .i64 0)),none,[]⟩])
 (aY.seq (aY.aq [⟨(some 21),.build [.bB,.bB,(.bool false)] [],none,[]⟩,
   ⟨(some 22),.box (.t 21),none,[21]⟩,
   ⟨(some 6),.b0 (.t 22),none,[22]⟩])
 (aY.seq (aY.seq (aY.aq [⟨(some 7),.b0 (.c (.int .i64 0)),none,[]⟩])
  (aY.block 0 (aY.loop IL)))
 IQ)):=rfl
theorem eK.Ie [Lay] {B:Nat} {h:ah} {bO:Nat} {g:bp} {bQ:Nat->V} {w:Nat->Nat} {bad:Bool} {b1 b':V} (H:eK B h bO g bQ w bad b1 b') {n N:Nat} (aV:h.next<=n):Aj bO g bQ b1 b' (.slice (aj n) 0 N N):=by
 intro b q;have ae:b=aj n:=q;have bF:∀c,Old h c->b≠c:=fun c aD z=>by rw [<-z,ae] at aD;unfold Old at aD;rw [b9] at aD;omega
 refine ⟨bF _ (fW H.aB.lt),fun z=>bF b (H.no.v.bF z) rfl,fun z=>bF b (H.j4.v.bF z) rfl,fun i ao z=>?_⟩;obtain ⟨aL,e⟩:=hK ao;exact bF b ((H.c0 i aL e).1.bF z) rfl
theorem amy {B:Nat} {aW h:ah} {bO:Nat} {g:bp} {E:List (Nat × Nat)} {bQ:Nat->V} {w ρ:Nat->Nat} {b1 b':V} {r:bc} {Q:dm->bc->ah->Prop}
 (fl:Ext aW h) (sr:B=aW.next) (wm:g.N<=1000000) (lT:g.vars.length<=g.N) (W:g.dX) (S:eP g ρ) (J:ev g E ρ []) (L:jC g ρ) (eW:Way w ρ) (kn:q1 g) (H:eK B h bO g bQ w false b1 b') (dK:∀i,i<g.N->∃t,dJ g (cy g E) i t) (ct:r 6=.ptr (aj bO) 0)
 (cM:∀(r:bc) (k:ah) (c2:V),r 4=c2->r 5=.int .i64 (jv g E).2->dc Any k 5 ((jv g E).1.map lI) c2->Ext aW k->Q .ret r k):bo Tryz.prog [.c IS] .normal r h Q:=by
 have gA:=J.part;have aD:=J.j5;have JL:=fl.next
 have lN:=H.aB.lt;have on:=H.no.v.one;have dB:=H.j4.v.one;have jU:=H.no.v.len;have Gf:=H.j4.v.len;obtain ⟨aa,ar,aP,H',cT⟩:=mk_zero (h:=h) (N:=g.N) (by omega);obtain ⟨ad,aw,bf,hS,gP⟩:=mk_zero (h:=aa) (N:=g.N) (by omega);have H1:=H.ext aP;have cp:=H1.ext bf;unfold IS;simp +contextual only [ct,H.aB.g,H1.aB.g,cp.aB.g,jU,ar,aw,on.1,on.2.1,↓al,aG,simprocAttr];have oZ:=H.Ie (N:=g.N) (Nat.le_refl _);have oY:=H.Ie (n:=aa.next) (N:=g.N) (by omega);have tl:∀b,(V.slice (aj h.next) 0 g.N g.N).aN b->¬(V.slice (aj aa.next) 0 g.N g.N).aN b:=fun b q z=>by
  have gN:b=aj h.next:=q
  have adV:b=aj aa.next:=z
  have:=fj (gN.symm.trans adV);omega
 have iU:cJ B ad 1 (.slice (aj h.next) 0 g.N g.N) g.N (h4 (fun _=>0) g.N):=(H'.ext bf).mono (by omega);have NV:cJ B ad 1 (.slice (aj aa.next) 0 g.N g.N) g.N (h4 (fun _=>0) g.N):=hS.mono (by omega);obtain ⟨jc,sN⟩:∃jc,V.slice (aj h.next) 0 g.N g.N=jc:=⟨_,rfl⟩;obtain ⟨lH,J4⟩:∃lH,V.slice (aj aa.next) 0 g.N g.N=lH:=⟨_,rfl⟩;have Ag:∀b,jc.aN b->aW.next<=cB b:=fun b q=>by rw [<-sN] at q;rw [show b=aj h.next from q,b9];omega
 have I7:∀b,lH.aN b->aW.next<=cB b:=fun b q=>by rw [<-J4] at q;rw [show b=aj aa.next from q,b9];omega
 rw [sN] at oZ tl iU;rw [J4] at oY tl NV;simp only [sN,J4];have cm:=(fl.trans aP).trans bf;refine fa (fun r k=>r 6=.ptr (aj bO) 0/\r 12=jc/\r 13=lH/\r 14=.bB/\∃(i:Nat) (fv ds:Nat->Nat),r 15=.int .i64 i/\i<=g.vars.length/\cJ B k 1 jc g.N (h4 fv g.N)/\cJ B k 1 lH g.N (h4 ds g.N)/\DV g (cy g E) fv ds/\(∀(a:Nat) (p:Int × Nat),a<i->g.vars[a]? =some p->∀q,gh g E p=some q->q.2.size<=4096/\q.2.deep<=200)/\Mod (fun b=>jc.aN b\/lH.aN b) ad k) (fun r _=>g.vars.length - (r 15).toN) ?_ ?_
 . exact ⟨by simp only [ct,↓al,bs,simprocAttr],by simp only [↓al,bs,simprocAttr],by simp only [↓al,bs,simprocAttr],by simp only [↓al,bs,simprocAttr],0,fun _=>0,fun _=>0,by simp only [↓al,bs,simprocAttr]<;>rfl,by omega,iU,NV,⟨fun i ao q=>absurd rfl q⟩,fun a p a1=>by omega,Mod.refl _ _⟩
 clear ct;rintro r k ⟨ct,pA,uO,jb,i,fv,ds,uP,ao,oX,kC,ps,E_,f'⟩;have hj:eK B k bO g bQ w false b1 b':=cp.mod f' (fun q=>q.elim (fun q=>(oZ _ q).1 rfl) fun q=>(oY _ q).1 rfl) (fun b q z=>z.elim (fun z=>(oZ b z).2.1 q) fun z=>(oY b z).2.1 q) (fun b q z=>z.elim (fun z=>(oZ b z).2.2.1 q) fun z=>(oY b z).2.2.1 q) fun i b ao q z=>z.elim (fun z=>(oZ b z).2.2.2 i ao q) fun z=>(oY b z).2.2.2 i ao q;have eb:Ext aW k:=cm.h1 f' fun b q=>q.elim (Ag b) (I7 b);unfold IN;by_cases aO:i<g.vars.length
 . have g0:((i:Int) < (g.vars.length:Int))=True:=eq_true (by omega);have e:=List.getElem?_eq_getElem (l:=g.vars) (i:=i) aO;obtain ⟨b,off,cH,ae,ld⟩:=hj.Nr e;obtain ⟨qg,eS⟩:=ld k fun _ _=>rfl;have hm:=List.getElem_mem aO;obtain ⟨aL,Jn,acB,acC⟩:=Hf W hm;have aU:=hn Jn;have dv:=kB aO (by omega);simp +contextual only [ct,pA,uO,jb,uP,hj.aB.g,Gf,g0,cH,eS,dB.1,dB.2.1,↓al,aG,simprocAttr];refine cK (xl hj S eW aU) ?_;rintro x bz ⟨rfl,rfl⟩;by_cases c:ρ g.vars[i].2=g.vars[i].2
   . have fS:((ρ g.vars[i].2:Int)=(g.vars[i].2:Int))=True:=eq_true (by omega);simp +contextual only [ct,pA,uO,jb,uP,fS,dv,↓al,aG,simprocAttr];refine ⟨⟨i+1,fv,ds,rfl,aO,oX,kC,ps,fun a p a1 af q aC=>?_,f'⟩,by omega⟩;by_cases z:a=i
     . subst z;rw [e] at af;cases af;rw [Pj W S J L hm c] at aC;cases aC
     . exact E_ a p (by omega) af q aC
   . have fS:((ρ g.vars[i].2:Int)=(g.vars[i].2:Int))=False:=eq_false (by omega);obtain ⟨t,av⟩:=dK _ aU;have nh:=Ph W S J L hm c av;simp +contextual only [ct,pA,uO,jb,uP,fS,↓al,aG,simprocAttr];refine cK (Wi W S J eW oZ oY tl (by omega) t.size t (Nat.le_refl _) _ fv ds bz aU av hj oX kC ps) ?_;rintro x bx ⟨rfl,m2,aql,NI,Jf,lE,iB,w_⟩;have aco:=Nf W S J _ t (Nat.le_refl _) [] _ aU av List.nodup_nil (fun r aE=>by cases aE);by_cases bP:t.size<=4096
     . by_cases bX:t.deep<=200
       . have g1:((4096:Int) < ((min t.size 4097:Nat):Int))=False:=eq_false (by omega);have g2:((200:Int) < ((t.deep:Nat):Int))=False:=eq_false (by omega);simp +contextual only [ct,pA,uO,jb,uP,g1,g2,dv,↓al,aG,simprocAttr];refine ⟨⟨i+1,NI,Jf,rfl,aO,lE,iB,w_,fun a p a1 af q aC=>?_,f'.trans m2⟩,by omega⟩;by_cases z:a=i
         . subst z;rw [e] at af;cases af;rw [nh] at aC;cases aC;exact ⟨bP,bX⟩
         . exact E_ a p (by omega) af q aC
       . have g1:((4096:Int) < ((min t.size 4097:Nat):Int))=False:=eq_false (by omega);have g2:((200:Int) < ((t.deep:Nat):Int))=True:=eq_true (by omega);have aS:=WA aD W dK hm nh fun q=>bX q.2;simp +contextual only [ct,pA,uO,jb,uP,g1,g2,↓al,aG,simprocAttr];exact cM _ _ .bB (by simp only [↓al,bs,simprocAttr]) (by rw [aS];simp only [↓al,bs,simprocAttr]) (by rw [aS];exact dc.nil _ _ _) (eb.h1 m2 fun b q=>q.elim (Ag b) (I7 b))
     . have g1:((4096:Int) < ((min t.size 4097:Nat):Int))=True:=eq_true (by omega);have aS:=WA aD W dK hm nh fun q=>bP q.1;simp +contextual only [ct,pA,uO,jb,uP,g1,↓al,aG,simprocAttr];exact cM _ _ .bB (by simp only [↓al,bs,simprocAttr]) (by rw [aS];simp only [↓al,bs,simprocAttr]) (by rw [aS];exact dc.nil _ _ _) (eb.h1 m2 fun b q=>q.elim (Ag b) (I7 b))
 have g0:((i:Int) < (g.vars.length:Int))=False:=eq_false (by omega);have aS:=am_ (ρ:=ρ) aD W dK fun a p af q aC=>E_ a p (by have:=(List.getElem?_eq_some_iff.1 af).1;omega) af q aC;simp +contextual only [ct,pA,uO,jb,uP,hj.aB.g,Gf,g0,dB.1,dB.2.1,↓al,aG,simprocAttr];refine fa (fun r bg=>r 6=.ptr (aj bO) 0/\∃(i:Nat) (v:V),r 19=.int .i64 i/\r 14=v/\i<=g.vars.length/\fR bg (ew k.next bg.next) ((g.vars.take i).filterMap (gh g E)) v/\Ext k bg) (fun r _=>g.vars.length - (r 19).toN) ?_ ?_
 . exact ⟨by simp only [ct,↓al,bs,simprocAttr],0,.bB,by simp only [↓al,bs,simprocAttr]<;>rfl,by simp only [jb,↓al,bs,simprocAttr],by omega,by simpa using fR.nil _ _,Ext.refl k⟩
 clear ct pA uO jb uP r;rintro r bg ⟨ct,i,v,CY,jb,ao,O,Aq⟩;have fb:=hj.ext Aq;have Hl:=O.one;have aqo:=Aq.next
 have Fu:=H.aB.lt;have aqm:=eb.next
 have yS:h.next<=k.next:=by have:=f'.next;have:=aP.next;have:=bf.next;omega
 unfold IP;by_cases aO:i<g.vars.length
 . have g0:((i:Int) < (g.vars.length:Int))=True:=eq_true (by omega);have e:=List.getElem?_eq_getElem (l:=g.vars) (i:=i) aO;obtain ⟨b,off,cH,ae,ld⟩:=fb.Nr e;obtain ⟨qg,eS⟩:=ld bg fun _ _=>rfl;have hm:=List.getElem_mem aO;obtain ⟨aL,Jn,acB,acC⟩:=Hf W hm;have aU:=hn Jn;have dv:=kB aO (by omega);have jP:=Na (gh g E) e;simp +contextual only [ct,jb,CY,fb.aB.g,Gf,g0,cH,eS,dB.1,dB.2.1,↓al,aG,simprocAttr];refine cK (xl fb S eW aU) ?_;rintro x bz ⟨rfl,rfl⟩;by_cases c:ρ g.vars[i].2=g.vars[i].2
   . have fS:((ρ g.vars[i].2:Int)=(g.vars[i].2:Int))=True:=eq_true (by omega);simp +contextual only [ct,jb,CY,fS,dv,↓al,aG,simprocAttr];refine ⟨⟨i+1,v,rfl,rfl,aO,?_,Aq⟩,by omega⟩;rw [jP,Pj W S J L hm c];simpa using O
   . have fS:((ρ g.vars[i].2:Int)=(g.vars[i].2:Int))=False:=eq_false (by omega);obtain ⟨t,av⟩:=dK _ aU;have nh:=Ph W S J L hm c av;have cq:=(E_ i _ (by omega) e _ nh).1;simp +contextual only [ct,jb,CY,fS,fb.aB.g,cH,qg,dB.1,dB.2.1,↓al,aG,simprocAttr];refine cK (Wd W S J L eW kn t.size t (Nat.le_refl _) (by simp only [] at cq;omega) _ bz aU av fb) ?_;rintro x bx ⟨u,rfl,U,fg,sj⟩;have rC:=sj.next
     have rG:=U.one;have nW:=O.ext sj;have N7:=fb.ext sj;obtain ⟨ajc,ap6⟩:=ld bx fun b q=>sj.get b (fb.j4.v.bF q);obtain ⟨dd,cU,bW,bV,b8,gH⟩:=nW.add (t:=(g.vars[i].1,t)) (T:=ew bz.next bx.next) (u:=u) U (fun b q z=>by unfold ew at q z;omega) (fun b q=>by unfold ew at q;unfold Old;omega) (fun b q=>by unfold ew at q;unfold Old;omega) (by have:=List.length_filterMap_le (gh g E) (g.vars.take i);rw [List.length_take] at this;unfold top;omega) fg;have kf:=bV.one;have Dd:∀b,v.aN b->k.next<=cB b:=fun b q=>by have:=O.bj b q;unfold ew at this;omega
     have akD:=b8.next
     have c4:Ext k cU:=(Aq.trans sj).h1 b8 Dd;have X_:=hj.ext c4;obtain ⟨ajd,ap7⟩:=ld cU fun b q=>(b8.get b (N7.j4.v.bF q) fun z=>by have:=Dd b z;have:=hj.j4.v.bF q;unfold Old at this;omega).trans (sj.get b (fb.j4.v.bF q));have acZ:(bx.next=bO)=False:=eq_false (by omega);have yu:(aj bx.next=b)=False:=eq_false fun q=>by have:=fb.j4.v.bF ae;rw [<-q] at this;unfold Old at this;rw [b9] at this;omega
     simp +contextual only [acZ,yu,if_false,ct,jb,CY,fb.aB.g,N7.aB.g,X_.aB.g,cH,qg,ajc,ajd,dB.1,dB.2.1,rG.1,rG.2.1,rG.2.2,bW,Hl.1,Hl.2.1,kf.1,kf.2.1,dv,↓al,aG,simprocAttr];refine ⟨⟨i+1,dd,rfl,rfl,aO,?_,c4⟩,by omega⟩;rw [jP,nh];exact bV.k1 fun b q=>by unfold ew at q ⊢;rcases q with q | q | q<;>omega
 have g0:((i:Int) < (g.vars.length:Int))=False:=eq_false (by omega);rw [List.take_of_length_le (by omega)] at O;simp +contextual only [ct,jb,CY,fb.aB.g,Gf,g0,dB.1,dB.2.1,Hl.1,Hl.2.1,↓al,aG,simprocAttr];refine cK (anc _ (by have:=List.length_filterMap_le (gh g E) g.vars;omega) (anV W) v bg (O.fY fun _ _=>trivial)) ?_;rintro x bx ⟨cv,af,afU,X,c4⟩;have aC:=anU W af afU;rw [aC] at X;have fs:=X.one;simp +contextual only [fs.1,fs.2.1,↓al,aG,simprocAttr];exact cM _ _ x (by simp only [↓al,bs,simprocAttr]) (by rw [aS];simp only [↓al,bs,simprocAttr]) (by rw [aS];exact X) ((eb.trans Aq).trans c4)
theorem amx {B:Nat} {aW h:ah} {bO:Nat} {g:bp} {E:List (Nat × Nat)} {bQ:Nat->V} {w ρ:Nat->Nat} {bad:Bool} {b1 b':V} {r:bc} {Q:dm->bc->ah->Prop}
 (fl:Ext aW h) (sr:B=aW.next) (wm:g.N<=1000000) (lT:g.vars.length<=g.N) (W:g.dX) (S:eP g ρ) (J:nS g E ρ bad []) (L:jC g ρ) (eW:Way w ρ) (kn:q1 g) (H:eK B h bO g bQ w bad b1 b') (ct:r 6=.ptr (aj bO) 0)
 (cM:∀(r:bc) (k:ah) (c2:V),r 4=c2->r 5=.int .i64 (jv g E).2->dc Any k 5 ((jv g E).1.map lI) c2->Ext aW k->Q .ret r k):bo Tryz.prog [.c IQ] .normal r h Q:=by
 have JL:=fl.next
 have on:=H.no.v.one;have jU:=H.no.v.len;unfold IQ;rcases J with ⟨rfl,aD⟩ | ⟨rfl,J⟩
 . have aS:=WB aD;simp +contextual only [ct,H.aB.g,↓al,aG,simprocAttr];exact cM _ _ .bB (by simp only [↓al,bs,simprocAttr]) (by rw [aS];simp only [↓al,bs,simprocAttr]) (by rw [aS];exact dc.nil _ _ _) fl
 obtain ⟨aa,ar,aP,H',cT⟩:=mk_zero (h:=h) (N:=g.N) (by omega);have H1:=H.ext aP;have aD:=J.j5;simp +contextual only [ct,H.aB.g,jU,ar,on.1,on.2.1,↓al,aG,simprocAttr];have ap:=H.Ie (N:=g.N) (Nat.le_refl _);have iU:cJ B aa 1 (.slice (aj h.next) 0 g.N g.N) g.N (h4 (fun _=>0) g.N):=H'.mono (by omega);obtain ⟨jc,sN⟩:∃jc,V.slice (aj h.next) 0 g.N g.N=jc:=⟨_,rfl⟩;have Ag:∀b,jc.aN b->aW.next<=cB b:=fun b q=>by rw [<-sN] at q;rw [show b=aj h.next from q,b9];omega
 rw [sN] at ap iU;simp only [sN];have eu:=fl.trans aP;refine fa (fun r k=>r 6=.ptr (aj bO) 0/\r 10=jc/\∃(i:Nat) (st:Nat->Nat),r 11=.int .i64 i/\i<=g.N/\cJ B k 1 jc g.N (h4 st g.N)/\RgOk g (cy g E) st []/\(∀j,j<i->∃t,dJ g (cy g E) j t)/\Mod jc.aN aa k) (fun r _=>g.N - (r 11).toN) ?_ ?_
 . exact ⟨by simp only [ct,↓al,bs,simprocAttr],by simp only [↓al,bs,simprocAttr],0,fun _=>0,by simp only [↓al,bs,simprocAttr]<;>rfl,by omega,iU,⟨fun i ao=>by simp,fun i ao q=>(by cases q),fun i ao=>Nat.zero_le _⟩,fun j aU=>by omega,Mod.refl _ _⟩
 clear ct;rintro r k ⟨ct,gQ,i,st,ja,ao,oX,ps,sI,f'⟩;have hj:=H1.OY ap f';have eb:Ext aW k:=eu.h1 f' fun b q=>Ag b q;unfold IM;by_cases aO:i<g.N
 . have g0:((i:Int) < (g.N:Int))=True:=eq_true (by omega);have dv:=kB aO (by omega);simp +contextual only [ct,gQ,ja,hj.aB.g,jU,g0,on.1,on.2.1,↓al,aG,simprocAttr];refine cK (Wb W S J L eW ap (by omega) (g.N+1) [] i st k (by simp) aO hj oX List.nodup_nil (fun r aE=>by cases aE) ps) ?_;rintro v bx ⟨M2,n3,⟨rfl,z,bn,afo⟩ | ⟨rfl,MY,pM,w_,av⟩⟩
   . have aS:=WE aD ⟨z,bn,afo⟩;simp +contextual only [↓al,aG,simprocAttr];exact cM _ _ .bB (by simp only [↓al,bs,simprocAttr]) (by rw [aS];simp only [↓al,bs,simprocAttr]) (by rw [aS];exact dc.nil _ _ _) (eb.h1 M2 fun b q=>Ag b q)
   . simp +contextual only [ct,gQ,ja,dv,↓al,aG,simprocAttr];refine ⟨⟨i+1,MY,rfl,aO,pM,w_,fun j aU=>?_,f'.trans M2⟩,by omega⟩;by_cases q:j=i
     . rw [q];exact av
     . exact sI j (by omega)
 . have g0:((i:Int) < (g.N:Int))=False:=eq_false (by omega);simp +contextual only [ct,gQ,ja,hj.aB.g,jU,g0,on.1,on.2.1,↓al,aG,simprocAttr];exact amy eb sr wm lT W S J L eW kn hj (fun j aU=>sI j (by omega)) (by simp only [ct,↓al,bs,simprocAttr]) cM
theorem jC.grow {g cC:bp} {ρ:Nat->Nat} (jg:cC.dX) (S:eP g ρ) (H:jC g ρ) (aB:g.le cC):jC cC ρ:=by
 intro x aL ex ak c y kd jN aZ;by_cases z:y<g.N
 . have agm:x<g.N:=by rw [<-aZ];exact S.lt y z
   rw [aB.bF z] at jN;rw [aB.bF agm] at ex;exact H x aL ex ak c y kd jN aZ
 . have:=S.out y (by omega);rw [this] at aZ;subst aZ;rw [ex] at jN;cases jN;exact Int.le_refl _
theorem nS.step {g cC:bp} {E:List (Nat × Nat)} {ρ:Nat->Nat} {bad:Bool} (S:eP g ρ) (W:cC.dX) (J:nS g E ρ bad []) (aB:g.le cC) (a b:Nat):nS cC ((a,b)::E) ρ bad [(a,b)]:=by
 rcases J with ⟨aa,ad⟩ | ⟨aa,ad⟩
 . exact .inl ⟨aa,ad.mono aB fun p af=>List.mem_cons_of_mem _ af⟩
 . exact .inr ⟨aa,(ad.grow S W aB).push a b⟩
theorem amw (a b:List aM) (a1:cE a<=1000) (ae:cE b<=1000) (aA:a.length=b.length) (q4:∀t ∈ a,t.check=0) (q5:∀t ∈ b,t.check=0) (hh gf:V) (h:ah) (kj:dc Any h 4 (a.map aM.enc) hh) (hU:dc Any h 4 (b.map aM.enc) gf):
 de Tryz.prog 55 [hh,gf] h fun x ab=>(∃c2,x=.tuple [c2,.int .i64 (rP a b).2]/\dc Any ab 5 ((rP a b).1.map lI) c2)/\Ext h ab:=by
 have dZ:=kj.len;have eS:=hU.len;rw [List.length_map] at dZ eS;have SG:=qw a;have q_:=qw b;have db:=kj.one;have dp:=hU.one;have hu:=Xl (a:=a) (b:=b) ⟨aA,q4,q5⟩;have B7:(a.zip b).length=a.length:=by rw [List.length_zip,aA,Nat.min_self]
 refine aa2.z rfl (dM ?_);rw [aa3];obtain ⟨aa,ar,aP,c6⟩:=h7 h [.bB,.bB,.bool false];have cT:=aP.next
 have Cm:=c6.lt;have tr:dc (Old h) h 4 (a.map aM.enc) hh:=kj.rE;have rT:dc (Old h) h 4 (b.map aM.enc) gf:=hU.rE;have oP:eK h.next aa h.next ⟨[],[]⟩ (fun _=>.bB) (fun i=>i) false .bB .bB:=⟨c6,⟨rfl,rfl⟩,⟨rfl,rfl⟩,fun i aL e=>by simp at e,fun i b ao=>absurd ao (Nat.not_lt_zero _),Nat.le_refl _,fun q=>q,fun q=>q,fun b q=>q.elim⟩
 simp +contextual only [ar,db.1,db.2.1,dp.1,dp.2.1,↓al,aG,simprocAttr];refine fa (fun r k=>r 0=hh/\r 1=gf/\r 6=.ptr (aj h.next) 0/\∃(i:Nat) (G:bp × List (Nat × Nat)) (bQ:Nat->V) (w ρ:Nat->Nat) (bad:Bool) (b1 b':V),r 7=.int .i64 i/\i<=a.length/\G=iV ((a.zip b).take i) (⟨[],[]⟩,[])/\eK h.next k h.next G.1 bQ w bad b1 b'/\G.1.dX/\eP G.1 ρ/\Way w ρ/\jC G.1 ρ/\nS G.1 G.2 ρ bad []/\q1 G.1/\
  G.1.N<=cE (a.take i)+cE (b.take i)/\G.1.vars.length<=G.1.N/\Ext h k) (fun r k=>a.length - (r 7).toN) ?_ ?_
 . refine ⟨by simp only [↓al,bs,simprocAttr],by simp only [↓al,bs,simprocAttr],by simp only [↓al,bs,simprocAttr],0,(⟨[],[]⟩,[]),fun _=>.bB,fun i=>i,fun i=>i,false,.bB,.bB,by simp only [↓al,bs,simprocAttr]<;>rfl,Nat.zero_le _,rfl,oP,bp.dX.empty,⟨fun _=>rfl,fun _ h=>h,fun _ _=>rfl,fun a aL e=>(by simp at e)⟩,Way.refl,fun x aL e=>(by simp at e),.inr ⟨rfl,⟨fun a b e=>e ▸ .refl a,fun p af=>(by cases af),fun p af=>(by cases af),fun a b aL cl e aa=>(by simp at aa)⟩⟩,fun i aL e=>(by simp at e),?_,Nat.le_refl _,aP⟩;simp [bp.N]
 rintro r k ⟨bt,br,ct,i,G,bQ,w,ρ,bad,b1,b',eJ,ao,kn,H,W,S,eW,nV,J,S9,ZR,AX,eb⟩;have l7:=eb.next
 unfold IL;by_cases aO:i<a.length
 . have g0:((i:Int) < (a.length:Int))=True:=eq_true (by omega);have nm:i<b.length:=by omega
   have wM:(a.zip b)[i]? =some (a[i],b[i]):=by rw [List.getElem?_zip_eq_some];exact ⟨List.getElem?_eq_getElem aO,List.getElem?_eq_getElem nm⟩
   have K4:(a.zip b).take (i+1)=(a.zip b).take i++[(a[i],b[i])]:=by
    have B5:i < (a.zip b).length:=by omega
    rw [List.take_succ_eq_append_getElem B5];have:=List.getElem?_eq_getElem B5;rw [this] at wM;rw [Option.some.inj wM]
   have E3:iV ((a.zip b).take (i+1)) (⟨[],[]⟩,[])=mM G (a[i],b[i]):=by rw [K4,OO,<-kn]
   have BZ:=yd (q4 _ (List.getElem_mem aO));have sJ:=yd (q5 _ (List.getElem_mem nm));have alN:=xf aO;have alO:=xf nm;have alQ:=py a (i+1);have alR:=py b (i+1);obtain ⟨Pc,U1,XC,lU,vt,DX,zp⟩:=aM.c0 tr (k:=.i64) aO;obtain ⟨lF,U2,XD,B9,vu,DY,zq⟩:=aM.c0 rT (k:=.i64) nm;have zF:=DX.one;have ej:=DY.one;have dv:IntKind.i64.wrap ((i:Int)+1)=((i+1:Nat):Int):=by rw [wrap_i64 (by omega) (by omega)];rfl
   have vI:=zp k eb;simp +contextual only [bt,br,ct,eJ,dZ,g0,lU,vI,↓al,aG,simprocAttr];have zd:∀j,G.1.N<=j->w j=j:=fun j aU=>Way.root S eW (S.out j aU);have zu:∀{b1 b':V} {k:ah} {g:bp} {bQ:Nat->V} {w:Nat->Nat} {bad:Bool},eK h.next k h.next g bQ w bad b1 b'->∀b,(b=aj h.next\/b1.aN b\/b'.aN b)->h.next<=cB b:=fun D b q=>by
    rcases q with q | q | q
    . rw [q,b9];exact Nat.le_refl _
    . exact D.no.base q
    . exact D.j4.base q
   refine cK (Mx a[i].size a[i] (Nat.le_refl _) BZ G.1 bQ b1 b' _ k W l7 (by omega) (by omega) zd ((vt.ext eb).k1 fun b q=>q) H) ?_;rintro bA bz ⟨Ge,Gu,Hg,rfl,H1,Ot,m1⟩;obtain ⟨yy,AO,XJ,adk⟩:=r5 a[i] G.1 BZ W;have apC:=OQ a[i] G.1;have ady:=yy.n;have eu:Ext h bz:=eb.h1 m1 (zu H);have A':=zq bz eu;simp +contextual only [bt,br,ct,eJ,B9,A',↓al,aG,simprocAttr];refine cK (Mx b[i].size b[i] (Nat.le_refl _) sJ (a[i].add G.1).1 Ge Gu Hg _ bz AO (by have:=eu.next;omega) (by omega) (by omega) (fun j aU=>zd j (by omega)) ((vu.ext eu).k1 fun b q=>q) H1) ?_;rintro eB bx ⟨w1,rB,xF,rfl,cp,AJ,m2⟩;obtain ⟨yz,mY,NF,JE⟩:=r5 b[i] _ sJ AO;have JH:=yz.n;have cm:Ext h bx:=eu.h1 m2 (zu H1);have vY:=yy.trans yz;have mi:=S.grow vY;have bS:=J.step S mY vY (a[i].add G.1).2 (b[i].add (a[i].add G.1).1).2;have Yl:=nV.grow mY S vY;have MP:a[i].nJ:=Bc _ _ _ (Nat.le_refl _) vt;have fM:b[i].nJ:=Bc _ _ _ (Nat.le_refl _) vu;simp +contextual only [bt,br,ct,eJ,↓al,aG,simprocAttr];refine cK (V9 mY (kl (b[i].add (a[i].add G.1).1).1 ρ+1) ρ w bad [] _ _ bx (Nat.lt_succ_self _) mi eW Yl cp (by omega) NF bS) ?_;rintro v cU ⟨NJ,iS,ZU,rU,AN,k6,HT,c7,_,m3⟩;have mO:Ext h cU:=cm.h1 m3 fun b q=>zu cp b (by rcases q with q | q;exact .inl q;exact .inr (.inl q));have JY:(mM G (a[i],b[i])).1.N<=cE (a.take (i+1))+cE (b.take (i+1)):=by show (b[i].add (a[i].add G.1).1).1.N<=_;omega
   simp +contextual only [bt,br,ct,eJ,dv,↓al,aG,simprocAttr];exact ⟨⟨i+1,mM G (a[i],b[i]),w1,iS,NJ,ZU,rB,xF,rfl,aO,E3.symm,rU,mY,AN,k6,HT,c7,AR _ _ fM (AR _ _ MP S9),JY,AS _ _ (AS _ _ AX),mO⟩,by omega⟩
 . have g0:((i:Int) < (a.length:Int))=False:=eq_false (by omega);rw [List.take_of_length_le (by omega)] at kn;have bW:=py a i;have bV:=py b i;simp +contextual only [bt,br,ct,eJ,dZ,g0,↓al,aG,simprocAttr];refine amx (B:=h.next) eb rfl (by omega) AX W S J nV eW S9 H (by simp only [ct,↓al,bs,simprocAttr]) fun r k c2 gj gM O E=>?_;rw [kn] at gM O;simp only [gj,gM,hu,↓al,bs,simprocAttr];exact ⟨trivial,⟨c2,rfl,O⟩,E⟩
theorem amG (a b:List aM) (a1:cE a<=1000) (ae:cE b<=1000) (hh gf:V) (h:ah) (kj:dc Any h 4 (a.map aM.enc) hh) (hU:dc Any h 4 (b.map aM.enc) gf):
 de Tryz.prog 14 [hh,gf] h fun x ab=>(∃c2,x=.tuple [c2,.int .i64 (rP a b).2]/\dc Any ab 5 ((rP a b).1.map lI) c2)/\Ext h ab:=by
 have dZ:=kj.len;have eS:=hU.len;rw [List.length_map] at dZ eS;have SG:=qw a;have q_:=qw b;have db:=kj.one;have dp:=hU.one;refine aaC.z rfl (dM ?_);unfold PO;by_cases aA:a.length=b.length
 rotate_left
 . have fq:((a.length:Int)=(b.length:Int))=False:=eq_false (by omega);have hu:=C_ (a:=a) (b:=b) fun q=>aA q.1;simp +contextual only [dZ,eS,fq,db.1,db.2.1,dp.1,dp.2.1,hu,↓al,aG,simprocAttr];exact ⟨⟨_,rfl,dc.nil _ _ _⟩,Ext.refl h⟩
 have fq:((a.length:Int)=(b.length:Int))=True:=eq_true (by omega);simp +contextual only [dZ,eS,fq,db.1,db.2.1,db.2.2,dp.1,dp.2.1,dp.2.2,↓al,aG,simprocAttr];refine fa (fun r k=>r 0=hh/\r 1=gf/\∃i:Nat,r 6=.int .i64 i/\i<=a.length/\(∀t ∈ a.take i,t.check=0)/\(∀t ∈ b.take i,t.check=0)/\Ext h k) (fun r k=>a.length - (r 6).toN) ?_ ?_
 . exact ⟨by simp only [↓al,bs,simprocAttr],by simp only [↓al,bs,simprocAttr],0,by simp only [↓al,bs,simprocAttr]<;>rfl,Nat.zero_le _,fun t av=>(by simp at av),fun t av=>(by simp at av),Ext.refl _⟩
 rintro r k ⟨bt,br,i,ct,ao,q4,q5,eb⟩;unfold PY;by_cases aO:i<a.length
 . have g0:((i:Int) < (a.length:Int))=True:=eq_true (by omega);have nm:i<b.length:=by omega
   obtain ⟨Pc,U1,XC,lU,vt,DX,zp⟩:=aM.c0 (kj.ext eb) (k:=.i64) aO;obtain ⟨lF,U2,XD,B9,vu,DY,zq⟩:=aM.c0 (hU.ext eb) (k:=.i64) nm;have vI:=zp k (Ext.refl k);have apX:a[i].size<=1000:=Nat.le_trans (zP (List.getElem_mem aO)) a1;have oq:b[i].size<=1000:=Nat.le_trans (zP (List.getElem_mem nm)) ae;have dv:IntKind.i64.wrap ((i:Int)+1)=((i+1:Nat):Int):=by rw [wrap_i64 (by omega) (by omega)];rfl
   simp +contextual only [bt,br,ct,dZ,g0,lU,vI,↓al,aG,simprocAttr];refine cK (Mz a[i] (by omega) _ k vt) ?_;rintro x bz ⟨rfl,bA⟩;by_cases bP:a[i].check=0
   . have dG:=zq bz bA;simp +contextual only [bt,br,ct,eq_true bP,B9,dG,↓al,aG,simprocAttr];refine cK (Mz b[i] (by omega) _ bz (vu.ext bA)) ?_;rintro x bx ⟨rfl,eB⟩;by_cases bX:b[i].check=0
     . simp +contextual only [bt,br,ct,eq_true bP,eq_true bX,dv,↓al,aG,simprocAttr];refine ⟨⟨i+1,rfl,aO,fun t av=>?_,fun t av=>?_,(eb.trans bA).trans eB⟩,by omega⟩
       . rw [List.take_succ_eq_append_getElem aO] at av;rcases List.mem_append.1 av with av | av
         . exact q4 t av
         . rw [List.mem_singleton] at av;rw [av];exact bP
       . rw [List.take_succ_eq_append_getElem nm] at av;rcases List.mem_append.1 av with av | av
         . exact q5 t av
         . rw [List.mem_singleton] at av;rw [av];exact bX
     . have hu:=C_ (a:=a) (b:=b) fun q=>bX (q.2.2 _ (List.getElem_mem nm));simp +contextual only [bt,br,ct,eq_true bP,eq_false bX,hu,↓al,aG,simprocAttr];exact ⟨⟨_,rfl,dc.nil _ _ _⟩,(eb.trans bA).trans eB⟩
   . have hu:=C_ (a:=a) (b:=b) fun q=>bP (q.2.1 _ (List.getElem_mem aO));simp +contextual only [bt,br,ct,eq_false bP,hu,↓al,aG,simprocAttr];exact ⟨⟨_,rfl,dc.nil _ _ _⟩,eb.trans bA⟩
 have g0:((i:Int) < (a.length:Int))=False:=eq_false (by omega);rw [List.take_of_length_le (by omega)] at q4 q5;simp +contextual only [bt,br,ct,dZ,g0,db.1,db.2.1,dp.1,dp.2.1,↓al,aG,simprocAttr];refine cK (amw a b a1 ae aA q4 q5 hh gf k (kj.ext eb) (hU.ext eb)) ?_;rintro x bx ⟨⟨c2,rfl,O⟩,bf⟩;have os:=O.one;simp +contextual only [os.1,os.2.1,↓al,aG,simprocAttr];exact ⟨⟨c2,rfl,O⟩,eb.trans bf⟩
end
section
open Go a8 Go.RowKit
set_option maxRecDepth 100000 in
theorem ZP:Nn ctx 100000 11 []=true:=by kernel_rfl
theorem ZO (h:ah):gu Tryz.prog 11 [] h (.bool true) h:=
 abM (by kernel_rfl) (fun E x q=>by subst q;simp [Rel]) ⟨_,Tryz.func11,by kernel_rfl⟩ (fun w hw=>an0 (C:=ctx) follows Cy hw alL (by kernel_rfl) (by kernel_rfl) ZP) h
theorem Pa (h:ah):de Tryz.prog 11 [] h fun x ab=>x=.bool true/\ab=h:=⟨_,_,ZO h,rfl,rfl⟩
end
section
open Go a8
theorem Uz (a:Int) (n:Nat) (aa:1<=n) (ad:n<=1000) (h:ah):de Tryz.prog 18 [.int .i64 a,.int .i64 n] h fun x ab=>(∃k:Nat,k<n/\x=.int .i64 k)/\ab=h:=by
 refine aaJ.z rfl (dM ?_);unfold P7;have g1:((n:Int)<1)=False:=eq_false (by omega);have aE:=ah0 (P:=Tryz.prog) .i64 a (n:Int) (show ((n:Int))≠0 by omega);have cb:=Int.tmod_lt_of_pos a (show (0:Int)<n by omega);have ca:-(n:Int)<a.tmod n:=by have:=Int.tmod_lt_of_pos (-a) (show (0:Int)<n by omega);rw [Int.neg_tmod] at this;omega
 by_cases c:a.tmod n<0
 . have w:IntKind.i64.wrap (a.tmod n+n)=a.tmod n+n:=wrap_i64 (by omega) (by omega);simp +contextual only [g1,aE,eq_true c,w,↓al,aG,simprocAttr];exact ⟨(a.tmod n+n).toNat,by omega,by rw [Int.toNat_of_nonneg (by omega)]⟩
 . simp +contextual only [g1,aE,eq_false c,↓al,aG,simprocAttr];exact ⟨(a.tmod n).toNat,by omega,by rw [Int.toNat_of_nonneg (by omega)]⟩
def l2 (i:Nat):aM:=.mk 1 i [] []
def z7 (i:Nat):aM:=.mk 2 0 xu [l2 (i+1),l2 (i+1)]
def qy:List UInt8:=[114,101,102]
def iv (n:Nat):Nat->aM
 | 0=>l2 n
 | j+1=>.mk 2 0 qy [iv n j]
theorem LO (n:Nat):∀j,(iv n j).size=j+1/\(iv n j).deep=j+1
 | 0=>by simp [iv,l2,aM.size,aM.deep,cE,eY]
 | j+1=>by obtain ⟨aa,ad⟩:=LO n j;simp only [iv,aM.size,aM.deep,cE,eY,aa,ad];omega
theorem UD {n:Nat} (aV:n<=1000):∀j,(iv n j).shape=true
 | 0=>by
   have aa:(0:Int)<=(n:Int):=by omega
   have ad:(n:Int)<=1048575:=by omega
   simp [iv,l2,aM.shape,kZ,aM.own,aM.k,aM.n,aM.s,aM.l,ad]
 | j+1=>by
   rw [iv,aM.shape,kZ,kZ,UD aV j];have aa:i' 3 qy=true:=by decide
   have ad:(aM.mk 2 0 qy [iv n j]).own=true:=by unfold aM.own;rw [if_neg (show ¬(aM.mk 2 0 qy [iv n j]).k=1 by show ¬(2:Int)=1;omega),if_pos (show (aM.mk 2 0 qy [iv n j]).k=2 from rfl),if_neg (show ¬((aM.mk 2 0 qy [iv n j]).s=AV\/(aM.mk 2 0 qy [iv n j]).s=xu) by show ¬(qy=AV\/qy=xu);decide)];show (decide ((0:Int)=0)&&decide (1<=64)&&i' 3 qy)=true;rw [aa];rfl
   rw [ad];rfl
theorem aks {n:Nat} (aV:n<=1000) {j:Nat} (aU:j<=1000):(iv n j).check=if j+1<=200 then 0 else 3:=by
 obtain ⟨aa,ad⟩:=LO n j;unfold aM.check;rw [UD aV j,aa,ad];by_cases c:j+1<=200
 . simp [c];omega
 . simp [c]
section
variable [Lay]
theorem aj_ {F:aQ->Prop} {h:ah} (i:Nat):cW F h (l2 i).enc [.int .i64 1,.int .i64 i,.str [],.bB]:=by unfold l2;rw [CR];exact .i (.i (.s (Nat.zero_le _) ((dc.nil _ _ _).cons .nil)))
theorem ajT (h:ah) (i:Nat):∃g,h.new (.bE [.int .i64 1,.int .i64 i,.str [],.bB,.int .i64 1,.int .i64 i,.str [],.bB] 0 false)=g/\Ext h g/\fm g (fun b=>b=aj h.next) [l2 i,l2 i] (.slice (aj h.next) 0 2 2):=by
 obtain ⟨g,ar,aw,aK⟩:=Lv h 4 2 [.int .i64 1,.int .i64 i,.str [],.bB,.int .i64 1,.int .i64 i,.str [],.bB] rfl (by unfold top;omega);refine ⟨g,ar,aw,.mk [[.int .i64 1,.int .i64 i,.str [],.bB],[.int .i64 1,.int .i64 i,.str [],.bB]] (fun _=>.bB) (fun _ _=>False) (aK.mono (Nat.zero_le _)) rfl (by unfold top;simp) (fun j u q=>?_) (fun j u q=>?_) (fun b q=>q) (fun j b _ q=>q.elim) (fun j k b aa ad aJ q=>q.elim)⟩
 . match j with
   | 0=>simp only [List.getElem?_cons_zero,Option.some.injEq] at q;subst q;exact ⟨rfl,Nat.zero_le _⟩
   | 1=>simp at q;subst q;exact ⟨rfl,Nat.zero_le _⟩
   | j+2=>simp at q
 . match j with
   | 0=>simp only [List.getElem?_cons_zero,Option.some.injEq] at q;subst q;exact fm.nil _ _
   | 1=>simp at q;subst q;exact fm.nil _ _
   | j+2=>simp at q
end
theorem VB:∀n,cE ((List.range n).map l2)=n
 | 0=>rfl
 | n+1=>by rw [List.range_succ,List.map_append,s4,VB n];simp [cE,l2,aM.size]
theorem VA:∀n,cE ((List.range n).map z7)=3 * n
 | 0=>rfl
 | n+1=>by rw [List.range_succ,List.map_append,s4,VA n];simp [cE,z7,l2,aM.size];omega
theorem aj1 (n m:Int) (h:ah):de Tryz.prog 4 [.int .i64 n,.int .i64 m] h fun x _=>x=.bool true:=by
 refine aaX.z rfl (dM ?_);unfold eF;simp +contextual only [↓al,aG,simprocAttr];refine cK (Uz n 15 (by omega) (by omega) h) ?_;rintro x aW ⟨⟨a,a1,rfl⟩,rfl⟩;simp +contextual only [↓al,aG,simprocAttr];refine cK (Uz m 206 (by omega) (by omega) aW) ?_;rintro x aa ⟨⟨d,bb,rfl⟩,rfl⟩;simp +contextual only [↓al,aG,simprocAttr];refine fa (fun r k=>r 0=.int .i64 a/\r 1=.int .i64 d/\∃(i:Nat) (x3 gW:aQ->Prop) (hh gf:V),r 7=.int .i64 i/\r 5=hh/\r 6=gf/\i<=a/\fm k x3 ((List.range i).map l2) hh/\fm k gW ((List.range i).map z7) gf/\(∀b,x3 b->¬gW b)/\(∀b,x3 b->Old k b)/\(∀b,gW b->Old k b)) (fun r k=>a - (r 7).toN) ?_ ?_
 . exact ⟨by simp only [↓al,bs,simprocAttr],by simp only [↓al,bs,simprocAttr],0,fun _=>False,fun _=>False,.bB,.bB,by simp only [↓al,bs,simprocAttr]<;>rfl,by simp only [↓al,bs,simprocAttr],by simp only [↓al,bs,simprocAttr],by omega,fm.nil _ _,fm.nil _ _,fun _ q=>q.elim,fun _ q=>q.elim,fun _ q=>q.elim⟩
 rintro r k ⟨bt,br,i,x3,gW,hh,gf,eJ,c1,ct,ao,A,B,I_,zF,ej⟩;unfold Qd;have u4:=A.one;have u5:=B.one;by_cases aO:i<a
 . have g0:((i:Int) < (a:Int))=True:=eq_true (by omega);have dv:IntKind.i64.wrap ((i:Int)+1)=((i+1:Nat):Int):=by rw [wrap_i64 (by omega) (by omega)];rfl
   obtain ⟨bz,e1,bA,Z⟩:=n' k z4 [.int .i64 1,.int .i64 ((i+1:Nat):Int),.str [],.bB];have cT:=bA.next
   have aka:=Z.lt;obtain ⟨Xr,bx,bW,bV,b8,gH⟩:=(A.ext bA).add (t:=l2 i) (T:=fun _=>False) (u:=.bB) (fm.nil _ _) (fun b q z=>z) (fun b q=>bA.bF (zF b q)) (fun b q=>q.elim) (by simp;unfold top;omega) (Nat.zero_le _);have XK:=bV.one;have Dd:∀b,hh.aN b->x3 b:=fun b q=>A.bj b q;have hQ:=(B.ext bA).mod b8 fun b q z=>I_ b (Dd b z) q;have iU:=Z.mod b8 fun q=>by have:=zF _ (Dd _ q);unfold Old at this;rw [b9] at this;omega
   have gP:=b8.next
   obtain ⟨cU,y3,nN,W⟩:=ajT bx (i+1);have n3:=nN.next
   have lE:=iU.ext nN;have aqe:=lE.lt;obtain ⟨Xs,dr,s1,s2,ma,xo⟩:=(hQ.ext nN).add (t:=z7 i) (T:=fun b=>b=aj bx.next) (u:=.slice (aj bx.next) 0 2 2) W (fun b q z=>by have:=ej b q;rw [z] at this;unfold Old at this;rw [b9] at this;omega) (fun b q=>by have:=ej b q;unfold Old at this ⊢;omega) (fun b q=>by rw [q];exact fW (by have:=W.bj _ (show (V.slice (aj bx.next) 0 2 2).aN (aj bx.next) from rfl);have:=congrArg ah.next y3;rw [gk] at this;omega)) (by simp;unfold top;omega) (by show xu.length<=top;decide);have XL:=s2.one;have L9:ij 4 hh (.slice (aj bz.next) 0 1 1) (bz.new (.bE [.int .i64 1,.int .i64 i,.str [],.bB] 0 false))=.val Xr bx:=bW;have amJ:ij 4 gf (.slice (aj cU.next) 0 1 1) (cU.new (.bE [.int .i64 2,.int .i64 0,.str [42],.slice (aj bx.next) 0 2 2] 0 false))=.val Xs dr:=s1;simp +contextual only [bt,br,c1,ct,eJ,g0,dv,e1,Z.g,iU.g,lE.g,L9,y3,amJ,u4.1,u4.2.1,u5.1,u5.2.1,XK.1,XK.2.1,XL.1,XL.2.1,↓al,aG,simprocAttr];refine ⟨⟨i+1,fun b=>x3 b\/False\/(bz.next<=cB b/\cB b<bx.next),fun b=>gW b\/b=aj bx.next\/(cU.next<=cB b/\cB b<dr.next),Xr,Xs,rfl,rfl,rfl,aO,?_,?_,?_,?_,?_⟩,by simp only [Int.toNat_natCast];omega⟩
   . rw [List.range_succ,List.map_append];refine (bV.ext nN).mod ma fun b q z=>?_;have bn:=hQ.bj b z;have:=ej b bn;unfold Old at this;rcases q with q | q | q
     . exact I_ b q bn
     . exact q
     . omega
   . rw [List.range_succ,List.map_append];exact s2
   . intro b q z;rcases q with q | q | q
     . have:=zF b q;unfold Old at this;rcases z with z | z | z
       . exact I_ b q z
       . rw [z,b9] at this;omega
       . omega
     . exact q
     . rcases z with z | z | z
       . have:=ej b z;unfold Old at this;omega
       . rw [z,b9] at q;omega
       . omega
   . intro b q;have n4:=ma.next
     rcases q with q | q | q
     . have:=zF b q;unfold Old at this ⊢;omega
     . exact q.elim
     . unfold Old;omega
   . intro b q;have n4:=ma.next
     rcases q with q | q | q
     . have:=ej b q;unfold Old at this ⊢;omega
     . rw [q];have:=W.bj _ (show (V.slice (aj bx.next) 0 2 2).aN (aj bx.next) from rfl);have n5:=congrArg ah.next y3
       rw [gk] at n5;unfold Old;rw [b9];omega
     . unfold Old;omega
 have g0:((i:Int) < (a:Int))=False:=eq_false (by omega);obtain rfl:i=a:=by omega
 have Of:dc Any k 4 (((List.range i).map l2).map aM.enc) hh:=A.fY fun _ _=>trivial;have Og:dc Any k 4 (((List.range i).map z7).map aM.enc) gf:=B.fY fun _ _=>trivial;obtain ⟨bz,e1,bA,Z⟩:=n' k z4 [.int .i64 1,.int .i64 i,.str [],.bB];simp +contextual only [bt,br,c1,ct,eJ,g0,e1,u4.1,u4.2.1,u5.1,u5.2.1,↓al,aG,simprocAttr];refine fa (fun r bg=>r 1=.int .i64 d/\r 5=hh/\r 6=gf/\r 9=.ptr (aj k.next) 0/\∃(j:Nat) (du:V),r 10=.int .i64 ((j+1:Nat):Int)/\(j=0\/j+1<=d)/\Has bg k.next (fT (iv i j) du)/\cW (fun b=>b≠aj k.next) bg (iv i j).enc (fT (iv i j) du)/\Ext k bg) (fun r k=>d - (r 10).toN) ?_ ?_
 . exact ⟨by simp only [br,↓al,bs,simprocAttr],by simp only [c1,↓al,bs,simprocAttr],by simp only [ct,↓al,bs,simprocAttr],by simp only [↓al,bs,simprocAttr],0,.bB,by simp only [↓al,bs,simprocAttr]<;>rfl,.inl rfl,Z,aj_ i,bA⟩
 clear bt br c1 ct eJ r;rintro r bg ⟨br,c1,ct,mK,j,du,gQ,aU,oX,C,eb⟩;unfold Qe;obtain ⟨Nu,hA,XX,ot⟩:=aM.open C;obtain rfl:du=Nu:=by simpa using hA
 have ol:=XX.one;have l7:=eb.next
 have aka:=oX.lt;by_cases aO:j+1<d
 . have g1:(((j+1:Nat):Int) < (d:Int))=True:=eq_true (by omega);have dv:IntKind.i64.wrap (((j+1:Nat):Int)+1)=((j+1+1:Nat):Int):=by rw [wrap_i64 (by omega) (by omega)];rfl
   obtain ⟨bx,fZ,eB,G⟩:=ajR (F:=fun b=>b≠aj k.next) (size:=4) (ds:=(iv i j).enc) (cs:=fT (iv i j) du) rfl C (fun q=>by have:=fj q;omega);have iU:=oX.ext eB;simp +contextual only [br,c1,ct,mK,gQ,g1,dv,oX.g,iU.g,fZ,ol.1,ol.2.1,↓al,aG,simprocAttr];refine ⟨⟨j+1,.slice (aj bg.next) 0 1 1,rfl,.inr aO,iU.put _,?_,(eb.trans eB).set (Nat.le_refl _) _⟩,by simp only [Int.toNat_natCast];omega⟩;have gS:=G.set (b:=aj k.next) (fun q=>q rfl) (.bE [.int .i64 2,.int .i64 0,.str [114,101,102],.slice (aj bg.next) 0 1 1] 0 false);rw [iv,CR];exact .i (.i (.s (show qy.length<=top by decide) (gS.cons .nil)))
 have g1:(((j+1:Nat):Int) < (d:Int))=False:=eq_false (by omega);have SW:cE ((List.range i).map l2)<=1000:=by rw [VB];omega
 have BM:cE ((List.range i).map z7)<=1000:=by rw [VA];omega
 simp +contextual only [br,c1,ct,mK,gQ,g1,u4.1,u4.2.1,u5.1,u5.2.1,↓al,aG,simprocAttr];refine cK (aoc _ _ SW BM hh gf bg (Of.ext eb) (Og.ext eb)) ?_;rintro x bG ⟨⟨sp,rfl,Oy⟩,gj⟩;have nF:=Oy.one;simp +contextual only [br,c1,ct,mK,u4.1,u4.2.1,u5.1,u5.2.1,nF.1,nF.2.1,↓al,aG,simprocAttr];refine cK (amG _ _ SW BM hh gf bG (Of.ext (eb.trans gj)) (Og.ext (eb.trans gj))) ?_;rintro x di ⟨⟨amP,rfl,Ox⟩,gM⟩;have pt:=Ox.one;have tC:=(oX.ext gj).ext gM;have XW:=(C.ext gj).ext gM;have Hu:cW Any di (iv i j).enc (fT (iv i j) du):=XW.k1 fun _ _=>trivial;simp +contextual only [br,c1,ct,mK,nF.1,nF.2.1,pt.1,pt.2.1,↓al,aG,simprocAttr];refine cK (anj _ sp amP di ((Oy.ext gM).fY fun _ _=>trivial) Ox) ?_;rintro x dD ⟨rfl,o3⟩;have tD:=tC.ext o3;obtain ⟨ap4,qb⟩:=LO i j;simp +contextual only [br,c1,ct,mK,tD.g,tC.g,ol.1,ol.2.1,nF.1,nF.2.1,pt.1,pt.2.1,↓al,aG,simprocAttr];have ae4:j<=1000:=by omega
 have gZ:=aks (n:=i) (by omega) ae4;refine cK (I0 (iv i j) (by omega) _ dD (Hu.ext o3)) ?_;rintro x j6 ⟨rfl,Ji⟩;have vv:=tD.ext Ji;simp +contextual only [br,c1,ct,mK,vv.g,tD.g,tC.g,ol.1,ol.2.1,nF.1,nF.2.1,pt.1,pt.2.1,↓al,aG,simprocAttr];refine cK (Mz (iv i j) (by omega) _ j6 (Hu.ext (o3.trans Ji))) ?_;rintro x pW ⟨rfl,Rn⟩;have x4:=vv.ext Rn;simp +contextual only [br,c1,ct,mK,x4.g,vv.g,tD.g,tC.g,ol.1,ol.2.1,nF.1,nF.2.1,pt.1,pt.2.1,↓al,aG,simprocAttr];refine cK (I0 (iv i j) (by omega) _ pW (Hu.ext ((o3.trans Ji).trans Rn))) ?_;rintro x E2 ⟨rfl,acx⟩;have D2:=x4.ext acx;by_cases c:j+1<=200
 . rw [if_pos c] at gZ;have g2:((d:Int)<=200)=True:=eq_true (by omega);simp +contextual only [br,c1,ct,mK,gZ,g2,D2.g,x4.g,vv.g,tD.g,tC.g,ol.1,ol.2.1,nF.1,nF.2.1,pt.1,pt.2.1,↓al,aG,simprocAttr];refine cK (Pa _) ?_;rintro x adT ⟨rfl,rfl⟩;simp +contextual only [br,c1,ct,mK,gZ,g2,D2.g,x4.g,vv.g,tD.g,tC.g,↓al,aG,simprocAttr]
 . rw [if_neg c] at gZ;have g2:((d:Int)<=200)=False:=eq_false (by omega);simp +contextual only [br,c1,ct,mK,gZ,g2,D2.g,x4.g,vv.g,tD.g,tC.g,ol.1,ol.2.1,nF.1,nF.2.1,pt.1,pt.2.1,↓al,aG,simprocAttr];refine cK (Pa _) ?_;rintro x adT ⟨rfl,rfl⟩;simp +contextual only [br,c1,ct,mK,gZ,g2,D2.g,x4.g,vv.g,tD.g,tC.g,↓al,aG,simprocAttr]
end
section
open Go a8 Go.RowKit Go.Proofs Go.Lib
abbrev zm:List (String × DataW Unit):=Rows.typesAppliesUptoRow.laid
theorem acK {n:String} {g:Nat} {t:TypeId} {ms:Array (String × TypeId)} {name:String} {d:DataW Unit} {W:World} (aB:Tryz.prog.globalNamed n=some g) (KX:(Tryz.prog.globals[g]?).map (·.type)=some t) (ao:Tryz.prog.underlying t=some (.interface ms))
 (h:VarReads Tryz.prog W n (.iface name d)):xO W g:=by
 obtain ⟨cC,uZ,cs,fuel,p,aa,ad,aJ,bG⟩:=h;obtain rfl:=Option.some.inj (aB.symm.trans aa);obtain rfl:=Option.some.inj (KX.symm.trans ad);obtain ⟨_,u,v,hA,_,_⟩:=iface_of_trod ao bG;refine ⟨.iface u v,?_,.inr ⟨u,v,rfl⟩⟩;have:=World.var?_cell aB aJ 0;rw [this,<-Array.getElem?_toList,hA];rfl
theorem anB {n:String} {g:Nat} {t e:TypeId} {m:Nat} {k:IntKind} {fv:List Int} {W:World} (aB:Tryz.prog.globalNamed n=some g) (KX:(Tryz.prog.globals[g]?).map (·.type)=some t) (av:Tryz.prog.underlying t=some (.array m e)) (he:Tryz.prog.underlying e=some (.int k)) (aep:Tryz.prog.cellsOf e=1) (aev:Tryz.prog.cellsOf t=m)
 (h:VarReads Tryz.prog W n (tabData k fv)):TabIs Tryz.prog W n k fv:=by
 obtain ⟨cC,uZ,cs,fuel,p,aa,ad,aJ,bG⟩:=h;obtain rfl:=Option.some.inj (aB.symm.trans aa);obtain rfl:=Option.some.inj (KX.symm.trans ad);unfold TabIs;rw [aJ,<-cells_of_tab av he aep aev bG]
theorem an5:Go.Proofs.U8Types Tryz.prog Tryz.Cn:=Go.Proofs.U8Types.of260 Tryz.ajq
theorem an4:U8Extra Tryz.prog Tryz.Cn:=⟨by kernel_rfl,by kernel_rfl,by kernel_rfl,by kernel_rfl,by kernel_rfl,by kernel_rfl,by kernel_rfl⟩
theorem ac9:(Rows.laid_unicode_utf8_first:DataW Unit)=firstData:=Pinned.utf8First_eq
theorem Y6:(Rows.laid_unicode_utf8_acceptRanges:DataW Unit)=acceptData:=by kernel_rfl
theorem alD:(Rows.laid_internal_strconv_uint64pow10:DataW Unit)=tabData .u64 pow10Tab:=by kernel_rfl
theorem adh:Tryz.Cn.g 3=2:=by kernel_rfl
theorem adi:Tryz.Cn.g 4=3:=by kernel_rfl
theorem ajN {l:List (String × DataW Unit)} {W:World} (hm:∀p ∈ zm,p ∈ l) (eL:laidMet Tryz.prog l W) (rh:W.ShapedOpen Tryz.prog):HW W:=by
 have r:∀(n:String) (d:DataW Unit),(n,d) ∈ zm->VarReads Tryz.prog W n d:=fun n d h=>laidMet.reads eL (hm _ h);have az:=r "unicode/utf8.first" Rows.laid_unicode_utf8_first (by simp [zm,Rows.typesAppliesUptoRow]);have a1:=r "unicode/utf8.acceptRanges" Rows.laid_unicode_utf8_acceptRanges (by simp [zm,Rows.typesAppliesUptoRow]);have aE:=r "strconv.ErrRange" Rows.laid_strconv_ErrRange (by simp [zm,Rows.typesAppliesUptoRow]);have af:=r "internal/strconv.uint64pow10" Rows.laid_internal_strconv_uint64pow10 (by simp [zm,Rows.typesAppliesUptoRow]);rw [alD] at af;rw [ac9] at az;rw [Y6] at a1;refine ⟨?_,?_,?_,?_⟩
 . have:=Go.Proofs.utf8Tabs_of_readsT an5 an4 az a1;rwa [adh,adi] at this
 . exact Go.Proofs.cell_of_shapedOpen_int rh (g:=0) (t:=3) (zero:=#[.int .i64 0]) (of_decide_eq_true (by kernel_rfl)) (by kernel_rfl) rfl (by kernel_rfl) (by kernel_rfl) Tryz.underlying3
 . exact acK (n:= "strconv.ErrRange") (t:=133) (by kernel_rfl) (by kernel_rfl) Tryz.underlying133 aE
 . exact anB (g:=1) (t:=197) (e:=166) (m:=20) (by kernel_rfl) (by kernel_rfl) (by kernel_rfl) (by kernel_rfl) (by kernel_rfl) (by kernel_rfl) af
end
end Go.Proofs.YthemdhlheglhoaaGreatDoor
