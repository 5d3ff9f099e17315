/- The chapter's functions, walked by the abstract machine: plain lemmas, no condition. Printed by a program from longer texts: names made short. -/
import Derived.Test.YthemdhlheglhoaaGreatDoorM14
set_option linter.unusedSectionVars false
set_option linter.unusedSimpArgs false
set_option linter.unusedVariables false
set_option maxHeartbeats 64000000
noncomputable section
namespace Go.Proofs.YthemdhlheglhoaaGreatDoor
section
open Go a7
mutual
theorem OX:∀(t:aL) (g:bp),(t.add g).1.vars.length<=g.vars.length+t.size
 | .mk k n s l,g=>by
   rw [aL.add,aL.size];by_cases c:k=1
   . rw [if_pos c];unfold bp.var;cases ff n g.vars with
     | some i=>simp only;omega
     | none=>simp only [List.length_append,List.length_singleton];omega
   . rw [if_neg c];have:=Ic l g;simp only [bp.put];omega
theorem Ic:∀(l:List aL) (g:bp),(cg l g).1.vars.length<=g.vars.length+ca l
 | [],g=>by simp [cg,ca]
 | t::l,g=>by rw [cg,ca];have:=OX t g;have:=Ic l (t.add g).1;simp only;omega
end
def B_ (l:List Nat):List V:=l7 (l.map fun (x:Nat)=>(x:Int))
theorem ag0 (l:List Nat) (x:Nat):B_ (l++[x])=B_ l++[.int .i64 x]:=by simp [B_,l7]
theorem MB {B bO:Nat} {w:Nat->Nat} {bad:Bool}:∀(N:Nat) (t:aL),t.size<=N->t.lF=true->∀(g:bp) (bQ:Nat->V) (b3 b8:V) (ah:List V) (h:ai),g.ee->B<=h.next->g.N+N<=90000000->g.vars.length+N<=90000000->(∀i,g.N<=i->w i=i)->cW (fun b=>cI b<B) h t.enc ah->eM B h bO g bQ w bad b3 b8->
 db Tryz.prog 79 [.ptr (aj bO) 0,.agg ah] h fun x ab=>∃lB gA gp,x=.int .i64 (t.add g).2/\eM B ab bO (t.add g).1 lB w bad gA gp/\oU g (t.add g).1 bQ lB b3 gA b8 gp h.next/\Mod (fun b=>b=aj bO\/b3.aM b\/b8.aM b) h ab
 | 0,t,aR,_,_,_,_,_,_,_,_,_,_,_,_,_,_=>by have:=pA t;omega
 | N+1,t,aR,bh,g,bQ,b3,b8,ah,h,W,c_,bJ,E5,hw,H,D=>by
   obtain ⟨dw,rfl,L,ny⟩:=aL.open H;have ol:=L.one;have ay:=L.len;have hle:=L.le;rw [List.length_map] at ay hle;have cr:=size_eq t;have jw:=pz t.l;have wJ:=XP t;rw [bh] at wJ;refine abr.z rfl (dB ?_);unfold QG;obtain ⟨aa,ar,aP,da⟩:=ic h (gG t dw);have cS:=aP.next
   have Ck:=da.lt;have N2:=D.ext aP;have lW:=D.aB.lt;have ae9:=D.vX;have akh:∀b,b=aj bO\/b3.aM b\/b8.aM b->B<=cI b:=fun b q=>by
    rcases q with q | q | q
    . rw [q,cc];exact ae9
    . exact D.no.base q
    . exact D.kb.base q
   have Vg:∀b,b=aj bO\/b3.aM b\/b8.aM b->Old h b:=fun b q=>by
    rcases q with q | q | q
    . rw [q];exact gi lW
    . exact D.no.v.bG q
    . exact D.kb.v.bG q
   rw [add_eq];by_cases c:t.k=1
   . simp only [if_pos c];simp +contextual only [ol.1,ol.2.1,ar,da.g,eq_true c,↓al,aE,simprocAttr];refine cz (amU N2 W (by omega) (by omega) (by omega) (hw _ (Nat.le_refl _)) t.n) ?_;rintro x ad ⟨lB,gA,gp,rfl,h1,lN,M2⟩;simp +contextual only [↓al,aE,simprocAttr];exact ⟨lB,gA,gp,h1,(oU.refl g bQ b3 b8 h.next).trans lN (by omega) (bp.le.refl g),(aP.mod _).trans M2⟩
   . simp only [if_neg c];have l2:kN t.l=true:=by
      have:=wJ.symm;simp only [Bool.and_eq_true] at this;exact this.2
     simp +contextual only [ol.1,ol.2.1,ar,da.g,eq_false c,ay,↓al,aE,simprocAttr];refine eY (fun r cH=>r 0=.ptr (aj bO) 0/\r 3=.ptr (aj h.next) 0/\∃(i:Nat) (lB:Nat->V) (gA gp v:V),r 6=.int .i64 i/\r 5=v/\i<=t.l.length/\
      eM B cH bO (cg (t.l.take i) g).1 lB w bad gA gp/\oU g (cg (t.l.take i) g).1 bQ lB b3 gA b8 gp aa.next/\Has cH h.next (gG t dw)/\cD aa.next cH 1 v i (B_ (cg (t.l.take i) g).2)/\Mod (fun b=>b=aj bO\/b3.aM b\/b8.aM b) aa cH/\
      (∀b,v.aM b->¬gA.aM b/\¬gp.aM b/\∀j,j < (cg (t.l.take i) g).1.N->¬(lB j).aM b)) (fun r g=>t.l.length - (r 6).toN) ?_ ?_
     . exact ⟨by simp only [↓al,bs,simprocAttr],by simp only [↓al,bs,simprocAttr],0,bQ,b3,b8,.bF,by simp only [↓al,bs,simprocAttr]<;>rfl,by simp only [↓al,bs,simprocAttr],by omega,N2,oU.refl _ _ _ _ _,da,⟨rfl,rfl⟩,Mod.refl _ _,fun b q=>q.elim⟩
     rintro r cH ⟨bq,cn,i,lB,gA,gp,v,cP,dv,an,xP,jn,A,O,M,c8⟩;unfold QH;have dG:=O.v.one;have K3:kN (t.l.take i)=true:=by have:=Nz (t.l.take i) (t.l.drop i);rw [List.take_append_drop,l2] at this;have:=this.symm;simp only [Bool.and_eq_true] at this;exact this.1
     obtain ⟨v7,kv,Ch,JF⟩:=D1 (t.l.take i) g K3 W;have aec:=Ic (t.l.take i) g;have Bl:=v7.n;have aqB:=M.next
     by_cases aO:i<t.l.length
     . have g0:((i:Int) < (t.l.length:Int))=True:=eq_true (by omega);obtain ⟨b,off,wl,ct,H9,ky,ld⟩:=aL.c6 ((L.ext aP).mod (fq:=fun b=>cI b<B) M fun b q _=>⟨fun z=>by have:=akh b z;omega,q⟩) (k:=.i64) aO;have A8:=ld cH (Ext.refl cH);have k5:=ky.one;have dk:=jj aO (by unfold top at hle;omega);have Fm:=py (t:=t) (List.getElem_mem aO);have ap7:ca (t.l.take i)+t.l[i].size<=ca t.l:=by
        have aa:=xj (t.l.take (i+1)) (t.l.drop (i+1));rw [List.take_append_drop] at aa;have ad:=xj (t.l.take i) [t.l[i]];rw [<-take_one aO] at ad;simp only [ca] at ad;omega
       have BZ:=NA l2 (List.getElem_mem aO);simp +contextual only [bq,cn,dv,cP,A.g,g0,ay,ct,A8,ol.1,ol.2.1,k5.1,k5.2.1,dG.1,dG.2.1,↓al,aE,simprocAttr];refine cz (MB t.l[i].size t.l[i] (Nat.le_refl _) BZ _ lB gA gp _ cH kv (by omega) (by omega) (by omega) (fun j aU=>hw j (by omega)) H9 xP) ?_;rintro x g2 ⟨w4,rD,xH,rfl,iI,kR,m2⟩;obtain ⟨EW,nb,ag_,JG⟩:=r8 t.l[i] _ BZ kv;have JJ:=EW.n;have rE:=m2.next
       have w_:∀b,b=aj bO\/gA.aM b\/gp.aM b->(b=aj bO\/b3.aM b\/b8.aM b)\/aa.next<=cI b:=fun b q=>by
        rcases q with q | q | q
        . exact .inl (.inl q)
        . rcases jn.cd b q with q | q
          . exact .inl (.inr (.inl q))
          . exact .inr q
        . rcases jn.gB b q with q | q
          . exact .inl (.inr (.inr q))
          . exact .inr q
       have X':=A.mod m2 fun q=>by
        rcases w_ _ q with q | q
        . have:=Vg _ q;unfold Old at this;rw [cc] at this;omega
        . rw [cc] at q;omega
       have Na:∀b,v.aM b->Old cH b:=fun b q=>O.v.bG q;have Xm:∀b,v.aM b->b≠aj bO:=fun b q z=>by have:=O.base q;rw [z,cc] at this;omega
       have nZ:cD aa.next g2 1 v i (B_ (cg (t.l.take i) g).2):=O.mod m2 fun b q z=>by
        rcases z with z | z | z
        . exact Xm b q z
        . exact (c8 b q).1 z
        . exact (c8 b q).2.1 z
       obtain ⟨c9,g3,bZ,bX,b_,gV,jg⟩:=pS (cs:=[.int .i64 (t.l[i].add (cg (t.l.take i) g).1).2]) (Nat.le_refl _) nZ (by omega) (by unfold top at hle ⊢;omega) rfl rfl;have kp:=bX.v.one;have hn:cg (t.l.take (i+1)) g=((t.l[i].add (cg (t.l.take i) g).1).1,(cg (t.l.take i) g).2++[(t.l[i].add (cg (t.l.take i) g).1).2]):=by rw [take_one aO,OZ]
       have G9:∀b,v.aM b->¬rD.aM b/\¬xH.aM b/\∀j,j < (t.l[i].add (cg (t.l.take i) g).1).1.N->¬(w4 j).aM b:=fun b q=>by
        have:=Na b q;unfold Old at this;refine ⟨fun z=>?_,fun z=>?_,fun j aU z=>?_⟩
        . rcases kR.cd b z with z | z
          . exact (c8 b q).1 z
          . omega
        . rcases kR.gB b z with z | z
          . exact (c8 b q).2.1 z
          . omega
        . by_cases y:j < (cg (t.l.take i) g).1.N
          . rw [kR.bQ j y] at z;exact (c8 b q).2.2 j y z
          . have:=kR.ss j b (by omega) aU z;omega
       have Ht:=iI.mod b_ (fun q=>Xm _ q rfl) (fun b q z=>(G9 b z).1 q) (fun b q z=>(G9 b z).2.1 q) fun j b aU q z=>(G9 b z).2.2 j aU q;have NQ:=X'.mod b_ fun q=>by have:=O.base q;rw [cc] at this;omega
       simp +contextual only [bq,cn,dv,cP,NQ.g,ol.1,ol.2.1,k5.1,k5.2.1,dG.1,dG.2.1,kp.1,kp.2.1,bZ,dk,↓al,aE,simprocAttr];refine ⟨⟨i+1,w4,rD,xH,c9,rfl,rfl,aO,?_,?_,NQ,?_,?_,?_⟩,by omega⟩
       . rw [hn];exact Ht
       . rw [hn];exact jn.trans kR (by omega) v7
       . rw [hn];simp only [];rw [ag0];exact bX
       . have jL:Mod (fun b=>b=aj bO\/b3.aM b\/b8.aM b) aa g2:=⟨by omega,fun b a6 ae=>by
          rw [m2.get b (M.bG a6) fun q=>by
           rcases w_ b q with q | q
           . exact ae q
           . unfold Old at a6;omega,M.get b a6 ae]⟩
         exact jL.z1 b_ fun b q=>O.base q
       . intro b q;rw [hn];rcases jg b q with q | q
         . exact G9 b q
         . refine ⟨fun z=>?_,fun z=>?_,fun j aU z=>?_⟩
           . have:=iI.no.v.bG z;unfold Old at this;omega
           . have:=iI.kb.v.bG z;unfold Old at this;omega
           . obtain ⟨x,e⟩:=hT aU;have:=(iI.c6 j x e).1.bG z;unfold Old at this;omega
     . have g0:((i:Int) < (t.l.length:Int))=False:=eq_false (by omega);rw [List.take_of_length_le (by omega)] at xP jn O Ch v7 kv c8 Bl JF aec;have iQ:(cg t.l g).2.length=i:=by rw [D0];omega
       have j2:=xP.no.v.len;have on:=xP.no.v.one;have agu:w (cg t.l g).1.N=(cg t.l g).1.N:=hw _ Bl;obtain ⟨rD,ad,bZ,bX,L',b_,gV,jg,h1,m2,f2⟩:=xP.push (by omega) (by unfold top;omega) ⟨true,0,t.s,(cg t.l g).2⟩ v dG.1 (by rw [iQ];exact O.v) O.room (by rw [iQ];omega) (fun b q=>⟨by have:=O.base q;omega,(c8 b q).1,(c8 b q).2.1,fun z=>by have:=O.base q;rw [z,cc] at this;omega⟩);rw [agu,show mL ⟨true,0,t.s,(cg t.l g).2⟩ v (cg t.l g).1.N=[.int .i64 2,.int .i64 0,.str t.s,.bF,v,.int .i64 (cg t.l g).1.N] from rfl] at bZ
       have pL:=A.mod gV fun q=>by
        have:=jn.cd _ q
        rcases this with z | z
        . have:=Vg _ (.inr (.inl z));unfold Old at this;rw [cc] at this;omega
        . rw [cc] at z;omega
       have f4:(cH.next=bO)=False:=eq_false (by omega);have f5:(cH.next=h.next)=False:=eq_false (by omega);simp +contextual only [f4,f5,if_false,bq,cn,dv,cP,A.g,pL.g,g0,ay,xP.aB.g,b_.g,j2,bZ,bX,L',ol.1,ol.2.1,on.1,on.2.1,dG.1,dG.2.1,dG.2.2,↓al,aE,simprocAttr];refine ⟨e0 lB (cg t.l g).1.N v,rD,gp,h1,⟨fun j aU=>?_,fun j b aU sA q=>?_,fun b q=>?_,fun b q=>?_⟩,?_⟩
       . rw [eF _ _ (by omega)];exact jn.bQ j aU
       . have sA:j < (cg t.l g).1.N+1:=by simpa [bp.put,bp.N] using sA
         by_cases z:j=(cg t.l g).1.N
         . rw [z,fz] at q;have:=O.base q;omega
         . rw [eF _ _ z] at q;have:=jn.ss j b aU (by omega) q;omega
       . rcases f2 b q with q | q
         . rcases jn.cd b q with q | q
           . exact .inl q
           . exact .inr (by omega)
         . exact .inr (by omega)
       . rcases jn.gB b q with q | q
         . exact .inl q
         . exact .inr (by omega)
       . have jL:Mod (fun b=>b=aj bO\/b3.aM b\/b8.aM b) aa (ad.set (aj bO) (.bC [rD,gp,.bool bad] 0 false)):=⟨by have:=m2.next;omega,fun b a6 ae=>by
          rw [m2.get b (M.bG a6) fun q=>by
           rcases q with q | q
           . exact ae (.inl q)
           . rcases jn.cd b q with q | q
             . exact ae (.inr (.inl q))
             . unfold Old at a6;omega,M.get b a6 ae]⟩
         exact (aP.mod _).trans jL
def jJ (g:bp) (ρ:Nat->Nat):Prop:=∀(x:Nat) (aN:dx),g.nodes[x]? =some aN->ρ x=x->aN.cj=false->∀(y:Nat) (kn:dx),g.nodes[y]? =some kn->ρ y=x->aN.n<=kn.n
theorem jJ.one {g:bp} {ρ:Nat->Nat} {r s:Nat} (H:jJ g ρ) (aF:ρ r=r) (aR:ρ s=s) (cl:r≠s) {dP ef:dx} (jU:g.nodes[r]? =some dP) (es:g.nodes[s]? =some ef) (hle:ef.cj=false->dP.cj=false/\ef.n<=dP.n):jJ g (eg ρ r s):=by
 intro x aN ex ak c y kn jV aZ;have ou:x≠r:=fun q=>by subst q;unfold eg at ak;rw [if_pos aF] at ak;exact cl ak.symm
 have agB:ρ x=x:=by
  unfold eg at ak
  split at ak
  . subst ak;exact aR
  . exact ak
 unfold eg at aZ
 split at aZ
 . rename_i q;subst aZ;rw [es] at ex;cases ex;obtain ⟨aa,ad⟩:=hle c;have:=H r dP jU aF aa y kn jV q;omega
 . exact H x aN ex agB c y kn jV aZ
def nV (g:bp) (E:List (Nat × Nat)) (ρ:Nat->Nat) (bad:Bool) (Q:List (Nat × Nat)):Prop:=(bad=true/\mU g E)\/(bad=false/\eA g E ρ Q)
theorem nV.map {g:bp} {E:List (Nat × Nat)} {ρ dJ:Nat->Nat} {bad:Bool} {Q gj:List (Nat × Nat)} (H:nV g E ρ bad Q) (h:eA g E ρ Q->eA g E dJ gj):nV g E dJ bad gj:=by
 rcases H with ⟨a,b⟩ | ⟨a,b⟩
 . exact .inl ⟨a,b⟩
 . exact .inr ⟨a,h b⟩
abbrev Dj:List V:=[.int .i64 0,.int .i64 0,.str [],.bF,.bF,.int .i64 0]
section
variable [Lay]
theorem eM.WI {B:Nat} {h:ai} {bO:Nat} {g:bp} {bQ:Nat->V} {w:Nat->Nat} {bad:Bool} {b3 b8:V} (H:eM B h bO g bQ w bad b3 b8):eM B (h.set (aj bO) (.bC [b3,b8,.bool true] 0 false)) bO g bQ w true b3 b8:=by have m:Mod (fun b=>b=aj bO) h (h.set (aj bO) (.bC [b3,b8,.bool true] 0 false)):=(Mod.refl (fun b=>b=aj bO) h).set (fun _=>rfl) _;refine ⟨H.aB.put _,H.no.mod m fun b q z=>H.rB (by rw [<-show b=aj bO from z];exact q),H.kb.mod m fun b q z=>H.tk (by rw [<-show b=aj bO from z];exact q),fun i aN e=>⟨(H.c6 i aN e).1.mod m fun b q z=>(H.ly i b (hl e) q).2.2.2 z,(H.c6 i aN e).2⟩,H.ly,H.vX,H.rB,H.tk,H.uG⟩
theorem aob (h:ai) (d' eK:List V):∃H,((((h.new (.bC Dj 0 false)).new (.bC Dj 0 false)).set (aj h.next) (.bC d' 0 false)).set (aj (h.next+1)) (.bC eK 0 false))=H/\Ext h H/\Has H h.next d'/\Has H (h.next+1) eK:=by
 have f:((h.next:Nat)=h.next+1)=False:=eq_false (by omega);have kV:((h.next+1:Nat)=h.next)=False:=eq_false (by omega);refine ⟨_,rfl,((((Ext.refl h).new _).new _).set (Nat.le_refl _) _).set (by omega) _,⟨?_,?_⟩,⟨?_,?_⟩⟩
 . rw [lC,lC,gN,gN];omega
 . rw [dy,if_neg (by rw [rJ];omega),dy,if_pos rfl]
 . rw [lC,lC,gN,gN];omega
 . rw [dy,if_pos rfl]
end
theorem wT [Lay] {h:ai} {b:aQ} {o:Nat} {l:List Nat} (A:jI h b o (l7 (l.map fun (x:Nat)=>(x:Int)))) {i:Nat} (an:i<l.length):hd (h.get b) (o+i * 1)=some (.int .i64 l[i]):=by have:=A.d_ (i:=i) (by simpa [l7] using an);rw [show o+i * 1=o+i by omega,this];simp [l7]
theorem FX {g:bp} {E:List (Nat × Nat)} {ρ w:Nat->Nat} {bad:Bool} {Q:List (Nat × Nat)} {a b p q:Nat} {zx LY:dx} (S:eU g ρ) (e2:Way w ρ) (nY:jJ g ρ) (ag:ρ p=p) (aC:ρ q=q) (cl:p≠q) (Bc:g.nodes[p]? =some zx) (eq:g.nodes[q]? =some LY) (tN:zx.cj=false) (hle:LY.cj=false->LY.n<=zx.n)
 (J:nV g E ρ bad ((a,b)::Q)) (yF:(ρ a=p/\ρ b=q)\/(ρ a=q/\ρ b=p)):
 eU g (eg ρ p q)/\Way (fun x=>if x=p then q else w x) (eg ρ p q)/\jJ g (eg ρ p q)/\nV g E (eg ρ p q) bad Q/\kx g (eg ρ p q)<=kx g ρ:=
 ⟨S.one ag aC cl (hl Bc) (hl eq) (fun aN e c=>by rw [Bc] at e;cases e;rw [tN] at c;cases c),e2.one S ag aC cl,nY.one ag aC cl Bc eq (fun c=>⟨tN,hle c⟩),J.map fun J=>J.XE S yF ag aC fun aN e=>by rw [Bc] at e;cases e;exact tN,by have:=Hh (g:=g) ag aC cl (hl Bc);omega⟩
theorem Wq {B bO:Nat} {g:bp} {E:List (Nat × Nat)} {bQ:Nat->V} {b3 b8:V} (W:g.ee):∀(N:Nat) (ρ w:Nat->Nat) (bad:Bool) (Q:List (Nat × Nat)) (a b:Nat) (h:ai),kx g ρ<N->eU g ρ->Way w ρ->jJ g ρ->eM B h bO g bQ w bad b3 b8->a<g.N->b<g.N->nV g E ρ bad ((a,b)::Q)->
 db Tryz.prog 80 [.ptr (aj bO) 0,.int .i64 a,.int .i64 b] h fun x ab=>∃dJ ao tE,eM B ab bO g bQ ao tE b3 b8/\eU g dJ/\Way ao dJ/\jJ g dJ/\nV g E dJ tE Q/\kx g dJ<=kx g ρ/\Mod (fun b=>b=aj bO\/b3.aM b) h ab
 | 0,_,_,_,_,_,_,_,bJ,_,_,_,_,_,_,_=>by omega
 | N+1,ρ,w,bad,Q,a,b,h,bJ,S,e2,nY,D,a1,ae,J=>by
   have on:=D.no.v.one;refine abt.z rfl (dB ?_);unfold QI;simp +contextual only [↓al,aE,simprocAttr];refine cz (xq D S e2 a1) ?_;rintro x aX ⟨rfl,rfl⟩;simp +contextual only [↓al,aE,simprocAttr];refine cz (xq D S e2 ae) ?_;rintro x aX ⟨rfl,rfl⟩;by_cases e:ρ a=ρ b
   . have cZ:((ρ a:Int)=(ρ b:Int))=True:=eq_true (by rw [e]);simp +contextual only [cZ,↓al,aE,simprocAttr];exact ⟨ρ,w,bad,D,S,e2,nY,J.map fun J=>J.skip e,Nat.le_refl _,Mod.refl _ _⟩
   have cZ:((ρ a:Int)=(ρ b:Int))=False:=eq_false (by omega);have qp:=S.lt a a1;have ls:=S.lt b ae;have aF:=S.idem a;have aR:=S.idem b;obtain ⟨dP,jU⟩:=hT qp;obtain ⟨ef,es⟩:=hT ls;obtain ⟨Ix,vW,FN,Iq,aah,ajK⟩:=D.at jU;obtain ⟨fi,cv,Lb,Pf,aai,ajL⟩:=D.at es;obtain ⟨U2,_⟩:=ajK aX fun _ _=>rfl;obtain ⟨U3,_⟩:=ajL aX fun _ _=>rfl;generalize ri:ρ a=r at *;generalize ot:ρ b=s at *;have lW:=D.aB.lt;obtain ⟨wW,k0⟩:∃wW:Int,wW=if dP.cj=true then 2 else 1:=⟨_,rfl⟩;obtain ⟨aI,f'⟩:∃aI:Int,aI=if ef.cj=true then 2 else 1:=⟨_,rfl⟩;rw [show mL dP (bQ r) (w r)=[.int .i64 wW,.int .i64 dP.n,.str dP.s,.bF,bQ r,.int .i64 (w r)] by rw [k0]] at U2;rw [show mL ef (bQ s) (w s)=[.int .i64 aI,.int .i64 ef.n,.str ef.s,.bF,bQ s,.int .i64 (w s)] by rw [f']] at U3;obtain ⟨ad,av,a',X,Y⟩:=aob aX [.int .i64 wW,.int .i64 dP.n,.str dP.s,.bF,bQ r,.int .i64 (w r)] [.int .i64 aI,.int .i64 ef.n,.str ef.s,.bF,bQ s,.int .i64 (w s)];have fP:=a'.next
   have l_:=X.lt;have rA:=Y.lt;have h1:=D.ext a';obtain ⟨UC,aqu,aqv⟩:=h1.c6 r dP jU;obtain ⟨UD,aqw,aqx⟩:=h1.c6 s ef es;have or:=UC.one;have os:=UD.one;have Vi:cI Ix<aX.next:=D.no.v.bG aah
   have Vj:cI fi<aX.next:=D.no.v.bG aai
   have f1:(aX.next=bO)=False:=eq_false (by omega);have f2:(aX.next+1=bO)=False:=eq_false (by omega);have f3:(aj aX.next=Ix)=False:=eq_false fun q=>by rw [<-q,cc] at Vi;omega
   have f4:(aj (aX.next+1)=Ix)=False:=eq_false fun q=>by rw [<-q,cc] at Vi;omega
   have f5:(aj aX.next=fi)=False:=eq_false fun q=>by rw [<-q,cc] at Vj;omega
   have f6:(aj (aX.next+1)=fi)=False:=eq_false fun q=>by rw [<-q,cc] at Vj;omega
   simp +contextual only [f1,f2,f3,f4,f5,f6,av,if_false,or.1,os.1,or.2.1,os.2.1,cZ,D.aB.g,FN,Lb,U2,U3,on.1,on.2.1,↓al,aE,simprocAttr];have cl:r≠s:=e;have M2:∀{H:ai},Mod b3.aM ad H->Mod (fun b=>b=aj bO\/b3.aM b) aX H:=fun m=>(a'.mod _).trans (m.mono fun b _ q=>.inr q);have xd:((1:Int)=1)=True:=eq_true rfl;have xB:((2:Int)=1)=False:=eq_false (by omega);cases ob:dP.cj with
   | false=>
     rw [ob] at k0;have k0:wW=1:=k0;cases cs:ef.cj with
     | false=>
       rw [cs] at f';have f':aI=1:=f';by_cases l:dP.n<ef.n
       . obtain ⟨aJ,b_,iI,m3,_⟩:=h1.put es Pf r;simp +contextual only [k0,f',xd,xB,eq_true l,X.g,Y.g,h1.aB.g,Lb,b_,on.1,on.2.1,↓al,aE,simprocAttr];obtain ⟨b6,z2,z3,z4,z5⟩:=FX S e2 nY aR aF (Ne.symm cl) es jU cs (fun _=>Int.le_of_lt l) J (.inr ⟨ri,ot⟩);exact ⟨_,_,bad,iI,b6,z2,z3,z4,z5,M2 m3⟩
       . obtain ⟨aJ,b_,iI,m3,_⟩:=h1.put jU Iq s;simp +contextual only [k0,f',xd,xB,eq_false l,X.g,Y.g,h1.aB.g,FN,b_,on.1,on.2.1,↓al,aE,simprocAttr];obtain ⟨b6,z2,z3,z4,z5⟩:=FX S e2 nY aF aR cl jU es ob (fun _=>by omega) J (.inl ⟨ri,ot⟩);exact ⟨_,_,bad,iI,b6,z2,z3,z4,z5,M2 m3⟩
     | true=>
       rw [cs] at f';have f':aI=2:=f';obtain ⟨aJ,b_,iI,m3,_⟩:=h1.put jU Iq s;simp +contextual only [k0,f',xd,xB,X.g,Y.g,h1.aB.g,FN,b_,on.1,on.2.1,↓al,aE,simprocAttr];obtain ⟨b6,z2,z3,z4,z5⟩:=FX S e2 nY aF aR cl jU es ob (fun c=>by rw [cs] at c;cases c) J (.inl ⟨ri,ot⟩);exact ⟨_,_,bad,iI,b6,z2,z3,z4,z5,M2 m3⟩
   | true=>
     rw [ob] at k0;have k0:wW=2:=k0;cases cs:ef.cj with
     | false=>
       rw [cs] at f';have f':aI=1:=f';obtain ⟨aJ,b_,iI,m3,_⟩:=h1.put es Pf r;simp +contextual only [k0,f',xd,xB,X.g,Y.g,h1.aB.g,Lb,b_,on.1,on.2.1,↓al,aE,simprocAttr];obtain ⟨b6,z2,z3,z4,z5⟩:=FX S e2 nY aR aF (Ne.symm cl) es jU cs (fun c=>by rw [ob] at c;cases c) J (.inr ⟨ri,ot⟩);exact ⟨_,_,bad,iI,b6,z2,z3,z4,z5,M2 m3⟩
     | true=>
       rw [cs] at f';have f':aI=2:=f';have zo:=UC.len;have lens:=UD.len;by_cases d1:dP.s=ef.s
       . by_cases d2:dP.kids.length=ef.kids.length
         . have I8:((dP.kids.length:Int)=(ef.kids.length:Int))=True:=eq_true (by omega);obtain ⟨aJ,b_,iI,m3,n3⟩:=h1.put jU Iq s;simp +contextual only [k0,f',xd,xB,eq_true d1,I8,zo,lens,or.1,or.2.1,os.1,os.2.1,X.g,Y.g,h1.aB.g,FN,b_,on.1,on.2.1,↓al,aE,simprocAttr];have aqj:=Hh (g:=g) (ρ:=ρ) aF aR cl qp;have iQ:sX g r=dP.kids.length:=by unfold sX;rw [jU]
           have It:∀i,aX.next<=i->¬b3.aM (aj i):=fun i an q=>by have:=D.no.v.bG q;unfold Old at this;rw [cc] at this;omega
           have AL:=X.mod m3 (It _ (Nat.le_refl _));have H_:=Y.mod m3 (It _ (by omega));refine eY (fun z k=>z 0=.ptr (aj bO) 0/\z 6=.ptr (aj aX.next) 0/\z 7=.ptr (aj (aX.next+1)) 0/\∃(i:Nat) (dJ ao:Nat->Nat) (tE:Bool),z 8=.int .i64 i/\i<=dP.kids.length/\eM B k bO g bQ ao tE b3 b8/\eU g dJ/\Way ao dJ/\jJ g dJ/\nV g E dJ tE ((dP.kids.zip ef.kids).drop i++Q)/\kx g dJ+1<=kx g ρ/\
            Has k aX.next [.int .i64 wW,.int .i64 dP.n,.str dP.s,.bF,bQ r,.int .i64 (w r)]/\Has k (aX.next+1) [.int .i64 aI,.int .i64 ef.n,.str ef.s,.bF,bQ s,.int .i64 (w s)]/\Mod (fun b=>b=aj bO\/b3.aM b) aX k) (fun z _=>dP.kids.length - (z 8).toN) ?_ ?_
           . refine ⟨by simp only [↓al,bs,simprocAttr],by simp only [↓al,bs,simprocAttr],by simp only [↓al,bs,simprocAttr],0,eg ρ r s,_,bad,by simp only [↓al,bs,simprocAttr]<;>rfl,by omega,iI,S.one aF aR cl qp ls (fun aN e c=>⟨ef,es,cs⟩),e2.one S aF aR cl,nY.one aF aR cl jU es (fun c=>by rw [cs] at c;cases c),J.map fun J=>?_,by omega,AL,H_,M2 m3⟩;rw [List.drop_zero];exact J.XD S ri ot jU es ob cs d1 d2
           rintro z k ⟨bq,cP,fg,i,dJ,ao,tE,ed,an,kO,OI,OM,On,DJ,aql,DW,DX,gb⟩;unfold QJ;by_cases aO:i<dP.kids.length
           . have g0:((i:Int) < (dP.kids.length:Int))=True:=eq_true (by omega);obtain ⟨Oj,_,ajq⟩:=kO.c6 r dP jU;obtain ⟨AA,_,_⟩:=kO.c6 s ef es;obtain ⟨cb,c7,ow,da,Ec⟩:=Oj.ov (k:=.i64) aO;obtain ⟨b9,dq,qg,gq,aaf⟩:=AA.ov (k:=.i64) (show i<ef.kids.length by omega);have d_:=wT da aO;have uz:=wT gq (show i<ef.kids.length by omega);have dk:=jj aO (by unfold top at ajq;omega);have bn:(dP.kids.zip ef.kids).drop i=(dP.kids[i],ef.kids[i])::(dP.kids.zip ef.kids).drop (i+1):=by
              rw [List.drop_eq_getElem_cons (by rw [List.length_zip];omega),List.getElem_zip]
             rw [bn] at DJ;simp +contextual only [k0,f',bq,cP,fg,ed,DW.g,DX.g,zo,g0,ow,qg,d_,uz,or.1,or.2.1,os.1,os.2.1,↓al,aE,simprocAttr];refine cz (Wq W N dJ ao tE _ dP.kids[i] ef.kids[i] k (by omega) OI OM On kO (W.qj jU (List.getElem_mem aO)) (W.qj es (List.getElem_mem (by omega))) DJ) ?_;rintro x bx ⟨ao9,b0,Z7,Ye,lg,nb,hA,bS,sP,m2⟩;have UP:∀j b,j<g.N->(bQ j).aM b->¬(b=aj bO\/b3.aM b):=fun j b aU q z=>by
              obtain ⟨_,fJ,_,y4⟩:=kO.ly j b aU q;rcases z with z | z
              . exact y4 z
              . exact fJ z
             have UQ:∀i,aX.next<=i->¬(aj i=aj bO\/b3.aM (aj i)):=fun i an q=>by
              rcases q with q | q
              . have:=fu q;omega
              . exact It i an q
             have OQ:=DW.mod m2 (UQ _ (Nat.le_refl _));have OS:=DX.mod m2 (UQ _ (by omega));have ajI:=wT (m2.at da (UP r _ qp Ec)) aO;have ajJ:=wT (m2.at gq (UP s _ ls aaf)) (show i<ef.kids.length by omega);simp +contextual only [k0,f',bq,cP,fg,ed,DW.g,DX.g,d_,uz,OQ.g,OS.g,zo,g0,ow,qg,ajI,ajJ,dk,or.1,or.2.1,os.1,os.2.1,↓al,aE,simprocAttr];exact ⟨⟨i+1,ao9,b0,Z7,rfl,aO,Ye,lg,nb,hA,bS,by omega,k0 ▸ OQ,f' ▸ OS,gb.trans m2⟩,by omega⟩
           . have g0:((i:Int) < (dP.kids.length:Int))=False:=eq_false (by omega);simp +contextual only [k0,f',bq,cP,fg,ed,DW.g,DX.g,zo,g0,or.1,or.2.1,os.1,os.2.1,↓al,aE,simprocAttr];rw [List.drop_of_length_le (by rw [List.length_zip];omega)] at DJ;exact ⟨dJ,ao,tE,kO,OI,OM,On,DJ,by omega,gb⟩
         . have I8:((dP.kids.length:Int)=(ef.kids.length:Int))=False:=eq_false (by omega);simp +contextual only [k0,f',xd,xB,eq_true d1,I8,zo,lens,or.1,or.2.1,os.1,os.2.1,X.g,Y.g,h1.aB.g,on.1,on.2.1,↓al,aE,simprocAttr];refine ⟨ρ,w,true,h1.WI,S,e2,nY,.inl ⟨rfl,?_⟩,Nat.le_refl _,((a'.mod _).set (fun _=>.inl rfl) _)⟩;rcases J with ⟨_,z⟩ | ⟨_,z⟩
           . exact z
           . exact z.Er S ri ot jU es ob cs (.inr d2)
       . simp +contextual only [k0,f',xd,xB,eq_false d1,zo,lens,or.1,or.2.1,os.1,os.2.1,X.g,Y.g,h1.aB.g,on.1,on.2.1,↓al,aE,simprocAttr];refine ⟨ρ,w,true,h1.WI,S,e2,nY,.inl ⟨rfl,?_⟩,Nat.le_refl _,((a'.mod _).set (fun _=>.inl rfl) _)⟩;rcases J with ⟨_,z⟩ | ⟨_,z⟩
         . exact z
         . exact z.Er S ri ot jU es ob cs (.inl d1)
def h' (f:Nat->Nat) (N:Nat):List V:=(List.range N).map fun i=>V.int .i64 (f i)
theorem W_ (f:Nat->Nat) (N:Nat):(h' f N).length=N:=by simp [h']
theorem anx (f:Nat->Nat) {N x:Nat} (c:Nat):(h' f N).set x (.int .i64 c)=h' (e0 f x c) N:=by
 unfold h';refine List.ext_getElem? fun i=>?_;rw [List.getElem?_set,List.getElem?_map,List.getElem?_map,List.length_map,List.length_range];by_cases q:x=i
 . subst q;rw [if_pos rfl]
   split
   . rename_i h;simp [fz,h]
   . rename_i h;simp [h]
 . rw [if_neg q];by_cases z:i<N
   . simp [z,eF f c (show i≠x from fun e=>q e.symm)]
   . simp [z]
section
variable [Lay]
theorem M4 {iH:Nat} {h:ai} {c8:V} {N:Nat} {st:Nat->Nat} (O:cD iH h 1 c8 N (h' st N)) {X:Nat} (b5:X<N):∃b off,iT 1 c8 (.int .i64 X)=some (.ptr b (off+X * 1))/\c8.aM b/\(∀(ab:ai) (nQ:Nat->Nat),cD iH ab 1 c8 N (h' nQ N)->hd (ab.get b) (off+X * 1)=some (.int .i64 (nQ X))/\
 ∀c:Nat,∃ad,oz 1 ab b (off+X * 1) (.int .i64 c) (ab.get b)=some ad/\cD iH ad 1 c8 N (h' (e0 nQ X c) N)/\Mod c8.aM ab ad/\ad.next=ab.next):=by
 obtain ⟨b,off,ct,A,ae⟩:=O.v.ov (k:=.i64) b5;refine ⟨b,off,ct,ae,fun ab nQ vp=>?_⟩;obtain ⟨bL,j8,ov,jH,fc⟩:=vp.v.ov (k:=.i64) b5;rw [ct] at ov;injection ov with ov
 injection ov with aP a'
 obtain rfl:off=j8:=by omega
 subst aP;refine ⟨?_,fun c=>?_⟩
 . have:=jH.d_ (i:=X) (by rw [W_];exact b5);rw [show off+X * 1=off+X by omega,this];simp [h']
 . have vB:=Pd vp.v b5 ct;obtain ⟨k,ar,_,av,aK⟩:=vp.V5 vB (c:=X) (by rw [W_];exact b5) (y:=.int .i64 c) rfl rfl;rw [anx] at av;exact ⟨_,by rw [show off+X * 1=off+X by omega];exact ar,av,(Mod.refl c8.aM ab).set (fun _=>aK) _,rfl⟩
end
theorem Jk {g:bp} {E:List (Nat × Nat)} {ρ:Nat->Nat} {x:Nat} {aN:dx} (S:eU g ρ) (J:eA g E ρ []) (L:jJ g ρ) (ak:ρ x=x) (e:g.nodes[x]? =some aN) (c:aN.cj=false):dO g (cB g E) x (.mk 1 aN.n [] []):=by
 refine .var (b:=x) (.refl x) e c (fun z iX bn od=>?_) (fun z iX bn od=>L x aN e ak c z iX od (by rw [<-J.done.1 bn,ak]));cases sk:iX.cj with
 | false=>rfl
 | true=>
   obtain ⟨dP,ar,av⟩:=S.top z iX od sk;rw [<-J.done.1 bn,ak,e] at ar;cases ar;rw [c] at av;cases av
theorem acQ {g:bp} {E:List (Nat × Nat)} {ρ:Nat->Nat} {x:Nat} {aN:dx} (W:g.ee) (S:eU g ρ) (J:eA g E ρ []) (L:jJ g ρ) (ak:ρ x=x) (e:g.nodes[x]? =some aN) {l:List aL} (ay:l.length=aN.kids.length)
 (aH:∀(i y:Nat) (t:aL),aN.kids[i]? =some y->l[i]? =some t->dO g (cB g E) y t):∃t,dO g (cB g E) x t/\t.l=l:=by
 cases c:aN.cj with
 | true=>exact ⟨_,.cj (.refl x) e c ay aH,rfl⟩
 | false=>
   obtain ⟨iB,_⟩:=W.var x aN e c;rw [iB] at ay;have qk:l=[]:=List.length_eq_zero_iff.1 ay;subst qk;exact ⟨_,Jk S J L ak e c,rfl⟩
theorem anR {g:bp} {R:Nat->Nat->Prop} {aI:List Nat} (h:∀(i x:Nat),aI[i]? =some x->∃t,dO g R x t):∃l:List aL,l.length=aI.length/\∀(i y:Nat) (t:aL),aI[i]? =some y->l[i]? =some t->dO g R y t:=by have key:∀j:Fin aI.length,∃t,dO g R aI[j.1] t:=fun j=>h j.1 _ (List.getElem?_eq_getElem j.2);obtain ⟨f,aA⟩:=Classical.axiomOfChoice key;refine ⟨List.ofFn f,by simp,fun j x t ak aw=>?_⟩;obtain ⟨aU,rfl⟩:=List.getElem?_eq_some_iff.1 ak;rw [List.getElem?_ofFn,dif_pos aU] at aw;cases aw;exact aA ⟨j,aU⟩
def Ae (bO:Nat) (g:bp) (bQ:Nat->V) (b3 b8 c8:V):Prop:=∀b,c8.aM b->b≠aj bO/\¬b3.aM b/\¬b8.aM b/\∀i,i<g.N->¬(bQ i).aM b
theorem eM.O5 [Lay] {B:Nat} {h ab:ai} {bO:Nat} {g:bp} {bQ:Nat->V} {w:Nat->Nat} {bad:Bool} {b3 b8 c8:V} (H:eM B h bO g bQ w bad b3 b8) (a:Ae bO g bQ b3 b8 c8) (m:Mod c8.aM h ab):eM B ab bO g bQ w bad b3 b8:=
 H.mod m (fun q=>(a _ q).1 rfl) (fun b q z=>(a b z).2.1 q) (fun b q z=>(a b z).2.2.1 q) fun i b an q z=>(a b z).2.2.2 i an q
structure RgOk (g:bp) (R:Nat->Nat->Prop) (st:Nat->Nat) (opens:List Nat):Prop where
 one:∀i,i<g.N->(st i=1↔i ∈ opens)
 two:∀i,i<g.N->st i=2->∃t,dO g R i t
 le:∀i,i<g.N->st i<=2
theorem Wu {B iH bO:Nat} {g:bp} {E:List (Nat × Nat)} {bQ:Nat->V} {w ρ:Nat->Nat} {bad:Bool} {b3 b8 c8:V} (W:g.ee) (S:eU g ρ) (J:eA g E ρ []) (L:jJ g ρ) (e2:Way w ρ) (ap:Ae bO g bQ b3 b8 c8) (ot:g.N<=100000000):
 ∀(fuel:Nat) (opens:List Nat) (x:Nat) (st:Nat->Nat) (h:ai),g.N+1<=fuel+opens.length->x<g.N->eM B h bO g bQ w bad b3 b8->cD iH h 1 c8 g.N (h' st g.N)->opens.Nodup->(∀r ∈ opens,r<g.N/\ρ r=r/\Reach g (cB g E) r x)->RgOk g (cB g E) st opens->
 db Tryz.prog 81 [.ptr (aj bO) 0,.int .i64 x,c8] h fun v ab=>Mod c8.aM h ab/\ab.next=h.next/\((v=.bool true/\∃z,z<g.N/\¬∃t,dO g (cB g E) z t)\/
  (v=.bool false/\∃nQ,cD iH ab 1 c8 g.N (h' nQ g.N)/\RgOk g (cB g E) nQ opens/\∃t,dO g (cB g E) x t))
 | 0,opens,x,st,h,aA,ak,H,O,aV,hG,ok=>by have:=zv g.N opens aV fun r aF=>(hG r aF).1;omega
 | fuel+1,opens,x,st,h,aA,ak,H,O,aV,hG,ok=>by
   have gF:=J.part;have b5:=S.lt x ak;have k9:=S.idem x;have hB:cB g E x (ρ x):=J.done.2 (by rw [k9]);have os:=O.v.one;refine abu.z rfl (dB ?_);unfold QK;simp +contextual only [os.1,os.2.1,↓al,aE,simprocAttr];refine cz (xq H S e2 ak) ?_;rintro v aX ⟨rfl,rfl⟩;generalize JV:ρ x=X at *;obtain ⟨b',ex⟩:=hT b5;obtain ⟨b,off,ct,ae,at'⟩:=M4 O b5;obtain ⟨ld,al1⟩:=at' aX st O;have hle:=ok.le X b5;by_cases bP:st X=1
   . rw [bP] at ld;simp +contextual only [ct,ld,os.1,os.2.1,↓al,aE,simprocAttr];refine ⟨Mod.refl _ _,.inl ⟨X,b5,?_⟩⟩;exact Reach.ring gF ((hG X ((ok.one X b5).1 bP)).2.2.mg gF hB)
   by_cases bY:st X=2
   . rw [bY] at ld;simp +contextual only [ct,ld,os.1,os.2.1,↓al,aE,simprocAttr];obtain ⟨t,aw⟩:=ok.two X b5 bY;exact ⟨Mod.refl _ _,.inr ⟨st,O,ok,t,aw.mg gF (gF.symm hB)⟩⟩
   have tH:st X=0:=by omega
   rw [tH] at ld;obtain ⟨ad,bX,nZ,m2,fP⟩:=al1 1;rw [show ((1:Nat):Int)=1 from rfl] at bX;have p4:X ∉ opens:=fun q=>bP ((ok.one X b5).2 q);simp +contextual only [ct,ld,bX,os.1,os.2.1,↓al,aE,simprocAttr];refine eY (fun z k=>z 0=.ptr (aj bO) 0/\z 1=.int .i64 X/\z 2=c8/\∃(i:Nat) (nQ:Nat->Nat),z 7=.int .i64 i/\i<=b'.kids.length/\cD iH k 1 c8 g.N (h' nQ g.N)/\RgOk g (cB g E) nQ (X::opens)/\(∀(j y:Nat),j<i->b'.kids[j]? =some y->∃t,dO g (cB g E) y t)/\Mod c8.aM aX k/\k.next=aX.next) (fun z _=>b'.kids.length - (z 7).toN) ?_ ?_
   . refine ⟨by simp only [↓al,bs,simprocAttr],by simp only [↓al,bs,simprocAttr],by simp only [↓al,bs,simprocAttr],0,e0 st X 1,by simp only [↓al,bs,simprocAttr]<;>rfl,by omega,nZ,⟨fun i an=>?_,fun i an q=>?_,fun i an=>?_⟩,fun j y aU=>by omega,m2,fP⟩
     . by_cases z:i=X
       . rw [z,fz];simp
       . rw [eF _ _ z,ok.one i an];simp [z]
     . by_cases z:i=X
       . rw [z,fz] at q;cases q
       . rw [eF _ _ z] at q;exact ok.two i an q
     . by_cases z:i=X
       . rw [z,fz];omega
       . rw [eF _ _ z];exact ok.le i an
   rintro z k ⟨bq,bw,cw,i,nQ,fg,an,Ok,pv,Fk,gb,mO⟩;have kO:=H.O5 ap gb;obtain ⟨tG,fx,ox,_,_,mJ⟩:=kO.at ex;obtain ⟨_,_,_,_,wX,_⟩:=mJ k fun _ _=>rfl;obtain ⟨kQ,_,Ci⟩:=kO.c6 X b' ex;have mK:=kQ.len;have k4:=kQ.one;have on:=kO.no.v.one;unfold QL;by_cases aO:i<b'.kids.length
   . have g0:((i:Int) < (b'.kids.length:Int))=True:=eq_true (by omega);obtain ⟨cb,c7,ow,da,Ec⟩:=kQ.ov (k:=.i64) aO;have d_:=wT da aO;have dk:=jj aO (by unfold top at Ci;omega);have wM:=W.qj ex (List.getElem_mem aO);have I0:b'.cj=true:=by
      cases c:b'.cj with
      | true=>rfl
      | false=>rw [(W.var X b' ex c).1] at aO;simp at aO
     have yl:=List.getElem?_eq_getElem (l:=b'.kids) (i:=i) aO;simp +contextual only [bq,bw,cw,fg,kO.aB.g,ox,wX,mK,g0,ow,d_,k4.1,k4.2.1,on.1,on.2.1,↓al,aE,simprocAttr];refine cz (Wu W S J L e2 ap ot fuel (X::opens) b'.kids[i] nQ k (by simp only [List.length_cons];omega) wM kO Ok (List.nodup_cons.2 ⟨p4,aV⟩) (fun r aF=>?_) pv) ?_
     . have eR:Reach g (cB g E) X b'.kids[i]:=.c6 (.refl X) ex I0 yl (.refl _);rcases List.mem_cons.1 aF with rfl | aF
       . exact ⟨b5,k9,eR⟩
       . obtain ⟨ar,av,aK⟩:=hG r aF;exact ⟨ar,av,.trans (aK.mg gF hB) eR⟩
     rintro v bx ⟨M2,n3,⟨rfl,bn⟩ | ⟨rfl,M3,pQ,xc,aw⟩⟩
     . simp +contextual only [↓al,aE,simprocAttr];exact ⟨gb.trans M2,by omega,.inl bn⟩
     . simp +contextual only [bq,bw,cw,fg,dk,↓al,aE,simprocAttr];refine ⟨⟨i+1,M3,rfl,aO,pQ,xc,fun j y aU e=>?_,gb.trans M2,by omega⟩,by omega⟩;by_cases q:j=i
       . subst q;rw [yl] at e;cases e;exact aw
       . exact Fk j y (by omega) e
   . have g0:((i:Int) < (b'.kids.length:Int))=False:=eq_false (by omega);obtain ⟨_,alO⟩:=at' k nQ Ok;obtain ⟨bx,b_,pQ,m3,n3⟩:=alO 2;rw [show ((2:Nat):Int)=2 from rfl] at b_;simp +contextual only [bq,bw,cw,fg,kO.aB.g,ox,wX,mK,g0,ct,b_,k4.1,k4.2.1,on.1,on.2.1,os.1,os.2.1,↓al,aE,simprocAttr];obtain ⟨l,ay,Fq⟩:=anR fun j y e=>Fk j y (by have:=(List.getElem?_eq_some_iff.1 e).1;omega) e;obtain ⟨t,aw,_⟩:=acQ W S J L k9 ex ay Fq;refine ⟨gb.trans m3,by omega,.inr ⟨e0 nQ X 2,pQ,⟨fun i an=>?_,fun i an q=>?_,fun i an=>?_⟩,t,aw.mg gF (gF.symm hB)⟩⟩
     . by_cases z:i=X
       . rw [z,fz];simp [p4]
       . rw [eF _ _ z,pv.one i an];simp [z]
     . by_cases z:i=X
       . rw [z];exact ⟨t,aw⟩
       . rw [eF _ _ z] at q;exact pv.two i an q
     . by_cases z:i=X
       . rw [z,fz];omega
       . rw [eF _ _ z];exact pv.le i an
theorem Nl {g:bp} {E:List (Nat × Nat)} {ρ:Nat->Nat} (W:g.ee) (S:eU g ρ) (J:eA g E ρ []) {x:Nat} {b':dx} {t:aL} (h:dO g (cB g E) x t) (hB:g.nodes[ρ x]? =some b'):t.l.length=b'.kids.length/\∀(i y:Nat) (u:aL),b'.kids[i]? =some y->t.l[i]? =some u->dO g (cB g E) y u:=by
 have e:cB g E x (ρ x):=J.done.2 (by rw [S.idem]);cases c:b'.cj with
 | true=>
   obtain ⟨l,rfl,aa,ad⟩:=Hc J.part h e hB c;exact ⟨aa,ad⟩
 | false=>
   obtain ⟨iB,_⟩:=W.var _ b' hB c;rw [iB];cases h with
   | var h ae aD qq bB=>exact ⟨rfl,fun i y u q=>by simp at q⟩
   | cj h ae aD ay aH=>
     obtain ⟨dP,ar,av⟩:=S.top _ _ ae aD;rw [<-J.done.1 h,hB] at ar;cases ar;rw [c] at av;cases av
theorem VB {n c:Nat} (aD:c<=n):∀(l:List aL),(∀(i:Nat) (u:aL),l[i]? =some u->u.deep+c<=n)->fm l+c<=n
 | [],_=>by rw [fm];omega
 | t::l,h=>by rw [fm];have aa:=h 0 t rfl;have ad:=VB aD l fun i u e=>h (i+1) u (by simpa using e);omega
theorem Nk {g:bp} {E:List (Nat × Nat)} {ρ:Nat->Nat} (W:g.ee) (S:eU g ρ) (J:eA g E ρ []):∀(N:Nat) (t:aL),t.size<=N->∀(opens:List Nat) (x:Nat),x<g.N->dO g (cB g E) x t->opens.Nodup->(∀r ∈ opens,r<g.N/\ρ r=r/\Reach g (cB g E) r x)->t.deep+opens.length<=g.N
 | 0,t,aR,_,_,_,_,_,_=>by have:=pA t;omega
 | N+1,t,aR,opens,x,ak,T,aV,hG=>by
   have gF:=J.part;have b5:=S.lt x ak;have hB:cB g E x (ρ x):=J.done.2 (by rw [S.idem]);obtain ⟨b',ex⟩:=hT b5;obtain ⟨bA,bx⟩:=Nl W S J T ex;have p4:ρ x ∉ opens:=fun q=>Reach.ring gF ((hG _ q).2.2.mg gF hB) ⟨t,T.mg gF hB⟩;have sD:(ρ x::opens).Nodup:=List.nodup_cons.2 ⟨p4,aV⟩;have aD:(ρ x::opens).length<=g.N:=zv g.N _ sD fun r aF=>by
    rcases List.mem_cons.1 aF with rfl | aF
    . exact b5
    . exact (hG r aF).1
   have:=VB aD t.l fun i u e=>by
    have an:=(List.getElem?_eq_some_iff.1 e).1;have vN:b'.kids[i]? =some b'.kids[i]:=List.getElem?_eq_getElem (by omega);have I0:b'.cj=true:=by
     cases c:b'.cj with
     | true=>rfl
     | false=>rw [(W.var _ b' ex c).1] at bA;simp at bA;rw [bA] at an;simp at an
    have hm:=List.mem_of_getElem? e;have:=py (t:=t) hm;refine Nk W S J N u (by omega) (ρ x::opens) b'.kids[i] (W.qj ex (List.getElem_mem (by omega))) (bx i _ u vN e) sD fun r aF=>?_;have eR:Reach g (cB g E) (ρ x) b'.kids[i]:=.c6 (.refl _) ex I0 vN (.refl _);rcases List.mem_cons.1 aF with rfl | aF
    . exact ⟨b5,S.idem x,eR⟩
    . obtain ⟨ar,av,aK⟩:=hG r aF;exact ⟨ar,av,.trans (aK.mg gF hB) eR⟩
   rw [Ja];simp only [List.length_cons] at this;omega
structure DS (g:bp) (R:Nat->Nat->Prop) (fA ds:Nat->Nat):Prop where
 ka:∀i,i<g.N->fA i≠0->∃t,dO g R i t/\fA i=min t.size 4097/\ds i=t.deep
theorem WB {B iH bO:Nat} {g:bp} {E:List (Nat × Nat)} {bQ:Nat->V} {w ρ:Nat->Nat} {bad:Bool} {b3 b8 jk lQ:V} (W:g.ee) (S:eU g ρ) (J:eA g E ρ []) (e2:Way w ρ) (o0:Ae bO g bQ b3 b8 jk) (oZ:Ae bO g bQ b3 b8 lQ) (tn:∀b,jk.aM b->¬lQ.aM b) (ot:g.N<=100000000):
 ∀(N:Nat) (t:aL),t.size<=N->∀(x:Nat) (fA ds:Nat->Nat) (h:ai),x<g.N->dO g (cB g E) x t->eM B h bO g bQ w bad b3 b8->cD iH h 1 jk g.N (h' fA g.N)->cD iH h 1 lQ g.N (h' ds g.N)->DS g (cB g E) fA ds->
 db Tryz.prog 83 [.ptr (aj bO) 0,.int .i64 x,jk,lQ] h fun v ab=>v=.tuple [zZ t,Je t]/\Mod (fun b=>jk.aM b\/lQ.aM b) h ab/\ab.next=h.next/\∃u' lP,cD iH ab 1 jk g.N (h' u' g.N)/\cD iH ab 1 lQ g.N (h' lP g.N)/\DS g (cB g E) u' lP
 | 0,t,aR,_,_,_,_,_,_,_,_,_,_=>by have:=pA t;omega
 | N+1,t,aR,x,fA,ds,h,ak,T,H,Z,D,ok=>by
   have gF:=J.part;have b5:=S.lt x ak;have k9:=S.idem x;have hB:cB g E x (ρ x):=J.done.2 (by rw [k9]);obtain ⟨b',ex⟩:=hT b5;obtain ⟨bA,bx⟩:=Nl W S J T ex;have OL:=T.mg gF hB;have acL:=Nk W S J _ t (Nat.le_refl _) [] x ak T List.nodup_nil (fun r aF=>by cases aF);have KO:=size_eq t;have kK:=Z.v.one;have rF:=D.v.one;refine abw.z rfl (dB ?_);unfold QO;simp +contextual only [kK.1,kK.2.1,rF.1,rF.2.1,↓al,aE,simprocAttr];refine cz (xq H S e2 ak) ?_;rintro v aX ⟨rfl,rfl⟩;generalize JV:ρ x=X at *;obtain ⟨b,off,ct,ae,Pg⟩:=M4 Z b5;obtain ⟨b9,Vc,qg,p6,Pe⟩:=M4 D b5;obtain ⟨ld,_⟩:=Pg aX fA Z;obtain ⟨uz,_⟩:=Pe aX ds D;by_cases bP:fA X=0
   . have g1:((0:Int) < (fA X:Int))=False:=eq_false (by omega);simp +contextual only [ct,qg,ld,uz,g1,kK.1,kK.2.1,rF.1,rF.2.1,↓al,aE,simprocAttr];refine eY (fun z k=>z 0=.ptr (aj bO) 0/\z 1=.int .i64 X/\z 2=jk/\z 3=lQ/\∃(i:Nat) (u' lP:Nat->Nat),z 12=.int .i64 i/\z 10=.int .i64 ((min (1+ca (t.l.take i)) 4097:Nat):Int)/\z 11=.int .i64 ((fm (t.l.take i):Nat):Int)/\i<=b'.kids.length/\cD iH k 1 jk g.N (h' u' g.N)/\cD iH k 1 lQ g.N (h' lP g.N)/\DS g (cB g E) u' lP/\Mod (fun b=>jk.aM b\/lQ.aM b) aX k/\k.next=aX.next) (fun z _=>b'.kids.length - (z 12).toN) ?_ ?_
     . exact ⟨by simp only [↓al,bs,simprocAttr],by simp only [↓al,bs,simprocAttr],by simp only [↓al,bs,simprocAttr],by simp only [↓al,bs,simprocAttr],0,fA,ds,by simp only [↓al,bs,simprocAttr]<;>rfl,by simp only [↓al,bs,simprocAttr]<;>rfl,by simp only [↓al,bs,simprocAttr]<;>rfl,by omega,Z,D,ok,Mod.refl _ _,rfl⟩
     rintro z k ⟨bq,bw,cw,cn,i,u',lP,pC,hL,jh,an,vy,kO,pv,gb,mO⟩;have hj:eM B k bO g bQ w bad b3 b8:=H.mod gb (fun q=>q.elim (fun q=>(o0 _ q).1 rfl) fun q=>(oZ _ q).1 rfl) (fun b q z=>z.elim (fun z=>(o0 b z).2.1 q) fun z=>(oZ b z).2.1 q) (fun b q z=>z.elim (fun z=>(o0 b z).2.2.1 q) fun z=>(oZ b z).2.2.1 q) fun i b an q z=>z.elim (fun z=>(o0 b z).2.2.2 i an q) fun z=>(oZ b z).2.2.2 i an q;obtain ⟨tG,fx,ox,_,_,mJ⟩:=hj.at ex;obtain ⟨_,_,_,_,wX,_⟩:=mJ k fun _ _=>rfl;obtain ⟨kQ,_,Ci⟩:=hj.c6 X b' ex;have mK:=kQ.len;have k4:=kQ.one;have on:=hj.no.v.one;unfold QP;by_cases aO:i<b'.kids.length
     . have g0:((i:Int) < (b'.kids.length:Int))=True:=eq_true (by omega);have iA:i<t.l.length:=by omega
       obtain ⟨cb,c7,ow,da,Ec⟩:=kQ.ov (k:=.i64) aO;have d_:=wT da aO;have dk:=jj aO (by unfold top at Ci;omega);have Fm:=py (t:=t) (List.getElem_mem iA);have Db:IntKind.i64.wrap (((min (1+ca (t.l.take i)) 4097:Nat):Int) + ((min t.l[i].size 4097:Nat):Int))=((min (1+ca (t.l.take i)) 4097:Nat):Int) + ((min t.l[i].size 4097:Nat):Int):=wrap_i64 (by omega) (by omega);have NB:(if (4097:Int) < ((min (1+ca (t.l.take i)) 4097:Nat):Int) + ((min t.l[i].size 4097:Nat):Int) then (4097:Int) else ((min (1+ca (t.l.take i)) 4097:Nat):Int) + ((min t.l[i].size 4097:Nat):Int))=((min (1+ca (t.l.take (i+1))) 4097:Nat):Int):=by
        rw [uO iA]
        split<;>omega
       have NC:(if ((fm (t.l.take i):Nat):Int) < ((t.l[i].deep:Nat):Int) then ((t.l[i].deep:Nat):Int) else ((fm (t.l.take i):Nat):Int))=((fm (t.l.take (i+1)):Nat):Int):=by rw [Ge,VC iA]
       simp +contextual only [bq,bw,cw,cn,pC,hL,jh,hj.aB.g,ox,wX,mK,g0,ow,d_,k4.1,k4.2.1,on.1,on.2.1,kK.1,kK.2.1,rF.1,rF.2.1,↓al,aE,simprocAttr];refine cz (WB W S J e2 o0 oZ tn ot N t.l[i] (by omega) b'.kids[i] u' lP k (W.qj ex (List.getElem_mem aO)) (bx i _ _ (List.getElem?_eq_getElem aO) (List.getElem?_eq_getElem iA)) hj vy kO pv) ?_;rintro v c4 ⟨rfl,M2,n3,NM,Ji,mq,iI,xc⟩;simp +contextual only [bq,bw,cw,cn,pC,hL,jh,Db,NB,NC,dk,↓al,aE,simprocAttr];exact ⟨⟨i+1,NM,Ji,rfl,rfl,rfl,aO,mq,iI,xc,gb.trans M2,by omega⟩,by omega⟩
     . have g0:((i:Int) < (b'.kids.length:Int))=False:=eq_false (by omega);rw [List.take_of_length_le (by omega)] at hL jh;obtain ⟨_,amc⟩:=Pg k u' vy;obtain ⟨c4,b_,mq,m3,n3⟩:=amc (min (1+ca t.l) 4097);have iI:=kO.mod m3 fun b q z=>tn b z q;obtain ⟨_,zI⟩:=Pe c4 lP iI;obtain ⟨dp,gV,Ht,m4,n4⟩:=zI t.deep;have Zg:=mq.mod m4 fun b q z=>tn b q z;have aox:IntKind.i64.wrap (((fm t.l:Nat):Int)+1)=((t.deep:Nat):Int):=by
        have:=Ja t;rw [wrap_i64 (by omega) (by omega)];omega
       simp +contextual only [bq,bw,cw,cn,pC,hL,jh,hj.aB.g,ox,wX,mK,g0,ct,qg,b_,gV,aox,k4.1,k4.2.1,on.1,on.2.1,kK.1,kK.2.1,rF.1,rF.2.1,↓al,aE,simprocAttr];refine ⟨by unfold zZ;rw [KO],(gb.trans (m3.mono fun b _ q=>.inl q)).trans (m4.mono fun b _ q=>.inr q),by omega,_,_,Zg,Ht,⟨fun i an cl=>?_⟩⟩;by_cases q:i=X
       . rw [q,fz,fz];exact ⟨t,OL,by rw [KO],rfl⟩
       . rw [eF _ _ q] at cl ⊢;rw [eF _ _ q];exact pv.ka i an cl
   . have g1:((0:Int) < (fA X:Int))=True:=eq_true (by omega);obtain ⟨u,hu,ar,av⟩:=ok.ka X b5 bP;obtain rfl:=hu.uniq gF (.refl X) OL;simp +contextual only [ct,qg,ld,uz,g1,kK.1,kK.2.1,rF.1,rF.2.1,↓al,aE,simprocAttr];exact ⟨by rw [ar,av],Mod.refl _ _,fA,ds,Z,D,ok⟩
theorem Xq {g:bp} {E:List (Nat × Nat)} {ρ:Nat->Nat} (W:g.ee) (S:eU g ρ) (J:eA g E ρ []) (L:jJ g ρ) {x:Nat} {b':dx} {t:aL} (h:dO g (cB g E) x t) (hB:g.nodes[ρ x]? =some b'):t.k=(if b'.cj=true then 2 else 1)/\t.n=b'.n/\t.s=b'.s:=by
 have e:cB g E x (ρ x):=J.done.2 (by rw [S.idem]);cases c:b'.cj with
 | true=>
   obtain ⟨l,rfl,aa,ad⟩:=Hc J.part h e hB c;exact ⟨rfl,(W.cj _ b' hB c).symm,rfl⟩
 | false=>
   obtain rfl:=h.uniq J.part e (Jk S J L (S.idem x) hB c);exact ⟨rfl,rfl,(W.var _ b' hB c).2.1.symm⟩
theorem Ww {B bO:Nat} {g:bp} {E:List (Nat × Nat)} {bQ:Nat->V} {w ρ:Nat->Nat} {bad:Bool} {b3 b8:V} (W:g.ee) (S:eU g ρ) (J:eA g E ρ []) (L:jJ g ρ) (e2:Way w ρ) (kA:q3 g):∀(N:Nat) (t:aL),t.size<=N->N<=1000000000->∀(x:Nat) (h:ai),x<g.N->dO g (cB g E) x t->eM B h bO g bQ w bad b3 b8->
 db Tryz.prog 84 [.ptr (aj bO) 0,.int .i64 x] h fun v ab=>∃u,v=.agg (gG t u)/\e1 ab (eB h.next ab.next) t.l u/\t.s.length<=top/\Ext h ab
 | 0,t,aR,_,_,_,_,_,_=>by have:=pA t;omega
 | N+1,t,aR,Bn,x,h,ak,T,H=>by
   have gF:=J.part;have b5:=S.lt x ak;have k9:=S.idem x;have hB:cB g E x (ρ x):=J.done.2 (by rw [k9]);have bJ:N<=1000000000:=by omega
   obtain ⟨b',ex⟩:=hT b5;obtain ⟨bA,bx⟩:=Nl W S J T ex;obtain ⟨t1,t2,t3⟩:=Xq W S J L T ex;have fk:t.s.length<=top:=by rw [t3];exact kA _ b' ex
   have KO:=size_eq t;have jw:=pz t.l;refine abx.z rfl (dB ?_);unfold QQ;obtain ⟨aa,ar,aP,oV⟩:=ic h z4;have cS:=aP.next
   have qp:=oV.lt;obtain ⟨ad,av,a',lN⟩:=ic aa Dj;have fP:=a'.next
   have l_:=lN.lt;have cu:=H.ext (aP.trans a');have H1:=H.ext aP;have lW:=H.aB.lt;have on:=H.no.v.one;have f1:(h.next=bO)=False:=eq_false (by omega);have f2:(aa.next=bO)=False:=eq_false (by omega);simp +contextual only [ar,av,f1,f2,if_false,H1.aB.g,cu.aB.g,on.1,on.2.1,↓al,aE,simprocAttr];refine cz (xq cu S e2 ak) ?_;rintro v aX ⟨rfl,rfl⟩;generalize JV:ρ x=X at *;obtain ⟨tG,fx,ox,_,aaj,mJ⟩:=H.at ex;have bG:cI tG<h.next:=H.no.v.bG aaj
   obtain ⟨d6,_⟩:=mJ aX fun b q=>(aP.trans a').get b (H.no.v.bG q);rw [show mL b' (bQ X) (w X)=[.int .i64 t.k,.int .i64 t.n,.str t.s,.bF,bQ X,.int .i64 (w X)] by rw [t1,t2,t3]] at d6;have zB:=(H.c6 X b' ex).1.one;have f3:(aa.next=h.next)=False:=eq_false (by omega);have f4:(aj aa.next=tG)=False:=eq_false fun q=>by rw [<-q,cc] at bG;omega
   have AL:=lN.put [.int .i64 t.k,.int .i64 t.n,.str t.s,.bF,bQ X,.int .i64 (w X)];have cM:Ext aa (aX.set (aj aa.next) (.bC [.int .i64 t.k,.int .i64 t.n,.str t.s,.bF,bQ X,.int .i64 (w X)] 0 false)):=a'.set (Nat.le_refl _) _;have n3:(aX.set (aj aa.next) (.bC [.int .i64 t.k,.int .i64 t.n,.str t.s,.bF,bQ X,.int .i64 (w X)] 0 false)).next=aX.next:=rfl
   obtain ⟨aJ,aK⟩:∃aJ,aX.set (aj aa.next) (.bC [.int .i64 t.k,.int .i64 t.n,.str t.s,.bF,bQ X,.int .i64 (w X)] 0 false)=aJ:=⟨_,rfl⟩;rw [aK] at AL cM n3;have rX:=H1.ext cM;obtain ⟨bE,bU,fM,Dl⟩:=o1 aJ z4 (gG t .bF);have n4:=fM.next
   have Ck:=Dl.lt;have DT:=AL.ext fM;have DP:=(oV.ext cM).ext fM;have ame:(aJ.new (.bC z4 0 false)).set (aj aJ.next) (.bC [.int .i64 t.k,.int .i64 t.n,.str t.s,.bF] 0 false)=bE:=bU;have oS:Ext h bE:=(aP.trans cM).trans fM;simp +contextual only [aK,ame,lN.g,AL.g,rX.aB.g,f1,f2,f3,f4,if_false,H1.aB.g,cu.aB.g,ox,d6,zB.1,zB.2.1,on.1,on.2.1,↓al,aE,simprocAttr];refine eY (fun r k=>r 0=.ptr (aj bO) 0/\r 4=.ptr (aj h.next) 0/\r 5=.ptr (aj aa.next) 0/\r 6=.ptr (aj aJ.next) 0/\∃(i:Nat) (u:V),r 7=.int .i64 i/\i<=b'.kids.length/\Has k aJ.next (gG t u)/\Has k h.next z4/\Has k aa.next [.int .i64 t.k,.int .i64 t.n,.str t.s,.bF,bQ X,.int .i64 (w X)]/\e1 k (eB bE.next k.next) (t.l.take i) u/\Ext h k/\bE.next<=k.next) (fun r k=>b'.kids.length - (r 7).toN) ?_ ?_
   . exact ⟨by simp only [↓al,bs,simprocAttr],by simp only [↓al,bs,simprocAttr],by simp only [↓al,bs,simprocAttr],by simp only [↓al,bs,simprocAttr],0,.bF,by simp only [↓al,bs,simprocAttr]<;>rfl,Nat.zero_le _,Dl,DP,DT,e1.nil _ _,oS,Nat.le_refl _⟩
   rintro r k ⟨bq,fo,dv,cP,i,u,fg,an,A,R,X,O,eL,ap5⟩;unfold QR;have oO:=O.one;have hj:=H.ext eL;obtain ⟨kQ,_,Ci⟩:=hj.c6 _ b' ex;have mK:=kQ.len;have aju:=A.lt;by_cases aO:i<b'.kids.length
   . have g0:((i:Int) < (b'.kids.length:Int))=True:=eq_true (by omega);have iA:i<t.l.length:=by omega
     obtain ⟨cb,c7,ow,da,Ec⟩:=kQ.ov (k:=.i64) aO;have d_:=wT da aO;have dk:=jj aO (by unfold top at Ci;omega);have Fm:=py (t:=t) (List.getElem_mem iA);simp +contextual only [bq,fo,dv,cP,fg,X.g,mK,g0,ow,d_,zB.1,zB.2.1,oO.1,oO.2.1,↓al,aE,simprocAttr];refine cz (Ww W S J L e2 kA N t.l[i] (by omega) bJ b'.kids[i] k (W.qj ex (List.getElem_mem aO)) (bx i _ _ (List.getElem?_eq_getElem aO) (List.getElem?_eq_getElem iA)) hj) ?_;rintro v bx ⟨z,rfl,Z,uk,ek⟩;have rE:=ek.next
     obtain ⟨c4,y3,pK,Ag⟩:=o1 bx z4 (gG t.l[i] z);have Gs:=pK.next
     have Dg:=ek.trans pK;have gq:=A.ext Dg;have n2:=R.ext Dg;have Zc:=X.ext Dg;have nZ:=O.ext Dg;have ke:=Z.ext pK;have kK:=Z.one;have qm:=Ag.lt;obtain ⟨gW,dp,bZ,bX,b_,gV⟩:=nZ.add (t:=t.l[i]) (T:=eB k.next bx.next) (u:=z) ke (fun b q z=>by unfold eB at q z;omega) (fun b q=>by unfold eB at q;unfold Old;omega) (fun b q=>by unfold eB at q;unfold Old;omega) (by rw [List.length_take];unfold top;omega) uk;have pe:∀b,u.aM b->bE.next<=cI b:=fun b q=>by have:=O.bh _ q;unfold eB at this;omega
     have wC:∀n,n<bE.next->¬u.aM (aj n):=fun n aV q=>by have:=pe _ q;rw [cc] at this;omega
     have NP:=gq.mod b_ (wC _ (by omega));have Y4:=n2.mod b_ (wC _ (by omega));have Zd:=Zc.mod b_ (wC _ (by omega));have uI:=bX.one;have acS:Ext h dp:=(eL.trans Dg).hJ b_ fun b q=>by have:=pe b q;omega
     simp +contextual only [bq,fo,dv,cP,fg,y3,Ag.g,A.g,gq.g,NP.g,kK.1,kK.2.1,oO.1,oO.2.1,uI.1,uI.2.1,bZ,dk,↓al,aE,simprocAttr];refine ⟨⟨i+1,gW,rfl,aO,NP.put _,Y4.set (by omega) _,Zd.set (by omega) _,?_,acS.set (by omega) _,by show bE.next<=dp.next;omega⟩,by omega⟩;rw [take_one iA];refine (bX.jG fun b q=>?_).mod ((Mod.refl (fun x=>x=aj aJ.next) dp).set (fun _=>rfl) _) fun b q z=>?_
     . unfold eB at q ⊢;have:=b_.next;show bE.next<=cI b/\cI b<dp.next;omega
     . rw [show b=aj aJ.next from z] at q;unfold eB at q;rw [cc] at q;omega
   . have g0:((i:Int) < (b'.kids.length:Int))=False:=eq_false (by omega);rw [List.take_of_length_le (by omega)] at O;simp +contextual only [bq,fo,dv,cP,fg,X.g,mK,g0,R.g,A.g,zB.1,zB.2.1,oO.1,oO.2.1,↓al,aE,simprocAttr];refine ⟨u,rfl,(O.mod ((Mod.refl (fun x=>x=aj h.next) k).set (fun _=>rfl) _) fun b q z=>?_).jG fun b q=>?_,fk,eL.set (Nat.le_refl _) _⟩
     . rw [show b=aj h.next from z] at q;unfold eB at q;rw [cc] at q;omega
     . unfold eB at q ⊢;exact ⟨by omega,q.2⟩
section
variable [Lay]
theorem cD.cap {B:Nat} {h:ai} {size:Nat} {v:V} {n:Nat} {ah:List V} (H:cD B h size v n ah) {k bj:IntKind} {m:Nat} (hm:m<=n) (afA:m<=top):
 ∃c9,hh size v none (some (.int k m)) (some (.int bj m))=some c9/\cD B h size c9 m (ah.take (m * size))/\∀b,c9.aM b->v.aM b:=by
 obtain ⟨aa,ad⟩:=H;have qb:=Nat.mul_le_mul_right size hm;have fF:(ah.take (m * size)).length=m * size:=by rw [List.length_take];omega
 cases v<;>simp only at ad<;>try (exact ad.elim)
 case bF=>
  subst ad;obtain rfl:m=0:=by omega
  refine ⟨.bF,?_,⟨by rw [fF],rfl⟩,fun b q=>q⟩;simp only [hh,xv,qQ (Nat.le_refl _),sd]
 case slice b off len cap=>
  obtain ⟨rfl,av,aK,bU,dV,hv,cE,st,eQ,hg,il⟩:=ad;refine ⟨.slice b off m m,?_,⟨fF,rfl,av,aK,Nat.le_refl _,by omega,hv,cE,st,eQ,?_,?_⟩,fun b q=>q⟩
  . simp only [hh,tb,qQ (show m<=cap by omega),qQ (Nat.le_refl m),sd,Nat.sub_zero];congr 2;cases ae:Nat.beq m 0
    . simp
    . simp
  . have:=Nat.mul_le_mul_right size (show m<=cap by omega);omega
  . rw [fF,<-il,aa,List.take_take,Nat.min_eq_left qb]
 case dY b off len idx=>
  obtain ⟨rfl,av,aK,rfl,rfl,hv,st,eQ,hg,il⟩:=ad;refine ⟨.slice b 0 m m,?_,⟨fF,rfl,av,aK,Nat.le_refl _,afA,hv,size,st,eQ,?_,?_⟩,fun b q=>q⟩
  . simp only [hh,qB,qQ hm,qQ (Nat.le_refl m),sd,Nat.sub_zero];congr 2;cases ae:Nat.beq m 0
    . simp
    . simp
  . omega
  . rw [List.drop_zero,fF,<-il,aa,List.take_take,Nat.min_eq_left qb]
def vt (aX k:ai) (v:V) (cy:hS):Prop:=∃us:List (List V),cD aX.next k 5 v cy.length us.flatten/\us.length=cy.length/\(∀u ∈ us,u.length=5/\ev u=true)/\∀(i:Nat) (p:Int × aL) (u:List V),cy[i]? =some p->us[i]? =some u->cW (Old aX) k (lR p) u
theorem vt.fU {aX k:ai} {v:V} {cy:hS} (H:vt aX k v cy) (aV:cy.length<=top):cJ Any k 5 (cy.map lR) v:=by
 obtain ⟨us,o,hu,dn,aD⟩:=H;refine ⟨o.room,by rw [List.length_map];exact aV,⟨us,by rw [List.length_map];exact o.v,by rw [List.length_map];exact hu,fun u q=>(dn u q).1,fun i e u ar av=>?_⟩,fun b q=>trivial⟩;rw [List.getElem?_map] at ar;cases aw:cy[i]? with
 | none=>rw [aw] at ar;cases ar
 | some t=>
   rw [aw] at ar;cases ar;exact (aD i t u aw av).jG fun b _=>trivial
theorem L4:∀{us:List (List V)},(∀u ∈ us,ev u=true)->ev us.flatten=true
 | [],_=>rfl
 | u::us,h=>by rw [List.flatten_cons];exact alp (h u List.mem_cons_self) (L4 fun w hw=>h w (List.mem_cons_of_mem _ hw))
theorem Bg:∀(us:List (List V)) (m:Nat),(∀u ∈ us,u.length=5)->us.flatten.take (m * 5)=(us.take m).flatten/\us.flatten.drop (m * 5)=(us.drop m).flatten
 | [],m,_=>by simp
 | u::us,0,_=>by simp
 | u::us,m+1,h=>by obtain ⟨aa,ad⟩:=Bg us m fun w hw=>h w (List.mem_cons_of_mem _ hw);have ay:=h u List.mem_cons_self;rw [List.take_succ_cons,List.drop_succ_cons,List.flatten_cons,List.flatten_cons,List.take_append,List.drop_append,ay,show (m+1) * 5-5=m * 5 by omega,aa,ad,List.take_of_length_le (by rw [ay];omega),List.drop_of_length_le (by rw [ay];omega),List.nil_append];exact ⟨rfl,rfl⟩
theorem vt.ins {aX k:ai} {v:V} {cy:hS} (H:vt aX k v cy) (e:Ext aX k) {at':Nat} (a1:at'<=cy.length) (ay:cy.length<=1000000) {p:Int × aL} {c:List V} (aD:cW (Old aX) k (lR p) c) (SF:c.length=5) (SG:ev c=true):
 ∃v1 v2 v3 v4 v5 bx c4 dp,hh 5 v (some (.int .i64 at')) none none=some v1/\iK 5 (.slice (aj k.next) 0 0 0) v1 (k.new (.bC [] 0 false))=.val v2 bx/\hh 5 v none (some (.int .i64 at')) (some (.int .i64 at'))=some v3/\iK 5 v3 (.slice (aj bx.next) 0 1 1) (bx.new (.bC c 0 false))=.val v4 c4/\iK 5 v4 v2 c4=.val v5 dp/\
  Ext aX bx/\Ext aX c4/\Ext aX dp/\vt aX dp v5 (cy.take at'++p::cy.drop at')/\(v1.one=true/\v1.cells=[v1])/\(v2.one=true/\v2.cells=[v2])/\(v3.one=true/\v3.cells=[v3])/\(v4.one=true/\v4.cells=[v4])/\(v5.one=true/\v5.cells=[v5]):=by
 obtain ⟨us,o,hu,dn,ho⟩:=H;have bn:∀u ∈ us,u.length=5:=fun u q=>(dn u q).1;have mO:=e.next
 obtain ⟨adB,fd⟩:=Bg us at' bn;obtain ⟨v1,bW,a2,a3⟩:=o.v.cut (k:=.i64) (bj:=.i64) (bB:=at') (an:=cy.length) a1 (Nat.le_refl _) (some (.int .i64 at')) none (.inl rfl) (.inr ⟨rfl,rfl⟩) o.room;have jd:(us.flatten.drop (at' * 5)).take ((cy.length-at') * 5)=(us.drop at').flatten:=by rw [List.take_of_length_le (by rw [List.length_drop,q2 us bn,hu];omega),fd]
 rw [jd] at a2;obtain ⟨K,dQ,yl,eG⟩:=ic k [];have aqH:=yl.next
 have ajv:=eG.lt;have iC:cD aX.next K 5 (.slice (aj k.next) 0 0 0) 0 []:=⟨rfl,rfl,by rw [cc];exact mO,gi ajv,Nat.le_refl _,Nat.zero_le _,[],0,false,eG.g,by simp,rfl⟩
 obtain ⟨v2,bx,cb,b9,e3,iv⟩:=D6 (by omega) iC (a2.ext yl) (by omega) (by unfold top;omega) (L4 fun u q=>(dn u (List.mem_of_mem_drop q)).2);have aqJ:=e3.next
 have cp:Ext k bx:=yl.hJ e3 fun b q=>by rw [show b=aj k.next from q,cc];exact Nat.le_refl _
 have dq:=o.ext cp;have aak:∀b,v2.aM b->k.next<=cI b:=fun b q=>by
  rcases iv b q with q | q
  . rw [show b=aj k.next from q,cc];exact Nat.le_refl _
  . omega
 have bold:∀b,v.aM b->cI b<k.next:=fun b q=>o.v.bG q
 obtain ⟨v3,bP,bY,c3⟩:=cD.cap dq (k:=.i64) (bj:=.i64) a1 (by unfold top;omega);rw [adB] at bY;obtain ⟨v4,c4,d1,d2,d3,d4,d5⟩:=pS (cs:=c) (by omega) bY (by omega) (by unfold top;omega) SF SG;have akN:=d3.next
 have cn:=b9.mod d3 fun b q z=>by have:=aak b q;have:=bold b (c3 b z);omega
 obtain ⟨v5,dp,f1,f2,f3,f4⟩:=D6 (by omega) d2 cn.v (by omega) (by unfold top;omega) (by simpa using L4 fun u q=>(dn u (List.mem_of_mem_drop q)).2);have N5:Ext aX bx:=e.trans cp;have N6:Ext aX c4:=N5.hJ d3 fun b q=>o.base (c3 b q);have Yf:Ext aX dp:=N6.hJ f3 fun b q=>d2.base q;have hm:∀{ds:List D} {w:List V},cW (Old aX) k ds w->cW (Old aX) dp ds w:=fun {ds w} ak=>by have m:Mod (fun b=>aX.next<=cI b) k dp:=((cp.mod _).trans (d3.mono fun b _ q=>o.base (c3 b q))).trans (f3.mono fun b _ q=>d2.base q);exact ak.mod m fun b q _=>⟨fun z=>by unfold Old at q;omega,q⟩
 refine ⟨v1,v2,v3,v4,v5,bx,c4,dp,bW,by rw [dQ];exact cb,bP,d1,f1,N5,N6,Yf,⟨us.take at'++c::us.drop at',?_,?_,?_,?_⟩,⟨a2.one.1,a2.one.2.1⟩,⟨b9.v.one.1,b9.v.one.2.1⟩,⟨bY.v.one.1,bY.v.one.2.1⟩,⟨d2.v.one.1,d2.v.one.2.1⟩,⟨f2.v.one.1,f2.v.one.2.1⟩⟩
 . rw [show (cy.take at'++p::cy.drop at').length=at'+1 + (0 + (cy.length-at')) by simp;omega];rw [List.flatten_append,List.flatten_cons];simpa using f2
 . simp;omega
 . intro u q;rcases List.mem_append.1 q with q | q
   . exact dn u (List.mem_of_mem_take q)
   . rcases List.mem_cons.1 q with rfl | q
     . exact ⟨SF,SG⟩
     . exact dn u (List.mem_of_mem_drop q)
 . intro i q u aC fG;by_cases z:i<at'
   . rw [List.getElem?_append_left (by rw [List.length_take];omega),List.getElem?_take_of_lt z] at aC fG;exact hm (ho i q u aC fG)
   . rw [List.getElem?_append_right (by rw [List.length_take];omega),List.length_take,Nat.min_eq_left (by omega)] at aC fG;obtain ⟨j,aU⟩:∃j,i-at'=j:=⟨_,rfl⟩;rw [aU] at aC fG;cases j with
     | zero=>
       simp only [List.getElem?_cons_zero,Option.some.injEq] at aC fG;subst aC;subst fG;exact hm aD
     | succ j=>
       rw [List.getElem?_cons_succ,List.getElem?_drop] at aC fG;exact hm (ho _ q u aC fG)
end
theorem anr {cy:hS} {p:Int × aL} {m:Nat} (aR:cy.Pairwise fun a b=>a.1<b.1) (aa:∀(j:Nat) (q:Int × aL),j<m->cy[j]? =some q->q.1<p.1) (ad:∀q,cy[m]? =some q->p.1<q.1):(cy.take m++p::cy.drop m).Pairwise fun a b=>a.1<b.1:=by
 have hH:=aR;rw [<-List.take_append_drop m cy,List.pairwise_append] at hH;obtain ⟨s1,s2,kM⟩:=hH;have t1:∀a ∈ cy.take m,a.1<p.1:=fun a a1=>by
  obtain ⟨j,aU⟩:=List.getElem?_of_mem a1;have SS:j<m:=by have:=(List.getElem?_eq_some_iff.1 aU).1;rw [List.length_take] at this;omega
  rw [List.getElem?_take_of_lt SS] at aU;exact aa j a SS aU
 have t2:∀b ∈ cy.drop m,p.1<b.1:=fun b ae=>by
  cases bc:cy.drop m with
  | nil=>rw [bc] at ae;cases ae
  | cons q rest=>
    have aC:cy[m]? =some q:=by
     have:(cy.drop m)[0]? =some q:=by rw [bc];rfl
     rw [List.getElem?_drop] at this;exact this
    have:=ad q aC;rw [bc] at ae s2;rcases List.mem_cons.1 ae with rfl | ae
    . exact this
    . have:=(List.pairwise_cons.1 s2).1 b ae;omega
 rw [List.pairwise_append];refine ⟨s1,List.pairwise_cons.2 ⟨t2,s2⟩,fun a a1 b ae=>?_⟩;rcases List.mem_cons.1 ae with rfl | ae
 . exact t1 a a1
 . have:=t1 a a1;have:=t2 b ae;omega
theorem ano (l:hS) (ay:l.length<=1000000) (nv:(l.map Prod.fst).Nodup) (c8:V) (h:ai) (S:cJ Any h 5 (l.map lR) c8):db Tryz.prog 85 [c8] h fun x ab=>∃cy:hS,cy.Perm l/\cy.Pairwise (fun a b=>a.1<b.1)/\cJ Any ab 5 (cy.map lR) x/\Ext h ab:=by
 have tB:=S.rG;have ue:=S.len;have os:=S.one;rw [List.length_map] at ue;refine aby.z rfl (dB ?_);unfold QS;simp +contextual only [os.1,os.2.1,↓al,aE,simprocAttr];refine eY (fun r k=>r 0=c8/\∃(i:Nat) (v:V) (cy:hS),r 4=.int .i64 i/\r 3=v/\i<=l.length/\vt h k v cy/\cy.Perm (l.take i)/\cy.Pairwise (fun a b=>a.1<b.1)/\Ext h k) (fun r _=>l.length - (r 4).toN) ?_ ?_
 . exact ⟨by simp only [↓al,bs,simprocAttr],0,.bF,[],by simp only [↓al,bs,simprocAttr]<;>rfl,by simp only [↓al,bs,simprocAttr],by omega,⟨[],⟨rfl,rfl⟩,rfl,fun u q=>(by cases q),fun i p u q=>by simp at q⟩,by simp,List.Pairwise.nil,Ext.refl h⟩
 rintro r k ⟨bq,i,v,cy,fo,cn,an,T,ag,aR,E⟩;unfold QU;have rh:=ag.length_eq;rw [List.length_take,Nat.min_eq_left an] at rh;have DR:=T.fU (by unfold top;omega);have dG:=DR.one;have bQ:=DR.len;rw [List.length_map] at bQ;by_cases aO:i<l.length
 . have g0:((i:Int) < (l.length:Int))=True:=eq_true (by omega);obtain ⟨apx,op,dw,La,X,uy,_,wY⟩:=hS.c6 tB (k:=.i64) aO;simp +contextual only [bq,cn,fo,ue,g0,↓al,aE,simprocAttr];refine eY (fun z bj=>bj=k/\z 0=c8/\z 3=v/\z 4=.int .i64 i/\∃a:Nat,z 5=.int .i64 a/\a<=cy.length/\∀(j:Nat) (q:Int × aL),j<a->cy[j]? =some q->q.1<l[i].1) (fun z _=>cy.length - (z 5).toN) ?_ ?_
   . exact ⟨rfl,by simp only [bq,↓al,bs,simprocAttr],by simp only [cn,↓al,bs,simprocAttr],by simp only [fo,↓al,bs,simprocAttr],0,by simp only [↓al,bs,simprocAttr]<;>rfl,by omega,fun j q aU=>by omega⟩
   rintro z bj ⟨rfl,z0,z3,z4,a,z5,a1,eD⟩;unfold QT;have leave:(∀q,cy[a]? =some q->¬q.1<l[i].1)->True:=fun _=>trivial;have fin:(∀q,cy[a]? =some q->¬q.1<l[i].1)->∃v1 v2 v3 v4 v5 bx c4 dp,hh 5 v (some (.int .i64 a)) none none=some v1/\iK 5 (.slice (aj bj.next) 0 0 0) v1 (bj.new (.bC [] 0 false))=.val v2 bx/\hh 5 v none (some (.int .i64 a)) (some (.int .i64 a))=some v3/\iK 5 v3 (.slice (aj bx.next) 0 1 1) (bx.new (.bC (.int .i64 l[i].1::gG l[i].2 dw) 0 false))=.val v4 c4/\iK 5 v4 v2 c4=.val v5 dp/\
    Ext h bx/\Ext h c4/\Ext h dp/\vt h dp v5 (cy.take a++l[i]::cy.drop a)/\(v1.one=true/\v1.cells=[v1])/\(v2.one=true/\v2.cells=[v2])/\(v3.one=true/\v3.cells=[v3])/\(v4.one=true/\v4.cells=[v4])/\(v5.one=true/\v5.cells=[v5])/\(cy.take a++l[i]::cy.drop a).Perm (l.take (i+1))/\(cy.take a++l[i]::cy.drop a).Pairwise (fun a b=>a.1<b.1):=fun jt=>by
    obtain ⟨aou,ho,ky,aqe⟩:=aL.open X;have ak8:=ky.one;obtain rfl:dw=aou:=by simpa using ho
    obtain ⟨v1,v2,v3,v4,v5,bx,c4,dp,bW,a2,a3,a4,a5,gx,qP,AM,a9,cb,b9,e3,iv,jb⟩:=T.ins E a1 (by omega) (p:=l[i]) (c:=.int .i64 l[i].1::gG l[i].2 dw) (by have:cW (Old h) h (lR l[i]) (.int .i64 l[i].1::gG l[i].2 dw):=.i X;exact this.ext E) rfl (by simp only [ev,Gv,Gw,ak8.1,Bool.and_self,Bool.and_true]);refine ⟨v1,v2,v3,v4,v5,bx,c4,dp,bW,a2,a3,a4,a5,gx,qP,AM,a9,cb,b9,e3,iv,jb,?_,anr aR eD fun q aC=>?_⟩
    . rw [List.take_succ_eq_append_getElem aO];refine List.perm_middle.trans ?_;rw [List.take_append_drop];exact (ag.cons l[i]).trans (@List.perm_append_comm _ [l[i]] (l.take i))
    . have aa:=jt q aC;have afV:q ∈ l.take i:=ag.subset (List.mem_of_getElem? aC);obtain ⟨j,aU⟩:=List.getElem?_of_mem afV;have jY:j<i:=by have:=(List.getElem?_eq_some_iff.1 aU).1;rw [List.length_take] at this;omega
      rw [List.getElem?_take_of_lt jY] at aU;have cl:q.1≠l[i].1:=fun e=>by
       have sA:=(List.getElem?_eq_some_iff.1 aU).1;have aP:(l.map Prod.fst)[j]'(by rw [List.length_map];exact sA)=(l.map Prod.fst)[i]'(by rw [List.length_map];exact aO):=by rw [List.getElem_map,List.getElem_map,(List.getElem?_eq_some_iff.1 aU).2,e]
       have:=(List.getElem_inj nv).1 aP;omega
      omega
   have Lw:=uy bj E;have aqq:=wY bj E;by_cases q:a<cy.length
   . have g1:((a:Int) < (cy.length:Int))=True:=eq_true (by omega);obtain ⟨apy,aqT,aq',TF,apq,akj,_,_⟩:=hS.c6 DR (k:=.i64) q;have UA:=akj bj (Ext.refl bj);by_cases c:cy[a].1<l[i].1
     . have aoA:=jj q (by omega);simp +contextual only [z0,z3,z4,z5,bQ,g1,TF,UA,La,Lw,eq_true c,aoA,↓al,aE,simprocAttr];refine ⟨⟨a+1,rfl,q,fun j ec aU e=>?_⟩,by omega⟩;by_cases z:j=a
       . subst z;rw [List.getElem?_eq_getElem q] at e;cases e;exact c
       . exact eD j ec (by omega) e
     . obtain ⟨v1,v2,v3,v4,v5,bx,c4,dp,bW,a2,a3,a4,a5,gx,qP,AM,a9,cb,b9,e3,iv,jb,lk,tD⟩:=fin fun ec e=>by rw [List.getElem?_eq_getElem q] at e;cases e;exact c
       have d5:=wY bx gx;have I9:=wY c4 qP;have dk:=jj aO (by omega);simp +contextual only [z0,z3,z4,z5,bQ,g1,TF,UA,La,Lw,eq_false c,bW,a2,a3,a4,a5,d5,I9,cb.1,cb.2,b9.1,b9.2,e3.1,e3.2,iv.1,iv.2,jb.1,jb.2,dk,dG.1,dG.2.1,↓al,aE,simprocAttr];exact ⟨by rw [<-iM];exact wY _ (gx.new _),⟨i+1,v5,_,rfl,rfl,aO,a9,lk,tD,AM⟩,by simp only [Int.toNat_natCast];omega⟩
   . have g1:((a:Int) < (cy.length:Int))=False:=eq_false (by omega);obtain ⟨v1,v2,v3,v4,v5,bx,c4,dp,bW,a2,a3,a4,a5,gx,qP,AM,a9,cb,b9,e3,iv,jb,lk,tD⟩:=fin fun ec e=>by have:=(List.getElem?_eq_some_iff.1 e).1;omega
     have d5:=wY bx gx;have I9:=wY c4 qP;have dk:=jj aO (by omega);simp +contextual only [z0,z3,z4,z5,bQ,g1,La,Lw,bW,a2,a3,a4,a5,d5,I9,cb.1,cb.2,b9.1,b9.2,e3.1,e3.2,iv.1,iv.2,jb.1,jb.2,dk,dG.1,dG.2.1,↓al,aE,simprocAttr];exact ⟨by rw [<-iM];exact wY _ (gx.new _),⟨i+1,v5,_,rfl,rfl,aO,a9,lk,tD,AM⟩,by simp only [Int.toNat_natCast];omega⟩
 . have g0:((i:Int) < (l.length:Int))=False:=eq_false (by omega);rw [List.take_of_length_le (by omega)] at ag;simp +contextual only [bq,cn,fo,ue,g0,dG.1,dG.2.1,↓al,aE,simprocAttr];exact ⟨cy,ag,aR,DR,E⟩
end
end Go.Proofs.YthemdhlheglhoaaGreatDoor
