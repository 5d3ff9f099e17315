/- The chapter's functions, walked by the abstract machine: plain lemmas, no condition. Printed by a program from longer texts: names made short. -/
import Derived.Test.YthemdhlheglhoaaGreatDoorM14
set_option linter.unusedSectionVars false
set_option linter.unusedSimpArgs false
set_option linter.unusedVariables false
set_option maxHeartbeats 64000000
noncomputable section
namespace Go.Proofs.YthemdhlheglhoaaGreatDoor
section
open Go a8
def jC (g:bp) (ρ:Nat->Nat):Prop:=∀(x:Nat) (aL:dw),g.nodes[x]? =some aL->ρ x=x->aL.ch=false->∀(y:Nat) (kd:dw),g.nodes[y]? =some kd->ρ y=x->aL.n<=kd.n
theorem jC.one {g:bp} {ρ:Nat->Nat} {r s:Nat} (H:jC g ρ) (aE:ρ r=r) (aS:ρ s=s) (ck:r≠s) {dL d_:dw} (jM:g.nodes[r]? =some dL) (es:g.nodes[s]? =some d_) (hle:d_.ch=false->dL.ch=false/\d_.n<=dL.n):jC g (ea ρ r s):=by
 intro x aL ex ak c y kd jN aZ;have ou:x≠r:=fun q=>by subst q;unfold ea at ak;rw [if_pos aE] at ak;exact ck ak.symm
 have agk:ρ x=x:=by
  unfold ea at ak
  split at ak
  . subst ak;exact aS
  . exact ak
 unfold ea at aZ
 split at aZ
 . rename_i q;subst aZ;rw [es] at ex;cases ex;obtain ⟨aa,ad⟩:=hle c;have:=H r dL jM aE aa y kd jN q;omega
 . exact H x aL ex agk c y kd jN aZ
def nS (g:bp) (E:List (Nat × Nat)) (ρ:Nat->Nat) (bad:Bool) (Q:List (Nat × Nat)):Prop:=(bad=true/\mN g E)\/(bad=false/\ev g E ρ Q)
theorem nS.map {g:bp} {E:List (Nat × Nat)} {ρ dF:Nat->Nat} {bad:Bool} {Q gg:List (Nat × Nat)} (H:nS g E ρ bad Q) (h:ev g E ρ Q->ev g E dF gg):nS g E dF bad gg:=by
 rcases H with ⟨a,b⟩ | ⟨a,b⟩
 . exact .inl ⟨a,b⟩
 . exact .inr ⟨a,h b⟩
abbrev Dm:List V:=[.int .i64 0,.int .i64 0,.str [],.bB,.bB,.int .i64 0]
section
variable [Lay]
theorem eK.Wo {B:Nat} {h:ah} {bO:Nat} {g:bp} {bQ:Nat->V} {w:Nat->Nat} {bad:Bool} {b1 b':V} (H:eK B h bO g bQ w bad b1 b'):eK B (h.set (aj bO) (.bE [b1,b',.bool true] 0 false)) bO g bQ w true b1 b':=by have m:Mod (fun b=>b=aj bO) h (h.set (aj bO) (.bE [b1,b',.bool true] 0 false)):=(Mod.refl (fun b=>b=aj bO) h).set (fun _=>rfl) _;refine ⟨H.aB.put _,H.no.mod m fun b q z=>H.rz (by rw [<-show b=aj bO from z];exact q),H.j4.mod m fun b q z=>H.ti (by rw [<-show b=aj bO from z];exact q),fun i aL e=>⟨(H.c0 i aL e).1.mod m fun b q z=>(H.lk i b (hn e) q).2.2.2 z,(H.c0 i aL e).2⟩,H.lk,H.vW,H.rz,H.ti,H.uF⟩
theorem an2 (h:ah) (dZ eS:List V):∃H,((((h.new (.bE Dm 0 false)).new (.bE Dm 0 false)).set (aj h.next) (.bE dZ 0 false)).set (aj (h.next+1)) (.bE eS 0 false))=H/\Ext h H/\Has H h.next dZ/\Has H (h.next+1) eS:=by
 have f:((h.next:Nat)=h.next+1)=False:=eq_false (by omega);have kJ:((h.next+1:Nat)=h.next)=False:=eq_false (by omega);refine ⟨_,rfl,((((Ext.refl h).new _).new _).set (Nat.le_refl _) _).set (by omega) _,⟨?_,?_⟩,⟨?_,?_⟩⟩
 . rw [l5,l5,gk,gk];omega
 . rw [dC,if_neg (by rw [rH];omega),dC,if_pos rfl]
 . rw [l5,l5,gk,gk];omega
 . rw [dC,if_pos rfl]
end
theorem wR [Lay] {h:ah} {b:aQ} {o:Nat} {l:List Nat} (A:jB h b o (lY (l.map fun (x:Nat)=>(x:Int)))) {i:Nat} (ao:i<l.length):ia (h.get b) (o+i * 1)=some (.int .i64 l[i]):=by have:=A.d' (i:=i) (by simpa [lY] using ao);rw [show o+i * 1=o+i by omega,this];simp [lY]
theorem F2 {g:bp} {E:List (Nat × Nat)} {ρ w:Nat->Nat} {bad:Bool} {Q:List (Nat × Nat)} {a b p q:Nat} {zA LX:dw} (S:eP g ρ) (eW:Way w ρ) (nV:jC g ρ) (af:ρ p=p) (aC:ρ q=q) (ck:p≠q) (Bf:g.nodes[p]? =some zA) (eq:g.nodes[q]? =some LX) (tO:zA.ch=false) (hle:LX.ch=false->LX.n<=zA.n)
 (J:nS g E ρ bad ((a,b)::Q)) (yG:(ρ a=p/\ρ b=q)\/(ρ a=q/\ρ b=p)):
 eP g (ea ρ p q)/\Way (fun x=>if x=p then q else w x) (ea ρ p q)/\jC g (ea ρ p q)/\nS g E (ea ρ p q) bad Q/\kl g (ea ρ p q)<=kl g ρ:=
 ⟨S.one af aC ck (hn Bf) (hn eq) (fun aL e c=>by rw [Bf] at e;cases e;rw [tO] at c;cases c),eW.one S af aC ck,nV.one af aC ck Bf eq (fun c=>⟨tO,hle c⟩),J.map fun J=>J.Xk S yG af aC fun aL e=>by rw [Bf] at e;cases e;exact tO,by have:=Hi (g:=g) af aC ck (hn Bf);omega⟩
theorem V9 {B bO:Nat} {g:bp} {E:List (Nat × Nat)} {bQ:Nat->V} {b1 b':V} (W:g.dX):∀(N:Nat) (ρ w:Nat->Nat) (bad:Bool) (Q:List (Nat × Nat)) (a b:Nat) (h:ah),kl g ρ<N->eP g ρ->Way w ρ->jC g ρ->eK B h bO g bQ w bad b1 b'->a<g.N->b<g.N->nS g E ρ bad ((a,b)::Q)->
 de Tryz.prog 80 [.ptr (aj bO) 0,.int .i64 a,.int .i64 b] h fun x ab=>∃dF an tF,eK B ab bO g bQ an tF b1 b'/\eP g dF/\Way an dF/\jC g dF/\nS g E dF tF Q/\kl g dF<=kl g ρ/\Mod (fun b=>b=aj bO\/b1.aN b) h ab
 | 0,_,_,_,_,_,_,_,bJ,_,_,_,_,_,_,_=>by omega
 | N+1,ρ,w,bad,Q,a,b,h,bJ,S,eW,nV,D,a1,ae,J=>by
   have on:=D.no.v.one;refine aa'.z rfl (dM ?_);unfold Qv;simp +contextual only [↓al,aG,simprocAttr];refine cK (xl D S eW a1) ?_;rintro x aW ⟨rfl,rfl⟩;simp +contextual only [↓al,aG,simprocAttr];refine cK (xl D S eW ae) ?_;rintro x aW ⟨rfl,rfl⟩;by_cases e:ρ a=ρ b
   . have cX:((ρ a:Int)=(ρ b:Int))=True:=eq_true (by rw [e]);simp +contextual only [cX,↓al,aG,simprocAttr];exact ⟨ρ,w,bad,D,S,eW,nV,J.map fun J=>J.skip e,Nat.le_refl _,Mod.refl _ _⟩
   have cX:((ρ a:Int)=(ρ b:Int))=False:=eq_false (by omega);have qm:=S.lt a a1;have ls:=S.lt b ae;have aE:=S.idem a;have aS:=S.idem b;obtain ⟨dL,jM⟩:=hK qm;obtain ⟨d_,es⟩:=hK ls;obtain ⟨Iu,vV,FT,Im,Z5,aju⟩:=D.at jM;obtain ⟨fc,cx,K8,O',Z6,ajv⟩:=D.at es;obtain ⟨UN,_⟩:=aju aW fun _ _=>rfl;obtain ⟨UO,_⟩:=ajv aW fun _ _=>rfl;generalize rf:ρ a=r at *;generalize oq:ρ b=s at *;have lN:=D.aB.lt;obtain ⟨wU,kO⟩:∃wU:Int,wU=if dL.ch=true then 2 else 1:=⟨_,rfl⟩;obtain ⟨aI,fU⟩:∃aI:Int,aI=if d_.ch=true then 2 else 1:=⟨_,rfl⟩;rw [show mF dL (bQ r) (w r)=[.int .i64 wU,.int .i64 dL.n,.str dL.s,.bB,bQ r,.int .i64 (w r)] by rw [kO]] at UN;rw [show mF d_ (bQ s) (w s)=[.int .i64 aI,.int .i64 d_.n,.str d_.s,.bB,bQ s,.int .i64 (w s)] by rw [fU]] at UO;obtain ⟨ad,aw,bf,X,Y⟩:=an2 aW [.int .i64 wU,.int .i64 dL.n,.str dL.s,.bB,bQ r,.int .i64 (w r)] [.int .i64 aI,.int .i64 d_.n,.str d_.s,.bB,bQ s,.int .i64 (w s)];have gP:=bf.next
   have l3:=X.lt;have rv:=Y.lt;have hS:=D.ext bf;obtain ⟨Um,aqa,aqb⟩:=hS.c0 r dL jM;obtain ⟨Un,aqc,aqd⟩:=hS.c0 s d_ es;have or:=Um.one;have os:=Un.one;have U6:cB Iu<aW.next:=D.no.v.bF Z5
   have U7:cB fc<aW.next:=D.no.v.bF Z6
   have f1:(aW.next=bO)=False:=eq_false (by omega);have f2:(aW.next+1=bO)=False:=eq_false (by omega);have f3:(aj aW.next=Iu)=False:=eq_false fun q=>by rw [<-q,b9] at U6;omega
   have f4:(aj (aW.next+1)=Iu)=False:=eq_false fun q=>by rw [<-q,b9] at U6;omega
   have f5:(aj aW.next=fc)=False:=eq_false fun q=>by rw [<-q,b9] at U7;omega
   have f6:(aj (aW.next+1)=fc)=False:=eq_false fun q=>by rw [<-q,b9] at U7;omega
   simp +contextual only [f1,f2,f3,f4,f5,f6,aw,if_false,or.1,os.1,or.2.1,os.2.1,cX,D.aB.g,FT,K8,UN,UO,on.1,on.2.1,↓al,aG,simprocAttr];have ck:r≠s:=e;have M2:∀{H:ah},Mod b1.aN ad H->Mod (fun b=>b=aj bO\/b1.aN b) aW H:=fun m=>(bf.mod _).trans (m.mono fun b _ q=>.inr q);have xa:((1:Int)=1)=True:=eq_true rfl;have xz:((2:Int)=1)=False:=eq_false (by omega);cases n_:dL.ch with
   | false=>
     rw [n_] at kO;have kO:wU=1:=kO;cases cs:d_.ch with
     | false=>
       rw [cs] at fU;have fU:aI=1:=fU;by_cases l:dL.n<d_.n
       . obtain ⟨aJ,b8,iB,m3,_⟩:=hS.put es O' r;simp +contextual only [kO,fU,xa,xz,eq_true l,X.g,Y.g,hS.aB.g,K8,b8,on.1,on.2.1,↓al,aG,simprocAttr];obtain ⟨b6,z2,z3,z4,z5⟩:=F2 S eW nV aS aE (Ne.symm ck) es jM cs (fun _=>Int.le_of_lt l) J (.inr ⟨rf,oq⟩);exact ⟨_,_,bad,iB,b6,z2,z3,z4,z5,M2 m3⟩
       . obtain ⟨aJ,b8,iB,m3,_⟩:=hS.put jM Im s;simp +contextual only [kO,fU,xa,xz,eq_false l,X.g,Y.g,hS.aB.g,FT,b8,on.1,on.2.1,↓al,aG,simprocAttr];obtain ⟨b6,z2,z3,z4,z5⟩:=F2 S eW nV aE aS ck jM es n_ (fun _=>by omega) J (.inl ⟨rf,oq⟩);exact ⟨_,_,bad,iB,b6,z2,z3,z4,z5,M2 m3⟩
     | true=>
       rw [cs] at fU;have fU:aI=2:=fU;obtain ⟨aJ,b8,iB,m3,_⟩:=hS.put jM Im s;simp +contextual only [kO,fU,xa,xz,X.g,Y.g,hS.aB.g,FT,b8,on.1,on.2.1,↓al,aG,simprocAttr];obtain ⟨b6,z2,z3,z4,z5⟩:=F2 S eW nV aE aS ck jM es n_ (fun c=>by rw [cs] at c;cases c) J (.inl ⟨rf,oq⟩);exact ⟨_,_,bad,iB,b6,z2,z3,z4,z5,M2 m3⟩
   | true=>
     rw [n_] at kO;have kO:wU=2:=kO;cases cs:d_.ch with
     | false=>
       rw [cs] at fU;have fU:aI=1:=fU;obtain ⟨aJ,b8,iB,m3,_⟩:=hS.put es O' r;simp +contextual only [kO,fU,xa,xz,X.g,Y.g,hS.aB.g,K8,b8,on.1,on.2.1,↓al,aG,simprocAttr];obtain ⟨b6,z2,z3,z4,z5⟩:=F2 S eW nV aS aE (Ne.symm ck) es jM cs (fun c=>by rw [n_] at c;cases c) J (.inr ⟨rf,oq⟩);exact ⟨_,_,bad,iB,b6,z2,z3,z4,z5,M2 m3⟩
     | true=>
       rw [cs] at fU;have fU:aI=2:=fU;have zr:=Um.len;have lens:=Un.len;by_cases d1:dL.s=d_.s
       . by_cases d2:dL.kids.length=d_.kids.length
         . have I4:((dL.kids.length:Int)=(d_.kids.length:Int))=True:=eq_true (by omega);obtain ⟨aJ,b8,iB,m3,n3⟩:=hS.put jM Im s;simp +contextual only [kO,fU,xa,xz,eq_true d1,I4,zr,lens,or.1,or.2.1,os.1,os.2.1,X.g,Y.g,hS.aB.g,FT,b8,on.1,on.2.1,↓al,aG,simprocAttr];have ap1:=Hi (g:=g) (ρ:=ρ) aE aS ck qm;have iH:sT g r=dL.kids.length:=by unfold sT;rw [jM]
           have Iq:∀i,aW.next<=i->¬b1.aN (aj i):=fun i ao q=>by have:=D.no.v.bF q;unfold Old at this;rw [b9] at this;omega
           have AP:=X.mod m3 (Iq _ (Nat.le_refl _));have Y3:=Y.mod m3 (Iq _ (by omega));refine fa (fun z k=>z 0=.ptr (aj bO) 0/\z 6=.ptr (aj aW.next) 0/\z 7=.ptr (aj (aW.next+1)) 0/\∃(i:Nat) (dF an:Nat->Nat) (tF:Bool),z 8=.int .i64 i/\i<=dL.kids.length/\eK B k bO g bQ an tF b1 b'/\eP g dF/\Way an dF/\jC g dF/\nS g E dF tF ((dL.kids.zip d_.kids).drop i++Q)/\kl g dF+1<=kl g ρ/\
            Has k aW.next [.int .i64 wU,.int .i64 dL.n,.str dL.s,.bB,bQ r,.int .i64 (w r)]/\Has k (aW.next+1) [.int .i64 aI,.int .i64 d_.n,.str d_.s,.bB,bQ s,.int .i64 (w s)]/\Mod (fun b=>b=aj bO\/b1.aN b) aW k) (fun z _=>dL.kids.length - (z 8).toN) ?_ ?_
           . refine ⟨by simp only [↓al,bs,simprocAttr],by simp only [↓al,bs,simprocAttr],by simp only [↓al,bs,simprocAttr],0,ea ρ r s,_,bad,by simp only [↓al,bs,simprocAttr]<;>rfl,by omega,iB,S.one aE aS ck qm ls (fun aL e c=>⟨d_,es,cs⟩),eW.one S aE aS ck,nV.one aE aS ck jM es (fun c=>by rw [cs] at c;cases c),J.map fun J=>?_,by omega,AP,Y3,M2 m3⟩;rw [List.drop_zero];exact J.Xj S rf oq jM es n_ cs d1 d2
           rintro z k ⟨bt,ct,eJ,i,dF,an,tF,dW,ao,kC,OB,OF,Oh,DN,ap3,DZ,D0,f'⟩;unfold Qw;by_cases aO:i<dL.kids.length
           . have g0:((i:Int) < (dL.kids.length:Int))=True:=eq_true (by omega);obtain ⟨Oc,_,aja⟩:=kC.c0 r dL jM;obtain ⟨AF,_,_⟩:=kC.c0 s d_ es;obtain ⟨cb,db,ow,c6,Ef⟩:=Oc.ov (k:=.i64) aO;obtain ⟨ca,dp,qc,gp,Z3⟩:=AF.ov (k:=.i64) (show i<d_.kids.length by omega);have d':=wR c6 aO;have uy:=wR gp (show i<d_.kids.length by omega);have dv:=kB aO (by unfold top at aja;omega);have bn:(dL.kids.zip d_.kids).drop i=(dL.kids[i],d_.kids[i])::(dL.kids.zip d_.kids).drop (i+1):=by
              rw [List.drop_eq_getElem_cons (by rw [List.length_zip];omega),List.getElem_zip]
             rw [bn] at DN;simp +contextual only [kO,fU,bt,ct,eJ,dW,DZ.g,D0.g,zr,g0,ow,qc,d',uy,or.1,or.2.1,os.1,os.2.1,↓al,aG,simprocAttr];refine cK (V9 W N dF an tF _ dL.kids[i] d_.kids[i] k (by omega) OB OF Oh kC (W.qf jM (List.getElem_mem aO)) (W.qf es (List.getElem_mem (by omega))) DN) ?_;rintro x bx ⟨aoU,b2,ZT,X0,mi,mY,hU,bS,sL,m2⟩;have UA:∀j b,j<g.N->(bQ j).aN b->¬(b=aj bO\/b1.aN b):=fun j b aU q z=>by
              obtain ⟨_,fZ,_,y4⟩:=kC.lk j b aU q;rcases z with z | z
              . exact y4 z
              . exact fZ z
             have UB:∀i,aW.next<=i->¬(aj i=aj bO\/b1.aN (aj i)):=fun i ao q=>by
              rcases q with q | q
              . have:=fj q;omega
              . exact Iq i ao q
             have OJ:=DZ.mod m2 (UB _ (Nat.le_refl _));have OL:=D0.mod m2 (UB _ (by omega));have ajs:=wR (m2.at c6 (UA r _ qm Ef)) aO;have ajt:=wR (m2.at gp (UA s _ ls Z3)) (show i<d_.kids.length by omega);simp +contextual only [kO,fU,bt,ct,eJ,dW,DZ.g,D0.g,d',uy,OJ.g,OL.g,zr,g0,ow,qc,ajs,ajt,dv,or.1,or.2.1,os.1,os.2.1,↓al,aG,simprocAttr];exact ⟨⟨i+1,aoU,b2,ZT,rfl,aO,X0,mi,mY,hU,bS,by omega,kO ▸ OJ,fU ▸ OL,f'.trans m2⟩,by omega⟩
           . have g0:((i:Int) < (dL.kids.length:Int))=False:=eq_false (by omega);simp +contextual only [kO,fU,bt,ct,eJ,dW,DZ.g,D0.g,zr,g0,or.1,or.2.1,os.1,os.2.1,↓al,aG,simprocAttr];rw [List.drop_of_length_le (by rw [List.length_zip];omega)] at DN;exact ⟨dF,an,tF,kC,OB,OF,Oh,DN,by omega,f'⟩
         . have I4:((dL.kids.length:Int)=(d_.kids.length:Int))=False:=eq_false (by omega);simp +contextual only [kO,fU,xa,xz,eq_true d1,I4,zr,lens,or.1,or.2.1,os.1,os.2.1,X.g,Y.g,hS.aB.g,on.1,on.2.1,↓al,aG,simprocAttr];refine ⟨ρ,w,true,hS.Wo,S,eW,nV,.inl ⟨rfl,?_⟩,Nat.le_refl _,((bf.mod _).set (fun _=>.inl rfl) _)⟩;rcases J with ⟨_,z⟩ | ⟨_,z⟩
           . exact z
           . exact z.Es S rf oq jM es n_ cs (.inr d2)
       . simp +contextual only [kO,fU,xa,xz,eq_false d1,zr,lens,or.1,or.2.1,os.1,os.2.1,X.g,Y.g,hS.aB.g,on.1,on.2.1,↓al,aG,simprocAttr];refine ⟨ρ,w,true,hS.Wo,S,eW,nV,.inl ⟨rfl,?_⟩,Nat.le_refl _,((bf.mod _).set (fun _=>.inl rfl) _)⟩;rcases J with ⟨_,z⟩ | ⟨_,z⟩
         . exact z
         . exact z.Es S rf oq jM es n_ cs (.inl d1)
def h4 (f:Nat->Nat) (N:Nat):List V:=(List.range N).map fun i=>V.int .i64 (f i)
theorem WT (f:Nat->Nat) (N:Nat):(h4 f N).length=N:=by simp [h4]
theorem anm (f:Nat->Nat) {N x:Nat} (c:Nat):(h4 f N).set x (.int .i64 c)=h4 (eU f x c) N:=by
 unfold h4;refine List.ext_getElem? fun i=>?_;rw [List.getElem?_set,List.getElem?_map,List.getElem?_map,List.length_map,List.length_range];by_cases q:x=i
 . subst q;rw [if_pos rfl]
   split
   . rename_i h;simp [fu,h]
   . rename_i h;simp [h]
 . rw [if_neg q];by_cases z:i<N
   . simp [z,eA f c (show i≠x from fun e=>q e.symm)]
   . simp [z]
section
variable [Lay]
theorem MZ {hQ:Nat} {h:ah} {c2:V} {N:Nat} {st:Nat->Nat} (O:cJ hQ h 1 c2 N (h4 st N)) {X:Nat} (b4:X<N):∃b off,ka 1 c2 (.int .i64 X)=some (.ptr b (off+X * 1))/\c2.aN b/\(∀(ab:ah) (nL:Nat->Nat),cJ hQ ab 1 c2 N (h4 nL N)->ia (ab.get b) (off+X * 1)=some (.int .i64 (nL X))/\
 ∀c:Nat,∃ad,qh 1 ab b (off+X * 1) (.int .i64 c) (ab.get b)=some ad/\cJ hQ ad 1 c2 N (h4 (eU nL X c) N)/\Mod c2.aN ab ad/\ad.next=ab.next):=by
 obtain ⟨b,off,cH,A,ae⟩:=O.v.ov (k:=.i64) b4;refine ⟨b,off,cH,ae,fun ab nL vm=>?_⟩;obtain ⟨bL,lp,ov,jA,e9⟩:=vm.v.ov (k:=.i64) b4;rw [cH] at ov;injection ov with ov
 injection ov with aP bf
 obtain rfl:off=lp:=by omega
 subst aP;refine ⟨?_,fun c=>?_⟩
 . have:=jA.d' (i:=X) (by rw [WT];exact b4);rw [show off+X * 1=off+X by omega,this];simp [h4]
 . have vy:=O8 vm.v b4 cH;obtain ⟨k,ar,_,aw,aK⟩:=vm.VN vy (c:=X) (by rw [WT];exact b4) (y:=.int .i64 c) rfl rfl;rw [anm] at aw;exact ⟨_,by rw [show off+X * 1=off+X by omega];exact ar,aw,(Mod.refl c2.aN ab).set (fun _=>aK) _,rfl⟩
end
theorem Jh {g:bp} {E:List (Nat × Nat)} {ρ:Nat->Nat} {x:Nat} {aL:dw} (S:eP g ρ) (J:ev g E ρ []) (L:jC g ρ) (ak:ρ x=x) (e:g.nodes[x]? =some aL) (c:aL.ch=false):dJ g (cy g E) x (.mk 1 aL.n [] []):=by
 refine .var (b:=x) (.refl x) e c (fun z iO bn ob=>?_) (fun z iO bn ob=>L x aL e ak c z iO ob (by rw [<-J.done.1 bn,ak]));cases sh:iO.ch with
 | false=>rfl
 | true=>
   obtain ⟨dL,ar,aw⟩:=S.top z iO ob sh;rw [<-J.done.1 bn,ak,e] at ar;cases ar;rw [c] at aw;cases aw
theorem acu {g:bp} {E:List (Nat × Nat)} {ρ:Nat->Nat} {x:Nat} {aL:dw} (W:g.dX) (S:eP g ρ) (J:ev g E ρ []) (L:jC g ρ) (ak:ρ x=x) (e:g.nodes[x]? =some aL) {l:List aM} (aA:l.length=aL.kids.length)
 (aH:∀(i y:Nat) (t:aM),aL.kids[i]? =some y->l[i]? =some t->dJ g (cy g E) y t):∃t,dJ g (cy g E) x t/\t.l=l:=by
 cases c:aL.ch with
 | true=>exact ⟨_,.ch (.refl x) e c aA aH,rfl⟩
 | false=>
   obtain ⟨iu,_⟩:=W.var x aL e c;rw [iu] at aA;have qg:l=[]:=List.length_eq_zero_iff.1 aA;subst qg;exact ⟨_,Jh S J L ak e c,rfl⟩
theorem anG {g:bp} {R:Nat->Nat->Prop} {aI:List Nat} (h:∀(i x:Nat),aI[i]? =some x->∃t,dJ g R x t):∃l:List aM,l.length=aI.length/\∀(i y:Nat) (t:aM),aI[i]? =some y->l[i]? =some t->dJ g R y t:=by have key:∀j:Fin aI.length,∃t,dJ g R aI[j.1] t:=fun j=>h j.1 _ (List.getElem?_eq_getElem j.2);obtain ⟨f,az⟩:=Classical.axiomOfChoice key;refine ⟨List.ofFn f,by simp,fun j x t ak av=>?_⟩;obtain ⟨aU,rfl⟩:=List.getElem?_eq_some_iff.1 ak;rw [List.getElem?_ofFn,dif_pos aU] at av;cases av;exact az ⟨j,aU⟩
def Aj (bO:Nat) (g:bp) (bQ:Nat->V) (b1 b' c2:V):Prop:=∀b,c2.aN b->b≠aj bO/\¬b1.aN b/\¬b'.aN b/\∀i,i<g.N->¬(bQ i).aN b
theorem eK.OY [Lay] {B:Nat} {h ab:ah} {bO:Nat} {g:bp} {bQ:Nat->V} {w:Nat->Nat} {bad:Bool} {b1 b' c2:V} (H:eK B h bO g bQ w bad b1 b') (a:Aj bO g bQ b1 b' c2) (m:Mod c2.aN h ab):eK B ab bO g bQ w bad b1 b':=
 H.mod m (fun q=>(a _ q).1 rfl) (fun b q z=>(a b z).2.1 q) (fun b q z=>(a b z).2.2.1 q) fun i b ao q z=>(a b z).2.2.2 i ao q
structure RgOk (g:bp) (R:Nat->Nat->Prop) (st:Nat->Nat) (opens:List Nat):Prop where
 one:∀i,i<g.N->(st i=1↔i ∈ opens)
 two:∀i,i<g.N->st i=2->∃t,dJ g R i t
 le:∀i,i<g.N->st i<=2
theorem Wb {B hQ bO:Nat} {g:bp} {E:List (Nat × Nat)} {bQ:Nat->V} {w ρ:Nat->Nat} {bad:Bool} {b1 b' c2:V} (W:g.dX) (S:eP g ρ) (J:ev g E ρ []) (L:jC g ρ) (eW:Way w ρ) (ap:Aj bO g bQ b1 b' c2) (oq:g.N<=100000000):
 ∀(fuel:Nat) (opens:List Nat) (x:Nat) (st:Nat->Nat) (h:ah),g.N+1<=fuel+opens.length->x<g.N->eK B h bO g bQ w bad b1 b'->cJ hQ h 1 c2 g.N (h4 st g.N)->opens.Nodup->(∀r ∈ opens,r<g.N/\ρ r=r/\Reach g (cy g E) r x)->RgOk g (cy g E) st opens->
 de Tryz.prog 81 [.ptr (aj bO) 0,.int .i64 x,c2] h fun v ab=>Mod c2.aN h ab/\ab.next=h.next/\((v=.bool true/\∃z,z<g.N/\¬∃t,dJ g (cy g E) z t)\/
  (v=.bool false/\∃nL,cJ hQ ab 1 c2 g.N (h4 nL g.N)/\RgOk g (cy g E) nL opens/\∃t,dJ g (cy g E) x t))
 | 0,opens,x,st,h,az,ak,H,O,aV,hD,ok=>by have:=zy g.N opens aV fun r aE=>(hD r aE).1;omega
 | fuel+1,opens,x,st,h,az,ak,H,O,aV,hD,ok=>by
   have gA:=J.part;have b4:=S.lt x ak;have kX:=S.idem x;have hx:cy g E x (ρ x):=J.done.2 (by rw [kX]);have os:=O.v.one;refine aa_.z rfl (dM ?_);unfold Qx;simp +contextual only [os.1,os.2.1,↓al,aG,simprocAttr];refine cK (xl H S eW ak) ?_;rintro v aW ⟨rfl,rfl⟩;generalize JT:ρ x=X at *;obtain ⟨b_,ex⟩:=hK b4;obtain ⟨b,off,cH,ae,at'⟩:=MZ O b4;obtain ⟨ld,alP⟩:=at' aW st O;have hle:=ok.le X b4;by_cases bP:st X=1
   . rw [bP] at ld;simp +contextual only [cH,ld,os.1,os.2.1,↓al,aG,simprocAttr];refine ⟨Mod.refl _ _,.inl ⟨X,b4,?_⟩⟩;exact Reach.ring gA ((hD X ((ok.one X b4).1 bP)).2.2.l_ gA hx)
   by_cases bX:st X=2
   . rw [bX] at ld;simp +contextual only [cH,ld,os.1,os.2.1,↓al,aG,simprocAttr];obtain ⟨t,av⟩:=ok.two X b4 bX;exact ⟨Mod.refl _ _,.inr ⟨st,O,ok,t,av.l_ gA (gA.symm hx)⟩⟩
   have tI:st X=0:=by omega
   rw [tI] at ld;obtain ⟨ad,bV,nW,m2,gP⟩:=alP 1;rw [show ((1:Nat):Int)=1 from rfl] at bV;have pY:X ∉ opens:=fun q=>bP ((ok.one X b4).2 q);simp +contextual only [cH,ld,bV,os.1,os.2.1,↓al,aG,simprocAttr];refine fa (fun z k=>z 0=.ptr (aj bO) 0/\z 1=.int .i64 X/\z 2=c2/\∃(i:Nat) (nL:Nat->Nat),z 7=.int .i64 i/\i<=b_.kids.length/\cJ hQ k 1 c2 g.N (h4 nL g.N)/\RgOk g (cy g E) nL (X::opens)/\(∀(j y:Nat),j<i->b_.kids[j]? =some y->∃t,dJ g (cy g E) y t)/\Mod c2.aN aW k/\k.next=aW.next) (fun z _=>b_.kids.length - (z 7).toN) ?_ ?_
   . refine ⟨by simp only [↓al,bs,simprocAttr],by simp only [↓al,bs,simprocAttr],by simp only [↓al,bs,simprocAttr],0,eU st X 1,by simp only [↓al,bs,simprocAttr]<;>rfl,by omega,nW,⟨fun i ao=>?_,fun i ao q=>?_,fun i ao=>?_⟩,fun j y aU=>by omega,m2,gP⟩
     . by_cases z:i=X
       . rw [z,fu];simp
       . rw [eA _ _ z,ok.one i ao];simp [z]
     . by_cases z:i=X
       . rw [z,fu] at q;cases q
       . rw [eA _ _ z] at q;exact ok.two i ao q
     . by_cases z:i=X
       . rw [z,fu];omega
       . rw [eA _ _ z];exact ok.le i ao
   rintro z k ⟨bt,br,cF,i,nL,eJ,ao,Ok,ps,Fo,f',l7⟩;have kC:=H.OY ap f';obtain ⟨tH,fs,ox,_,_,mD⟩:=kC.at ex;obtain ⟨_,_,_,_,zl,_⟩:=mD k fun _ _=>rfl;obtain ⟨kE,_,Ck⟩:=kC.c0 X b_ ex;have mE:=kE.len;have kS:=kE.one;have on:=kC.no.v.one;unfold Qy;by_cases aO:i<b_.kids.length
   . have g0:((i:Int) < (b_.kids.length:Int))=True:=eq_true (by omega);obtain ⟨cb,db,ow,c6,Ef⟩:=kE.ov (k:=.i64) aO;have d':=wR c6 aO;have dv:=kB aO (by unfold top at Ck;omega);have wL:=W.qf ex (List.getElem_mem aO);have IW:b_.ch=true:=by
      cases c:b_.ch with
      | true=>rfl
      | false=>rw [(W.var X b_ ex c).1] at aO;simp at aO
     have yl:=List.getElem?_eq_getElem (l:=b_.kids) (i:=i) aO;simp +contextual only [bt,br,cF,eJ,kC.aB.g,ox,zl,mE,g0,ow,d',kS.1,kS.2.1,on.1,on.2.1,↓al,aG,simprocAttr];refine cK (Wb W S J L eW ap oq fuel (X::opens) b_.kids[i] nL k (by simp only [List.length_cons];omega) wL kC Ok (List.nodup_cons.2 ⟨pY,aV⟩) (fun r aE=>?_) ps) ?_
     . have eM:Reach g (cy g E) X b_.kids[i]:=.c0 (.refl X) ex IW yl (.refl _);rcases List.mem_cons.1 aE with rfl | aE
       . exact ⟨b4,kX,eM⟩
       . obtain ⟨ar,aw,aK⟩:=hD r aE;exact ⟨ar,aw,.trans (aK.l_ gA hx) eM⟩
     rintro v bx ⟨M2,n3,⟨rfl,bn⟩ | ⟨rfl,MY,pM,w_,av⟩⟩
     . simp +contextual only [↓al,aG,simprocAttr];exact ⟨f'.trans M2,by omega,.inl bn⟩
     . simp +contextual only [bt,br,cF,eJ,dv,↓al,aG,simprocAttr];refine ⟨⟨i+1,MY,rfl,aO,pM,w_,fun j y aU e=>?_,f'.trans M2,by omega⟩,by omega⟩;by_cases q:j=i
       . subst q;rw [yl] at e;cases e;exact av
       . exact Fo j y (by omega) e
   . have g0:((i:Int) < (b_.kids.length:Int))=False:=eq_false (by omega);obtain ⟨_,alC⟩:=at' k nL Ok;obtain ⟨bx,b8,pM,m3,n3⟩:=alC 2;rw [show ((2:Nat):Int)=2 from rfl] at b8;simp +contextual only [bt,br,cF,eJ,kC.aB.g,ox,zl,mE,g0,cH,b8,kS.1,kS.2.1,on.1,on.2.1,os.1,os.2.1,↓al,aG,simprocAttr];obtain ⟨l,aA,Fu⟩:=anG fun j y e=>Fo j y (by have:=(List.getElem?_eq_some_iff.1 e).1;omega) e;obtain ⟨t,av,_⟩:=acu W S J L kX ex aA Fu;refine ⟨f'.trans m3,by omega,.inr ⟨eU nL X 2,pM,⟨fun i ao=>?_,fun i ao q=>?_,fun i ao=>?_⟩,t,av.l_ gA (gA.symm hx)⟩⟩
     . by_cases z:i=X
       . rw [z,fu];simp [pY]
       . rw [eA _ _ z,ps.one i ao];simp [z]
     . by_cases z:i=X
       . rw [z];exact ⟨t,av⟩
       . rw [eA _ _ z] at q;exact ps.two i ao q
     . by_cases z:i=X
       . rw [z,fu];omega
       . rw [eA _ _ z];exact ps.le i ao
theorem Ng {g:bp} {E:List (Nat × Nat)} {ρ:Nat->Nat} (W:g.dX) (S:eP g ρ) (J:ev g E ρ []) {x:Nat} {b_:dw} {t:aM} (h:dJ g (cy g E) x t) (hx:g.nodes[ρ x]? =some b_):t.l.length=b_.kids.length/\∀(i y:Nat) (u:aM),b_.kids[i]? =some y->t.l[i]? =some u->dJ g (cy g E) y u:=by
 have e:cy g E x (ρ x):=J.done.2 (by rw [S.idem]);cases c:b_.ch with
 | true=>
   obtain ⟨l,rfl,aa,ad⟩:=Hd J.part h e hx c;exact ⟨aa,ad⟩
 | false=>
   obtain ⟨iu,_⟩:=W.var _ b_ hx c;rw [iu];cases h with
   | var h ae aD qn bC=>exact ⟨rfl,fun i y u q=>by simp at q⟩
   | ch h ae aD aA aH=>
     obtain ⟨dL,ar,aw⟩:=S.top _ _ ae aD;rw [<-J.done.1 h,hx] at ar;cases ar;rw [c] at aw;cases aw
theorem Vi {n c:Nat} (aD:c<=n):∀(l:List aM),(∀(i:Nat) (u:aM),l[i]? =some u->u.deep+c<=n)->eY l+c<=n
 | [],_=>by rw [eY];omega
 | t::l,h=>by rw [eY];have aa:=h 0 t rfl;have ad:=Vi aD l fun i u e=>h (i+1) u (by simpa using e);omega
theorem Nf {g:bp} {E:List (Nat × Nat)} {ρ:Nat->Nat} (W:g.dX) (S:eP g ρ) (J:ev g E ρ []):∀(N:Nat) (t:aM),t.size<=N->∀(opens:List Nat) (x:Nat),x<g.N->dJ g (cy g E) x t->opens.Nodup->(∀r ∈ opens,r<g.N/\ρ r=r/\Reach g (cy g E) r x)->t.deep+opens.length<=g.N
 | 0,t,aS,_,_,_,_,_,_=>by have:=qx t;omega
 | N+1,t,aS,opens,x,ak,T,aV,hD=>by
   have gA:=J.part;have b4:=S.lt x ak;have hx:cy g E x (ρ x):=J.done.2 (by rw [S.idem]);obtain ⟨b_,ex⟩:=hK b4;obtain ⟨bz,bx⟩:=Ng W S J T ex;have pY:ρ x ∉ opens:=fun q=>Reach.ring gA ((hD _ q).2.2.l_ gA hx) ⟨t,T.l_ gA hx⟩;have BI:(ρ x::opens).Nodup:=List.nodup_cons.2 ⟨pY,aV⟩;have aD:(ρ x::opens).length<=g.N:=zy g.N _ BI fun r aE=>by
    rcases List.mem_cons.1 aE with rfl | aE
    . exact b4
    . exact (hD r aE).1
   have:=Vi aD t.l fun i u e=>by
    have ao:=(List.getElem?_eq_some_iff.1 e).1;have vL:b_.kids[i]? =some b_.kids[i]:=List.getElem?_eq_getElem (by omega);have IW:b_.ch=true:=by
     cases c:b_.ch with
     | true=>rfl
     | false=>rw [(W.var _ b_ ex c).1] at bz;simp at bz;rw [bz] at ao;simp at ao
    have hm:=List.mem_of_getElem? e;have:=px (t:=t) hm;refine Nf W S J N u (by omega) (ρ x::opens) b_.kids[i] (W.qf ex (List.getElem_mem (by omega))) (bx i _ u vL e) BI fun r aE=>?_;have eM:Reach g (cy g E) (ρ x) b_.kids[i]:=.c0 (.refl _) ex IW vL (.refl _);rcases List.mem_cons.1 aE with rfl | aE
    . exact ⟨b4,S.idem x,eM⟩
    . obtain ⟨ar,aw,aK⟩:=hD r aE;exact ⟨ar,aw,.trans (aK.l_ gA hx) eM⟩
   rw [I8];simp only [List.length_cons] at this;omega
structure DV (g:bp) (R:Nat->Nat->Prop) (fv ds:Nat->Nat):Prop where
 oL:∀i,i<g.N->fv i≠0->∃t,dJ g R i t/\fv i=min t.size 4097/\ds i=t.deep
theorem Wi {B hQ bO:Nat} {g:bp} {E:List (Nat × Nat)} {bQ:Nat->V} {w ρ:Nat->Nat} {bad:Bool} {b1 b' jc lH:V} (W:g.dX) (S:eP g ρ) (J:ev g E ρ []) (eW:Way w ρ) (oZ:Aj bO g bQ b1 b' jc) (oY:Aj bO g bQ b1 b' lH) (tl:∀b,jc.aN b->¬lH.aN b) (oq:g.N<=100000000):
 ∀(N:Nat) (t:aM),t.size<=N->∀(x:Nat) (fv ds:Nat->Nat) (h:ah),x<g.N->dJ g (cy g E) x t->eK B h bO g bQ w bad b1 b'->cJ hQ h 1 jc g.N (h4 fv g.N)->cJ hQ h 1 lH g.N (h4 ds g.N)->DV g (cy g E) fv ds->
 de Tryz.prog 83 [.ptr (aj bO) 0,.int .i64 x,jc,lH] h fun v ab=>v=.tuple [z' t,Jb t]/\Mod (fun b=>jc.aN b\/lH.aN b) h ab/\ab.next=h.next/\∃u9 lG,cJ hQ ab 1 jc g.N (h4 u9 g.N)/\cJ hQ ab 1 lH g.N (h4 lG g.N)/\DV g (cy g E) u9 lG
 | 0,t,aS,_,_,_,_,_,_,_,_,_,_=>by have:=qx t;omega
 | N+1,t,aS,x,fv,ds,h,ak,T,H,Z,D,ok=>by
   have gA:=J.part;have b4:=S.lt x ak;have kX:=S.idem x;have hx:cy g E x (ρ x):=J.done.2 (by rw [kX]);obtain ⟨b_,ex⟩:=hK b4;obtain ⟨bz,bx⟩:=Ng W S J T ex;have OE:=T.l_ gA hx;have aco:=Nf W S J _ t (Nat.le_refl _) [] x ak T List.nodup_nil (fun r aE=>by cases aE);have KM:=size_eq t;have ky:=Z.v.one;have rD:=D.v.one;refine abb.z rfl (dM ?_);unfold QB;simp +contextual only [ky.1,ky.2.1,rD.1,rD.2.1,↓al,aG,simprocAttr];refine cK (xl H S eW ak) ?_;rintro v aW ⟨rfl,rfl⟩;generalize JT:ρ x=X at *;obtain ⟨b,off,cH,ae,O_⟩:=MZ Z b4;obtain ⟨ca,U0,qc,p0,O9⟩:=MZ D b4;obtain ⟨ld,_⟩:=O_ aW fv Z;obtain ⟨uy,_⟩:=O9 aW ds D;by_cases bP:fv X=0
   . have g1:((0:Int) < (fv X:Int))=False:=eq_false (by omega);simp +contextual only [cH,qc,ld,uy,g1,ky.1,ky.2.1,rD.1,rD.2.1,↓al,aG,simprocAttr];refine fa (fun z k=>z 0=.ptr (aj bO) 0/\z 1=.int .i64 X/\z 2=jc/\z 3=lH/\∃(i:Nat) (u9 lG:Nat->Nat),z 12=.int .i64 i/\z 10=.int .i64 ((min (1+cE (t.l.take i)) 4097:Nat):Int)/\z 11=.int .i64 ((eY (t.l.take i):Nat):Int)/\i<=b_.kids.length/\cJ hQ k 1 jc g.N (h4 u9 g.N)/\cJ hQ k 1 lH g.N (h4 lG g.N)/\DV g (cy g E) u9 lG/\Mod (fun b=>jc.aN b\/lH.aN b) aW k/\k.next=aW.next) (fun z _=>b_.kids.length - (z 12).toN) ?_ ?_
     . exact ⟨by simp only [↓al,bs,simprocAttr],by simp only [↓al,bs,simprocAttr],by simp only [↓al,bs,simprocAttr],by simp only [↓al,bs,simprocAttr],0,fv,ds,by simp only [↓al,bs,simprocAttr]<;>rfl,by simp only [↓al,bs,simprocAttr]<;>rfl,by simp only [↓al,bs,simprocAttr]<;>rfl,by omega,Z,D,ok,Mod.refl _ _,rfl⟩
     rintro z k ⟨bt,br,cF,cr,i,u9,lG,pA,gQ,ja,ao,oX,kC,ps,f',l7⟩;have hj:eK B k bO g bQ w bad b1 b':=H.mod f' (fun q=>q.elim (fun q=>(oZ _ q).1 rfl) fun q=>(oY _ q).1 rfl) (fun b q z=>z.elim (fun z=>(oZ b z).2.1 q) fun z=>(oY b z).2.1 q) (fun b q z=>z.elim (fun z=>(oZ b z).2.2.1 q) fun z=>(oY b z).2.2.1 q) fun i b ao q z=>z.elim (fun z=>(oZ b z).2.2.2 i ao q) fun z=>(oY b z).2.2.2 i ao q;obtain ⟨tH,fs,ox,_,_,mD⟩:=hj.at ex;obtain ⟨_,_,_,_,zl,_⟩:=mD k fun _ _=>rfl;obtain ⟨kE,_,Ck⟩:=hj.c0 X b_ ex;have mE:=kE.len;have kS:=kE.one;have on:=hj.no.v.one;unfold QC;by_cases aO:i<b_.kids.length
     . have g0:((i:Int) < (b_.kids.length:Int))=True:=eq_true (by omega);have j9:i<t.l.length:=by omega
       obtain ⟨cb,db,ow,c6,Ef⟩:=kE.ov (k:=.i64) aO;have d':=wR c6 aO;have dv:=kB aO (by unfold top at Ck;omega);have Fq:=px (t:=t) (List.getElem_mem j9);have De:IntKind.i64.wrap (((min (1+cE (t.l.take i)) 4097:Nat):Int) + ((min t.l[i].size 4097:Nat):Int))=((min (1+cE (t.l.take i)) 4097:Nat):Int) + ((min t.l[i].size 4097:Nat):Int):=wrap_i64 (by omega) (by omega);have Nx:(if (4097:Int) < ((min (1+cE (t.l.take i)) 4097:Nat):Int) + ((min t.l[i].size 4097:Nat):Int) then (4097:Int) else ((min (1+cE (t.l.take i)) 4097:Nat):Int) + ((min t.l[i].size 4097:Nat):Int))=((min (1+cE (t.l.take (i+1))) 4097:Nat):Int):=by
        rw [xf j9]
        split<;>omega
       have Ny:(if ((eY (t.l.take i):Nat):Int) < ((t.l[i].deep:Nat):Int) then ((t.l[i].deep:Nat):Int) else ((eY (t.l.take i):Nat):Int))=((eY (t.l.take (i+1)):Nat):Int):=by rw [Gh,Vj j9]
       simp +contextual only [bt,br,cF,cr,pA,gQ,ja,hj.aB.g,ox,zl,mE,g0,ow,d',kS.1,kS.2.1,on.1,on.2.1,ky.1,ky.2.1,rD.1,rD.2.1,↓al,aG,simprocAttr];refine cK (Wi W S J eW oZ oY tl oq N t.l[i] (by omega) b_.kids[i] u9 lG k (W.qf ex (List.getElem_mem aO)) (bx i _ _ (List.getElem?_eq_getElem aO) (List.getElem?_eq_getElem j9)) hj oX kC ps) ?_;rintro v cU ⟨rfl,M2,n3,NI,Jf,lE,iB,w_⟩;simp +contextual only [bt,br,cF,cr,pA,gQ,ja,De,Nx,Ny,dv,↓al,aG,simprocAttr];exact ⟨⟨i+1,NI,Jf,rfl,rfl,rfl,aO,lE,iB,w_,f'.trans M2,by omega⟩,by omega⟩
     . have g0:((i:Int) < (b_.kids.length:Int))=False:=eq_false (by omega);rw [List.take_of_length_le (by omega)] at gQ ja;obtain ⟨_,al2⟩:=O_ k u9 oX;obtain ⟨cU,b8,lE,m3,n3⟩:=al2 (min (1+cE t.l) 4097);have iB:=kC.mod m3 fun b q z=>tl b z q;obtain ⟨_,zM⟩:=O9 cU lG iB;obtain ⟨dr,gH,Hv,m4,n4⟩:=zM t.deep;have Y4:=lE.mod m4 fun b q z=>tl b q z;have aok:IntKind.i64.wrap (((eY t.l:Nat):Int)+1)=((t.deep:Nat):Int):=by
        have:=I8 t;rw [wrap_i64 (by omega) (by omega)];omega
       simp +contextual only [bt,br,cF,cr,pA,gQ,ja,hj.aB.g,ox,zl,mE,g0,cH,qc,b8,gH,aok,kS.1,kS.2.1,on.1,on.2.1,ky.1,ky.2.1,rD.1,rD.2.1,↓al,aG,simprocAttr];refine ⟨by unfold z';rw [KM],(f'.trans (m3.mono fun b _ q=>.inl q)).trans (m4.mono fun b _ q=>.inr q),by omega,_,_,Y4,Hv,⟨fun i ao ck=>?_⟩⟩;by_cases q:i=X
       . rw [q,fu,fu];exact ⟨t,OE,by rw [KM],rfl⟩
       . rw [eA _ _ q] at ck ⊢;rw [eA _ _ q];exact ps.oL i ao ck
   . have g1:((0:Int) < (fv X:Int))=True:=eq_true (by omega);obtain ⟨u,hu,ar,aw⟩:=ok.oL X b4 bP;obtain rfl:=hu.uniq gA (.refl X) OE;simp +contextual only [cH,qc,ld,uy,g1,ky.1,ky.2.1,rD.1,rD.2.1,↓al,aG,simprocAttr];exact ⟨by rw [ar,aw],Mod.refl _ _,fv,ds,Z,D,ok⟩
theorem W8 {g:bp} {E:List (Nat × Nat)} {ρ:Nat->Nat} (W:g.dX) (S:eP g ρ) (J:ev g E ρ []) (L:jC g ρ) {x:Nat} {b_:dw} {t:aM} (h:dJ g (cy g E) x t) (hx:g.nodes[ρ x]? =some b_):t.k=(if b_.ch=true then 2 else 1)/\t.n=b_.n/\t.s=b_.s:=by
 have e:cy g E x (ρ x):=J.done.2 (by rw [S.idem]);cases c:b_.ch with
 | true=>
   obtain ⟨l,rfl,aa,ad⟩:=Hd J.part h e hx c;exact ⟨rfl,(W.ch _ b_ hx c).symm,rfl⟩
 | false=>
   obtain rfl:=h.uniq J.part e (Jh S J L (S.idem x) hx c);exact ⟨rfl,rfl,(W.var _ b_ hx c).2.1.symm⟩
theorem Wd {B bO:Nat} {g:bp} {E:List (Nat × Nat)} {bQ:Nat->V} {w ρ:Nat->Nat} {bad:Bool} {b1 b':V} (W:g.dX) (S:eP g ρ) (J:ev g E ρ []) (L:jC g ρ) (eW:Way w ρ) (kn:q1 g):∀(N:Nat) (t:aM),t.size<=N->N<=1000000000->∀(x:Nat) (h:ah),x<g.N->dJ g (cy g E) x t->eK B h bO g bQ w bad b1 b'->
 de Tryz.prog 84 [.ptr (aj bO) 0,.int .i64 x] h fun v ab=>∃u,v=.agg (fT t u)/\fm ab (ew h.next ab.next) t.l u/\t.s.length<=top/\Ext h ab
 | 0,t,aS,_,_,_,_,_,_=>by have:=qx t;omega
 | N+1,t,aS,Bo,x,h,ak,T,H=>by
   have gA:=J.part;have b4:=S.lt x ak;have kX:=S.idem x;have hx:cy g E x (ρ x):=J.done.2 (by rw [kX]);have bJ:N<=1000000000:=by omega
   obtain ⟨b_,ex⟩:=hK b4;obtain ⟨bz,bx⟩:=Ng W S J T ex;obtain ⟨t1,t2,t3⟩:=W8 W S J L T ex;have fg:t.s.length<=top:=by rw [t3];exact kn _ b_ ex
   have KM:=size_eq t;have jo:=qw t.l;refine abc.z rfl (dM ?_);unfold QD;obtain ⟨aa,ar,aP,oT⟩:=h7 h z4;have cT:=aP.next
   have qm:=oT.lt;obtain ⟨ad,aw,bf,lD⟩:=h7 aa Dm;have gP:=bf.next
   have l3:=lD.lt;have cp:=H.ext (aP.trans bf);have H1:=H.ext aP;have lN:=H.aB.lt;have on:=H.no.v.one;have f1:(h.next=bO)=False:=eq_false (by omega);have f2:(aa.next=bO)=False:=eq_false (by omega);simp +contextual only [ar,aw,f1,f2,if_false,H1.aB.g,cp.aB.g,on.1,on.2.1,↓al,aG,simprocAttr];refine cK (xl cp S eW ak) ?_;rintro v aW ⟨rfl,rfl⟩;generalize JT:ρ x=X at *;obtain ⟨tH,fs,ox,_,Z7,mD⟩:=H.at ex;have bF:cB tH<h.next:=H.no.v.bF Z7
   obtain ⟨d6,_⟩:=mD aW fun b q=>(aP.trans bf).get b (H.no.v.bF q);rw [show mF b_ (bQ X) (w X)=[.int .i64 t.k,.int .i64 t.n,.str t.s,.bB,bQ X,.int .i64 (w X)] by rw [t1,t2,t3]] at d6;have zE:=(H.c0 X b_ ex).1.one;have f3:(aa.next=h.next)=False:=eq_false (by omega);have f4:(aj aa.next=tH)=False:=eq_false fun q=>by rw [<-q,b9] at bF;omega
   have AP:=lD.put [.int .i64 t.k,.int .i64 t.n,.str t.s,.bB,bQ X,.int .i64 (w X)];have c4:Ext aa (aW.set (aj aa.next) (.bE [.int .i64 t.k,.int .i64 t.n,.str t.s,.bB,bQ X,.int .i64 (w X)] 0 false)):=bf.set (Nat.le_refl _) _;have n3:(aW.set (aj aa.next) (.bE [.int .i64 t.k,.int .i64 t.n,.str t.s,.bB,bQ X,.int .i64 (w X)] 0 false)).next=aW.next:=rfl
   obtain ⟨aJ,aK⟩:∃aJ,aW.set (aj aa.next) (.bE [.int .i64 t.k,.int .i64 t.n,.str t.s,.bB,bQ X,.int .i64 (w X)] 0 false)=aJ:=⟨_,rfl⟩;rw [aK] at AP c4 n3;have rU:=H1.ext c4;obtain ⟨bG,bY,gj,Dp⟩:=n' aJ z4 (fT t .bB);have n4:=gj.next
   have Cm:=Dp.lt;have DW:=AP.ext gj;have DT:=(oT.ext c4).ext gj;have al4:(aJ.new (.bE z4 0 false)).set (aj aJ.next) (.bE [.int .i64 t.k,.int .i64 t.n,.str t.s,.bB] 0 false)=bG:=bY;have tp:Ext h bG:=(aP.trans c4).trans gj;simp +contextual only [aK,al4,lD.g,AP.g,rU.aB.g,f1,f2,f3,f4,if_false,H1.aB.g,cp.aB.g,ox,d6,zE.1,zE.2.1,on.1,on.2.1,↓al,aG,simprocAttr];refine fa (fun r k=>r 0=.ptr (aj bO) 0/\r 4=.ptr (aj h.next) 0/\r 5=.ptr (aj aa.next) 0/\r 6=.ptr (aj aJ.next) 0/\∃(i:Nat) (u:V),r 7=.int .i64 i/\i<=b_.kids.length/\Has k aJ.next (fT t u)/\Has k h.next z4/\Has k aa.next [.int .i64 t.k,.int .i64 t.n,.str t.s,.bB,bQ X,.int .i64 (w X)]/\fm k (ew bG.next k.next) (t.l.take i) u/\Ext h k/\bG.next<=k.next) (fun r k=>b_.kids.length - (r 7).toN) ?_ ?_
   . exact ⟨by simp only [↓al,bs,simprocAttr],by simp only [↓al,bs,simprocAttr],by simp only [↓al,bs,simprocAttr],by simp only [↓al,bs,simprocAttr],0,.bB,by simp only [↓al,bs,simprocAttr]<;>rfl,Nat.zero_le _,Dp,DT,DW,fm.nil _ _,tp,Nat.le_refl _⟩
   rintro r k ⟨bt,gm,c1,ct,i,u,eJ,ao,A,R,X,O,eb,apO⟩;unfold QE;have oN:=O.one;have hj:=H.ext eb;obtain ⟨kE,_,Ck⟩:=hj.c0 _ b_ ex;have mE:=kE.len;have aje:=A.lt;by_cases aO:i<b_.kids.length
   . have g0:((i:Int) < (b_.kids.length:Int))=True:=eq_true (by omega);have j9:i<t.l.length:=by omega
     obtain ⟨cb,db,ow,c6,Ef⟩:=kE.ov (k:=.i64) aO;have d':=wR c6 aO;have dv:=kB aO (by unfold top at Ck;omega);have Fq:=px (t:=t) (List.getElem_mem j9);simp +contextual only [bt,gm,c1,ct,eJ,X.g,mE,g0,ow,d',zE.1,zE.2.1,oN.1,oN.2.1,↓al,aG,simprocAttr];refine cK (Wd W S J L eW kn N t.l[i] (by omega) bJ b_.kids[i] k (W.qf ex (List.getElem_mem aO)) (bx i _ _ (List.getElem?_eq_getElem aO) (List.getElem?_eq_getElem j9)) hj) ?_;rintro v bx ⟨z,rfl,Z,uk,eB⟩;have rC:=eB.next
     obtain ⟨cU,y3,nN,Al⟩:=n' bx z4 (fT t.l[i] z);have Gv:=nN.next
     have Dj:=eB.trans nN;have gp:=A.ext Dj;have nZ:=R.ext Dj;have YZ:=X.ext Dj;have nW:=O.ext Dj;have iU:=Z.ext nN;have ky:=Z.one;have qj:=Al.lt;obtain ⟨gR,dr,bW,bV,b8,gH⟩:=nW.add (t:=t.l[i]) (T:=ew k.next bx.next) (u:=z) iU (fun b q z=>by unfold ew at q z;omega) (fun b q=>by unfold ew at q;unfold Old;omega) (fun b q=>by unfold ew at q;unfold Old;omega) (by rw [List.length_take];unfold top;omega) uk;have pc:∀b,u.aN b->bG.next<=cB b:=fun b q=>by have:=O.bj _ q;unfold ew at this;omega
     have wB:∀n,n<bG.next->¬u.aN (aj n):=fun n aV q=>by have:=pc _ q;rw [b9] at this;omega
     have NL:=gp.mod b8 (wB _ (by omega));have YP:=nZ.mod b8 (wB _ (by omega));have Y0:=YZ.mod b8 (wB _ (by omega));have uH:=bV.one;have acw:Ext h dr:=(eb.trans Dj).h1 b8 fun b q=>by have:=pc b q;omega
     simp +contextual only [bt,gm,c1,ct,eJ,y3,Al.g,A.g,gp.g,NL.g,ky.1,ky.2.1,oN.1,oN.2.1,uH.1,uH.2.1,bW,dv,↓al,aG,simprocAttr];refine ⟨⟨i+1,gR,rfl,aO,NL.put _,YP.set (by omega) _,Y0.set (by omega) _,?_,acw.set (by omega) _,by show bG.next<=dr.next;omega⟩,by omega⟩;rw [take_one j9];refine (bV.k1 fun b q=>?_).mod ((Mod.refl (fun x=>x=aj aJ.next) dr).set (fun _=>rfl) _) fun b q z=>?_
     . unfold ew at q ⊢;have:=b8.next;show bG.next<=cB b/\cB b<dr.next;omega
     . rw [show b=aj aJ.next from z] at q;unfold ew at q;rw [b9] at q;omega
   . have g0:((i:Int) < (b_.kids.length:Int))=False:=eq_false (by omega);rw [List.take_of_length_le (by omega)] at O;simp +contextual only [bt,gm,c1,ct,eJ,X.g,mE,g0,R.g,A.g,zE.1,zE.2.1,oN.1,oN.2.1,↓al,aG,simprocAttr];refine ⟨u,rfl,(O.mod ((Mod.refl (fun x=>x=aj h.next) k).set (fun _=>rfl) _) fun b q z=>?_).k1 fun b q=>?_,fg,eb.set (Nat.le_refl _) _⟩
     . rw [show b=aj h.next from z] at q;unfold ew at q;rw [b9] at q;omega
     . unfold ew at q ⊢;exact ⟨by omega,q.2⟩
section
variable [Lay]
theorem cJ.cap {B:Nat} {h:ah} {size:Nat} {v:V} {n:Nat} {ai:List V} (H:cJ B h size v n ai) {k bg:IntKind} {m:Nat} (hm:m<=n) (afh:m<=top):
 ∃dd,hg size v none (some (.int k m)) (some (.int bg m))=some dd/\cJ B h size dd m (ai.take (m * size))/\∀b,dd.aN b->v.aN b:=by
 obtain ⟨aa,ad⟩:=H;have p6:=Nat.mul_le_mul_right size hm;have fz:(ai.take (m * size)).length=m * size:=by rw [List.length_take];omega
 cases v<;>simp only at ad<;>try (exact ad.elim)
 case bB=>
  subst ad;obtain rfl:m=0:=by omega
  refine ⟨.bB,?_,⟨by rw [fz],rfl⟩,fun b q=>q⟩;simp only [hg,xq,qP (Nat.le_refl _),sa]
 case slice b off len cap=>
  obtain ⟨rfl,aw,aK,bY,ek,jw,cQ,st,fk,h3,jt⟩:=ad;refine ⟨.slice b off m m,?_,⟨fz,rfl,aw,aK,Nat.le_refl _,by omega,jw,cQ,st,fk,?_,?_⟩,fun b q=>q⟩
  . simp only [hg,s_,qP (show m<=cap by omega),qP (Nat.le_refl m),sa,Nat.sub_zero];congr 2;cases ae:Nat.beq m 0
    . simp
    . simp
  . have:=Nat.mul_le_mul_right size (show m<=cap by omega);omega
  . rw [fz,<-jt,aa,List.take_take,Nat.min_eq_left p6]
 case dY b off len idx=>
  obtain ⟨rfl,aw,aK,rfl,rfl,jw,st,fk,h3,jt⟩:=ad;refine ⟨.slice b 0 m m,?_,⟨fz,rfl,aw,aK,Nat.le_refl _,afh,jw,size,st,fk,?_,?_⟩,fun b q=>q⟩
  . simp only [hg,qB,qP hm,qP (Nat.le_refl m),sa,Nat.sub_zero];congr 2;cases ae:Nat.beq m 0
    . simp
    . simp
  . omega
  . rw [List.drop_zero,fz,<-jt,aa,List.take_take,Nat.min_eq_left p6]
def vq (aW k:ah) (v:V) (cv:gW):Prop:=∃us:List (List V),cJ aW.next k 5 v cv.length us.flatten/\us.length=cv.length/\(∀u ∈ us,u.length=5/\eI u=true)/\∀(i:Nat) (p:Int × aM) (u:List V),cv[i]? =some p->us[i]? =some u->cW (Old aW) k (lI p) u
theorem vq.fY {aW k:ah} {v:V} {cv:gW} (H:vq aW k v cv) (aV:cv.length<=top):dc Any k 5 (cv.map lI) v:=by
 obtain ⟨us,o,hu,di,aD⟩:=H;refine ⟨o.room,by rw [List.length_map];exact aV,⟨us,by rw [List.length_map];exact o.v,by rw [List.length_map];exact hu,fun u q=>(di u q).1,fun i e u ar aw=>?_⟩,fun b q=>trivial⟩;rw [List.getElem?_map] at ar;cases av:cv[i]? with
 | none=>rw [av] at ar;cases ar
 | some t=>
   rw [av] at ar;cases ar;exact (aD i t u av aw).k1 fun b _=>trivial
theorem L3:∀{us:List (List V)},(∀u ∈ us,eI u=true)->eI us.flatten=true
 | [],_=>rfl
 | u::us,h=>by rw [List.flatten_cons];exact ale (h u List.mem_cons_self) (L3 fun w hw=>h w (List.mem_cons_of_mem _ hw))
theorem EP:∀(us:List (List V)) (m:Nat),(∀u ∈ us,u.length=5)->us.flatten.take (m * 5)=(us.take m).flatten/\us.flatten.drop (m * 5)=(us.drop m).flatten
 | [],m,_=>by simp
 | u::us,0,_=>by simp
 | u::us,m+1,h=>by obtain ⟨aa,ad⟩:=EP us m fun w hw=>h w (List.mem_cons_of_mem _ hw);have aA:=h u List.mem_cons_self;rw [List.take_succ_cons,List.drop_succ_cons,List.flatten_cons,List.flatten_cons,List.take_append,List.drop_append,aA,show (m+1) * 5-5=m * 5 by omega,aa,ad,List.take_of_length_le (by rw [aA];omega),List.drop_of_length_le (by rw [aA];omega),List.nil_append];exact ⟨rfl,rfl⟩
theorem vq.ins {aW k:ah} {v:V} {cv:gW} (H:vq aW k v cv) (e:Ext aW k) {at':Nat} (a1:at'<=cv.length) (aA:cv.length<=1000000) {p:Int × aM} {c:List V} (aD:cW (Old aW) k (lI p) c) (Sq:c.length=5) (Sr:eI c=true):
 ∃v1 v2 v3 v4 v5 bx cU dr,hg 5 v (some (.int .i64 at')) none none=some v1/\ij 5 (.slice (aj k.next) 0 0 0) v1 (k.new (.bE [] 0 false))=.val v2 bx/\hg 5 v none (some (.int .i64 at')) (some (.int .i64 at'))=some v3/\ij 5 v3 (.slice (aj bx.next) 0 1 1) (bx.new (.bE c 0 false))=.val v4 cU/\ij 5 v4 v2 cU=.val v5 dr/\
  Ext aW bx/\Ext aW cU/\Ext aW dr/\vq aW dr v5 (cv.take at'++p::cv.drop at')/\(v1.one=true/\v1.cells=[v1])/\(v2.one=true/\v2.cells=[v2])/\(v3.one=true/\v3.cells=[v3])/\(v4.one=true/\v4.cells=[v4])/\(v5.one=true/\v5.cells=[v5]):=by
 obtain ⟨us,o,hu,di,hA⟩:=H;have bn:∀u ∈ us,u.length=5:=fun u q=>(di u q).1;have l7:=e.next
 obtain ⟨adf,fd⟩:=EP us at' bn;obtain ⟨v1,bZ,a2,a3⟩:=o.v.cut (k:=.i64) (bg:=.i64) (bC:=at') (ao:=cv.length) a1 (Nat.le_refl _) (some (.int .i64 at')) none (.inl rfl) (.inr ⟨rfl,rfl⟩) o.room;have jP:(us.flatten.drop (at' * 5)).take ((cv.length-at') * 5)=(us.drop at').flatten:=by rw [List.take_of_length_le (by rw [List.length_drop,sq us bn,hu];omega),fd]
 rw [jP] at a2;obtain ⟨K,dO,yl,eC⟩:=h7 k [];have aqn:=yl.next
 have ajf:=eC.lt;have iw:cJ aW.next K 5 (.slice (aj k.next) 0 0 0) 0 []:=⟨rfl,rfl,by rw [b9];exact l7,fW ajf,Nat.le_refl _,Nat.zero_le _,[],0,false,eC.g,by simp,rfl⟩
 obtain ⟨v2,bx,cb,ca,e5,ik⟩:=D' (by omega) iw (a2.ext yl) (by omega) (by unfold top;omega) (L3 fun u q=>(di u (List.mem_of_mem_drop q)).2);have aqp:=e5.next
 have cm:Ext k bx:=yl.h1 e5 fun b q=>by rw [show b=aj k.next from q,b9];exact Nat.le_refl _
 have dp:=o.ext cm;have Z8:∀b,v2.aN b->k.next<=cB b:=fun b q=>by
  rcases ik b q with q | q
  . rw [show b=aj k.next from q,b9];exact Nat.le_refl _
  . omega
 have bold:∀b,v.aN b->cB b<k.next:=fun b q=>o.v.bF q
 obtain ⟨v3,bP,bX,c3⟩:=cJ.cap dp (k:=.i64) (bg:=.i64) a1 (by unfold top;omega);rw [adf] at bX;obtain ⟨v4,cU,d1,d2,d3,d4,d5⟩:=qO (cs:=c) (by omega) bX (by omega) (by unfold top;omega) Sq Sr;have akD:=d3.next
 have cr:=ca.mod d3 fun b q z=>by have:=Z8 b q;have:=bold b (c3 b z);omega
 obtain ⟨v5,dr,f1,f2,f3,f4⟩:=D' (by omega) d2 cr.v (by omega) (by unfold top;omega) (by simpa using L3 fun u q=>(di u (List.mem_of_mem_drop q)).2);have NX:Ext aW bx:=e.trans cm;have NY:Ext aW cU:=NX.h1 d3 fun b q=>o.base (c3 b q);have X1:Ext aW dr:=NY.h1 f3 fun b q=>d2.base q;have hm:∀{ds:List D} {w:List V},cW (Old aW) k ds w->cW (Old aW) dr ds w:=fun {ds w} ak=>by have m:Mod (fun b=>aW.next<=cB b) k dr:=((cm.mod _).trans (d3.mono fun b _ q=>o.base (c3 b q))).trans (f3.mono fun b _ q=>d2.base q);exact ak.mod m fun b q _=>⟨fun z=>by unfold Old at q;omega,q⟩
 refine ⟨v1,v2,v3,v4,v5,bx,cU,dr,bZ,by rw [dO];exact cb,bP,d1,f1,NX,NY,X1,⟨us.take at'++c::us.drop at',?_,?_,?_,?_⟩,⟨a2.one.1,a2.one.2.1⟩,⟨ca.v.one.1,ca.v.one.2.1⟩,⟨bX.v.one.1,bX.v.one.2.1⟩,⟨d2.v.one.1,d2.v.one.2.1⟩,⟨f2.v.one.1,f2.v.one.2.1⟩⟩
 . rw [show (cv.take at'++p::cv.drop at').length=at'+1 + (0 + (cv.length-at')) by simp;omega];rw [List.flatten_append,List.flatten_cons];simpa using f2
 . simp;omega
 . intro u q;rcases List.mem_append.1 q with q | q
   . exact di u (List.mem_of_mem_take q)
   . rcases List.mem_cons.1 q with rfl | q
     . exact ⟨Sq,Sr⟩
     . exact di u (List.mem_of_mem_drop q)
 . intro i q u aC fA;by_cases z:i<at'
   . rw [List.getElem?_append_left (by rw [List.length_take];omega),List.getElem?_take_of_lt z] at aC fA;exact hm (hA i q u aC fA)
   . rw [List.getElem?_append_right (by rw [List.length_take];omega),List.length_take,Nat.min_eq_left (by omega)] at aC fA;obtain ⟨j,aU⟩:∃j,i-at'=j:=⟨_,rfl⟩;rw [aU] at aC fA;cases j with
     | zero=>
       simp only [List.getElem?_cons_zero,Option.some.injEq] at aC fA;subst aC;subst fA;exact hm aD
     | succ j=>
       rw [List.getElem?_cons_succ,List.getElem?_drop] at aC fA;exact hm (hA _ q u aC fA)
end
theorem ang {cv:gW} {p:Int × aM} {m:Nat} (aS:cv.Pairwise fun a b=>a.1<b.1) (aa:∀(j:Nat) (q:Int × aM),j<m->cv[j]? =some q->q.1<p.1) (ad:∀q,cv[m]? =some q->p.1<q.1):(cv.take m++p::cv.drop m).Pairwise fun a b=>a.1<b.1:=by
 have iJ:=aS;rw [<-List.take_append_drop m cv,List.pairwise_append] at iJ;obtain ⟨s1,s2,ma⟩:=iJ;have t1:∀a ∈ cv.take m,a.1<p.1:=fun a a1=>by
  obtain ⟨j,aU⟩:=List.getElem?_of_mem a1;have SD:j<m:=by have:=(List.getElem?_eq_some_iff.1 aU).1;rw [List.length_take] at this;omega
  rw [List.getElem?_take_of_lt SD] at aU;exact aa j a SD aU
 have t2:∀b ∈ cv.drop m,p.1<b.1:=fun b ae=>by
  cases bb:cv.drop m with
  | nil=>rw [bb] at ae;cases ae
  | cons q rest=>
    have aC:cv[m]? =some q:=by
     have:(cv.drop m)[0]? =some q:=by rw [bb];rfl
     rw [List.getElem?_drop] at this;exact this
    have:=ad q aC;rw [bb] at ae s2;rcases List.mem_cons.1 ae with rfl | ae
    . exact this
    . have:=(List.pairwise_cons.1 s2).1 b ae;omega
 rw [List.pairwise_append];refine ⟨s1,List.pairwise_cons.2 ⟨t2,s2⟩,fun a a1 b ae=>?_⟩;rcases List.mem_cons.1 ae with rfl | ae
 . exact t1 a a1
 . have:=t1 a a1;have:=t2 b ae;omega
theorem anc (l:gW) (aA:l.length<=1000000) (nr:(l.map Prod.fst).Nodup) (c2:V) (h:ah) (S:dc Any h 5 (l.map lI) c2):de Tryz.prog 85 [c2] h fun x ab=>∃cv:gW,cv.Perm l/\cv.Pairwise (fun a b=>a.1<b.1)/\dc Any ab 5 (cv.map lI) x/\Ext h ab:=by
 have tA:=S.rE;have ue:=S.len;have os:=S.one;rw [List.length_map] at ue;refine abd.z rfl (dM ?_);unfold QF;simp +contextual only [os.1,os.2.1,↓al,aG,simprocAttr];refine fa (fun r k=>r 0=c2/\∃(i:Nat) (v:V) (cv:gW),r 4=.int .i64 i/\r 3=v/\i<=l.length/\vq h k v cv/\cv.Perm (l.take i)/\cv.Pairwise (fun a b=>a.1<b.1)/\Ext h k) (fun r _=>l.length - (r 4).toN) ?_ ?_
 . exact ⟨by simp only [↓al,bs,simprocAttr],0,.bB,[],by simp only [↓al,bs,simprocAttr]<;>rfl,by simp only [↓al,bs,simprocAttr],by omega,⟨[],⟨rfl,rfl⟩,rfl,fun u q=>(by cases q),fun i p u q=>by simp at q⟩,by simp,List.Pairwise.nil,Ext.refl h⟩
 rintro r k ⟨bt,i,v,cv,gm,cr,ao,T,af,aS,E⟩;unfold QH;have re:=af.length_eq;rw [List.length_take,Nat.min_eq_left ao] at re;have DU:=T.fY (by unfold top;omega);have dB:=DU.one;have bQ:=DU.len;rw [List.length_map] at bQ;by_cases aO:i<l.length
 . have g0:((i:Int) < (l.length:Int))=True:=eq_true (by omega);obtain ⟨apg,op,du,K7,X,zo,_,wV⟩:=gW.c0 tA (k:=.i64) aO;simp +contextual only [bt,cr,gm,ue,g0,↓al,aG,simprocAttr];refine fa (fun z bg=>bg=k/\z 0=c2/\z 3=v/\z 4=.int .i64 i/\∃a:Nat,z 5=.int .i64 a/\a<=cv.length/\∀(j:Nat) (q:Int × aM),j<a->cv[j]? =some q->q.1<l[i].1) (fun z _=>cv.length - (z 5).toN) ?_ ?_
   . exact ⟨rfl,by simp only [bt,↓al,bs,simprocAttr],by simp only [cr,↓al,bs,simprocAttr],by simp only [gm,↓al,bs,simprocAttr],0,by simp only [↓al,bs,simprocAttr]<;>rfl,by omega,fun j q aU=>by omega⟩
   rintro z bg ⟨rfl,z0,z3,z4,a,z5,a1,ey⟩;unfold QG;have leave:(∀q,cv[a]? =some q->¬q.1<l[i].1)->True:=fun _=>trivial;have fin:(∀q,cv[a]? =some q->¬q.1<l[i].1)->∃v1 v2 v3 v4 v5 bx cU dr,hg 5 v (some (.int .i64 a)) none none=some v1/\ij 5 (.slice (aj bg.next) 0 0 0) v1 (bg.new (.bE [] 0 false))=.val v2 bx/\hg 5 v none (some (.int .i64 a)) (some (.int .i64 a))=some v3/\ij 5 v3 (.slice (aj bx.next) 0 1 1) (bx.new (.bE (.int .i64 l[i].1::fT l[i].2 du) 0 false))=.val v4 cU/\ij 5 v4 v2 cU=.val v5 dr/\
    Ext h bx/\Ext h cU/\Ext h dr/\vq h dr v5 (cv.take a++l[i]::cv.drop a)/\(v1.one=true/\v1.cells=[v1])/\(v2.one=true/\v2.cells=[v2])/\(v3.one=true/\v3.cells=[v3])/\(v4.one=true/\v4.cells=[v4])/\(v5.one=true/\v5.cells=[v5])/\(cv.take a++l[i]::cv.drop a).Perm (l.take (i+1))/\(cv.take a++l[i]::cv.drop a).Pairwise (fun a b=>a.1<b.1):=fun jl=>by
    obtain ⟨Nu,hA,mZ,apY⟩:=aM.open X;have akY:=mZ.one;obtain rfl:du=Nu:=by simpa using hA
    obtain ⟨v1,v2,v3,v4,v5,bx,cU,dr,bZ,a2,a3,a4,a5,hl,qN,AQ,a9,cb,ca,e5,ik,iW⟩:=T.ins E a1 (by omega) (p:=l[i]) (c:=.int .i64 l[i].1::fT l[i].2 du) (by have:cW (Old h) h (lI l[i]) (.int .i64 l[i].1::fT l[i].2 du):=.i X;exact this.ext E) rfl (by simp only [eI,Gy,Gz,akY.1,Bool.and_self,Bool.and_true]);refine ⟨v1,v2,v3,v4,v5,bx,cU,dr,bZ,a2,a3,a4,a5,hl,qN,AQ,a9,cb,ca,e5,ik,iW,?_,ang aS ey fun q aC=>?_⟩
    . rw [List.take_succ_eq_append_getElem aO];refine List.perm_middle.trans ?_;rw [List.take_append_drop];exact (af.cons l[i]).trans (@List.perm_append_comm (Int × aM) [l[i]] (l.take i))
    . have aa:=jl q aC;have afC:q ∈ l.take i:=af.subset (List.mem_of_getElem? aC);obtain ⟨j,aU⟩:=List.getElem?_of_mem afC;have Ki:j<i:=by have:=(List.getElem?_eq_some_iff.1 aU).1;rw [List.length_take] at this;omega
      rw [List.getElem?_take_of_lt Ki] at aU;have ck:q.1≠l[i].1:=fun e=>by
       have sx:=(List.getElem?_eq_some_iff.1 aU).1;have aP:(l.map Prod.fst)[j]'(by rw [List.length_map];exact sx)=(l.map Prod.fst)[i]'(by rw [List.length_map];exact aO):=by rw [List.getElem_map,List.getElem_map,(List.getElem?_eq_some_iff.1 aU).2,e]
       have:=(List.getElem_inj nr).1 aP;omega
      omega
   have Lr:=zo bg E;have ap9:=wV bg E;by_cases q:a<cv.length
   . have g1:((a:Int) < (cv.length:Int))=True:=eq_true (by omega);obtain ⟨aph,aqz,aqQ,Tr,ao_,aj8,_,_⟩:=gW.c0 DU (k:=.i64) q;have Uk:=aj8 bg (Ext.refl bg);by_cases c:cv[a].1<l[i].1
     . have aon:=kB q (by omega);simp +contextual only [z0,z3,z4,z5,bQ,g1,Tr,Uk,K7,Lr,eq_true c,aon,↓al,aG,simprocAttr];refine ⟨⟨a+1,rfl,q,fun j dV aU e=>?_⟩,by omega⟩;by_cases z:j=a
       . subst z;rw [List.getElem?_eq_getElem q] at e;cases e;exact c
       . exact ey j dV (by omega) e
     . obtain ⟨v1,v2,v3,v4,v5,bx,cU,dr,bZ,a2,a3,a4,a5,hl,qN,AQ,a9,cb,ca,e5,ik,iW,k7,tE⟩:=fin fun dV e=>by rw [List.getElem?_eq_getElem q] at e;cases e;exact c
       have d5:=wV bx hl;have I5:=wV cU qN;have dv:=kB aO (by omega);simp +contextual only [z0,z3,z4,z5,bQ,g1,Tr,Uk,K7,Lr,eq_false c,bZ,a2,a3,a4,a5,d5,I5,cb.1,cb.2,ca.1,ca.2,e5.1,e5.2,ik.1,ik.2,iW.1,iW.2,dv,dB.1,dB.2.1,↓al,aG,simprocAttr];exact ⟨by rw [<-iE];exact wV _ (hl.new _),⟨i+1,v5,_,rfl,rfl,aO,a9,k7,tE,AQ⟩,by simp only [Int.toNat_natCast];omega⟩
   . have g1:((a:Int) < (cv.length:Int))=False:=eq_false (by omega);obtain ⟨v1,v2,v3,v4,v5,bx,cU,dr,bZ,a2,a3,a4,a5,hl,qN,AQ,a9,cb,ca,e5,ik,iW,k7,tE⟩:=fin fun dV e=>by have:=(List.getElem?_eq_some_iff.1 e).1;omega
     have d5:=wV bx hl;have I5:=wV cU qN;have dv:=kB aO (by omega);simp +contextual only [z0,z3,z4,z5,bQ,g1,K7,Lr,bZ,a2,a3,a4,a5,d5,I5,cb.1,cb.2,ca.1,ca.2,e5.1,e5.2,ik.1,ik.2,iW.1,iW.2,dv,dB.1,dB.2.1,↓al,aG,simprocAttr];exact ⟨by rw [<-iE];exact wV _ (hl.new _),⟨i+1,v5,_,rfl,rfl,aO,a9,k7,tE,AQ⟩,by simp only [Int.toNat_natCast];omega⟩
 . have g0:((i:Int) < (l.length:Int))=False:=eq_false (by omega);rw [List.take_of_length_le (by omega)] at af;simp +contextual only [bt,cr,gm,ue,g0,dB.1,dB.2.1,↓al,aG,simprocAttr];exact ⟨cv,af,aS,DU,E⟩
end
end Go.Proofs.YthemdhlheglhoaaGreatDoor
