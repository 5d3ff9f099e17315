/- The chapter's functions, walked by the abstract machine: plain lemmas, no condition. Printed by a program from longer texts: names made short. -/
import Derived.Test.YthemdhlheglhoaaGreatDoorM15
import Derived.Test.YthemdhlheglhoaaGreatDoorM16
import Derived.Test.YthemdhlheglhoaaGreatDoorM14
import Derived.Test.YthemdhlheglhoaaGreatDoorM8
import Derived.Test.YthemdhlheglhoaaGreatDoorM4
set_option linter.unusedSectionVars false
set_option linter.unusedSimpArgs false
set_option linter.unusedVariables false
set_option maxHeartbeats 64000000
noncomputable section
namespace Go.Proofs.YthemdhlheglhoaaGreatDoor
section
open Go aY
section
variable {g:bm} {E:List (Nat × Nat)}
theorem AJ {p q:Int × _} (h:fM g E p=some q):q.1=p.1/\q.2=lf g E p.2:=by
 unfold fM at h
 split at h
 . cases h
 . cases h;exact ⟨rfl,rfl⟩
theorem aor (W:g.dz) {p:Int × Nat} (h:p ∈ g.vars):∃aJ,g.nodes[p.2]? =some aJ/\aJ.cd=false/\aJ.n=p.1:=by obtain ⟨n,j⟩:=p;exact W.e7 _ _ (sG W.keys h)
theorem air (W:g.dz):(keyed g).Perm g.vars:=by
 unfold keyed;refine ((uR _).map _).trans ?_;rw [List.map_map];have:g.vars.map ((fun n=>(n,(ca n g.vars).getD 0)) ∘ Prod.fst)=g.vars:=by
  conv=>rhs;rw [<-List.map_id g.vars]
  refine List.map_congr_left fun p af=>?_;obtain ⟨n,j⟩:=p;simp [sG W.keys af]
 rw [this]
theorem ais (W:g.dz):(keyed g).Pairwise fun a b=>a.1<b.1:=by unfold keyed;rw [List.pairwise_map];have aa:=M4 (g.vars.map Prod.fst);have ad:(eO (g.vars.map Prod.fst)).Nodup:=(uR _).nodup_iff.2 W.keys;have aH:=aa.and ad;exact aH.imp fun ⟨a,b⟩=>by simp only;omega
theorem Hd (W:g.dz) {q:Int × _}:q ∈ (keyed g).filterMap (fM g E)↔q ∈ g.vars.filterMap (fM g E):=((air W).filterMap _).mem_iff
end
section
variable [Lay]
end
theorem alQ {g:bm} {E:List (Nat × Nat)} (h:¬iX g E):Part g (cD g E):=by
 refine ⟨.refl,.symm,.trans,fun a b aJ b7 aC aV ae fh fH=>⟨?_,?_,fun i x y ai a1=>.dO aC aV ae fh fH ai a1⟩⟩
 . exact Classical.byContradiction fun q=>h ⟨a,b,aJ,b7,aC,aV,ae,fh,fH,.inl q⟩
 . exact Classical.byContradiction fun q=>h ⟨a,b,aJ,b7,aC,aV,ae,fh,fH,.inr q⟩
def g2 (a b:an):bm:=(b.add (a.add ⟨[],[]⟩).1).1
def zF (a:an):Nat:=(a.add ⟨[],[]⟩).2
def zG (a b:an):Nat:=(b.add (a.add ⟨[],[]⟩).1).2
def bL (a b:an):List (Nat × Nat):=[(zF a,zG a b)]
theorem Nt {a b:an} (aV:a.check=0) (ae:b.check=0):jO [a] [b]=lb (g2 a b) (bL a b):=by
 have h:([a]:List an).length=([b]:List an).length/\(∀t ∈ [a],t.check=0)/\(∀t ∈ [b],t.check=0):=⟨rfl,fun t au=>by rw [List.mem_singleton] at au;rw [au];exact aV,fun t au=>by rw [List.mem_singleton] at au;rw [au];exact ae⟩;unfold jO
 split
 . rfl
 . rename_i q;exact absurd h q
section
variable {a b:an} (er:a.shape=true) (cW:b.shape=true)
include er cW
theorem yq:(g2 a b).dz:=(kv b _ (mv b cW) (kv a _ (mv a er) bm.dz.empty).2.1).2.1
theorem EF:At (g2 a b) (zF a) a:=DO (kv b _ (mv b cW) (kv a _ (mv a er) bm.dz.empty).2.1).1 (DD a _ er bm.dz.empty)
theorem EG:At (g2 a b) (zG a b) b:=DD b _ cW (kv a _ (mv a er) bm.dz.empty).2.1
theorem N4:u6 (g2 a b) (bL a b):=fun p af=>by unfold bL at af;rw [List.mem_singleton] at af;subst af;exact ⟨qF (EF er cW),qF (EG er cW)⟩
theorem aoi {σ:Int->an} (h:a.sub σ=b.sub σ):xX (g2 a b) (bL a b) σ:=fun p af t u au hu=>by unfold bL at af;rw [List.mem_singleton] at af;subst af;rw [qG au (EF er cW),qG hu (EG er cW)];exact h
theorem Hh {σ:Int->an} (h:a.sub σ=b.sub σ):¬iX (g2 a b) (bL a b)/\∀i,i < (g2 a b).N->∃t,du (g2 a b) (cD (g2 a b) (bL a b)) i t:=by have W:=yq er cW;have U:=aoi er cW h;refine ⟨aoh W (N4 er cW) U,fun i aq=>?_⟩;obtain ⟨u,hu⟩:=qE W aq;exact Xq W (N4 er cW) U _ i u hu (Nat.le_refl _)
theorem G_ (aC:¬iX (g2 a b) (bL a b)) (cK:∀i,i < (g2 a b).N->∃t,du (g2 a b) (cD (g2 a b) (bL a b)) i t):tp a b (ot (g2 a b) (bL a b)):=
 anG (yq er cW) (alQ aC) cK rfl (EF er cW) (EG er cW)
theorem QE (h:iX (g2 a b) (bL a b)):iX (g2 b a) (bL b a):=by have pF:=yq cW er;have Ir:=bm.dz.empty;have Dx:=(kv a _ (mv a er) Ir).2.1;obtain ⟨NL,f1,f2,f3⟩:=JA pF a ⟨[],[]⟩ (fun i=>i) (zG b a) er Ir (fun i aJ e=>by simp at e) (EG cW er);obtain ⟨xz,bK,bT,en⟩:=JA pF b _ NL (zF b) cW Dx f2 (EF cW er);have aT:=(kv a _ (mv a er) Ir).2.2.1;refine abW (g:=g2 a b) (φ:=xz) bT (fun p af=>?_) h;unfold bL at af;rw [List.mem_singleton] at af;subst af;have aN:xz (zF a)=zG b a:=(bK _ aT).trans f3;have aZ:xz (zG a b)=zF b:=en;show cD (g2 b a) (bL b a) (xz (zF a)) (xz (zG a b));rw [aN,aZ];exact .symm (.base (by unfold bL;exact List.mem_singleton.2 rfl))
end
theorem Ui {s:dn} (aM:s.Pairwise fun a b=>a.1<b.1) {n:Int} {t:an} (h:(n,t) ∈ s):ca n s=some t:=sG (by unfold List.Nodup;rw [List.pairwise_map];exact aM.imp fun h=>by omega) h
theorem amO {s e1:dn} (aM:s.Pairwise fun a b=>a.1<b.1) (hp:e1.Pairwise fun a b=>a.1<b.1) (aa:∀p ∈ s,p.2≠iW p.1) (il:∀p ∈ e1,p.2≠iW p.1) (h:∀n,jF s n=jF e1 n):s=e1:=by
 have one:∀{s e1:dn},(s.Pairwise fun a b=>a.1<b.1)->(∀p ∈ s,p.2≠iW p.1)->(∀n,jF s n=jF e1 n)->∀p ∈ s,p ∈ e1:=fun {s e1} aM aa h p af=>by
  obtain ⟨n,t⟩:=p;have az:=Ui aM af;have:=h n;unfold jF at this;rw [az] at this;cases aA:ca n e1 with
  | none=>rw [aA] at this;exact (aa _ af this).elim
  | some u=>
    rw [aA] at this;simp only [Option.getD_some] at this;rw [this];exact zm aA
 have aJ:∀{s:dn},(s.Pairwise fun a b=>a.1<b.1)->s.Nodup:=fun {s} aM=>aM.imp fun h e=>by rw [e] at h;omega
 refine List.Perm.eq_of_pairwise (le:=fun a b=>a.1<b.1) (fun a b _ _ aa ad=>by omega) aM hp ?_;exact (List.perm_ext_iff_of_nodup (aJ aM) (aJ hp)).2 fun p=>⟨one aM aa h p,one hp il (fun n=>(h n).symm) p⟩
section
variable {g:bm} {E:List (Nat × Nat)}
theorem Hc (W:g.dz):((keyed g).filterMap (fM g E)).Pairwise fun a b=>a.1<b.1:=
 (ais W).filterMap _ fun a bs cR b ae bI fb=>by rw [(AJ ae).1,(AJ fb).1];exact cR
theorem Xh:∀p ∈ (keyed g).filterMap (fM g E),p.2≠iW p.1:=fun p af=>by
 rw [List.mem_filterMap] at af;obtain ⟨q,_,aA⟩:=af;unfold fM at aA
 split at aA
 . cases aA
 . rename_i z;cases aA;exact z
theorem Nk (W:g.dz) (n:Int):jF ((keyed g).filterMap (fM g E)) n=ot g E n:=by
 unfold jF ot;cases h:ca n g.vars with
 | none=>
   cases aA:ca n ((keyed g).filterMap (fM g E)) with
   | none=>rfl
   | some t=>
     have hm:=zm aA;rw [Hd W,List.mem_filterMap] at hm;obtain ⟨p,af,ae⟩:=hm;have:=(AJ ae).1;obtain ⟨m,j⟩:=p;simp only at this;subst this;rw [sG W.keys af] at h;cases h
 | some j=>
   have af:=zm h;by_cases c:lf g E j=.mk 1 n [] []
   . simp only;cases aA:ca n ((keyed g).filterMap (fM g E)) with
     | none=>rw [c];rfl
     | some t=>
       have hm:=zm aA;rw [Hd W,List.mem_filterMap] at hm;obtain ⟨p,eZ,ae⟩:=hm;have aN:=AJ ae;obtain ⟨m,zf⟩:=p;simp only at aN;obtain ⟨rfl,aZ⟩:=aN;have:=(sG W.keys eZ).symm.trans h;cases this;simp only [Option.getD_some];exact aZ
   . have:(n,lf g E j) ∈ (keyed g).filterMap (fM g E):=(Hd W).2 (List.mem_filterMap.2 ⟨(n,j),af,Po c⟩);rw [Ui (Hc W) this];rfl
end
theorem aok {a b:an} (aV:a.check=0) (ae:b.check=0):jO [a] [b]=jO [b] [a]:=by
 have er:=(jt aV).1;have cW:=(jt ae).1;rw [Nt aV ae,Nt ae aV];by_cases aC:iX (g2 a b) (bL a b)
 . rw [GU aC,GU (QE er cW aC)]
 have hQ:¬iX (g2 b a) (bL b a):=fun q=>aC (QE cW er q);by_cases cK:∀i,i < (g2 a b).N->∃t,du (g2 a b) (cD (g2 a b) (bL a b)) i t
 . have M:=G_ er cW aC cK;have sf:=(Hh cW er M.un.symm).2;have Dn:=G_ cW er hQ sf;have he:(keyed (g2 a b)).filterMap (fM (g2 a b) (bL a b))=(keyed (g2 b a)).filterMap (fM (g2 b a) (bL b a)):=by
    have W:=yq er cW;have ke:=yq cW er;refine amO (Hc W) (Hc ke) Xh Xh fun n=>?_;rw [Nk W,Nk ke];exact akl M Dn.symm n
   by_cases az:∃p ∈ (keyed (g2 a b)).filterMap (fM (g2 a b) (bL a b)),¬(p.2.size<=4096/\p.2.deep<=200)
   . rw [GV aC cK az,GV hQ sf (by rw [<-he];exact az)]
   . have jB:∀p ∈ (keyed (g2 a b)).filterMap (fM (g2 a b) (bL a b)),p.2.size<=4096/\p.2.deep<=200:=fun p af=>Classical.byContradiction fun q=>az ⟨p,af,q⟩;rw [GW aC cK jB,GW hQ sf (by rw [<-he];exact jB),he]
 . have aQ:∃i,i < (g2 a b).N/\¬∃t,du (g2 a b) (cD (g2 a b) (bL a b)) i t:=Classical.byContradiction fun q=>cK fun i aq=>Classical.byContradiction fun z=>q ⟨i,aq,z⟩;have oU:∃i,i < (g2 b a).N/\¬∃t,du (g2 b a) (cD (g2 b a) (bL b a)) i t:=Classical.byContradiction fun q=>by
    have sf:∀i,i < (g2 b a).N->∃t,du (g2 b a) (cD (g2 b a) (bL b a)) i t:=fun i aq=>Classical.byContradiction fun z=>q ⟨i,aq,z⟩;exact cK (Hh er cW (G_ cW er hQ sf).un.symm).2
   rw [GX aC aQ,GX hQ oU]
def rT (g:bm):Prop:=∀(i:Nat) (u:an),At g i u->u.shape=true
theorem Pg {g cQ:bm} (W:g.dz) (h:g.le cQ) {i:Nat} (aq:i<g.N) {u:an} (k:At cQ i u):At g i u:=by obtain ⟨v,ba⟩:=qE W aq;rw [qG k (DO h ba)];exact ba
mutual
theorem Ix:∀(t:an) (g:bm),t.shape=true->g.dz->rT g->rT (t.add g).1
 | .mk k n s l,g,h,W,cY=>by
   have hP:=DD (.mk k n s l) g h W;have sp:=kv (.mk k n s l) g (mv _ h) W;intro i u hu;rw [an.add] at hP sp hu;by_cases c:k=1
   . rw [if_pos c] at hP sp hu;by_cases q:i<g.N
     . exact cY i u (Pg W sp.1 q hu)
     . have aq:=qF hu;have:i=(g.var n).2:=by
        unfold bm.var at aq ⊢;cases z:ca n g.vars with
        | some j=>rw [z] at aq;exact (q aq).elim
        | none=>rw [z] at aq;simp [bm.N] at aq ⊢;unfold bm.N at q;omega
       rw [this] at hu;rw [qG hu hP];exact h
   . rw [if_neg c] at hP sp hu;have aM:=zP h;obtain ⟨a,b,d,e⟩:=tx l g (xd l aM) W;have aq:i < ((cf l g).1.put s (cf l g).2).N:=qF hu;have bH:((cf l g).1.put s (cf l g).2).N=(cf l g).1.N+1:=by simp [bm.put,bm.N]
     by_cases q:i < (cf l g).1.N
     . exact O2 l g aM W cY i u (Pg b (My b s d).1 q hu)
     . have:i=(cf l g).1.N:=by omega
       rw [this] at hu;rw [qG hu hP];exact h
theorem O2:∀(l:List an) (g:bm),ib l=true->g.dz->rT g->rT (cf l g).1
 | [],g,_,_,cY=>cY
 | t::l,g,h,W,cY=>by obtain ⟨aa,ad⟩:=qk h;rw [cf];exact O2 l _ ad (kv t g (mv t aa) W).2.1 (Ix t g aa W cY)
end
theorem ag6 (x y z:Bool):(if (2:Int)=1 then x else z)=(if (2:Int)=1 then y else z):=by rw [if_neg (by omega),if_neg (by omega)]
theorem alD {s:List UInt8} {l cG:List an} (h:(an.mk 2 0 s l).own=true) (e:l.length=cG.length):(an.mk 2 0 s cG).own=true:=by
 have:(an.mk 2 0 s cG).own=(an.mk 2 0 s l).own:=by unfold an.own;show (if (2:Int)=1 then _ else if (2:Int)=2 then (if s=DK\/s=G0 then decide ((0:Int)=0)&&decide (cG.length=2) else decide ((0:Int)=0)&&decide (cG.length<=64)&&mn 3 s) else false)=(if (2:Int)=1 then _ else if (2:Int)=2 then (if s=DK\/s=G0 then decide ((0:Int)=0)&&decide (l.length=2) else decide ((0:Int)=0)&&decide (l.length<=64)&&mn 3 s) else false);rw [e];exact ag6 _ _ _
 rw [this];exact h
theorem anL {g:bm} {E:List (Nat × Nat)} (W:g.dz) (cY:rT g) {i:Nat} {t:an} (h:du g (cD g E) i t):t.shape=true:=by
 induction h with
 | @var a b aJ h ae aC hH bC=>exact cY b _ (x6 ae aC)
 | @cd a b aJ l h ae aC az aD bd=>
   obtain ⟨ou,mX⟩:=qE W (List.getElem?_eq_some_iff.1 ae).1;have aM:=cY b ou mX;obtain ⟨kn,rfl,fe,_⟩:=vq mX ae aC;rw [an.shape,Bool.and_eq_true] at aM ⊢;refine ⟨alD aM.1 (by omega),?_⟩;rw [WA,List.all_eq_true];intro t au;obtain ⟨j,a6⟩:=List.getElem?_of_mem au;have Sz:=(List.getElem?_eq_some_iff.1 a6).1;exact bd j _ t (List.getElem?_eq_getElem (l:=aJ.kids) (by omega)) a6
theorem rT.empty:rT ⟨[],[]⟩:=fun i u h=>by have:=qF h;simp [bm.N] at this
theorem adn {a b:an} (er:a.shape=true) (cW:b.shape=true):rT (g2 a b):=Ix b _ cW (kv a _ (mv a er) bm.dz.empty).2.1 (Ix a _ er bm.dz.empty rT.empty)
theorem WZ:∀{s:dn} {z:Int},(s.Pairwise fun a b=>a.1<b.1)->(∀p ∈ s,z<p.1/\p.1<=1048575/\p.2.check=0)->oq z s=true
 | [],z,_,_=>rfl
 | (n,t)::s,z,aM,h=>by obtain ⟨aa,ad,aH⟩:=h (n,t) List.mem_cons_self;rw [List.pairwise_cons] at aM;rw [oq,WZ aM.2 fun p af=>⟨aM.1 p af,(h p (List.mem_cons_of_mem _ af)).2⟩];simp only at aa ad aH;simp [aa,ad,aH]
structure Ou (a b:an) (s:dn) (c:Int):Prop where
 code:c=0\/c=2\/c=3\/c=290\/c=291
 none:c=290\/c=291->a.check=0/\b.check=0/\¬∃σ:Int->an,a.sub σ=b.sub σ
 akt:c=0->a.check=0/\b.check=0/\G4 s=true/\tp a b (jF s)
theorem akv (a b:an):Ou a b (jO [a] [b]).1 (jO [a] [b]).2:=by
 by_cases h:a.check=0/\b.check=0
 . obtain ⟨aV,ae⟩:=h;have er:=(jt aV).1;have cW:=(jt ae).1;have W:=yq er cW;rw [Nt aV ae];by_cases aC:iX (g2 a b) (bL a b)
   . rw [GU aC];exact ⟨by simp,fun _=>⟨aV,ae,fun ⟨σ,q⟩=>(Hh er cW q).1 aC⟩,fun q=>by cases q⟩
   by_cases cK:∀i,i < (g2 a b).N->∃t,du (g2 a b) (cD (g2 a b) (bL a b)) i t
   . by_cases az:∃p ∈ (keyed (g2 a b)).filterMap (fM (g2 a b) (bL a b)),¬(p.2.size<=4096/\p.2.deep<=200)
     . rw [GV aC cK az];exact ⟨by simp,fun q=>by simp at q,fun q=>by cases q⟩
     . have jB:∀p ∈ (keyed (g2 a b)).filterMap (fM (g2 a b) (bL a b)),p.2.size<=4096/\p.2.deep<=200:=fun p af=>Classical.byContradiction fun q=>az ⟨p,af,q⟩;rw [GW aC cK jB];have M:=G_ er cW aC cK;have he:jF ((keyed (g2 a b)).filterMap (fM (g2 a b) (bL a b)))=ot (g2 a b) (bL a b):=funext (Nk W);refine ⟨by simp,fun q=>by simp at q,fun _=>⟨aV,ae,WZ (Hc W) fun p af=>?_,by rw [he];exact M⟩⟩;have b':=jB p af;have eZ:=af;rw [Hd W,List.mem_filterMap] at eZ;obtain ⟨q,aA,aeB⟩:=eZ;obtain ⟨aN,aZ⟩:=AJ aeB;obtain ⟨aJ,cx,e8,n3⟩:=aor W aA;have aQ:=(W.var _ aJ cx e8).2.2.1;have bk:=W.aq q aA;have nZ:p.2.shape=true:=by rw [aZ];exact anL W (adn er cW) (xk (cK _ (List.getElem?_eq_some_iff.1 cx).1))
       exact ⟨by omega,by omega,by rw [D8 nZ,if_pos b']⟩
   . have aQ:∃i,i < (g2 a b).N/\¬∃t,du (g2 a b) (cD (g2 a b) (bL a b)) i t:=Classical.byContradiction fun q=>cK fun i aq=>Classical.byContradiction fun z=>q ⟨i,aq,z⟩;rw [GX aC aQ];exact ⟨by simp,fun _=>⟨aV,ae,fun ⟨σ,q⟩=>cK (Hh er cW q).2⟩,fun q=>by cases q⟩
 . have:jO [a] [b]=([],2):=by
    unfold jO
    split
    . rename_i q;exact (h ⟨q.2.1 a (List.mem_singleton.2 rfl),q.2.2 b (List.mem_singleton.2 rfl)⟩).elim
    . rfl
   rw [this];exact ⟨by simp,fun q=>by simp at q,fun q=>by cases q⟩
theorem aol (a b:an):jO [a] [b]=jO [b] [a]:=by
 by_cases h:a.check=0/\b.check=0
 . exact aok h.1 h.2
 . have one:∀{a b:an},¬(a.check=0/\b.check=0)->jO [a] [b]=([],2):=fun {a b} h=>by
    unfold jO
    split
    . rename_i q;exact (h ⟨q.2.1 a (List.mem_singleton.2 rfl),q.2.2 b (List.mem_singleton.2 rfl)⟩).elim
    . rfl
   rw [one h,one fun q=>h ⟨q.2,q.1⟩]
theorem akq (t u:an) (au:t.size<=900000000) (hu:u.size<=900000000) (ag ws:List V) (h:ah) (H:b5 Any h t.enc ag) (cy:b5 Any h u.enc ws):c4 Tryz.prog 27 [.agg ag,.agg ws] h fun x ab=>x=.bool (B_ t u)/\Ext h ab:=by
 have oz:=H.oi;have N_:=cy.oi;obtain ⟨cr,rfl,L,k6⟩:=an.open H;obtain ⟨wl,rfl,M,S5⟩:=an.open cy;have ol:=L.one;have gr:=M.one;refine aaY.z rfl (dF ?_);unfold P8;obtain ⟨aa,ao,aN,da⟩:=fU h (cH t cr);obtain ⟨ad,ax,aZ,fp⟩:=fU aa (cH u wl);have dh:=da.ext aZ;have cx:=aN.next
 have e8:=aZ.next
 have fv:=aN.trans aZ;unfold B_;simp +contextual only [ol.1,ol.2.1,gr.1,gr.2.1,ao,ax,dh.g,↓al,aK,simprocAttr];refine cF (x9 t au _ ad ((oz.ext fv).hJ fun _ _=>trivial)) ?_;rintro x aH ⟨rfl,bJ⟩;have l2:=fp.ext bJ;have hl:=dh.ext bJ;have n3:=bJ.next
 by_cases bS:t.check=0
 case neg=>
  simp +contextual only [eq_false bS,decide_true,decide_false,Bool.false_and,↓al,aK,simprocAttr];exact fv.trans bJ
 simp +contextual only [ol.1,ol.2.1,gr.1,gr.2.1,hl.g,l2.g,eq_true bS,decide_true,decide_false,Bool.true_and,↓al,aK,simprocAttr];refine cF (x9 u hu _ aH (((N_.ext fv).ext bJ).hJ fun _ _=>trivial)) ?_;rintro x bt ⟨rfl,dR⟩;have ln:=l2.ext dR;have rE:=hl.ext dR;have n4:=dR.next
 have pM:=(fv.trans bJ).trans dR;by_cases bX:u.check=0
 case neg=>
  simp +contextual only [eq_false bX,decide_true,decide_false,Bool.true_and,Bool.false_and,↓al,aK,simprocAttr];exact pM
 have kc:=i'.new (Old h) bt;have e_:Ext bt (bt.new (.mp [] 0)):=(Ext.refl bt).new _;have aqv:(bt.new (.mp [] 0)).next=bt.next+1:=rfl
 have F8:p9 none bt=.val (.map (aj bt.next)) (bt.new (.mp [] 0)):=rfl;generalize ee:bt.new (.mp [] 0)=cI at *;obtain ⟨cA,fQ,hO,kU⟩:=gM cI [.iS] [.map (aj bt.next)];obtain ⟨iM,iV,pN,qA⟩:=gM cA [.k'] [.func 65 [.ptr (aj cI.next) 0,.ptr (aj cA.next) 0]];have Jv:=(e_.trans hO).trans pN;have Ju:=pM.trans Jv;have u2:=rE.ext Jv;have rF:=ln.ext Jv;have YJ:=kU.ext pN;have n6:=hO.next
 have n7:=pN.next
 have aqw:=kU.lt;simp +contextual only [ol.1,ol.2.1,gr.1,gr.2.1,F8,eq_true bX,decide_true,decide_false,Bool.true_and,fQ,iV,qA.g,u2.g,rF.g,D4,List.cons_append,List.nil_append,show (65=4294967296)=False from by simp,if_false,↓al,aK,simprocAttr];refine cF ((UC (Old h) (aj bt.next) cI.next cA.next (fun q=>by unfold Old at q;rw [cm] at q;have:=pM.next;omega) (fun q=>by have:=ed q;omega) (fun q=>by have:=ed q;omega) t.size).1 t u (Nat.le_refl _) [] _ _ iM (oz.ext Ju) (N_.ext Ju) ((kc.ext hO).ext pN) YJ qA) ?_;rintro x k1 ⟨ok,rfl,aX,m8⟩;simp +contextual only [↓al,aK,simprocAttr];refine ⟨?_,Ju.j5 m8 fun b q=>by rw [show b=aj bt.next from q,cm];have:=pM.next;omega⟩;unfold Dp at aX;cases ae:t.more u [] with
 | some s=>rw [ae] at aX;rw [aX.1];rfl
 | none=>rw [ae] at aX;rw [aX];rfl
end
section
open Go aY Go.RowKit
end
section
open Go aY
end
section
open Go aY Go.RowKit
set_option maxRecDepth 100000 in
theorem ajr:Np ctx 100000 8 []=true:=by kernel_rfl
theorem ajp (h:ah):gI Tryz.prog 8 [] h (.bool true) h:=
 abY (by kernel_rfl) (fun E x q=>by subst q;simp [Rel]) ⟨_,Tryz.func8,by kernel_rfl⟩ (fun w hw=>an4 (C:=ctx) follows wT hw alZ (by kernel_rfl) (by kernel_rfl) ajr) h
theorem ajq (h:ah):c4 Tryz.prog 8 [] h fun x ab=>x=.bool true/\ab=h:=⟨_,_,ajp h,rfl,rfl⟩
end
section
open Go aY
theorem WY:∀{s:dn} {z:Int},oq z s=true->∀p ∈ s,p.2.check=0
 | [],_,_,p,af=>by cases af
 | (n,t)::s,z,h,p,af=>by
   rw [oq] at h;simp only [Bool.and_eq_true,decide_eq_true_eq] at h;rcases List.mem_cons.1 af with rfl | af
   . exact h.1.2
   . exact WY h.2 p af
theorem AT [Lay] {S:aO->Prop} {h:ah} {p:an} {w:V} (W:e4 h S p.l w) (wz:p.s.length<=top):b5 Any h p.enc (cH p w):=by rw [zC];exact .i (.i (.s wz ((W.fo fun _ _=>trivial).cons .nil)))
theorem Gg (t:an) (ag:List V) (h:ah) (H:b5 Any h t.enc ag):c4 Tryz.prog 41 [.agg ag] h fun x ab=>dj Any ab 4 ([t].map an.enc) x/\Ext h ab:=by obtain ⟨cr,rfl,L,k6⟩:=an.open H;have ol:=L.one;refine aa5.z rfl (dF ?_);unfold P';obtain ⟨aa,ao,aN,da⟩:=fU h (cH t cr);obtain ⟨ad,ax,aZ,gK⟩:=aj2 (F:=Any) (size:=4) (ds:=t.enc) (cs:=cH t cr) rfl (H.ext aN) trivial;simp +contextual only [ol.1,ol.2.1,ao,da.g,ax,↓al,aK,simprocAttr];exact ⟨gK,aN.trans aZ⟩
theorem VM (s:dn) (aM:∀p ∈ s,p.2.size<=900000000) (t:an) (au:t.size<=900000000) (eP:V) (ag:List V) (h:ah) (S:dj Any h 5 (s.map lu) eP) (H:b5 Any h t.enc ag):
 c4 Tryz.prog 45 [eP,.agg ag] h fun x ab=>(∃w,x=.tuple [.agg (cH (fL s t).1 w),.bool (decide ((fL s t).2=0))]/\b5 Any ab (fL s t).1.enc (cH (fL s t).1 w)/\w.one=true/\w.cells=[w])/\Ext h ab:=by
 obtain ⟨cr,rfl,L,k6⟩:=an.open H;have ol:=L.one;have os:=S.one;refine aa6.z rfl (dF ?_);unfold P_;obtain ⟨aa,ao,aN,da⟩:=fU h (cH t cr);obtain ⟨ad,ax,aZ,fp⟩:=fU aa z4;have cx:=aN.next
 have e8:=aZ.next
 have uk:=da.lt;have kn:=fp.lt;have dh:=da.ext aZ;have bL:=aN.trans aZ;simp +contextual only [ol.1,ol.2.1,os.1,os.2.1,ao,ax,dh.g,↓al,aK,simprocAttr];refine cF (DJ s aM t au eP _ ad (S.ext bL) (H.ext bL)) ?_;rintro x aH ⟨⟨w,rfl,W,wz⟩,bJ⟩;have n3:=bJ.next
 have dw:=W.one;generalize hP:fL s t=A at *;obtain ⟨p,ρ⟩:=A;simp only at *;obtain ⟨bt,y4,dR,XY⟩:=gM aH z4 (cH p w);have n4:=dR.next
 have ln:=(fp.ext bJ).ext dR;simp +contextual only [y4,XY.g,ln.g,dw.1,dw.2.1,↓al,aK,simprocAttr];have nx:Ext h (bt.set (aj aa.next) (.bx (cH p w) 0 false)):=(((aN.trans aZ).trans bJ).trans dR).set (by omega) _;have Y':=(W.ext dR).mod ((Mod.refl (fun b=>b=aj aa.next) bt).set (fun _=>rfl) (.bx (cH p w) 0 false)) fun b q z=>by rw [show b=aj aa.next from z] at q;unfold dm at q;rw [cm] at q;omega
 exact ⟨⟨w,rfl,AT Y' wz,dw.1,dw.2.1⟩,nx⟩
def Jb:aS:=
 aS.seq (aS.seq (aS.av [⟨(some 79),.bz (.t 9),none,[9]⟩,
  ⟨(some 80),.bin (.int .eql) (.t 79) (.c (.int .i64 2)),none,[79]⟩,
  ⟨(some 81),.bz (.t 80),none,[80]⟩,
  ⟨(some 82),.bz (.t 9),(some (81,false)),[9,81]⟩,
  ⟨(some 83),.bin (.int .eql) (.t 82) (.c (.int .i64 3)),(some (81,false)),[82,81]⟩,
  ⟨(some 84),.pick (.t 81) (.c (.bool true)) (.t 83),none,[81,83]⟩])
  (aS.cond (.t 84)
   (aS.seq (aS.av [⟨(some 85),.bz (.t 7),none,[7]⟩,
     ⟨(some 6),.bz (.t 85),none,[85]⟩])
    (aS.ret))
   (aS.skip)))
 (aS.seq (aS.seq (aS.av [⟨(some 86),.bz (.t 9),none,[9]⟩,
   ⟨(some 87),.bin (.int .neq) (.t 86) (.c (.int .i64 0)),none,[86]⟩])
  (aS.cond (.t 87)
   (aS.seq (aS.av [⟨(some 88),.bz (.t 7),none,[7]⟩,
     ⟨(some 89),.bz (.t 88),none,[88]⟩,
     ⟨(some 90),.bz (.t 16),(some (89,true)),[16,89]⟩,
     ⟨(some 91),.un .not (.t 90),(some (89,true)),[90,89]⟩,
     ⟨(some 92),.pick (.t 89) (.t 91) (.c (.bool false)),none,[89,91]⟩,
     ⟨(some 6),.bz (.t 92),none,[92]⟩])
    (aS.ret))
   (aS.skip)))
 (aS.seq (aS.av [⟨(some 94),.bz (.t 8),none,[8]⟩,
   ⟨(some 95),.ff 4 (.t 3),none,[3]⟩,
   ⟨(some 96),.call 23 [(.t 94),(.t 95)],none,[94,95]⟩,
   ⟨(some 93),.bz (.t 96),none,[96]⟩,
   ⟨(some 97),.ext (.t 93) 0,none,[93]⟩,
   ⟨(some 98),.ext (.t 93) 1,none,[93]⟩,
   ⟨(some 17),.new [(.int .i64 0),(.int .i64 0),(.str []),.bU],none,[]⟩,
   ⟨none,.st 4 (.t 17) (.t 97),none,[17,97]⟩,
   ⟨(some 18),.bz (.t 98),none,[98]⟩])
 (aS.seq (aS.av [⟨(some 100),.bz (.t 8),none,[8]⟩,
   ⟨(some 101),.ff 4 (.t 4),none,[4]⟩,
   ⟨(some 102),.call 23 [(.t 100),(.t 101)],none,[100,101]⟩,
   ⟨(some 99),.bz (.t 102),none,[102]⟩,
   ⟨(some 103),.ext (.t 99) 0,none,[99]⟩,
   ⟨(some 104),.ext (.t 99) 1,none,[99]⟩,
   ⟨(some 19),.new [(.int .i64 0),(.int .i64 0),(.str []),.bU],none,[]⟩,
   ⟨none,.st 4 (.t 19) (.t 103),none,[19,103]⟩,
   ⟨(some 20),.bz (.t 104),none,[104]⟩])
 (aS.seq (aS.seq (aS.av [⟨(some 105),.bz (.t 18),none,[18]⟩,
   ⟨(some 106),.bz (.t 20),none,[20]⟩,
   ⟨(some 107),.bin (.int .neq) (.t 105) (.t 106),none,[105,106]⟩])
  (aS.cond (.t 107)
   (aS.seq (aS.av [⟨(some 6),.bz (.c (.bool false)),none,[]⟩])
    (aS.ret))
   (aS.skip)))
 (aS.seq (aS.seq (aS.av [⟨(some 108),.bz (.t 18),none,[18]⟩,
   ⟨(some 109),.bin (.int .neq) (.t 108) (.c (.int .i64 0)),none,[108]⟩])
  (aS.cond (.t 109)
   (aS.seq (aS.av [⟨(some 110),.bz (.t 7),none,[7]⟩,
     ⟨(some 111),.bz (.t 110),none,[110]⟩,
     ⟨(some 112),.bz (.t 18),(some (111,true)),[18,111]⟩,
     ⟨(some 113),.bin (.int .eql) (.t 112) (.c (.int .i64 3)),(some (111,true)),[112,111]⟩,
     ⟨(some 114),.pick (.t 111) (.t 113) (.c (.bool false)),none,[111,113]⟩,
     ⟨(some 6),.bz (.t 114),none,[114]⟩])
    (aS.ret))
   (aS.skip)))
 (aS.seq (aS.av [⟨(some 116),.bz (.t 8),none,[8]⟩,
   ⟨(some 117),.ff 4 (.t 17),none,[17]⟩,
   ⟨(some 118),.call 23 [(.t 116),(.t 117)],none,[116,117]⟩,
   ⟨(some 115),.bz (.t 118),none,[118]⟩,
   ⟨(some 119),.ext (.t 115) 0,none,[115]⟩,
   ⟨(some 120),.ext (.t 115) 1,none,[115]⟩,
   ⟨(some 21),.new [(.int .i64 0),(.int .i64 0),(.str []),.bU],none,[]⟩,
   ⟨none,.st 4 (.t 21) (.t 119),none,[21,119]⟩,
   ⟨(some 22),.bz (.t 120),none,[120]⟩])
 (aS.seq (aS.av [⟨(some 121),.bz (.t 7),none,[7]⟩,
   ⟨(some 122),.bz (.t 121),none,[121]⟩,
   ⟨(some 123),.ff 4 (.t 17),(some (122,true)),[17,122]⟩,
   ⟨(some 124),.ff 4 (.t 19),(some (122,true)),[19,122]⟩,
   ⟨(some 125),.call 28 [(.t 123),(.t 124)],(some (122,true)),[123,124,122]⟩,
   ⟨(some 126),.pick (.t 122) (.t 125) (.c (.bool false)),none,[122,125]⟩,
   ⟨(some 127),.bz (.t 126),none,[126]⟩,
   ⟨(some 128),.bz (.t 22),(some (127,true)),[22,127]⟩,
   ⟨(some 129),.bin (.int .eql) (.t 128) (.c (.int .i64 0)),(some (127,true)),[128,127]⟩,
   ⟨(some 130),.pick (.t 127) (.t 129) (.c (.bool false)),none,[127,129]⟩,
   ⟨(some 131),.bz (.t 130),none,[130]⟩,
   ⟨(some 132),.ff 4 (.t 21),(some (131,true)),[21,131]⟩,
   ⟨(some 133),.ff 4 (.t 17),(some (131,true)),[17,131]⟩,
   ⟨(some 134),.call 28 [(.t 132),(.t 133)],(some (131,true)),[132,133,131]⟩,
   ⟨(some 135),.pick (.t 131) (.t 134) (.c (.bool false)),none,[131,134]⟩,
   ⟨(some 136),.bz (.t 135),none,[135]⟩,
   ⟨(some 137),.bz (.t 16),(some (136,true)),[16,136]⟩,
   ⟨(some 138),.un .not (.t 137),(some (136,true)),[137,136]⟩,
   ⟨(some 139),.bz (.t 138),(some (136,true)),[138,136]⟩,
   ⟨(some 140),.ff 4 (.t 17),(some (139,false)),[17,139]⟩,
   ⟨(some 141),.ff 4 (.t 12),(some (139,false)),[12,139]⟩,
   ⟨(some 142),.call 27 [(.t 140),(.t 141)],(some (139,false)),[140,141,139]⟩,
   ⟨(some 143),.pick (.t 139) (.c (.bool true)) (.t 142),(some (136,true)),[139,142,136]⟩,
   ⟨(some 144),.pick (.t 136) (.t 143) (.c (.bool false)),none,[136,143]⟩,
   ⟨(some 6),.bz (.t 144),none,[144]⟩])
 (aS.ret))))))))
theorem abp:Qu=aS.seq (aS.av [⟨(some 3),.box (.t 0),none,[0]⟩,
 ⟨(some 4),.box (.t 1),none,[1]⟩,
 ⟨(some 6),.bz (.c (.bool false)),none,[]⟩])
 (aS.seq (aS.av [⟨(some 23),.call 8 [],none,[]⟩,
   ⟨(some 7),.bz (.t 23),none,[23]⟩])
 (aS.seq (aS.seq (aS.av [⟨(some 24),.ff 4 (.t 3),none,[3]⟩,
   ⟨(some 25),.ff 4 (.t 4),none,[4]⟩,
   ⟨(some 26),.i_ 2 4 [(.int .i64 0),(.int .i64 0),(.str []),.bU] [(0,4,(.t 24)),(4,4,(.t 25))],none,[24,25]⟩,
   ⟨(some 27),.call 10 [(.t 26),(.c (.int .i64 200))],none,[26]⟩,
   ⟨(some 28),.bz (.t 27),none,[27]⟩,
   ⟨(some 29),.bz (.t 2),(some (28,false)),[2,28]⟩,
   ⟨(some 30),.call 21 [(.t 29),(.c (.int .i64 200))],(some (28,false)),[29,28]⟩,
   ⟨(some 31),.pick (.t 28) (.c (.bool true)) (.t 30),none,[28,30]⟩])
  (aS.cond (.t 31)
   (aS.seq (aS.av [⟨(some 32),.bz (.t 7),none,[7]⟩,
     ⟨(some 6),.bz (.t 32),none,[32]⟩])
    (aS.ret))
   (aS.skip)))
 (aS.seq (aS.draw [⟨(some 34),.ff 4 (.t 3),none,[3]⟩,
   ⟨(some 36),.ff 4 (.t 4),none,[4]⟩,
   ⟨(some 35),.call 41 [(.t 34)],none,[34]⟩,
   ⟨(some 37),.call 41 [(.t 36)],none,[36]⟩,
   ⟨(some 38),.call 13 [(.t 35),(.t 37)],none,[35,37]⟩,
   ⟨(some 33),.bz (.t 38),none,[38]⟩,
   ⟨(some 39),.ext (.t 33) 0,none,[33]⟩,
   ⟨(some 40),.ext (.t 33) 1,none,[33]⟩,
   ⟨(some 8),.bz (.t 39),none,[39]⟩,
   ⟨(some 9),.bz (.t 40),none,[40]⟩] [(0,[2]),(1,[2,3])])
 (aS.seq (aS.draw [⟨(some 42),.ff 4 (.t 4),none,[4]⟩,
   ⟨(some 44),.ff 4 (.t 3),none,[3]⟩,
   ⟨(some 43),.call 41 [(.t 42)],none,[42]⟩,
   ⟨(some 45),.call 41 [(.t 44)],none,[44]⟩,
   ⟨(some 46),.call 13 [(.t 43),(.t 45)],none,[43,45]⟩,
   ⟨(some 41),.bz (.t 46),none,[46]⟩,
   ⟨(some 47),.ext (.t 41) 0,none,[41]⟩,
   ⟨(some 48),.ext (.t 41) 1,none,[41]⟩,
   ⟨(some 10),.bz (.t 47),none,[47]⟩,
   ⟨(some 11),.bz (.t 48),none,[48]⟩] [(0,[2]),(1,[2,3])])
 (aS.seq (aS.seq (aS.av [⟨(some 49),.bz (.t 9),none,[9]⟩,
   ⟨(some 50),.bz (.t 11),none,[11]⟩,
   ⟨(some 51),.bin (.int .neq) (.t 49) (.t 50),none,[49,50]⟩,
   ⟨(some 52),.bz (.t 51),none,[51]⟩,
   ⟨(some 53),.bz (.t 8),(some (52,false)),[8,52]⟩,
   ⟨(some 54),.bz (.t 10),(some (52,false)),[10,52]⟩,
   ⟨(some 55),.call 15 [(.t 53),(.t 54)],(some (52,false)),[53,54,52]⟩,
   ⟨(some 56),.un .not (.t 55),(some (52,false)),[55,52]⟩,
   ⟨(some 57),.pick (.t 52) (.c (.bool true)) (.t 56),none,[52,56]⟩])
  (aS.cond (.t 57)
   (aS.seq (aS.av [⟨(some 6),.bz (.c (.bool false)),none,[]⟩])
    (aS.ret))
   (aS.skip)))
 (aS.seq (aS.av [⟨(some 59),.bz (.t 2),none,[2]⟩,
   ⟨(some 60),.ff 4 (.t 3),none,[3]⟩,
   ⟨(some 61),.call 45 [(.t 59),(.t 60)],none,[59,60]⟩,
   ⟨(some 58),.bz (.t 61),none,[61]⟩,
   ⟨(some 62),.ext (.t 58) 0,none,[58]⟩,
   ⟨(some 63),.ext (.t 58) 1,none,[58]⟩,
   ⟨(some 12),.new [(.int .i64 0),(.int .i64 0),(.str []),.bU],none,[]⟩,
   ⟨none,.st 4 (.t 12) (.t 62),none,[12,62]⟩,
   ⟨(some 13),.bz (.t 63),none,[63]⟩])
 (aS.seq (aS.av [⟨(some 65),.bz (.t 2),none,[2]⟩,
   ⟨(some 66),.ff 4 (.t 4),none,[4]⟩,
   ⟨(some 67),.call 45 [(.t 65),(.t 66)],none,[65,66]⟩,
   ⟨(some 64),.bz (.t 67),none,[67]⟩,
   ⟨(some 68),.ext (.t 64) 0,none,[64]⟩,
   ⟨(some 69),.ext (.t 64) 1,none,[64]⟩,
   ⟨(some 14),.new [(.int .i64 0),(.int .i64 0),(.str []),.bU],none,[]⟩,
   ⟨none,.st 4 (.t 14) (.t 68),none,[14,68]⟩,
   ⟨(some 15),.bz (.t 69),none,[69]⟩])
 (aS.seq (aS.av [⟨(some 70),.bz (.t 13),none,[13]⟩,
   ⟨(some 71),.bz (.t 70),none,[70]⟩,
   ⟨(some 72),.bz (.t 15),(some (71,true)),[15,71]⟩,
   ⟨(some 73),.pick (.t 71) (.t 72) (.c (.bool false)),none,[71,72]⟩,
   ⟨(some 74),.bz (.t 73),none,[73]⟩,
   ⟨(some 75),.ff 4 (.t 12),(some (74,true)),[12,74]⟩,
   ⟨(some 76),.ff 4 (.t 14),(some (74,true)),[14,74]⟩,
   ⟨(some 77),.call 28 [(.t 75),(.t 76)],(some (74,true)),[75,76,74]⟩,
   ⟨(some 78),.pick (.t 74) (.t 77) (.c (.bool false)),none,[74,77]⟩,
   ⟨(some 16),.bz (.t 78),none,[78]⟩])
 Jb)))))))):=rfl
theorem LU {a b x y:an} {s s1:dn} {c xy z7:Int} {F:Bool} {sp hK ul cr:V} {k:ah} {UI b8 dP:Nat} {r:bc} {Q:db->bc->ah->Prop} (M:Ou a b s1 c) (cp:fL s a=(x,xy)) (eM:fL s b=(y,z7)) (iN:F=true->xy=0/\z7=0/\x=y)
 (aV:a.size<=900000000) (ae:b.size<=900000000) (cc:r 3=.ptr (aj UI) 0) (eJ:r 4=.ptr (aj b8) 0) (eg:r 7=.bool true) (dE:r 8=sp) (kr:r 9=.int .i64 c) (uG:r 12=.ptr (aj dP) 0) (r16:r 16=.bool F)
 (A:Has k UI (cH a ul)) (B:Has k b8 (cH b cr)) (C:Has k dP (cH x hK)) (pz:b5 Any k a.enc (cH a ul)) (pA:b5 Any k b.enc (cH b cr)) (Ob:b5 Any k x.enc (cH x hK)) (Dv:dj Any k 5 (s1.map lu) sp)
 (cO:∀(r:bc) (k:ah),r 6=.bool true->Q .ret r k):bl Tryz.prog [.c Jb] .normal r k Q:=by
 obtain ⟨aoc,Fo,H0,_⟩:=an.open pz;obtain rfl:ul=aoc:=by simpa using Fo
 obtain ⟨Nw,mh,H2,_⟩:=an.open pA;obtain rfl:cr=Nw:=by simpa using mh
 obtain ⟨ao0,agx,Ar,_⟩:=an.open Ob;obtain rfl:hK=ao0:=by simpa using agx
 have hV:=H0.one;have c7:=H2.one;have fm:=Ar.one;have hj:=Dv.one;unfold Jb;by_cases bX:c=2
 . simp +contextual only [eg,kr,eq_true bX,↓al,aK,simprocAttr];exact cO _ _ (by simp only [↓al,br,simprocAttr])
 by_cases c3:c=3
 . simp +contextual only [eg,kr,eq_false bX,eq_true c3,↓al,aK,simprocAttr];exact cO _ _ (by simp only [↓al,br,simprocAttr])
 have fit:F=true->a.check=0->b.check=0->a.sub (jF s)=x/\b.sub (jF s)=x/\x.check=0:=fun f fh fH=>by
  obtain ⟨f1,f2,f3⟩:=iN f;have one:∀{t p:an} {ρ:Int},fL s t=(p,ρ)->ρ=0->t.check=0->t.sub (jF s)=p/\p.check=0:=fun {t p ρ} he a8 au=>by
   unfold fL at he
   split at he
   . rename_i q
     split at he
     . rename_i z;cases he;have az:=CJ q.1;have nZ:=Gx (s:=s) (fun n u h=>(jt (az n u h).1).1) t (jt au).1;exact ⟨(w7 s t (jt au).1).symm,by rw [D8 nZ,if_pos z]⟩
     . cases he;cases a8
   . cases he;cases a8
  obtain ⟨b0,b1⟩:=one cp f1 fh;obtain ⟨cS,_⟩:=one eM f2 fH;exact ⟨b0,by rw [cS,f3],b1⟩
 by_cases r1:c=0
 rotate_left
 . have aC:c=290\/c=291:=by rcases M.code with z | z | z | z | z<;>omega
   obtain ⟨fh,fH,aQ⟩:=M.none aC;have aeg:F=false:=by
    cases F with
    | false=>rfl
    | true=>
      obtain ⟨b0,b1,_⟩:=fit rfl fh fH;exact (aQ ⟨jF s,b0.trans b1.symm⟩).elim
   subst aeg;simp +contextual only [eg,kr,r16,eq_false bX,eq_false c3,eq_false r1,↓al,aK,simprocAttr];exact cO _ _ (by simp only [↓al,br,simprocAttr])
 obtain ⟨fh,fH,bF,xR⟩:=M.akt r1;have aa:∀p ∈ s1,p.2.size<=900000000:=fun p af=>by have:=(jt (WY bF p af)).2.1;omega
 have er:=(jt fh).1;have cW:=(jt fH).1;have wo:a.put s1=b.put s1:=by rw [w7 s1 a er,w7 s1 b cW];exact xR.un
 have lX:fL s1 b=if (b.put s1).size<=4096/\(b.put s1).deep<=200 then (b.put s1,0) else (mz,3):=by unfold fL;rw [if_pos ⟨bF,fH⟩]
 have lY:fL s1 a=if (a.put s1).size<=4096/\(a.put s1).deep<=200 then (a.put s1,0) else (mz,3):=by unfold fL;rw [if_pos ⟨bF,fh⟩]
 have vT:fL s1 b=fL s1 a:=by rw [lX,lY,wo]
 have nZ:=Gx (s:=s1) (fun n u h=>(jt (CJ bF n u h).1).1) a er;obtain ⟨p,e,hP,vW⟩:∃p e,fL s1 a=(p,e)/\(e=3\/(e=0/\p=a.put s1/\p.check=0)):=by
  by_cases z:(a.put s1).size<=4096/\(a.put s1).deep<=200
  . exact ⟨a.put s1,0,by unfold fL;rw [if_pos ⟨bF,fh⟩,if_pos z],.inr ⟨rfl,rfl,by rw [D8 nZ,if_pos z]⟩⟩
  . exact ⟨mz,3,by unfold fL;rw [if_pos ⟨bF,fh⟩,if_neg z],.inl rfl⟩
 have AC:=DJ s1 aa a aV sp _ k Dv pz;rw [hP] at AC;simp +contextual only [cc,eJ,eg,dE,kr,uG,r16,eq_true r1,eq_false bX,eq_false c3,A.g,B.g,hV.1,hV.2.1,c7.1,c7.2.1,hj.1,hj.2.1,↓al,aK,simprocAttr];refine cF AC ?_;rintro v bT ⟨⟨w,rfl,W,wz⟩,aZ⟩;simp only at W wz ⊢;have dw:=W.one;obtain ⟨en,y3,bJ,hy⟩:=gM bT z4 (cH p w);have hl:=(A.ext aZ).ext bJ;have l2:=(B.ext aZ).ext bJ;have fF:=aZ.trans bJ;have OO:=W.ext bJ;have NV:=DJ s1 aa b ae sp _ en (Dv.ext fF) (pA.ext fF);rw [vT,hP] at NV;simp +contextual only [cc,eJ,eg,dE,kr,uG,r16,y3,hl.g,l2.g,c7.1,c7.2.1,hj.1,hj.2.1,dw.1,dw.2.1,↓al,aK,simprocAttr];refine cF NV ?_;rintro v gg ⟨⟨hv,rfl,vk,Th⟩,dR⟩;simp only at vk Th ⊢;have ux:=vk.one;obtain ⟨km,z1,e_,jS⟩:=gM gg z4 (cH p hv);have nx:=(fF.trans dR).trans e_;have OC:=(hy.ext dR).ext e_;rcases vW with he | ⟨he,af,k5⟩
 . subst he;simp +contextual only [cc,eJ,eg,dE,kr,uG,r16,z1,ux.1,ux.2.1,hj.1,hj.2.1,↓al,aK,simprocAttr];exact cO _ _ (by simp only [↓al,br,simprocAttr])
 subst he;have afM:p.sub (jF s1)=p:=by rw [af,w7 s1 a er,sub_sub];exact sub_congr a fun n _=>xR.fix n
 have tM:fL s1 p=(p,0):=by have anf:=(jt k5).1;have:p.put s1=p:=(w7 s1 p anf).trans afM;unfold fL;rw [if_pos ⟨bF,k5⟩,this,if_pos (jt k5).2]
 have aqd:=(jt k5).2.1;have Oy:=DJ s1 aa p (by omega) sp _ km (Dv.ext nx) (AT ((OO.ext dR).ext e_) wz);rw [tM] at Oy;simp +contextual only [cc,eJ,eg,dE,kr,uG,r16,z1,OC.g,jS.g,dw.1,dw.2.1,ux.1,ux.2.1,hj.1,hj.2.1,↓al,aK,simprocAttr];refine cF Oy ?_;rintro v k8 ⟨⟨Hj,rfl,Is,Ti⟩,hO⟩;simp only at Is Ti ⊢;have Gp:=Is.one;obtain ⟨lM,NF,pN,Dt⟩:=gM k8 z4 (cH p Hj);have xH:=hO.trans pN;have OD:=OC.ext xH;have qA:=jS.ext xH;have XZ:=C.ext (nx.trans xH);have HN:b5 Any lM p.enc (cH p w):=AT (((OO.ext dR).ext e_).ext xH) wz;have Yf:b5 Any lM p.enc (cH p hv):=AT ((vk.ext e_).ext xH) Th;have Yg:b5 Any lM p.enc (cH p Hj):=AT (Is.ext pN) Ti;have e2:p.same p=true:=(CE p p).2 rfl;simp +contextual only [cc,eJ,eg,dE,kr,uG,r16,NF,OD.g,qA.g,Dt.g,dw.1,dw.2.1,ux.1,ux.2.1,Gp.1,Gp.2.1,hj.1,hj.2.1,↓al,aK,simprocAttr];refine cF (He p p _ _ lM HN Yf) ?_;rw [e2];rintro v ag7 ⟨rfl,oK⟩;have OE:=OD.ext oK;have YX:=Dt.ext oK;simp +contextual only [cc,eJ,eg,dE,kr,uG,r16,OE.g,YX.g,dw.1,dw.2.1,ux.1,ux.2.1,Gp.1,Gp.2.1,↓al,aK,simprocAttr];refine cF (He p p _ _ ag7 (Yg.ext oK) (HN.ext oK)) ?_;rw [e2];rintro v ag8 ⟨rfl,qL⟩;have OF:=OE.ext qL;have NW:=(XZ.ext oK).ext qL;cases F with
 | false=>
   simp +contextual only [cc,eJ,eg,dE,kr,uG,r16,OF.g,NW.g,dw.1,dw.2.1,fm.1,fm.2.1,↓al,aK,simprocAttr];exact cO _ _ (by simp only [↓al,br,simprocAttr])
 | true=>
   obtain ⟨f1,f2,f3⟩:=fit rfl fh fH;have afu:B_ p x=true:=(akp p x).2 ⟨k5,f3,jF s,by rw [af,w7 s1 a er,sub_sub,<-f1];exact sub_congr a fun n _=>xR.gen (jF s) (f1.trans f2.symm) n⟩;simp +contextual only [cc,eJ,eg,dE,kr,uG,r16,OF.g,NW.g,dw.1,dw.2.1,fm.1,fm.2.1,↓al,aK,simprocAttr];refine cF (akq p x (by omega) (by have:=(jt f3).2.1;omega) _ _ ag8 ((HN.ext oK).ext qL) (Ob.ext (((nx.trans xH).trans oK).trans qL))) ?_;rw [afu];rintro v aqr ⟨rfl,A0⟩;simp +contextual only [↓al,aK,simprocAttr];exact cO _ _ (by simp only [↓al,br,simprocAttr])
theorem aku (a b:an) (s:dn) (vT:a.size+b.size<=1048576) (aQ:s.length<=1048576) (aM:∀p ∈ s,p.2.size<=1048576) (eP:V) (us ag:List V) (h:ah) (pz:b5 Any h a.enc us) (pA:b5 Any h b.enc ag) (S:dj Any h 5 (s.map lu) eP):
 c4 Tryz.prog 9 [.agg us,.agg ag,eP] h fun x _=>x=.bool true:=by
 obtain ⟨ul,rfl,H0,aqh⟩:=an.open pz;obtain ⟨cr,rfl,H2,af0⟩:=an.open pA;have hV:=H0.one;have c7:=H2.one;have os:=S.one;refine abo.z rfl (dF ?_);rw [abp];obtain ⟨aa,ao,aN,da⟩:=fU h (cH a ul);obtain ⟨ad,ax,aZ,fp⟩:=fU aa (cH b cr);have dh:=da.ext aZ;have bL:=aN.trans aZ;simp +contextual only [hV.1,hV.2.1,c7.1,c7.2.1,os.1,os.2.1,ao,ax,↓al,aK,simprocAttr];refine cF (ajq ad) ?_;rintro x a8 ⟨rfl,rfl⟩;obtain ⟨aH,aL,bJ,C9⟩:=aj3 (F:=Any) (size:=4) (ds:=a.enc) (oJ:=b.enc) (cs:=cH a ul) (nL:=cH b cr) rfl rfl (pz.ext bL) (pA.ext bL) trivial;have MA:a8.new (.bx [.int .i64 a.k,.int .i64 a.n,.str a.s,ul,.int .i64 b.k,.int .i64 b.n,.str b.s,cr] 0 false)=aH:=aL;have fF:=bL.trans bJ;have hl:=dh.ext bJ;have l2:=fp.ext bJ;simp +contextual only [dh.g,fp.g,MA,hV.1,hV.2.1,c7.1,c7.2.1,os.1,os.2.1,↓al,aK,simprocAttr];refine cF (ajv [a,b] (by simp only [cN];omega) 200 (by omega) _ aH C9) ?_;rintro x EK ⟨⟨cn,rfl,h7⟩,rfl⟩;cases cn with
 | true=>simp +contextual only [↓al,aK,simprocAttr]
 | false=>
 have af:=h7 rfl;simp only [cN] at af;simp +contextual only [os.1,os.2.1,↓al,aK,simprocAttr];refine cF (akd s aQ 200 eP EK (S.ext fF)) ?_;rintro x bt ⟨⟨ch,rfl⟩,dR⟩;cases ch with
 | true=>simp +contextual only [↓al,aK,simprocAttr]
 | false=>
 have rG:=fF.trans dR;have rE:=hl.ext dR;have ln:=l2.ext dR;simp +contextual only [rE.g,ln.g,hV.1,hV.2.1,c7.1,c7.2.1,os.1,os.2.1,↓al,aK,simprocAttr];refine cF (Gg a _ bt (pz.ext rG)) ?_;rintro bq cI ⟨Dy,e_⟩;have nx:=rG.trans e_;have u1:=rE.ext e_;have xE:=ln.ext e_;have dk:=Dy.one;simp +contextual only [rE.g,ln.g,u1.g,xE.g,hV.1,hV.2.1,c7.1,c7.2.1,os.1,os.2.1,dk.1,dk.2.1,↓al,aK,simprocAttr];refine cF (Gg b _ cI (pA.ext nx)) ?_;rintro dx cA ⟨nH,hO⟩;have X6:=nx.trans hO;have Hq:=u1.ext hO;have Hu:=xE.ext hO;have dH:=nH.one;simp +contextual only [rE.g,ln.g,u1.g,xE.g,Hq.g,Hu.g,hV.1,hV.2.1,c7.1,c7.2.1,os.1,os.2.1,dk.1,dk.2.1,dH.1,dH.2.1,↓al,aK,simprocAttr];refine cF (Xs [a] [b] (by simp only [cN];omega) (by simp only [cN];omega) bq dx cA (Dy.ext hO) nH) ?_;rintro x iM ⟨⟨sp,rfl,YG⟩,pN⟩;have OK:dj Any iM 5 ((jO [a] [b]).1.map lu) sp:=YG.fo fun _ _=>trivial;have hj:=OK.one;have tf:=X6.trans pN;have u2:=Hq.ext pN;have rF:=Hu.ext pN;simp +contextual only [rE.g,ln.g,u1.g,xE.g,Hq.g,Hu.g,u2.g,rF.g,hV.1,hV.2.1,c7.1,c7.2.1,os.1,os.2.1,dk.1,dk.2.1,dH.1,dH.2.1,hj.1,hj.2.1,↓al,aK,simprocAttr];refine cF (Gg b _ iM (pA.ext tf)) ?_;rintro nr k1 ⟨OQ,oK⟩;have u5:=tf.trans oK;have CY:=u2.ext oK;have C3:=rF.ext oK;have wX:=OQ.one;simp +contextual only [u2.g,rF.g,CY.g,C3.g,hV.1,hV.2.1,c7.1,c7.2.1,os.1,os.2.1,hj.1,hj.2.1,wX.1,wX.2.1,↓al,aK,simprocAttr];refine cF (Gg a _ k1 (pz.ext u5)) ?_;rintro ns yu ⟨AD,qL⟩;have rH:=u5.trans qL;have Hr:=CY.ext qL;have td:=C3.ext qL;have Gd:=AD.one;simp +contextual only [u2.g,rF.g,CY.g,C3.g,Hr.g,td.g,hV.1,hV.2.1,c7.1,c7.2.1,os.1,os.2.1,hj.1,hj.2.1,wX.1,wX.2.1,Gd.1,Gd.2.1,↓al,aK,simprocAttr];refine cF (Xs [b] [a] (by simp only [cN];omega) (by simp only [cN];omega) nr ns yu (OQ.ext qL) AD) ?_;rw [<-aol a b];rintro x R4 ⟨⟨WO,rfl,YH⟩,A0⟩;have OJ:=((OK.ext oK).ext qL).ext A0;have OL:dj Any R4 5 ((jO [a] [b]).1.map lu) WO:=YH.fo fun _ _=>trivial;have Vb:=OL.one;have X4:=rH.trans A0;have NM:=Hr.ext A0;have NS:=td.ext A0;have M:=akv a b;generalize apY:jO [a] [b]=U at *;obtain ⟨s1,c⟩:=U;simp only at *;simp +contextual only [u2.g,rF.g,CY.g,C3.g,Hr.g,td.g,NM.g,NS.g,hV.1,hV.2.1,c7.1,c7.2.1,os.1,os.2.1,hj.1,hj.2.1,Vb.1,Vb.2.1,wX.1,wX.2.1,Gd.1,Gd.2.1,↓al,aK,simprocAttr];refine cF (ani s1 sp WO R4 OJ OL) ?_;rintro x ad1 ⟨rfl,Ei⟩;have HC:=X4.trans Ei;have NN:=NM.ext Ei;have NT:=NS.ext Ei;have hp:∀p ∈ s,p.2.size<=900000000:=fun p af=>by have:=aM p af;omega
 simp +contextual only [NN.g,NT.g,hV.1,hV.2.1,c7.1,c7.2.1,os.1,os.2.1,hj.1,hj.2.1,↓al,aK,simprocAttr];refine cF (VM s hp a (by omega) eP _ ad1 (S.ext HC) (pz.ext HC)) ?_;rintro x ad2 ⟨⟨hK,rfl,Zb,Ho,Hp⟩,fv⟩;generalize cp:fL s a=Ie at *;obtain ⟨x,xy⟩:=Ie;simp only at *;obtain ⟨ad3,y13,A1,XX⟩:=gM ad2 z4 (cH x hK);have HD:=(HC.trans fv).trans A1;have NO:=(NN.ext fv).ext A1;have NU:=(NT.ext fv).ext A1;have Zc:=Zb.ext A1;simp +contextual only [y13,NO.g,NU.g,Ho,Hp,hV.1,hV.2.1,c7.1,c7.2.1,os.1,os.2.1,hj.1,hj.2.1,↓al,aK,simprocAttr];refine cF (VM s hp b (by omega) eP _ ad3 (S.ext HD) (pA.ext HD)) ?_;rintro z ad4 ⟨⟨ao5,rfl,Zg,NG,NH⟩,pM⟩;generalize eM:fL s b=YO at *;obtain ⟨y,z7⟩:=YO;simp only at *;obtain ⟨ad5,ND,vB,HA⟩:=gM ad4 z4 (cH y ao5);have xG:=(HD.trans pM).trans vB;have xA:=(NO.ext pM).ext vB;have xD:=(NU.ext pM).ext vB;have xF:=(XX.ext pM).ext vB;have Dz:=(Zc.ext pM).ext vB;have Zh:=Zg.ext vB;have Ip:=((((OJ.ext Ei).ext fv).ext A1).ext pM).ext vB;by_cases f1:xy=0
 . by_cases f2:z7=0
   . have d1:decide (xy=0)=true:=decide_eq_true f1;have d2:decide (z7=0)=true:=decide_eq_true f2;simp +contextual only [ND,d1,d2,eq_true f1,eq_true f2,xA.g,xD.g,xF.g,HA.g,Ho,Hp,NG,NH,hj.1,hj.2.1,↓al,aK,simprocAttr];refine cF (He x y _ _ ad5 Dz Zh) ?_;rintro z apV ⟨rfl,vC⟩;simp +contextual only [↓al,aK,simprocAttr];refine LU (F:=x.same y) (x:=x) (y:=y) (hK:=hK) M cp eM (fun q=>⟨f1,f2,(CE x y).1 q⟩) (by omega) (by omega) ?_ ?_ ?_ ?_ ?_ ?_ ?_ (xA.ext vC) (xD.ext vC) (xF.ext vC) (pz.ext (xG.trans vC)) (pA.ext (xG.trans vC)) (Dz.ext vC) (Ip.ext vC) ?_
     . simp only [↓al,br,simprocAttr]
     . simp only [↓al,br,simprocAttr]
     . simp only [↓al,br,simprocAttr]
     . simp only [↓al,br,simprocAttr]
     . simp only [↓al,br,simprocAttr]
     . simp only [↓al,br,simprocAttr]
     . simp only [↓al,br,simprocAttr]
     . intro r k e;simp only [e,↓al,br,simprocAttr];exact trivial
   . have d1:decide (xy=0)=true:=decide_eq_true f1;have d2:decide (z7=0)=false:=decide_eq_false f2;simp +contextual only [ND,d1,d2,eq_true f1,eq_false f2,xA.g,xD.g,xF.g,HA.g,Ho,Hp,NG,NH,hj.1,hj.2.1,↓al,aK,simprocAttr];refine LU (F:=false) (x:=x) (y:=y) (hK:=hK) M cp eM (fun q=>by cases q) (by omega) (by omega) ?_ ?_ ?_ ?_ ?_ ?_ ?_ xA xD xF (pz.ext xG) (pA.ext xG) Dz Ip ?_
     . simp only [↓al,br,simprocAttr]
     . simp only [↓al,br,simprocAttr]
     . simp only [↓al,br,simprocAttr]
     . simp only [↓al,br,simprocAttr]
     . simp only [↓al,br,simprocAttr]
     . simp only [↓al,br,simprocAttr]
     . simp only [↓al,br,simprocAttr]
     . intro r k e;simp only [e,↓al,br,simprocAttr];exact trivial
 . have d1:decide (xy=0)=false:=decide_eq_false f1;simp +contextual only [ND,d1,eq_false f1,xA.g,xD.g,xF.g,HA.g,Ho,Hp,NG,NH,hj.1,hj.2.1,↓al,aK,simprocAttr];refine LU (F:=false) (x:=x) (y:=y) (hK:=hK) M cp eM (fun q=>by cases q) (by omega) (by omega) ?_ ?_ ?_ ?_ ?_ ?_ ?_ xA xD xF (pz.ext xG) (pA.ext xG) Dz Ip ?_
   . simp only [↓al,br,simprocAttr]
   . simp only [↓al,br,simprocAttr]
   . simp only [↓al,br,simprocAttr]
   . simp only [↓al,br,simprocAttr]
   . simp only [↓al,br,simprocAttr]
   . simp only [↓al,br,simprocAttr]
   . simp only [↓al,br,simprocAttr]
   . intro r k e;simp only [e,↓al,br,simprocAttr];exact trivial
end
end Go.Proofs.YthemdhlheglhoaaGreatDoor
