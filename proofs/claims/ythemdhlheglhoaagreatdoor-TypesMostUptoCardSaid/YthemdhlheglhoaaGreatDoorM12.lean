/- The chapter's functions, walked by the abstract machine: plain lemmas, no condition. Printed by a program from longer texts: names made short. -/
import Derived.Test.YthemdhlheglhoaaGreatDoorM10
import Derived.Test.YthemdhlheglhoaaGreatDoorM11
import Derived.Test.YthemdhlheglhoaaGreatDoorM8
set_option linter.unusedSectionVars false
set_option linter.unusedSimpArgs false
set_option linter.unusedVariables false
set_option maxHeartbeats 64000000
noncomputable section
namespace Go.Proofs.YthemdhlheglhoaaGreatDoor
section
open Go aY
abbrev dn:=List (Int × an)
section
variable (s:dn)
mutual
def an.put:an->an
 | .mk k n x l=>match (if k=1 then ca n s else none) with
   | some u=>u
   | none=>.mk k n x (dY l)
def dY:List an->List an
 | []=>[]
 | t::l=>t.put::dY l
end
mutual
def an.ht:an->Int->an × Int
 | .mk k n x l,r=>match (if k=1 then ca n s else none) with
   | some u=>(u,r-u.size)
   | none=>(.mk k n x (gH l (r-1)).1,(gH l (r-1)).2)
def gH:List an->Int->List an × Int
 | [],r=>([],r)
 | t::l,r=>if r<0 then ([],r) else ((t.ht r).1::(gH l (t.ht r).2).1,(gH l (t.ht r).2).2)
end
theorem al7 (t:an) (r:Int):t.ht s r=match (if t.k=1 then ca t.n s else none) with
 | some u=>(u,r-u.size)
 | none=>(.mk t.k t.n t.s (gH s t.l (r-1)).1,(gH s t.l (r-1)).2):=by
 cases t;rw [an.ht];rfl
theorem VY:∀l:List an,dY s l=l.map (an.put s)
 | []=>rfl
 | t::l=>by rw [dY,List.map_cons,VY l]
mutual
theorem Mx:∀(t:an) (r:Int),0<=r->((t.put s).size<=r->t.ht s r=(t.put s,r - (t.put s).size))/\(r < (t.put s).size->(t.ht s r).2<0)
 | .mk k n x l,r,a8=>by
   rw [an.put,an.ht];cases (if k=1 then ca n s else none) with
   | some u=>exact ⟨fun _=>rfl,fun h=>by simp only at h ⊢;omega⟩
   | none=>
     simp only;rw [an.size];by_cases aa:0<=r-1
     . obtain ⟨a,b⟩:=VT l (r-1) aa;refine ⟨fun h=>?_,fun h=>b (by omega)⟩;rw [a (by omega)];simp only [Prod.mk.injEq,true_and];omega
     . have af:=Cy l (r-1) (by omega);refine ⟨fun h=>by omega,fun h=>by rw [af];simp only;omega⟩
theorem VT:∀(l:List an) (r:Int),0<=r->((cN (dY s l):Int)<=r->gH s l r=(dY s l,r-cN (dY s l)))/\(r<cN (dY s l)->(gH s l r).2<0)
 | [],r,a8=>by rw [dY,gH,cN];exact ⟨fun _=>by simp,fun h=>by omega⟩
 | t::l,r,a8=>by
   rw [dY,gH,cN,if_neg (by omega)];obtain ⟨a,b⟩:=Mx t r a8;by_cases aa:((t.put s).size:Int)<=r
   . rw [a aa];obtain ⟨c,d⟩:=VT l (r - (t.put s).size) (by omega);refine ⟨fun h=>?_,fun h=>d (by omega)⟩;rw [c (by omega)];simp only [Prod.mk.injEq,true_and];omega
   . have:=b (by omega);refine ⟨fun h=>by omega,fun h=>?_⟩;simp only;rw [Cy l _ this];exact this
theorem Cy:∀(l:List an) (r:Int),r<0->gH s l r=([],r)
 | [],r,_=>by rw [gH]
 | t::l,r,h=>by rw [gH,if_pos h]
end
mutual
theorem VQ (M:Nat) (c6:1<=M) (aM:∀n u,ca n s=some u->u.size<=M):∀(t:an) (r:Int),0<=r->-(M:Int)<=(t.ht s r).2/\(t.ht s r).2<=r
 | .mk k n x l,r,a8=>by
   rw [an.ht];cases aA:(if k=1 then ca n s else none) with
   | some u=>
     have:u.size<=M:=by
      by_cases c:k=1
      . rw [if_pos c] at aA;exact aM n u aA
      . rw [if_neg c] at aA;cases aA
     simp only;omega
   | none=>
     simp only;by_cases aa:0<=r-1
     . have:=VS M c6 aM l (r-1) aa;omega
     . rw [Cy s l _ (by omega)];simp only;omega
theorem VS (M:Nat) (c6:1<=M) (aM:∀n u,ca n s=some u->u.size<=M):∀(l:List an) (r:Int),0<=r->-(M:Int)<=(gH s l r).2/\(gH s l r).2<=r
 | [],r,a8=>by rw [gH];simp only;omega
 | t::l,r,a8=>by
   rw [gH,if_neg (by omega)];have aa:=VQ M c6 aM t r a8;simp only;by_cases ad:0<=(t.ht s r).2
   . have:=VS M c6 aM l _ ad;omega
   . rw [Cy s l _ (by omega)];simp only;omega
end
theorem VR:∀(l:List an) (r:Int),(gH s l r).1.length<=l.length
 | [],r=>by rw [gH];simp
 | t::l,r=>by
   rw [gH]
   split
   . simp
   . have:=VR l (t.ht s r).2;simp only [List.length_cons];omega
end
def oq (last:Int):dn->Bool
 | []=>true
 | (n,t)::s=>decide (last<n)&&decide (n<=1048575)&&decide (t.check=0)&&oq n s
def G4 (s:dn):Bool:=oq (-1) s
theorem jt {t:an} (h:t.check=0):t.shape=true/\t.size<=4096/\t.deep<=200:=by
 unfold an.check at h
 split at h
 . rename_i aa
   split at h
   . rename_i ad;exact ⟨aa,ad⟩
   . cases h
 . cases h
theorem D8 {t:an} (h:t.shape=true):t.check=if t.size<=4096/\t.deep<=200 then 0 else 3:=by unfold an.check;rw [if_pos h]
theorem CJ {last:Int}:∀{s:dn},oq last s=true->∀n u,ca n s=some u->u.check=0/\0<=n-last
 | [],_,n,u,h=>by cases h
 | (m,t)::s,aM,n,u,h=>by
   rw [oq] at aM;simp only [Bool.and_eq_true,decide_eq_true_eq] at aM;simp only [ca] at h
   split at h
   . rename_i e;cases h;subst e;exact ⟨aM.1.2,by omega⟩
   . have:=CJ aM.2 n u h;exact ⟨this.1,by omega⟩
def mz:an:=.mk 0 0 [] []
def fL (s:dn) (t:an):an × Int:=
 if G4 s=true/\t.check=0 then (if (t.put s).size<=4096/\(t.put s).deep<=200 then (t.put s,0) else (mz,3)) else (mz,2)
section
variable {s:dn}
mutual
theorem Gx (aM:∀n u,ca n s=some u->u.shape=true):∀t:an,t.shape=true->(t.put s).shape=true
 | .mk k n x l,h=>by
   rw [an.put];cases aA:(if k=1 then ca n s else none) with
   | some u=>
     by_cases c:k=1
     . rw [if_pos c] at aA;exact aM n u aA
     . rw [if_neg c] at aA;cases aA
   | none=>
     simp only;rw [an.shape,Bool.and_eq_true] at h ⊢;refine ⟨?_,V0 aM l h.2⟩;have aa:=h.1;unfold an.own at aa ⊢;simp only [an.k,an.n,an.s,an.l] at aa ⊢;simp only [VY,List.length_map];exact aa
theorem V0 (aM:∀n u,ca n s=some u->u.shape=true):∀l:List an,ib l=true->ib (dY s l)=true
 | [],_=>by rw [dY,ib]
 | t::l,h=>by rw [ib,Bool.and_eq_true] at h;rw [dY,ib,Gx aM t h.1,V0 aM l h.2];rfl
end
end
theorem ZM {s:dn} {t:an} (aM:G4 s=true) (au:t.check=0):
 fL s t=if (t.ht s 4096).2<0 then (mz,3) else if (t.ht s 4096).1.check=0 then ((t.ht s 4096).1,0) else (mz,3):=by
 have az:=CJ aM;have nZ:=Gx (s:=s) (fun n u h=>(jt (az n u h).1).1) t (jt au).1;unfold fL;rw [if_pos ⟨aM,au⟩];obtain ⟨a,b⟩:=Mx s t 4096 (by omega);by_cases c:(t.put s).size<=4096
 . have e:=a (by omega);rw [e];simp only;have oW:¬((4096:Int) - (t.put s).size<0):=by omega
   rw [D8 nZ];by_cases d:(t.put s).deep<=200
   . simp [c,d,oW]
   . simp [c,d,oW]
 . have:=b (by omega);simp [c,this]
structure dy where
 cd:Bool
 n:Int
 s:List UInt8
 kids:List Nat
structure bm where
 nodes:List dy
 vars:List (Int × Nat)
def bm.N (g:bm):Nat:=g.nodes.length
def bm.var (g:bm) (n:Int):bm × Nat:=
 match ca n g.vars with
 | some i=>(g,i)
 | none=>(⟨g.nodes++[⟨false,n,[],[]⟩],g.vars++[(n,g.nodes.length)]⟩,g.nodes.length)
def bm.put (g:bm) (s:List UInt8) (aI:List Nat):bm:=⟨g.nodes++[⟨true,0,s,aI⟩],g.vars⟩
mutual
def an.add:an->bm->bm × Nat
 | .mk k n s l,g=>if k=1 then g.var n else ((cf l g).1.put s (cf l g).2,(cf l g).1.N)
def cf:List an->bm->bm × List Nat
 | [],g=>(g,[])
 | t::l,g=>((cf l (t.add g).1).1,(t.add g).2::(cf l (t.add g).1).2)
end
theorem add_eq (t:an) (g:bm):t.add g=if t.k=1 then g.var t.n else ((cf t.l g).1.put t.s (cf t.l g).2,(cf t.l g).1.N):=by cases t;rw [an.add];rfl
theorem O0:∀(l m:List an) (g:bm),cf (l++m) g=((cf m (cf l g).1).1,(cf l g).2++(cf m (cf l g).1).2)
 | [],m,g=>by simp [cf]
 | t::l,m,g=>by rw [List.cons_append,cf,O0 l m];simp [cf]
theorem DE:∀(l:List an) (g:bm),(cf l g).2.length=l.length
 | [],g=>rfl
 | t::l,g=>by rw [cf,List.length_cons,List.length_cons,DE l]
def bm.le (g cQ:bm):Prop:=(∃m,cQ.nodes=g.nodes++m)/\∃m,cQ.vars=g.vars++m
theorem bm.le.refl (g:bm):g.le g:=⟨⟨[],by simp⟩,⟨[],by simp⟩⟩
theorem bm.le.trans {a b c:bm} (h:a.le b) (k:b.le c):a.le c:=by obtain ⟨⟨m,aa⟩,n,ad⟩:=h;obtain ⟨⟨p,bK⟩,q,bT⟩:=k;exact ⟨⟨m++p,by rw [bK,aa,List.append_assoc]⟩,n++q,by rw [bT,ad,List.append_assoc]⟩
theorem bm.le.get {g cQ:bm} (h:g.le cQ) {i:Nat} {aJ:dy} (e:g.nodes[i]? =some aJ):cQ.nodes[i]? =some aJ:=by obtain ⟨⟨m,aa⟩,_⟩:=h;rw [aa,List.getElem?_append_left (List.getElem?_eq_some_iff.1 e).1];exact e
theorem bm.le.bP {g cQ:bm} (h:g.le cQ) {i:Nat} (aq:i<g.N):cQ.nodes[i]? =g.nodes[i]? :=by obtain ⟨⟨m,aa⟩,_⟩:=h;rw [aa,List.getElem?_append_left aq]
theorem bm.le.n {g cQ:bm} (h:g.le cQ):g.N<=cQ.N:=by obtain ⟨⟨m,aa⟩,_⟩:=h;unfold bm.N;rw [aa,List.length_append];omega
theorem B5 {α:Type} (s:Int):∀(k m:List (Int × α)),ca s (k++m)=(match ca s k with | some a=>some a | none=>ca s m)
 | [],m=>rfl
 | (n,a)::k,m=>by
   simp only [List.cons_append,ca]
   split
   . rfl
   . exact B5 s k m
theorem zm {α:Type} {s:Int} {a:α}:∀{k:List (Int × α)},ca s k=some a->(s,a) ∈ k
 | [],h=>by cases h
 | (n,b)::k,h=>by
   simp only [ca] at h
   split at h
   . rename_i e;cases h;subst e;exact List.mem_cons_self
   . exact List.mem_cons_of_mem _ (zm h)
theorem Uf {α:Type} {s:Int}:∀{k:List (Int × α)},ca s k=none->s ∉ k.map Prod.fst
 | [],_,h=>by simp at h
 | (n,b)::k,h,q=>by
   simp only [ca] at h
   split at h
   . cases h
   . rename_i e;rcases List.mem_cons.1 q with q | q
     . exact e q
     . exact Uf h q
theorem sG {α:Type} {s:Int} {a:α}:∀{k:List (Int × α)},(k.map Prod.fst).Nodup->(s,a) ∈ k->ca s k=some a
 | [],_,h=>by cases h
 | (n,b)::k,aQ,h=>by
   simp only [List.map_cons,List.nodup_cons] at aQ;simp only [ca];rcases List.mem_cons.1 h with h | h
   . cases h;rw [if_pos rfl]
   . rw [if_neg (fun e=>aQ.1 (by rw [<-e];exact List.mem_map_of_mem h))];exact sG aQ.2 h
structure bm.dz (g:bm):Prop where
 dO:∀(i:Nat) (aJ:dy),g.nodes[i]? =some aJ->∀x ∈ aJ.kids,x<i
 cd:∀(i:Nat) (aJ:dy),g.nodes[i]? =some aJ->aJ.cd=true->aJ.n=0
 var:∀(i:Nat) (aJ:dy),g.nodes[i]? =some aJ->aJ.cd=false->aJ.kids=[]/\aJ.s=[]/\0<=aJ.n/\ca aJ.n g.vars=some i
 e7:∀(n:Int) (i:Nat),ca n g.vars=some i->∃aJ,g.nodes[i]? =some aJ/\aJ.cd=false/\aJ.n=n
 keys:(g.vars.map Prod.fst).Nodup
 aq:∀p ∈ g.vars,p.1<=1048575
theorem bm.dz.empty:bm.dz ⟨[],[]⟩:=⟨fun i aJ h=>by simp at h,fun i aJ h=>by simp at h,fun i aJ h=>by simp at h,fun n i h=>(by simp [ca] at h),by simp,fun p af=>(by cases af)⟩
theorem bm.dz.sD {g:bm} (W:g.dz) {i:Nat} {aJ:dy} (h:g.nodes[i]? =some aJ) {x:Nat} (ai:x ∈ aJ.kids):x<g.N:=by have:=W.dO i aJ h x ai;have:=(List.getElem?_eq_some_iff.1 h).1;unfold bm.N;omega
theorem mJ {α:Type} {l:List α} {x y:α} {i:Nat} (h:(l++[x])[i]? =some y):l[i]? =some y\/i=l.length/\y=x:=by
 by_cases c:i<l.length
 . rw [List.getElem?_append_left c] at h;exact .inl h
 . rw [List.getElem?_append_right (by omega)] at h;have:i-l.length=0:=by
    have:=(List.getElem?_eq_some_iff.1 h).1;simp only [List.length_singleton] at this;omega
   rw [this] at h;simp only [List.getElem?_cons_zero,Option.some.injEq] at h;exact .inr ⟨by omega,h.symm⟩
theorem Xy {g:bm} (W:g.dz) {n:Int} (aQ:0<=n) (pZ:n<=1048575):g.le (g.var n).1/\(g.var n).1.dz/\(g.var n).2 < (g.var n).1.N/\(g.var n).1.N<=g.N+1:=by
 unfold bm.var;cases h:ca n g.vars with
 | some i=>
   obtain ⟨aJ,aa,_⟩:=W.e7 n i h;exact ⟨bm.le.refl g,W,(List.getElem?_eq_some_iff.1 aa).1,Nat.le_succ _⟩
 | none=>
   refine ⟨⟨⟨_,rfl⟩,_,rfl⟩,⟨?_,?_,?_,?_,?_,?_⟩,?_,?_⟩
   . intro i aJ e x ai;rcases mJ e with e | ⟨e,rfl⟩
     . exact W.dO i aJ e x ai
     . simp at ai
   . intro i aJ e c;rcases mJ e with e | ⟨e,rfl⟩
     . exact W.cd i aJ e c
     . cases c
   . intro i aJ e c;rcases mJ e with e | ⟨cz,rfl⟩
     . obtain ⟨a,b,bI,d⟩:=W.var i aJ e c;exact ⟨a,b,bI,by rw [B5,d]⟩
     . refine ⟨rfl,rfl,aQ,?_⟩;rw [B5,h];simp only [ca,if_true];rw [cz]
   . intro m i e;rw [B5] at e;cases q:ca m g.vars with
     | some j=>
       rw [q] at e;simp only [Option.some.injEq] at e;subst e;obtain ⟨aJ,a,b⟩:=W.e7 m j q;exact ⟨aJ,by rw [List.getElem?_append_left (List.getElem?_eq_some_iff.1 a).1];exact a,b⟩
     | none=>
       rw [q] at e;simp only [ca] at e
       split at e
       . rename_i em;cases e;exact ⟨_,by rw [List.getElem?_append_right (Nat.le_refl _),Nat.sub_self];rfl,rfl,em.symm⟩
       . cases e
   . rw [List.map_append,List.nodup_append];refine ⟨W.keys,by simp,fun a aV b ae e=>?_⟩;simp only [List.map_cons,List.map_nil,List.mem_singleton] at ae;subst ae;subst e;exact Uf h aV
   . intro p af;rcases List.mem_append.1 af with af | af
     . exact W.aq p af
     . rw [List.mem_singleton] at af;subst af;exact pZ
   . show g.nodes.length < (g.nodes++[_]).length;simp
   . show (g.nodes++[_]).length<=g.nodes.length+1;simp
theorem My {g:bm} (W:g.dz) (s:List UInt8) {aI:List Nat} (aD:∀x ∈ aI,x<g.N):g.le (g.put s aI)/\(g.put s aI).dz/\(g.put s aI).N=g.N+1:=by
 have az:g.le (g.put s aI):=⟨⟨_,rfl⟩,[],by simp [bm.put]⟩;refine ⟨az,⟨?_,?_,?_,?_,W.keys,W.aq⟩,by simp [bm.put,bm.N]⟩
 . intro i aJ e x ai;rcases mJ e with e | ⟨e,rfl⟩
   . exact W.dO i aJ e x ai
   . have:=aD x ai;unfold bm.N at this;omega
 . intro i aJ e c;rcases mJ e with e | ⟨e,rfl⟩
   . exact W.cd i aJ e c
   . rfl
 . intro i aJ e c;rcases mJ e with e | ⟨e,rfl⟩
   . exact W.var i aJ e c
   . cases c
 . intro n i e;obtain ⟨aJ,a,b⟩:=W.e7 n i e;exact ⟨aJ,az.get a,b⟩
mutual
def an.lg:an->Bool
 | .mk k n s l=>(decide (k≠1)||(decide (0<=n)&&decide (n<=1048575)))&&lh l
def lh:List an->Bool
 | []=>true
 | t::l=>t.lg&&lh l
end
theorem aou (t:an):t.lg=((decide (t.k≠1)||(decide (0<=t.n)&&decide (t.n<=1048575)))&&lh t.l):=by cases t;rw [an.lg];rfl
theorem XB:∀l m:List an,lh (l++m)=(lh l&&lh m)
 | [],m=>by simp [lh]
 | t::l,m=>by rw [List.cons_append,lh,lh,XB l m,Bool.and_assoc]
theorem XC {t:an}:∀{l:List an},lh l=true->t ∈ l->t.lg=true
 | [],_,h=>by cases h
 | u::l,h,m=>by
   simp only [lh,Bool.and_eq_true] at h;rcases List.mem_cons.1 m with rfl | m
   . exact h.1
   . exact XC h.2 m
mutual
theorem mv:∀t:an,t.shape=true->t.lg=true
 | .mk k n s l,h=>by
   rw [an.shape,Bool.and_eq_true] at h;rw [an.lg,xd l h.2,Bool.and_true,Bool.or_eq_true,Bool.and_eq_true,decide_eq_true_eq,decide_eq_true_eq,decide_eq_true_eq];by_cases c:k=1
   . refine .inr ?_;have aa:=h.1;unfold an.own at aa;rw [if_pos (show (an.mk k n s l).k=1 from c)] at aa;simp only [Bool.and_eq_true,decide_eq_true_eq] at aa;exact aa.1.1
   . exact .inl c
theorem xd:∀l:List an,ib l=true->lh l=true
 | [],_=>rfl
 | t::l,h=>by rw [ib,Bool.and_eq_true] at h;rw [lh,mv t h.1,xd l h.2];rfl
end
mutual
theorem kv:∀(t:an) (g:bm),t.lg=true->g.dz->g.le (t.add g).1/\(t.add g).1.dz/\(t.add g).2 < (t.add g).1.N/\(t.add g).1.N<=g.N+t.size
 | .mk k n s l,g,h,W=>by
   rw [an.lg,Bool.and_eq_true] at h;rw [an.add,an.size];by_cases c:k=1
   . rw [if_pos c];have aQ:0<=n/\n<=1048575:=by
      have:=h.1;simp only [c,ne_eq,not_true_eq_false,decide_false,Bool.false_or,Bool.and_eq_true,decide_eq_true_eq] at this;exact this
     obtain ⟨a,b,d,e⟩:=Xy W (n:=n) aQ.1 aQ.2;exact ⟨a,b,d,by omega⟩
   . rw [if_neg c];obtain ⟨a,b,d,e⟩:=tx l g h.2 W;obtain ⟨p,q,r⟩:=My b s d;exact ⟨a.trans p,q,by simp only;omega,by simp only;omega⟩
theorem tx:∀(l:List an) (g:bm),lh l=true->g.dz->g.le (cf l g).1/\(cf l g).1.dz/\(∀x ∈ (cf l g).2,x < (cf l g).1.N)/\(cf l g).1.N<=g.N+cN l
 | [],g,h,W=>⟨bm.le.refl g,W,fun x ai=>(by cases ai),by simp only [cf,cN];omega⟩
 | t::l,g,h,W=>by
   rw [lh,Bool.and_eq_true] at h;obtain ⟨a,b,c,d⟩:=kv t g h.1 W;obtain ⟨bs,bI,gN,h4⟩:=tx l _ h.2 b;rw [cf,cN];refine ⟨a.trans bs,bI,fun x ai=>?_,by simp only;omega⟩;rcases List.mem_cons.1 ai with rfl | ai
   . have:=bs.n;simp only;omega
   . exact gN x ai
end
def js:List (an × an)->bm × List (Nat × Nat)->bm × List (Nat × Nat)
 | [],g=>g
 | p::l,g=>js l ((p.2.add (p.1.add g.1).1).1,((p.1.add g.1).2,(p.2.add (p.1.add g.1).1).2)::g.2)
inductive cD (g:bm) (E:List (Nat × Nat)):Nat->Nat->Prop
 | base {a b:Nat} (h:(a,b) ∈ E):cD g E a b
 | refl (a:Nat):cD g E a a
 | symm {a b:Nat} (h:cD g E a b):cD g E b a
 | trans {a b c:Nat} (h:cD g E a b) (k:cD g E b c):cD g E a c
 | dO {a b x y i:Nat} {aJ b7:dy} (h:cD g E a b) (aV:g.nodes[a]? =some aJ) (ae:g.nodes[b]? =some b7) (fh:aJ.cd=true) (fH:b7.cd=true) (ai:aJ.kids[i]? =some x) (a1:b7.kids[i]? =some y):cD g E x y
def iX (g:bm) (E:List (Nat × Nat)):Prop:=∃(a b:Nat) (aJ b7:dy),cD g E a b/\g.nodes[a]? =some aJ/\g.nodes[b]? =some b7/\aJ.cd=true/\b7.cd=true/\(aJ.s≠b7.s\/aJ.kids.length≠b7.kids.length)
theorem cD.mono {g cQ:bm} {E aw:List (Nat × Nat)} (aF:g.le cQ) (eB:∀p ∈ E,p ∈ aw) {a b:Nat} (h:cD g E a b):cD cQ aw a b:=by
 induction h with
 | base h=>exact .base (eB _ h)
 | refl a=>exact .refl a
 | symm _ bd=>exact .symm bd
 | trans _ _ i1 i2=>exact .trans i1 i2
 | dO _ aV ae fh fH ai a1 bd=>exact .dO bd (aF.get aV) (aF.get ae) fh fH ai a1
theorem iX.mono {g cQ:bm} {E aw:List (Nat × Nat)} (aF:g.le cQ) (eB:∀p ∈ E,p ∈ aw) (h:iX g E):iX cQ aw:=by obtain ⟨a,b,aJ,b7,aa,ad,aH,bt⟩:=h;exact ⟨a,b,aJ,b7,aa.mono aF eB,aF.get ad,aF.get aH,bt⟩
structure ij (g:bm) (ρ:Nat->Nat):Prop where
 idem:∀a,ρ (ρ a)=ρ a
 lt:∀a,a<g.N->ρ a<g.N
 out:∀a,g.N<=a->ρ a=a
 top:∀(a:Nat) (aJ:dy),g.nodes[a]? =some aJ->aJ.cd=true->∃b7:dy,g.nodes[ρ a]? =some b7/\b7.cd=true
inductive hn (ρ:Nat->Nat) (Q:List (Nat × Nat)):Nat->Nat->Prop
 | pk {a b:Nat} (h:ρ a=ρ b):hn ρ Q a b
 | q {a b:Nat} (h:(a,b) ∈ Q):hn ρ Q a b
 | symm {a b:Nat} (h:hn ρ Q a b):hn ρ Q b a
 | trans {a b c:Nat} (h:hn ρ Q a b) (k:hn ρ Q b c):hn ρ Q a c
theorem hn.imp {ρ dL:Nat->Nat} {Q gx:List (Nat × Nat)} (aa:∀a b,ρ a=ρ b->hn dL gx a b) (ad:∀p ∈ Q,hn dL gx p.1 p.2) {a b:Nat} (h:hn ρ Q a b):hn dL gx a b:=by
 induction h with
 | pk h=>exact aa _ _ h
 | q h=>exact ad _ h
 | symm _ bd=>exact .symm bd
 | trans _ _ i1 i2=>exact .trans i1 i2
theorem hn.nil {ρ:Nat->Nat} {a b:Nat} (h:hn ρ [] a b):ρ a=ρ b:=by
 induction h with
 | pk h=>exact h
 | q h=>cases h
 | symm _ bd=>exact bd.symm
 | trans _ _ i1 i2=>exact i1.trans i2
structure fS (g:bm) (E:List (Nat × Nat)) (ρ:Nat->Nat) (Q:List (Nat × Nat)):Prop where
 sound:∀a b,ρ a=ρ b->cD g E a b
 g_:∀p ∈ Q,cD g E p.1 p.2
 base:∀p ∈ E,hn ρ Q p.1 p.2
 closed:∀(a b:Nat) (aJ b7:dy),ρ a=ρ b->g.nodes[a]? =some aJ->g.nodes[b]? =some b7->aJ.cd=true->b7.cd=true->
  aJ.s=b7.s/\aJ.kids.length=b7.kids.length/\∀(i x y:Nat),aJ.kids[i]? =some x->b7.kids[i]? =some y->hn ρ Q x y
section
variable {g:bm} {E:List (Nat × Nat)} {ρ:Nat->Nat} {Q:List (Nat × Nat)}
theorem fS.done (J:fS g E ρ []) {a b:Nat}:cD g E a b↔ρ a=ρ b:=by
 refine ⟨fun h=>?_,J.sound a b⟩
 induction h with
 | base h=>exact (J.base _ h).nil
 | refl a=>rfl
 | symm _ bd=>exact bd.symm
 | trans _ _ i1 i2=>exact i1.trans i2
 | dO _ aV ae fh fH ai a1 bd=>exact ((J.closed _ _ _ _ bd aV ae fh fH).2.2 _ _ _ ai a1).nil
theorem fS.kC (J:fS g E ρ []):¬iX g E:=by
 rintro ⟨a,b,aJ,b7,aa,ad,aH,bt,cI,cA⟩;obtain ⟨ao,ax,_⟩:=J.closed a b aJ b7 (J.done.1 aa) ad aH bt cI;rcases cA with cA | cA
 . exact cA ao
 . exact cA ax
theorem fS.perm {gx:List (Nat × Nat)} (J:fS g E ρ Q) (h:∀p,p ∈ Q↔p ∈ gx):fS g E ρ gx:=by have lI:∀{a b:Nat},hn ρ Q a b->hn ρ gx a b:=fun q=>q.imp (fun a b e=>.pk e) fun p af=>.q ((h p).1 af);refine ⟨J.sound,fun p af=>J.g_ p ((h p).2 af),fun p af=>lI (J.base p af),fun a b aJ b7 e aV ae fh fH=>?_⟩;obtain ⟨ao,ax,aL⟩:=J.closed a b aJ b7 e aV ae fh fH;exact ⟨ao,ax,fun i x y ai a1=>lI (aL i x y ai a1)⟩
theorem ij.grow {cQ:bm} (S:ij g ρ) (aF:g.le cQ):ij cQ ρ:=by
 have aQ:=aF.n;refine ⟨S.idem,fun a h=>?_,fun a h=>S.out a (by omega),fun a aJ h c=>?_⟩
 . by_cases q:a<g.N
   . have:=S.lt a q;omega
   . rw [S.out a (by omega)];exact h
 . by_cases q:a<g.N
   . rw [aF.bP q] at h;obtain ⟨b7,aa,ad⟩:=S.top a aJ h c;exact ⟨b7,aF.get aa,ad⟩
   . exact ⟨aJ,by rw [S.out a (by omega)];exact h,c⟩
theorem fS.grow {cQ:bm} (S:ij g ρ) (W:cQ.dz) (J:fS g E ρ Q) (aF:g.le cQ):fS cQ E ρ Q:=by
 have same:∀a b,ρ a=ρ b->a<g.N->b<g.N:=fun a b e aV=>by
  by_cases q:b<g.N
  . exact q
  . have:=S.lt a aV;rw [e,S.out b (by omega)] at this;omega
 refine ⟨fun a b h=>(J.sound a b h).mono aF fun _ h=>h,fun p af=>(J.g_ p af).mono aF fun _ h=>h,J.base,fun a b aJ b7 e aV ae fh fH=>?_⟩;by_cases q:a<g.N
 . have ep:=same a b e q;rw [aF.bP q] at aV;rw [aF.bP ep] at ae;exact J.closed a b aJ b7 e aV ae fh fH
 . have ep:¬b<g.N:=fun z=>q (same b a e.symm z);rw [S.out a (by omega),S.out b (by omega)] at e;subst e;rw [aV] at ae;cases ae;refine ⟨rfl,rfl,fun i x y ai a1=>?_⟩;rw [ai] at a1;cases a1;exact .pk rfl
theorem fS.push (J:fS g E ρ Q) (a b:Nat):fS g ((a,b)::E) ρ ((a,b)::Q):=by
 have lI:∀{x y:Nat},hn ρ Q x y->hn ρ ((a,b)::Q) x y:=fun q=>q.imp (fun a b e=>.pk e) fun p af=>.q (List.mem_cons_of_mem _ af);have qI:∀{x y:Nat},cD g E x y->cD g ((a,b)::E) x y:=fun q=>q.mono (bm.le.refl g) fun p af=>List.mem_cons_of_mem _ af;refine ⟨fun x y e=>qI (J.sound x y e),fun p af=>?_,fun p af=>?_,fun x y aJ b7 e aV ae fh fH=>?_⟩
 . rcases List.mem_cons.1 af with rfl | af
   . exact .base List.mem_cons_self
   . exact qI (J.g_ p af)
 . rcases List.mem_cons.1 af with rfl | af
   . exact .q List.mem_cons_self
   . exact lI (J.base p af)
 . obtain ⟨ao,ax,aL⟩:=J.closed x y aJ b7 e aV ae fh fH;exact ⟨ao,ax,fun i u v hu ba=>lI (aL i u v hu ba)⟩
theorem fS.skip {a b:Nat} (J:fS g E ρ ((a,b)::Q)) (h:ρ a=ρ b):fS g E ρ Q:=by
 have lI:∀{x y:Nat},hn ρ ((a,b)::Q) x y->hn ρ Q x y:=fun q=>q.imp (fun a b e=>.pk e) fun p af=>by
  rcases List.mem_cons.1 af with rfl | af
  . exact .pk h
  . exact .q af
 refine ⟨J.sound,fun p af=>J.g_ p (List.mem_cons_of_mem _ af),fun p af=>lI (J.base p af),fun x y aJ b7 e aV ae fh fH=>?_⟩;obtain ⟨ao,ax,aL⟩:=J.closed x y aJ b7 e aV ae fh fH;exact ⟨ao,ax,fun i u v hu ba=>lI (aL i u v hu ba)⟩
def eQ (ρ:Nat->Nat) (r s:Nat):Nat->Nat:=fun x=>if ρ x=r then s else ρ x
theorem Hg {r s:Nat} (aG:ρ r=r) (aM:ρ s=s) {x y:Nat} (h:eQ ρ r s x=eQ ρ r s y):ρ x=ρ y\/(ρ x=r/\ρ y=s)\/(ρ x=s/\ρ y=r):=by
 unfold eQ at h
 split at h<;>split at h
 . rename_i a b;exact .inl (a.trans b.symm)
 . rename_i a b;exact .inr (.inl ⟨a,h.symm⟩)
 . rename_i a b;exact .inr (.inr ⟨h,b⟩)
 . exact .inl h
theorem Nr {r s x y:Nat} (h:ρ x=ρ y):eQ ρ r s x=eQ ρ r s y:=by unfold eQ;rw [h]
theorem Ns {r s x y:Nat} (ai:ρ x=r) (a1:ρ y=s):eQ ρ r s x=eQ ρ r s y:=by
 unfold eQ;rw [if_pos ai]
 split
 . rfl
 . exact a1.symm
theorem ij.one {r s:Nat} (S:ij g ρ) (aG:ρ r=r) (aM:ρ s=s) (cR:r≠s) (ri:r<g.N) (ls:s<g.N) (au:∀aJ:dy,g.nodes[r]? =some aJ->aJ.cd=true->∃b7:dy,g.nodes[s]? =some b7/\b7.cd=true):ij g (eQ ρ r s):=by
 have ua:eQ ρ r s s=s:=by unfold eQ;rw [aM,if_neg (fun e=>cR e.symm)]
 refine ⟨fun a=>?_,fun a h=>?_,fun a h=>?_,fun a aJ h c=>?_⟩
 . by_cases q:ρ a=r
   . have:eQ ρ r s a=s:=by unfold eQ;rw [if_pos q]
     rw [this,ua]
   . have:eQ ρ r s a=ρ a:=by unfold eQ;rw [if_neg q]
     rw [this];unfold eQ;rw [S.idem,if_neg q]
 . unfold eQ
   split
   . exact ls
   . exact S.lt a h
 . unfold eQ;have:=S.out a h;rw [if_neg (by omega)];exact this
 . obtain ⟨b7,aa,ad⟩:=S.top a aJ h c;unfold eQ
   split
   . rename_i q;rw [q] at aa;exact au b7 aa ad
   . exact ⟨b7,aa,ad⟩
theorem fS.aog {a b r s:Nat} (S:ij g ρ) (J:fS g E ρ ((a,b)::Q)) (vT:(ρ a=r/\ρ b=s)\/(ρ a=s/\ρ b=r)) (aG:ρ r=r) (aM:ρ s=s) (ba:∀aJ:dy,g.nodes[r]? =some aJ->aJ.cd=false):fS g E (eQ ρ r s) Q:=by
 have lI:∀{x y:Nat},hn ρ ((a,b)::Q) x y->hn (eQ ρ r s) Q x y:=fun q=>q.imp (fun a b e=>.pk (Nr e)) fun p af=>by
  rcases List.mem_cons.1 af with rfl | af
  . rcases vT with ⟨aa,ad⟩ | ⟨aa,ad⟩
    . exact .pk (Ns aa ad)
    . exact .symm (.pk (Ns ad aa))
  . exact .q af
 have x8:=J.g_ (a,b) List.mem_cons_self;have x_:cD g E r s:=by
  rcases vT with ⟨aa,ad⟩ | ⟨aa,ad⟩
  . exact (cD.symm (J.sound a r (by rw [aa,aG]))).trans (x8.trans (J.sound b s (by rw [ad,aM])))
  . exact (cD.symm (J.sound b r (by rw [ad,aG]))).trans (x8.symm.trans (J.sound a s (by rw [aa,aM])))
 have UM:∀(x:Nat) (aJ:dy),ρ x=r->g.nodes[x]? =some aJ->aJ.cd=true->False:=fun x aJ e h c=>by obtain ⟨b7,aa,ad⟩:=S.top x aJ h c;rw [e] at aa;rw [ba b7 aa] at ad;cases ad
 refine ⟨fun x y e=>?_,fun p af=>J.g_ p (List.mem_cons_of_mem _ af),fun p af=>lI (J.base p af),fun x y aJ b7 e aV ae fh fH=>?_⟩
 . rcases Hg aG aM e with e | ⟨aN,aZ⟩ | ⟨aN,aZ⟩
   . exact J.sound x y e
   . exact (J.sound x r (by rw [aN,aG])).trans (x_.trans (J.sound s y (by rw [aZ,aM])))
   . exact (J.sound x s (by rw [aN,aM])).trans (x_.symm.trans (J.sound r y (by rw [aZ,aG])))
 . rcases Hg aG aM e with e | ⟨aN,aZ⟩ | ⟨aN,aZ⟩
   . obtain ⟨ao,ax,aL⟩:=J.closed x y aJ b7 e aV ae fh fH;exact ⟨ao,ax,fun i u v hu ba=>lI (aL i u v hu ba)⟩
   . exact (UM x aJ aN aV fh).elim
   . exact (UM y b7 aZ ae fH).elim
theorem fS.aof {a b r s:Nat} {gh h9:dy} (S:ij g ρ) (J:fS g E ρ ((a,b)::Q)) (aV:ρ a=r) (ae:ρ b=s) (E_:g.nodes[r]? =some gh) (Fa:g.nodes[s]? =some h9) (Ec:gh.cd=true) (cs:h9.cd=true) (aN:gh.s=h9.s) (aZ:gh.kids.length=h9.kids.length):
 fS g E (eQ ρ r s) (gh.kids.zip h9.kids++Q):=by
 have aG:ρ r=r:=by rw [<-aV,S.idem]
 have aM:ρ s=s:=by rw [<-ae,S.idem]
 have lI:∀{x y:Nat},hn ρ ((a,b)::Q) x y->hn (eQ ρ r s) (gh.kids.zip h9.kids++Q) x y:=fun q=>q.imp (fun a b e=>.pk (Nr e)) fun p af=>by
  rcases List.mem_cons.1 af with rfl | af
  . exact .pk (Ns aV ae)
  . exact .q (List.mem_append_right _ af)
 have x8:=J.g_ (a,b) List.mem_cons_self;have x_:cD g E r s:=(cD.symm (J.sound a r (by rw [aV,aG]))).trans (x8.trans (J.sound b s (by rw [ae,aM])));have ajs:∀(i x y:Nat),gh.kids[i]? =some x->h9.kids[i]? =some y->(x,y) ∈ gh.kids.zip h9.kids:=fun i x y ai a1=>by
  have:(gh.kids.zip h9.kids)[i]? =some (x,y):=by rw [List.getElem?_zip_eq_some];exact ⟨ai,a1⟩
  exact List.mem_of_getElem? this
 have two:∀(x y:Nat) (aJ b7:dy),ρ x=r->ρ y=s->g.nodes[x]? =some aJ->g.nodes[y]? =some b7->aJ.cd=true->b7.cd=true->
  aJ.s=b7.s/\aJ.kids.length=b7.kids.length/\∀(i u v:Nat),aJ.kids[i]? =some u->b7.kids[i]? =some v->hn (eQ ρ r s) (gh.kids.zip h9.kids++Q) u v:=by
  intro x y aJ b7 ex nO ai a1 AX AY;obtain ⟨b0,b1,cS⟩:=J.closed x r aJ gh (by rw [ex,aG]) ai E_ AX Ec;obtain ⟨ao,ax,aL⟩:=J.closed s y h9 b7 (by rw [nO,aM]) Fa a1 cs AY;refine ⟨b0.trans (aN.trans ao),b1.trans (aZ.trans ax),fun i u v hu ba=>?_⟩;have li:=(List.getElem?_eq_some_iff.1 hu).1;have gZ:gh.kids[i]? =some gh.kids[i]:=List.getElem?_eq_getElem (by omega);have p2:h9.kids[i]? =some h9.kids[i]:=List.getElem?_eq_getElem (by omega);exact (lI (cS i _ _ hu gZ)).trans ((hn.q (List.mem_append_left _ (ajs i _ _ gZ p2))).trans (lI (aL i _ _ p2 ba)))
 refine ⟨fun x y e=>?_,fun p af=>?_,fun p af=>lI (J.base p af),fun x y aJ b7 e ai a1 AX AY=>?_⟩
 . rcases Hg aG aM e with e | ⟨aN,aZ⟩ | ⟨aN,aZ⟩
   . exact J.sound x y e
   . exact (J.sound x r (by rw [aN,aG])).trans (x_.trans (J.sound s y (by rw [aZ,aM])))
   . exact (J.sound x s (by rw [aN,aM])).trans (x_.symm.trans (J.sound r y (by rw [aZ,aG])))
 . rcases List.mem_append.1 af with af | af
   . obtain ⟨i,aq⟩:=List.getElem?_of_mem af;rw [List.getElem?_zip_eq_some] at aq;exact .dO x_ E_ Fa Ec cs aq.1 aq.2
   . exact J.g_ p (List.mem_cons_of_mem _ af)
 . rcases Hg aG aM e with e | ⟨aN,aZ⟩ | ⟨aN,aZ⟩
   . obtain ⟨ao,ax,aL⟩:=J.closed x y aJ b7 e ai a1 AX AY;exact ⟨ao,ax,fun i u v hu ba=>lI (aL i u v hu ba)⟩
   . exact two x y aJ b7 aN aZ ai a1 AX AY
   . obtain ⟨ao,ax,aL⟩:=two y x b7 aJ aZ aN a1 ai AY AX;exact ⟨ao.symm,ax.symm,fun i u v hu ba=>(aL i v u ba hu).symm⟩
theorem fS.QD {a b r s:Nat} {gh h9:dy} (S:ij g ρ) (J:fS g E ρ ((a,b)::Q)) (aV:ρ a=r) (ae:ρ b=s) (E_:g.nodes[r]? =some gh) (Fa:g.nodes[s]? =some h9) (Ec:gh.cd=true) (cs:h9.cd=true) (h:gh.s≠h9.s\/gh.kids.length≠h9.kids.length):iX g E:=by have x8:=J.g_ (a,b) List.mem_cons_self;exact ⟨r,s,gh,h9,(cD.symm (J.sound a r (by rw [aV,<-aV,S.idem]))).trans (x8.trans (J.sound b s (by rw [ae,<-ae,S.idem]))),E_,Fa,Ec,cs,h⟩
def wJ (g:bm) (r:Nat):Nat:=match g.nodes[r]? with | some aJ=>aJ.kids.length | none=>0
def Hl (g:bm) (ρ:Nat->Nat) (r:Nat):Nat:=if ρ r=r then 1+wJ g r else 0
def pG (g:bm) (ρ:Nat->Nat):Nat:=((List.range g.N).map (Hl g ρ)).sum
theorem Nb {α:Type} {f kZ:α->Nat}:∀{l:List α},(∀x ∈ l,kZ x<=f x)->(l.map kZ).sum<=(l.map f).sum
 | [],_=>Nat.le_refl _
 | x::l,h=>by have:=Nb (l:=l) fun z bn=>h z (List.mem_cons_of_mem _ bn);have:=h x List.mem_cons_self;simp only [List.map_cons,List.sum_cons];omega
theorem W7 {α:Type} {f kZ:α->Nat} {c:Nat} {r:α}:∀{l:List α},(∀x ∈ l,kZ x<=f x)->r ∈ l->kZ r+c<=f r->(l.map kZ).sum+c<=(l.map f).sum
 | [],_,h,_=>by cases h
 | x::l,h,aG,aC=>by
   simp only [List.map_cons,List.sum_cons];rcases List.mem_cons.1 aG with rfl | aG
   . have:=Nb (l:=l) fun z bn=>h z (List.mem_cons_of_mem _ bn);omega
   . have:=W7 (l:=l) (fun z bn=>h z (List.mem_cons_of_mem _ bn)) aG aC;have:=h x List.mem_cons_self;omega
theorem XN {r s:Nat} (aG:ρ r=r) (aM:ρ s=s) (cR:r≠s) (ri:r<g.N):pG g (eQ ρ r s) + (1+wJ g r)<=pG g ρ:=by
 refine W7 (fun x ai=>?_) (List.mem_range.2 ri) ?_
 . unfold Hl;by_cases q:eQ ρ r s x=x
   . rw [if_pos q];have:ρ x=x:=by
      unfold eQ at q
      split at q
      . subst q;exact aM
      . exact q
     rw [if_pos this];exact Nat.le_refl _
   . rw [if_neg q];exact Nat.zero_le _
 . unfold Hl;have:¬eQ ρ r s r=r:=by
    unfold eQ;rw [if_pos aG];exact fun e=>cR e.symm
   rw [if_neg this,if_pos aG];omega
def lW (g:bm):Nat:=(g.nodes.map fun aJ=>aJ.kids.length).sum
theorem W9 {l:List dy} {f:Nat->Nat} (h:∀i aJ,l[i]? =some aJ->f i=aJ.kids.length):∀n,n<=l.length->((List.range n).map f).sum=((l.take n).map fun aJ=>aJ.kids.length).sum
 | 0,_=>by simp
 | n+1,aQ=>by have e:=List.getElem?_eq_getElem (l:=l) (i:=n) (by omega);rw [List.range_succ,List.map_append,List.sum_append,W9 h n (by omega),List.take_succ_eq_append_getElem (by omega),List.map_append,List.sum_append];simp [h n _ e]
theorem W8:∀n:Nat,((List.range n).map fun _=>1).sum=n
 | 0=>rfl
 | n+1=>by rw [List.range_succ,List.map_append,List.sum_append,W8 n];rfl
theorem sum_add {α:Type} (f kZ:α->Nat):∀l:List α,(l.map fun x=>f x+kZ x).sum=(l.map f).sum + (l.map kZ).sum
 | []=>rfl
 | x::l=>by simp only [List.map_cons,List.sum_cons,sum_add f kZ l];omega
theorem aoO:pG g ρ<=g.N+lW g:=by
 have aa:pG g ρ<=((List.range g.N).map fun r=>1+wJ g r).sum:=Nb fun x _=>by unfold Hl;split<;>omega
 have ad:=W9 (l:=g.nodes) (f:=wJ g) (fun i aJ e=>by unfold wJ;rw [e]) g.nodes.length (Nat.le_refl _);rw [List.take_length] at ad;rw [sum_add,W8] at aa;unfold lW;rw [<-ad];exact aa
def vl (fA w ρ:Nat->Nat):Prop:=∀a,(w a=a/\ρ a=a)\/(w a≠a/\fA (w a)<fA a/\ρ (w a)=ρ a)
def Way (w ρ:Nat->Nat):Prop:=∃fA:Nat->Nat,vl fA w ρ
theorem Way.root {w:Nat->Nat} (S:ij g ρ) (H:Way w ρ) {a:Nat} (h:ρ a=a):w a=a:=by
 obtain ⟨fA,H⟩:=H;rcases H a with aa | ⟨aa,ad,aH⟩
 . exact aa.1
 . -- the way leads back to a itself
   exfalso;have key:∀n b,fA b<=n->ρ b=a->fA a<=fA b:=by
    intro n
    induction n with
    | zero=>
      intro b ae e;rcases H b with q | ⟨ao,ax,aL⟩
      . rw [q.2] at e;rw [e];exact Nat.le_refl _
      . omega
    | succ n bd=>
      intro b ae e;rcases H b with q | ⟨ao,ax,aL⟩
      . rw [q.2] at e;rw [e];exact Nat.le_refl _
      . have:=bd (w b) (by omega) (by rw [aL,e]);omega
   have:=key (fA (w a)) (w a) (Nat.le_refl _) (by rw [aH,h]);omega
theorem Way.end {w:Nat->Nat} (H:Way w ρ) {a:Nat} (h:w a=a):ρ a=a:=by
 obtain ⟨fA,H⟩:=H;rcases H a with aa | ⟨aa,_⟩
 . exact aa.2
 . exact (aa h).elim
theorem Way.step {w:Nat->Nat} (H:Way w ρ) (a:Nat):ρ (w a)=ρ a:=by
 obtain ⟨fA,H⟩:=H;rcases H a with aa | ⟨_,_,aa⟩
 . rw [aa.1]
 . exact aa
theorem Way.refl:Way (fun a=>a) (fun a=>a):=⟨fun _=>0,fun a=>.inl ⟨rfl,rfl⟩⟩
theorem Way.one {w:Nat->Nat} {r s:Nat} (S:ij g ρ) (H:Way w ρ) (aG:ρ r=r) (aM:ρ s=s) (cR:r≠s):Way (fun a=>if a=r then s else w a) (eQ ρ r s):=by
 have wr:=H.root S aG;have ws:=H.root S aM;obtain ⟨fA,H⟩:=H;refine ⟨fun a=>fA a + (if ρ a=r then fA s+1 else 0),fun a=>?_⟩;have bj:¬ρ s=r:=by rw [aM];exact fun e=>cR e.symm
 by_cases q:a=r
 . subst q;refine .inr ⟨by simp only [if_true];exact fun e=>cR e.symm,?_,?_⟩
   . simp only [if_true,aG,if_neg bj];omega
   . simp only [if_true];unfold eQ;rw [if_neg bj,if_pos aG,aM]
 . simp only [if_neg q];rcases H a with ⟨aa,ad⟩ | ⟨aa,ad,aH⟩
   . refine .inl ⟨aa,?_⟩;unfold eQ;rw [if_neg (by rw [ad];exact q),ad]
   . refine .inr ⟨aa,?_,Nr aH⟩;rw [aH];omega
theorem vl.low {fA w:Nat->Nat} (H:vl fA w ρ):∀(n b:Nat),fA b<=n->fA (ρ b)<=fA b
 | 0,b,ae=>by
   rcases H b with q | ⟨ao,ax,aL⟩
   . rw [q.2];exact Nat.le_refl _
   . omega
 | n+1,b,ae=>by
   rcases H b with q | ⟨ao,ax,aL⟩
   . rw [q.2];exact Nat.le_refl _
   . have:=H.low n (w b) (by omega);rw [aL] at this;omega
theorem vl.short {fA w:Nat->Nat} {a:Nat} (S:ij g ρ) (H:vl fA w ρ) (aV:w a≠a):vl fA (fun x=>if x=a then ρ a else w x) ρ:=by
 have cR:ρ a≠a:=fun e=>aV (Way.root S ⟨fA,H⟩ e);intro x;by_cases q:x=a
 . subst q;simp only [if_true];rcases H x with h | ⟨aa,ad,aH⟩
   . exact (aV h.1).elim
   . refine .inr ⟨cR,?_,S.idem x⟩;have:=H.low (fA (w x)) (w x) (Nat.le_refl _);rw [aH] at this;omega
 . simp only [if_neg q];exact H x
theorem Way.lt {w:Nat->Nat} (S:ij g ρ) (H:Way w ρ) {a:Nat} (aV:a<g.N):w a<g.N:=by
 have aa:=H.step a;have ad:=S.lt a aV;by_cases q:w a<g.N
 . exact q
 . have:=S.out (w a) (by omega);omega
end
theorem anY (g:bm) (n:Int):lW (g.var n).1=lW g:=by
 unfold bm.var;cases ca n g.vars with
 | some i=>rfl
 | none=>simp [lW]
theorem anX (g:bm) (s:List UInt8) (aI:List Nat):lW (g.put s aI)=lW g+aI.length:=by simp [lW,bm.put]
mutual
theorem Nj:∀(t:an) (g:bm),lW (t.add g).1+1<=lW g+t.size
 | .mk k n s l,g=>by
   rw [an.add,an.size];by_cases c:k=1
   . rw [if_pos c,anY];omega
   . rw [if_neg c];have:=Xg l g;have:=DE l g;simp only [anX];omega
theorem Xg:∀(l:List an) (g:bm),lW (cf l g).1+l.length<=lW g+cN l
 | [],g=>by simp [cf,cN]
 | t::l,g=>by rw [cf,cN];have:=Nj t g;have:=Xg l (t.add g).1;simp only [List.length_cons];omega
end
end
section
open Go aY
inductive du (g:bm) (R:Nat->Nat->Prop):Nat->an->Prop
 | var {a b:Nat} {aJ:dy} (h:R a b) (ae:g.nodes[b]? =some aJ) (aC:aJ.cd=false) (hH:∀(x:Nat) (dP:dy),R a x->g.nodes[x]? =some dP->dP.cd=false) (bC:∀(x:Nat) (dP:dy),R a x->g.nodes[x]? =some dP->aJ.n<=dP.n):du g R a (.mk 1 aJ.n [] [])
 | cd {a b:Nat} {aJ:dy} {l:List an} (h:R a b) (ae:g.nodes[b]? =some aJ) (aC:aJ.cd=true) (az:l.length=aJ.kids.length) (aD:∀(i x:Nat) (t:an),aJ.kids[i]? =some x->l[i]? =some t->du g R x t):du g R a (.mk 2 0 aJ.s l)
structure Part (g:bm) (R:Nat->Nat->Prop):Prop where
 refl:∀a,R a a
 symm:∀{a b},R a b->R b a
 trans:∀{a b c},R a b->R b c->R a c
 closed:∀(a b:Nat) (aJ b7:dy),R a b->g.nodes[a]? =some aJ->g.nodes[b]? =some b7->aJ.cd=true->b7.cd=true->
  aJ.s=b7.s/\aJ.kids.length=b7.kids.length/\∀(i x y:Nat),aJ.kids[i]? =some x->b7.kids[i]? =some y->R x y
section
variable {g:bm} {R:Nat->Nat->Prop}
theorem du.rr (P:Part g R) {a b:Nat} {t:an} (h:du g R a t) (e:R a b):du g R b t:=by
 cases h with
 | var h ae aC hH bC=>exact .var (P.trans (P.symm e) h) ae aC (fun x dP q=>hH x dP (P.trans e q)) (fun x dP q=>bC x dP (P.trans e q))
 | cd h ae aC az aD=>exact .cd (P.trans (P.symm e) h) ae aC az aD
theorem du.uniq (P:Part g R) {a:Nat} {t:an} (h:du g R a t):∀{b u},R a b->du g R b u->t=u:=by
 induction h with
 | var h ae aC hH bC=>
   intro b u e k;cases k with
   | var ab fb hQ F2 LI=>
     have aa:=bC _ _ (P.trans e ab) fb;have ad:=LI _ _ (P.trans (P.symm e) h) ae;rw [Int.le_antisymm aa ad]
   | cd ab fb hQ fP gO=>
     have:=hH _ _ (P.trans e ab) fb;rw [hQ] at this;cases this
 | cd h ae aC az aD bd=>
   intro b u e k;cases k with
   | var ab fb hQ F2 LI=>
     have:=F2 _ _ (P.trans (P.symm e) h) ae;rw [aC] at this;cases this
   | cd ab fb hQ fP gO=>
     obtain ⟨ao,ax,aL⟩:=P.closed _ _ _ _ (P.trans (P.symm h) (P.trans e ab)) ae fb aC hQ;congr 1;refine List.ext_getElem (by omega) fun i aa ad=>?_;have bK:=List.getElem?_eq_getElem (l:=(_:dy).kids) (i:=i) (show i<_ by rw [<-az];exact aa);have bT:=List.getElem?_eq_getElem (l:=(_:dy).kids) (i:=i) (show i<_ by rw [<-fP];exact ad);exact bd i _ _ bK (List.getElem?_eq_getElem aa) (aL i _ _ bK bT) (gO i _ _ bT (List.getElem?_eq_getElem ad))
theorem du.all (P:Part g R) (W:g.dz) (ba:∀(i:Nat) (aJ:dy),g.nodes[i]? =some aJ->aJ.cd=false->∃t,du g R i t):∀(n i:Nat),i<n->i<g.N->∃t,du g R i t
 | 0,i,h,_=>by omega
 | n+1,i,h,aq=>by
   have e:=List.getElem?_eq_getElem (l:=g.nodes) (i:=i) aq;cases c:g.nodes[i].cd with
   | false=>exact ba i _ e c
   | true=>
     have key:∀j:Fin g.nodes[i].kids.length,∃t,du g R g.nodes[i].kids[j.1] t:=fun j=>by have:=W.dO i _ e g.nodes[i].kids[j.1] (List.getElem_mem j.2);exact du.all P W ba n _ (by omega) (by omega)
     obtain ⟨f,aB⟩:=Classical.axiomOfChoice key;refine ⟨_,.cd (l:=List.ofFn f) (P.refl i) e c (by simp) fun j x t ai au=>?_⟩;obtain ⟨a6,rfl⟩:=List.getElem?_eq_some_iff.1 ai;rw [List.getElem?_ofFn] at au;rw [dif_pos a6] at au;cases au;exact aB ⟨j,a6⟩
inductive Reach (g:bm) (R:Nat->Nat->Prop):Nat->Nat->Prop
 | dO {a b x y i:Nat} {aJ:dy} (h:R a b) (ae:g.nodes[b]? =some aJ) (aC:aJ.cd=true) (ai:aJ.kids[i]? =some x) (k:R x y):Reach g R a y
 | trans {a b c:Nat} (h:Reach g R a b) (k:Reach g R b c):Reach g R a c
theorem Reach.rr (P:Part g R) {a b c:Nat} (h:Reach g R a b) (e:R b c):Reach g R a c:=by
 induction h with
 | dO h ae aC ai k=>exact .dO h ae aC ai (P.trans k e)
 | trans h _ _ i2=>exact .trans h (i2 e)
theorem Reach.less (P:Part g R) {a b:Nat} (h:Reach g R a b):∀{t},du g R a t->∃u,du g R b u/\u.size<t.size:=by
 induction h with
 | dO h ae aC ai k=>
   intro t au;cases au with
   | var ab fb hQ F2 LI=>
     have:=F2 _ _ h ae;rw [aC] at this;cases this
   | cd ab fb hQ fP gO=>
     rename_i i aJ bI b7 l;obtain ⟨ao,ax,aL⟩:=P.closed _ _ _ _ (P.trans (P.symm h) ab) ae fb aC hQ;have aq:=(List.getElem?_eq_some_iff.1 ai).1;have bK:=List.getElem?_eq_getElem (l:=b7.kids) (i:=i) (by omega);have jZ:l.length=b7.kids.length:=fP;have bT:=List.getElem?_eq_getElem (l:=l) (i:=i) (by omega);refine ⟨_,((gO i _ _ bK bT).rr P (P.trans (P.symm (aL i _ _ ai bK)) k)),?_⟩;exact w4 (t:=.mk 2 0 b7.s l) (List.getElem_mem (l:=l) (by omega))
 | trans h _ i1 i2=>
   intro t au;obtain ⟨u,aa,ad⟩:=i1 au;obtain ⟨v,aH,bt⟩:=i2 aa;exact ⟨v,aH,by omega⟩
theorem Reach.ring (P:Part g R) {a:Nat} (h:Reach g R a a):¬∃t,du g R a t:=by rintro ⟨t,au⟩;obtain ⟨u,aa,ad⟩:=h.less P au;have:=au.uniq P (P.refl a) aa;subst this;omega
end
theorem fS.part {g:bm} {E:List (Nat × Nat)} {ρ:Nat->Nat} (J:fS g E ρ []):Part g (cD g E):=by refine ⟨.refl,.symm,.trans,fun a b aJ b7 h aV ae fh fH=>?_⟩;obtain ⟨ao,ax,aL⟩:=J.closed a b aJ b7 (J.done.1 h) aV ae fh fH;exact ⟨ao,ax,fun i x y ai a1=>J.done.2 (aL i x y ai a1).nil⟩
open Classical in
def lf (g:bm) (E:List (Nat × Nat)) (i:Nat):an:=if h:∃t,du g (cD g E) i t then h.choose else mz
theorem Ha {g:bm} {E:List (Nat × Nat)} (P:Part g (cD g E)) {i:Nat} {t:an} (h:du g (cD g E) i t):lf g E i=t:=by unfold lf;rw [dif_pos ⟨t,h⟩];exact (Exists.choose_spec (⟨t,h⟩:∃t,du g (cD g E) i t)).uniq P (P.refl i) h
def fM (g:bm) (E:List (Nat × Nat)) (p:Int × Nat):Option (Int × an):=
 open Classical in if lf g E p.2=.mk 1 p.1 [] [] then none else some (p.1,lf g E p.2)
def keyed (g:bm):List (Int × Nat):=(eO (g.vars.map Prod.fst)).map fun n=>(n,(ca n g.vars).getD 0)
open Classical in
def lb (g:bm) (E:List (Nat × Nat)):dn × Int:=
 if iX g E then ([],290) else if ∃i,i<g.N/\¬∃t,du g (cD g E) i t then ([],291)
 else if ∃p ∈ (keyed g).filterMap (fM g E),¬(p.2.size<=4096/\p.2.deep<=200) then ([],3) else ((keyed g).filterMap (fM g E),0)
def jO (a b:List an):dn × Int:=
 if a.length=b.length/\(∀t ∈ a,t.check=0)/\(∀t ∈ b,t.check=0) then lb (js (a.zip b) (⟨[],[]⟩,[])).1 (js (a.zip b) (⟨[],[]⟩,[])).2 else ([],2)
end
section
open Go aY
abbrev z4:List V:=[.int .i64 0,.int .i64 0,.str [],.bU]
abbrev cH (t:an) (cr:V):List V:=[.int .i64 t.k,.int .i64 t.n,.str t.s,cr]
def Gi (s:List UInt8):Bool:=match oa s with
 | .ok [w]=>decide (w.kind=3)&&decide (w.text=s)
 | _=>false
theorem alp (s:List UInt8):Gi s=mn 3 s:=by
 rw [Bool.eq_iff_iff];refine ⟨fun h=>?_,fun h=>?_⟩
 . unfold Gi at h
   split at h
   . rename_i w hw;simp only [Bool.and_eq_true,decide_eq_true_eq] at h;have aQ:mn w.kind w.text=true:=by
      unfold oa at hw
      split at hw
      . cases hw
      . split at hw
        . cases hw
        . exact FT _ _ _ _ hw w (by simp) (.inl h.1)
     rw [h.1,h.2] at aQ;exact aQ
   . cases h
 . have aG:=aml (.inl rfl) h;simp only [show ((3:Int)=5)=False from by simp,if_false] at aG;unfold Gi;rw [aG];simp
theorem akB (z:List UInt8) (h:ah):c4 Tryz.prog 88 [.str z] h fun x ab=>x=.bool (mn 3 z)/\Ext h ab:=by
 rw [<-alp];refine abm.z rfl (dF ?_);unfold Qt;simp +contextual only [↓al,aK,simprocAttr];refine cF (ajY z h) ?_;rintro x aa ⟨aN,ai⟩;unfold Gi;cases eY:oa z with
 | error e=>
   rw [eY] at ai;simp only at ai;subst ai;obtain ⟨ad,ax,aZ,dh⟩:=gM aa [.int .i64 0,.int .i64 0] [.int .i64 e.1,.int .i64 e.2];by_cases he:e.1=0
   . simp +contextual only [ax,dh.g,eq_true he,show mm .bU=some (.int .i64 0) from rfl,show ((0:Int)=1)=False from by simp,decide_false,↓al,aK,simprocAttr];exact aN.trans aZ
   . simp +contextual only [ax,dh.g,eq_false he,decide_false,↓al,aK,simprocAttr];exact aN.trans aZ
 | ok ws=>
   rw [eY] at ai;simp only at ai;obtain ⟨v,rfl,S⟩:=ai;obtain ⟨ad,ax,aZ,dh⟩:=gM aa [.int .i64 0,.int .i64 0] [.int .i64 0,.int .i64 0];have pE:=(S.ext aZ).v;have az:=pE.len;have dH:=pE.one
   match ws,eY,pE,az with
   | [],_,pE,az=>
     have fP:mm v=some (.int .i64 0):=az;simp +contextual only [ax,dh.g,fP,dH.1,dH.2.1,show ((0:Int)=1)=False from by simp,decide_true,decide_false,↓al,aK,simprocAttr];exact aN.trans aZ
   | [w],eY,pE,az=>
     have fP:mm v=some (.int .i64 1):=az;obtain ⟨cn,dk,FB,Pf⟩:=pE.dD (k:=.i64) (i:=0) (by simp);have Tq:lH 4 v (.int .i64 0)=some (.ptr cn dk):=by simpa using FB
     have d0:kI (ad.get cn) dk=some (.int .i64 w.kind):=by have:=Pf.fy (i:=0) (by simp [qn,ct.enc]);simpa [qn,ct.enc] using this
     have d3:kI (ad.get cn) (dk+3)=some (.str w.text):=by have:=Pf.fy (i:=3) (by simp [qn,ct.enc]);simpa [qn,ct.enc] using this
     by_cases bS:w.kind=3
     . simp +contextual only [ax,dh.g,fP,dH.1,dH.2.1,Tq,d0,d3,eq_true bS,decide_true,decide_false,Bool.true_and,↓al,aK,simprocAttr];exact aN.trans aZ
     . simp +contextual only [ax,dh.g,fP,dH.1,dH.2.1,Tq,d0,d3,eq_false bS,decide_true,decide_false,Bool.false_and,↓al,aK,simprocAttr];exact aN.trans aZ
   | w::bV::ws,_,pE,az=>
     have fP:(((ws.length+2:Nat):Int)=1)=False:=eq_false (by omega);have afm:mm v=some (.int .i64 ((ws.length+2:Nat):Int)):=az;simp +contextual only [ax,dh.g,afm,fP,dH.1,dH.2.1,decide_true,decide_false,↓al,aK,simprocAttr];exact aN.trans aZ
theorem alC (t:an) (ag:List V) (h:ah) (H:b5 Any h t.enc ag):c4 Tryz.prog 57 [.agg ag] h fun x ab=>x=.bool t.own/\Ext h ab:=by
 obtain ⟨cr,rfl,L,k6⟩:=an.open H;have ol:=L.one;have az:=L.len;rw [List.length_map] at az;refine abg.z rfl (dF ?_);unfold Qm;obtain ⟨aa,ao,aN,da⟩:=fU h (cH t cr);have bN:DK=[45,62]:=rfl;have a2:G0=[42]:=rfl;unfold an.own;rw [bN,a2];by_cases bK:t.k=1
 . rw [if_pos bK];by_cases bS:0<=t.n
   . by_cases bX:t.n<=1048575
     . by_cases c3:t.s=[]
       . simp +contextual only [ol.1,ol.2.1,ao,da.g,az,eq_true bK,eq_true bS,eq_true bX,eq_true c3,decide_true,decide_false,Bool.true_and,↓al,aK,simprocAttr];refine ⟨?_,aN⟩;simp
       . simp +contextual only [ol.1,ol.2.1,ao,da.g,az,eq_true bK,eq_true bS,eq_true bX,eq_false c3,decide_true,decide_false,Bool.true_and,Bool.false_and,Bool.and_false,↓al,aK,simprocAttr];exact aN
     . simp +contextual only [ol.1,ol.2.1,ao,da.g,az,eq_true bK,eq_true bS,eq_false bX,decide_true,decide_false,Bool.true_and,Bool.false_and,Bool.and_false,↓al,aK,simprocAttr];exact aN
   . simp +contextual only [ol.1,ol.2.1,ao,da.g,az,eq_true bK,eq_false bS,decide_true,decide_false,Bool.true_and,Bool.false_and,Bool.and_false,↓al,aK,simprocAttr];exact aN
 . rw [if_neg bK];by_cases bT:t.k=2
   . rw [if_pos bT];have jZ:((t.l.length:Int)=2)=(t.l.length=2):=by apply propext;omega
     have SC:((t.l.length:Int)<=64)=(t.l.length<=64):=by apply propext;omega
     by_cases c3:t.s=[45,62]
     . rw [if_pos (.inl c3)];by_cases fu:t.n=0
       . simp +contextual only [ol.1,ol.2.1,ao,da.g,az,eq_false bK,eq_true bT,eq_true c3,eq_true fu,jZ,decide_true,decide_false,Bool.true_and,Bool.false_and,↓al,aK,simprocAttr];exact aN
       . simp +contextual only [ol.1,ol.2.1,ao,da.g,az,eq_false bK,eq_true bT,eq_true c3,eq_false fu,decide_true,decide_false,Bool.true_and,Bool.false_and,↓al,aK,simprocAttr];exact aN
     . by_cases pJ:t.s=[42]
       . rw [if_pos (.inr pJ)];by_cases fu:t.n=0
         . simp +contextual only [ol.1,ol.2.1,ao,da.g,az,eq_false bK,eq_true bT,eq_false c3,eq_true pJ,eq_true fu,jZ,decide_true,decide_false,Bool.true_and,Bool.false_and,↓al,aK,simprocAttr];exact aN
         . simp +contextual only [ol.1,ol.2.1,ao,da.g,az,eq_false bK,eq_true bT,eq_false c3,eq_true pJ,eq_false fu,decide_true,decide_false,Bool.true_and,Bool.false_and,↓al,aK,simprocAttr];exact aN
       . rw [if_neg (fun q=>q.elim c3 pJ)];by_cases fu:t.n=0
         . by_cases c5:t.l.length<=64
           . simp +contextual only [ol.1,ol.2.1,ao,da.g,az,eq_false bK,eq_true bT,eq_false c3,eq_false pJ,eq_true fu,SC,eq_true c5,decide_true,decide_false,Bool.true_and,Bool.false_and,↓al,aK,simprocAttr];refine cF (akB t.s aa) ?_;rintro x ad ⟨rfl,aZ⟩;simp +contextual only [↓al,aK,simprocAttr];exact aN.trans aZ
           . simp +contextual only [ol.1,ol.2.1,ao,da.g,az,eq_false bK,eq_true bT,eq_false c3,eq_false pJ,eq_true fu,SC,eq_false c5,decide_true,decide_false,Bool.true_and,Bool.false_and,↓al,aK,simprocAttr];exact aN
         . simp +contextual only [ol.1,ol.2.1,ao,da.g,az,eq_false bK,eq_true bT,eq_false c3,eq_false pJ,eq_false fu,decide_true,decide_false,Bool.true_and,Bool.false_and,↓al,aK,simprocAttr];exact aN
   . rw [if_neg bT];simp +contextual only [ol.1,ol.2.1,ao,da.g,az,eq_false bK,eq_false bT,decide_true,decide_false,↓al,aK,simprocAttr];exact aN
theorem abR (t:an):t.check=if t.shape=true then (if t.size<=4096 then (if t.deep<=200 then 0 else 3) else 3) else 2:=by
 unfold an.check
 split
 . by_cases a:t.size<=4096
   . by_cases b:t.deep<=200
     . rw [if_pos ⟨a,b⟩,if_pos a,if_pos b]
     . rw [if_neg (fun q=>b q.2),if_pos a,if_neg b]
   . rw [if_neg (fun q=>a q.1),if_neg a]
 . rfl
theorem an.TN [Lay] {F:aO->Prop} {h:ah} {l:List an} {v:V} (H:dj F h 4 (l.map an.enc) v) {k:IntKind} {i:Nat} (aq:i<l.length):
 ∃b off cr,lH 4 v (.int k i)=some (.ptr b (off+i * 4))/\b5 F h l[i].enc [.int .i64 l[i].k,.int .i64 l[i].n,.str l[i].s,cr]/\dj F h 4 (l[i].l.map an.enc) cr/\
  (∀ab,Ext h ab->n1 4 (ab.get b) (off+i * 4)=some (.agg [.int .i64 l[i].k,.int .i64 l[i].n,.str l[i].s,cr]))/\
  (∀ab,Ext h ab->kI (ab.get b) (off+i * 4)=some (.int .i64 l[i].k))/\(∀ab,Ext h ab->kI (ab.get b) (off+i * 4+2)=some (.str l[i].s))/\(∀ab,Ext h ab->kI (ab.get b) (off+i * 4+3)=some cr):=by
 obtain ⟨b,off,u,aN,aZ,bJ,dR,e_⟩:=H.at (k:=k) (i:=i) (by rw [List.length_map];exact aq);rw [List.getElem_map] at aZ;obtain ⟨cr,rfl,L,_⟩:=an.open aZ;exact ⟨b,off,cr,aN,aZ,L,dR,fun ab e=>by simpa using e_ ab e 0 (by omega),fun ab e=>by simpa using e_ ab e 2 (by omega),fun ab e=>by simpa using e_ ab e 3 (by omega)⟩
theorem Vi:∀(N:Nat) (l:List an),cN l<N->∀(m:Int) (v:V) (h:ah),dj Any h 4 (l.map an.enc) v->c4 Tryz.prog 46 [v,.int .i64 m] h fun x ab=>(∃n,x=.int .i64 n)/\ab=h
 | 0,l,aM,_,_,_,_=>by omega
 | N+1,l,aM,m,v,h,L=>by
   have az:=L.len;have hle:=L.le;rw [List.length_map] at az hle;refine Qa.z rfl (dF ?_);unfold I7;simp +contextual only [↓al,aK,simprocAttr];refine gD (fun r g=>r 0=v/\r 1=.int .i64 m/\g=h/\∃(i:Nat) (n:Int),r 5=.int .i64 n/\r 6=.int .i64 i/\i<=l.length) (fun r g=>l.length - (r 6).toN) ?_ ?_
   . exact ⟨by simp only [↓al,br,simprocAttr],by simp only [↓al,br,simprocAttr],rfl,0,0,by simp only [↓al,br,simprocAttr],by simp only [↓al,br,simprocAttr]<;>rfl,by omega⟩
   rintro r g ⟨bA,bD,rfl,i,n,dZ,dI,aq⟩;unfold I8;by_cases aT:i<l.length
   . have g0:((i:Int) < (l.length:Int))=True:=eq_true (by omega);by_cases aQ:n<=m
     . have oU:=eq_true aQ;obtain ⟨b,off,wl,dD,X,iK,ld,um,LB,sE⟩:=an.TN L (k:=.i64) aT;have d3:=LB g (Ext.refl g);have d4:=sE g (Ext.refl g);have eR:=pw aT (by unfold top at hle;omega);have fo:l[i].s.length<=top:=by obtain ⟨_,_,_,q⟩:=an.open X;exact q
       have MC:=V4 (P:=Tryz.prog) (n:=l[i].s.length) (by unfold top at fo;omega);simp +contextual only [bA,bD,dZ,dI,az,g0,oU,dD,d3,d4,MC,↓al,aK,simprocAttr];refine cF (Vi N l[i].l (by have:=VF aT;omega) _ wl g iK) ?_;rintro x g2 ⟨⟨y,rfl⟩,rfl⟩;simp +contextual only [bA,bD,dZ,dI,eR,↓al,aK,simprocAttr];exact ⟨⟨i+1,_,rfl,rfl,aT⟩,by omega⟩
     . have oU:=eq_false aQ;simp +contextual only [bA,bD,dZ,dI,az,g0,oU,↓al,aK,simprocAttr];exact ⟨_,rfl⟩
   . have g0:((i:Int) < (l.length:Int))=False:=eq_false (by omega);simp +contextual only [bA,bD,dZ,dI,az,g0,↓al,aK,simprocAttr];exact ⟨_,rfl⟩
theorem ajw (l:List an) (m:Int) (v:V) (h:ah) (L:dj Any h 4 (l.map an.enc) v):c4 Tryz.prog 10 [v,.int .i64 m] h fun x ab=>(∃b,x=.bool b)/\ab=h:=by refine PC.z rfl (dF ?_);unfold IU;simp +contextual only [↓al,aK,simprocAttr];refine cF (Vi _ l (Nat.lt_succ_self _) m v h L) ?_;rintro x g2 ⟨⟨y,rfl⟩,rfl⟩;simp +contextual only [↓al,aK,simprocAttr];exact ⟨_,rfl⟩
theorem Wt:∀(N:Nat),(∀(t:an),2 * t.size<N->∀(ag ws:List V) (h:ah),b5 Any h t.enc ag->b5 Any h t.enc ws->c4 Tryz.prog 25 [.agg ag,.agg ws] h fun x ab=>x=.bool true/\Ext h ab)/\
 (∀(l:List an),2 * cN l+1<N->∀(v w:V) (h:ah),dj Any h 4 (l.map an.enc) v->dj Any h 4 (l.map an.enc) w->c4 Tryz.prog 17 [v,w] h fun x ab=>x=.bool true/\Ext h ab)
 | 0=>⟨fun t q=>by omega,fun l q=>by omega⟩
 | N+1=>by
   obtain ⟨BO,wB⟩:=Wt N;refine ⟨fun t aM ag ws h H cy=>?_,fun l aM v w h L lp=>?_⟩
   . obtain ⟨cr,rfl,L,_⟩:=an.open H;obtain ⟨wl,rfl,lp,_⟩:=an.open cy;have b':=size_eq t;have ol:=L.one;have dw:=lp.one;refine aaX.z rfl (dF ?_);unfold P7;obtain ⟨aa,ao,aN,da⟩:=fU h [.int .i64 t.k,.int .i64 t.n,.str t.s,cr];obtain ⟨ad,ax,aZ,dh⟩:=fU aa [.int .i64 t.k,.int .i64 t.n,.str t.s,wl];have XU:=da.ext aZ;simp +contextual only [ol.1,ol.2.1,dw.1,dw.2.1,ao,ax,XU.g,dh.g,decide_true,↓al,aK,simprocAttr];refine cF (wB t.l (by omega) cr wl ad (L.ext (aN.trans aZ)) (lp.ext (aN.trans aZ))) ?_;rintro x aH ⟨rfl,bJ⟩;simp +contextual only [↓al,aK,simprocAttr];exact (aN.trans aZ).trans bJ
   . have az:=L.len;have jZ:=lp.len;have hle:=L.le;rw [List.length_map] at az hle jZ;refine aaQ.z rfl (dF ?_);unfold tA;simp +contextual only [az,jZ,↓al,aK,simprocAttr];refine gD (fun r g=>r 0=v/\r 1=w/\∃i:Nat,r 5=.int .i64 i/\i<=l.length/\Ext h g) (fun r g=>l.length - (r 5).toN) ?_ ?_
     . exact ⟨by simp only [↓al,br,simprocAttr],by simp only [↓al,br,simprocAttr],0,by simp only [↓al,br,simprocAttr]<;>rfl,by omega,Ext.refl h⟩
     rintro r g ⟨bA,bD,i,dZ,aq,E⟩;unfold P3;by_cases aT:i<l.length
     . have g0:((i:Int) < (l.length:Int))=True:=eq_true (by omega);obtain ⟨b,off,ul,dD,X,iK,ld⟩:=an.dO (L.ext E) (k:=.i64) aT;obtain ⟨ch,L7,aq9,uc,nH,apn,zj⟩:=an.dO (lp.ext E) (k:=.i64) aT;have d1:=ld g (Ext.refl g);have d2:=zj g (Ext.refl g);have eR:=pw aT (by unfold top at hle;omega);have b':=uE (List.getElem_mem aT);simp +contextual only [bA,bD,dZ,az,g0,dD,uc,d1,d2,↓al,aK,simprocAttr];refine cF (BO l[i] (by omega) _ _ g X nH) ?_;rintro x g2 ⟨rfl,aZ⟩;have d3:=ld g2 aZ;have d4:=zj g2 aZ;simp +contextual only [bA,bD,dZ,eR,d1,d2,d3,d4,↓al,aK,simprocAttr];exact ⟨⟨i+1,rfl,aT,E.trans aZ⟩,by omega⟩
     . have g0:((i:Int) < (l.length:Int))=False:=eq_false (by omega);simp +contextual only [bA,bD,dZ,az,g0,↓al,aK,simprocAttr];exact E
theorem amM (t:an) (ag ws:List V) (h:ah) (H:b5 Any h t.enc ag) (cy:b5 Any h t.enc ws):c4 Tryz.prog 25 [.agg ag,.agg ws] h fun x ab=>x=.bool true/\Ext h ab:=(Wt _).1 t (Nat.lt_succ_self _) ag ws h H cy
abbrev z5:List V:=[.int .i64 0,.int .i64 0,.str [],.bU]
abbrev r5 (t:an) (cr:V):List V:=[.int .i64 t.k,.int .i64 t.n,.str t.s,cr]
theorem VB:∀N:Nat,(∀(t u:an),t.size<=N->∀(ag ws:List V) (h:ah),b5 Any h t.enc ag->b5 Any h u.enc ws->c4 Tryz.prog 28 [.agg ag,.agg ws] h fun x ab=>x=.bool (t.same u)/\Ext h ab)/\
 (∀(l m:List an),cN l<=N->∀(v w:V) (h:ah),dj Any h 4 (l.map an.enc) v->dj Any h 4 (m.map an.enc) w->c4 Tryz.prog 66 [v,w,.func 28 []] h fun x ab=>x=.bool (jL l m)/\Ext h ab)
 | 0=>by
   refine ⟨fun t u aM=>by have:=rm t;omega,fun l m aM v w h L M=>?_⟩;have nW:l.length=0:=by have:=sQ l;omega
   obtain rfl:=List.eq_nil_of_length_eq_zero nW;have az:=L.len;have hm:=M.len;rw [List.length_map] at az hm;refine D2.z rfl (dF ?_);unfold AR;by_cases aA:m.length=0
   . obtain rfl:=List.eq_nil_of_length_eq_zero aA;simp +contextual only [az,hm,decide_true,decide_false,↓al,aK,simprocAttr];refine gD (fun r g=>r 17=.int .i64 0/\r 16=.int .i64 0/\g=h) (fun r g=>0) ?_ ?_
     . exact ⟨by simp only [↓al,br,simprocAttr],by simp only [↓al,br,simprocAttr]<;>rfl,rfl⟩
     rintro r g ⟨oj,r16,rfl⟩;unfold AS;simp +contextual only [r16,oj,show ((0:Int)<0)=False from by simp,↓al,aK,simprocAttr];exact ⟨rfl,Ext.refl _⟩
   . have f0:((0:Int)=(m.length:Int))=False:=eq_false (by omega);simp only [List.length_nil,Int.ofNat_zero,Int.natCast_zero] at az;simp +contextual only [az,hm,f0,decide_true,decide_false,↓al,aK,simprocAttr];refine ⟨?_,Ext.refl _⟩
     match m,aA with
     | u::m,_=>rw [jL]
     | [],aA=>exact absurd rfl aA
 | N+1=>by
   obtain ⟨BO,wB⟩:=VB N;have H1:∀(t u:an),t.size<=N+1->∀(ag ws:List V) (h:ah),b5 Any h t.enc ag->b5 Any h u.enc ws->c4 Tryz.prog 28 [.agg ag,.agg ws] h fun x ab=>x=.bool (t.same u)/\Ext h ab:=by
    intro t u aM ag ws h H cy;obtain ⟨cr,rfl,L,_⟩:=an.open H;obtain ⟨wl,rfl,M,_⟩:=an.open cy;have ol:=L.one;have gr:=M.one;have b':=size_eq t;refine aaZ.z rfl (dF ?_);unfold P9;obtain ⟨aa,ao,aN,da⟩:=fU h (r5 t cr);obtain ⟨ad,ax,aZ,fp⟩:=fU aa (r5 u wl);have dh:=da.ext aZ;have fv:=aN.trans aZ;rw [amN];by_cases bS:t.k=u.k
    . by_cases bX:t.n=u.n
      . by_cases c3:t.s=u.s
        . simp +contextual only [ao,ax,ol.1,ol.2.1,gr.1,gr.2.1,dh.g,fp.g,eq_true bS,eq_true bX,eq_true c3,decide_true,decide_false,Bool.true_and,↓al,aK,simprocAttr];refine cF (wB t.l u.l (by omega) cr wl ad (L.ext fv) (M.ext fv)) ?_;rintro x aH ⟨rfl,bJ⟩;simp +contextual only [↓al,aK,simprocAttr];exact fv.trans bJ
        . simp +contextual only [ao,ax,ol.1,ol.2.1,gr.1,gr.2.1,dh.g,fp.g,eq_true bS,eq_true bX,eq_false c3,decide_true,decide_false,Bool.true_and,Bool.false_and,↓al,aK,simprocAttr];exact fv
      . simp +contextual only [ao,ax,ol.1,ol.2.1,gr.1,gr.2.1,dh.g,fp.g,eq_true bS,eq_false bX,decide_true,decide_false,Bool.true_and,Bool.false_and,↓al,aK,simprocAttr];exact fv
    . simp +contextual only [ao,ax,ol.1,ol.2.1,gr.1,gr.2.1,dh.g,fp.g,eq_false bS,decide_true,decide_false,Bool.true_and,Bool.false_and,↓al,aK,simprocAttr];exact fv
   refine ⟨H1,fun l m aM v w h L M=>?_⟩;have az:=L.len;have hm:=M.len;have hle:=L.le;rw [List.length_map] at az hm hle;refine D2.z rfl (dF ?_);unfold AR;by_cases aA:l.length=m.length
   . have f0:((l.length:Int)=(m.length:Int))=True:=eq_true (by omega);simp +contextual only [az,hm,f0,decide_true,decide_false,↓al,aK,simprocAttr];refine gD (fun r g=>r 1=w/\r 2=.func 28 []/\r 15=v/\r 16=.int .i64 l.length/\∃i:Nat,r 17=.int .i64 i/\i<=l.length/\jL l m=jL (l.drop i) (m.drop i)/\Ext h g) (fun r g=>l.length - (r 17).toN) ?_ ?_
     . exact ⟨by simp only [↓al,br,simprocAttr],by simp only [↓al,br,simprocAttr],by simp only [↓al,br,simprocAttr],by simp only [↓al,br,simprocAttr],0,by simp only [↓al,br,simprocAttr]<;>rfl,by omega,rfl,Ext.refl h⟩
     rintro r g ⟨bD,b3,jh,r16,i,oj,aq,af,E⟩;unfold AS;by_cases aT:i<l.length
     . have g0:((i:Int) < (l.length:Int))=True:=eq_true (by omega);obtain ⟨b,off,cr,dD,X,iK,ld⟩:=an.dO (L.ext E) (k:=.i64) aT;obtain ⟨ch,L7,wl,uc,Y,Iv,zj⟩:=an.dO (M.ext E) (k:=.i64) (show i<m.length by omega);have d1:=ld g (Ext.refl g);have ol:=iK.one;have gr:=Iv.one;have eR:=pw aT (by unfold top at hle;omega);obtain ⟨g1,dT,bq,da⟩:=gM g z5 (r5 l[i] cr);obtain ⟨g2,e3,dx,fp⟩:=gM g1 z5 (r5 m[i] wl);have d2:=zj g1 bq;have dh:=da.ext dx;have rD:=bq.trans dx;have bn:=uE (List.getElem_mem aT);simp +contextual only [bD,b3,jh,r16,oj,g0,dD,uc,d1,d2,dT,e3,ol.1,ol.2.1,gr.1,gr.2.1,da.g,dh.g,fp.g,D4,List.cons_append,List.nil_append,show (28=4294967296)=False from by simp,if_false,↓al,aK,simprocAttr];refine cF (H1 l[i] m[i] (by omega) _ _ g2 (X.ext rD) (Y.ext rD)) ?_;rintro x g3 ⟨rfl,nr⟩;have bb:=VC aT (show i<m.length by omega);have fF:=E.trans (rD.trans nr);cases ae:l[i].same m[i] with
       | true=>
         simp +contextual only [bD,b3,jh,r16,oj,eR,↓al,aK,simprocAttr];refine ⟨⟨i+1,rfl,aT,?_,fF⟩,by omega⟩;rw [af,bb,ae,Bool.true_and]
       | false=>
         simp +contextual only [bD,b3,jh,r16,oj,eR,↓al,aK,simprocAttr];refine ⟨?_,fF⟩;rw [af,bb,ae,Bool.false_and]
     . have g0:((i:Int) < (l.length:Int))=False:=eq_false (by omega);simp +contextual only [bD,b3,jh,r16,oj,g0,↓al,aK,simprocAttr];refine ⟨?_,E⟩;rw [af,List.drop_eq_nil_of_le (by omega),List.drop_eq_nil_of_le (by omega),jL]
   . have f0:((l.length:Int)=(m.length:Int))=False:=eq_false (by omega);simp +contextual only [az,hm,f0,decide_true,decide_false,↓al,aK,simprocAttr];refine ⟨?_,Ext.refl _⟩;cases ae:jL l m with
     | false=>rfl
     | true=>exact absurd (VE ae) aA
theorem He (t u:an) (ag ws:List V) (h:ah) (H:b5 Any h t.enc ag) (cy:b5 Any h u.enc ws):c4 Tryz.prog 28 [.agg ag,.agg ws] h fun x ab=>x=.bool (t.same u)/\Ext h ab:=(VB t.size).1 t u (Nat.le_refl _) ag ws h H cy
end
end Go.Proofs.YthemdhlheglhoaaGreatDoor
