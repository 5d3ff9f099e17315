/- The chapter's functions, walked by the abstract machine: plain lemmas, no condition. Printed by a program from longer texts: names made short. -/
import Derived.Test.YthemdhlheglhoaaGreatDoorM10
import Derived.Test.YthemdhlheglhoaaGreatDoorM11
import Derived.Test.YthemdhlheglhoaaGreatDoorM8
set_option linter.unusedSectionVars false
set_option linter.unusedSimpArgs false
set_option linter.unusedVariables false
set_option maxHeartbeats 64000000
noncomputable section
namespace Go.Proofs.YthemdhlheglhoaaGreatDoor
section
open Go a8
abbrev gW:=List (Int × aM)
section
variable (s:gW)
mutual
def aM.put:aM->aM
 | .mk k n x l=>match (if k=1 then e_ n s else none) with
   | some u=>u
   | none=>.mk k n x (fC l)
def fC:List aM->List aM
 | []=>[]
 | t::l=>t.put::fC l
end
end
theorem abH {t:aM} (h:t.check=0):t.shape=true/\t.size<=4096/\t.deep<=200:=by
 unfold aM.check at h
 split at h
 . rename_i aa
   split at h
   . rename_i ad;exact ⟨aa,ad⟩
   . cases h
 . cases h
def aoS:aM:=.mk 0 0 [] []
section
variable {s:gW}
end
end
section
open Go a8
structure dw where
 ch:Bool
 n:Int
 s:List UInt8
 kids:List Nat
structure bp where
 nodes:List dw
 vars:List (Int × Nat)
def bp.N (g:bp):Nat:=g.nodes.length
def bp.var (g:bp) (n:Int):bp × Nat:=
 match e_ n g.vars with
 | some i=>(g,i)
 | none=>(⟨g.nodes++[⟨false,n,[],[]⟩],g.vars++[(n,g.nodes.length)]⟩,g.nodes.length)
def bp.put (g:bp) (s:List UInt8) (aI:List Nat):bp:=⟨g.nodes++[⟨true,0,s,aI⟩],g.vars⟩
mutual
def aM.add:aM->bp->bp × Nat
 | .mk k n s l,g=>if k=1 then g.var n else ((cf l g).1.put s (cf l g).2,(cf l g).1.N)
def cf:List aM->bp->bp × List Nat
 | [],g=>(g,[])
 | t::l,g=>((cf l (t.add g).1).1,(t.add g).2::(cf l (t.add g).1).2)
end
theorem add_eq (t:aM) (g:bp):t.add g=if t.k=1 then g.var t.n else ((cf t.l g).1.put t.s (cf t.l g).2,(cf t.l g).1.N):=by cases t;rw [aM.add];rfl
theorem OR:∀(l m:List aM) (g:bp),cf (l++m) g=((cf m (cf l g).1).1,(cf l g).2++(cf m (cf l g).1).2)
 | [],m,g=>by simp [cf]
 | t::l,m,g=>by rw [List.cons_append,cf,OR l m];simp [cf]
theorem D4:∀(l:List aM) (g:bp),(cf l g).2.length=l.length
 | [],g=>rfl
 | t::l,g=>by rw [cf,List.length_cons,List.length_cons,D4 l]
def bp.le (g cC:bp):Prop:=(∃m,cC.nodes=g.nodes++m)/\∃m,cC.vars=g.vars++m
theorem bp.le.refl (g:bp):g.le g:=⟨⟨[],by simp⟩,⟨[],by simp⟩⟩
theorem bp.le.trans {a b c:bp} (h:a.le b) (k:b.le c):a.le c:=by obtain ⟨⟨m,aa⟩,n,ad⟩:=h;obtain ⟨⟨p,bz⟩,q,bx⟩:=k;exact ⟨⟨m++p,by rw [bz,aa,List.append_assoc]⟩,n++q,by rw [bx,ad,List.append_assoc]⟩
theorem bp.le.get {g cC:bp} (h:g.le cC) {i:Nat} {aL:dw} (e:g.nodes[i]? =some aL):cC.nodes[i]? =some aL:=by obtain ⟨⟨m,aa⟩,_⟩:=h;rw [aa,List.getElem?_append_left (List.getElem?_eq_some_iff.1 e).1];exact e
theorem bp.le.bF {g cC:bp} (h:g.le cC) {i:Nat} (ao:i<g.N):cC.nodes[i]? =g.nodes[i]? :=by obtain ⟨⟨m,aa⟩,_⟩:=h;rw [aa,List.getElem?_append_left ao]
theorem bp.le.n {g cC:bp} (h:g.le cC):g.N<=cC.N:=by obtain ⟨⟨m,aa⟩,_⟩:=h;unfold bp.N;rw [aa,List.length_append];omega
theorem Gb {α:Type} (s:Int):∀(k m:List (Int × α)),e_ s (k++m)=(match e_ s k with | some a=>some a | none=>e_ s m)
 | [],m=>rfl
 | (n,a)::k,m=>by
   simp only [List.cons_append,e_]
   split
   . rfl
   . exact Gb s k m
theorem Ud {α:Type} {s:Int} {a:α}:∀{k:List (Int × α)},e_ s k=some a->(s,a) ∈ k
 | [],h=>by cases h
 | (n,b)::k,h=>by
   simp only [e_] at h
   split at h
   . rename_i e;cases h;subst e;exact List.mem_cons_self
   . exact List.mem_cons_of_mem _ (Ud h)
theorem Ue {α:Type} {s:Int}:∀{k:List (Int × α)},e_ s k=none->s ∉ k.map Prod.fst
 | [],_,h=>by simp at h
 | (n,b)::k,h,q=>by
   simp only [e_] at h
   split at h
   . cases h
   . rename_i e;rcases List.mem_cons.1 q with q | q
     . exact e q
     . exact Ue h q
theorem wX {α:Type} {s:Int} {a:α}:∀{k:List (Int × α)},(k.map Prod.fst).Nodup->(s,a) ∈ k->e_ s k=some a
 | [],_,h=>by cases h
 | (n,b)::k,aV,h=>by
   simp only [List.map_cons,List.nodup_cons] at aV;simp only [e_];rcases List.mem_cons.1 h with h | h
   . cases h;rw [if_pos rfl]
   . rw [if_neg (fun e=>aV.1 (by rw [<-e];exact List.mem_map_of_mem h))];exact wX aV.2 h
structure bp.dX (g:bp):Prop where
 c0:∀(i:Nat) (aL:dw),g.nodes[i]? =some aL->∀x ∈ aL.kids,x<i
 ch:∀(i:Nat) (aL:dw),g.nodes[i]? =some aL->aL.ch=true->aL.n=0
 var:∀(i:Nat) (aL:dw),g.nodes[i]? =some aL->aL.ch=false->aL.kids=[]/\aL.s=[]/\0<=aL.n/\e_ aL.n g.vars=some i
 hF:∀(n:Int) (i:Nat),e_ n g.vars=some i->∃aL,g.nodes[i]? =some aL/\aL.ch=false/\aL.n=n
 keys:(g.vars.map Prod.fst).Nodup
 ao:∀p ∈ g.vars,p.1<=1048575
theorem bp.dX.empty:bp.dX ⟨[],[]⟩:=⟨fun i aL h=>by simp at h,fun i aL h=>by simp at h,fun i aL h=>by simp at h,fun n i h=>(by simp [e_] at h),by simp,fun p af=>(by cases af)⟩
theorem bp.dX.qf {g:bp} (W:g.dX) {i:Nat} {aL:dw} (h:g.nodes[i]? =some aL) {x:Nat} (ak:x ∈ aL.kids):x<g.N:=by have:=W.c0 i aL h x ak;have:=(List.getElem?_eq_some_iff.1 h).1;unfold bp.N;omega
theorem oc {α:Type} {l:List α} {x y:α} {i:Nat} (h:(l++[x])[i]? =some y):l[i]? =some y\/i=l.length/\y=x:=by
 by_cases c:i<l.length
 . rw [List.getElem?_append_left c] at h;exact .inl h
 . rw [List.getElem?_append_right (by omega)] at h;have:i-l.length=0:=by
    have:=(List.getElem?_eq_some_iff.1 h).1;simp only [List.length_singleton] at this;omega
   rw [this] at h;simp only [List.getElem?_cons_zero,Option.some.injEq] at h;exact .inr ⟨by omega,h.symm⟩
theorem aof {g:bp} (W:g.dX) {n:Int} (aV:0<=n) (pa:n<=1048575):g.le (g.var n).1/\(g.var n).1.dX/\(g.var n).2 < (g.var n).1.N/\(g.var n).1.N<=g.N+1:=by
 unfold bp.var;cases h:e_ n g.vars with
 | some i=>
   obtain ⟨aL,aa,_⟩:=W.hF n i h;exact ⟨bp.le.refl g,W,(List.getElem?_eq_some_iff.1 aa).1,Nat.le_succ _⟩
 | none=>
   refine ⟨⟨⟨_,rfl⟩,_,rfl⟩,⟨?_,?_,?_,?_,?_,?_⟩,?_,?_⟩
   . intro i aL e x ak;rcases oc e with e | ⟨e,rfl⟩
     . exact W.c0 i aL e x ak
     . simp at ak
   . intro i aL e c;rcases oc e with e | ⟨e,rfl⟩
     . exact W.ch i aL e c
     . cases c
   . intro i aL e c;rcases oc e with e | ⟨c_,rfl⟩
     . obtain ⟨a,b,bL,d⟩:=W.var i aL e c;exact ⟨a,b,bL,by rw [Gb,d]⟩
     . refine ⟨rfl,rfl,aV,?_⟩;rw [Gb,h];simp only [e_,if_true];rw [c_]
   . intro m i e;rw [Gb] at e;cases q:e_ m g.vars with
     | some j=>
       rw [q] at e;simp only [Option.some.injEq] at e;subst e;obtain ⟨aL,a,b⟩:=W.hF m j q;exact ⟨aL,by rw [List.getElem?_append_left (List.getElem?_eq_some_iff.1 a).1];exact a,b⟩
     | none=>
       rw [q] at e;simp only [e_] at e
       split at e
       . rename_i em;cases e;exact ⟨_,by rw [List.getElem?_append_right (Nat.le_refl _),Nat.sub_self];rfl,rfl,em.symm⟩
       . cases e
   . rw [List.map_append,List.nodup_append];refine ⟨W.keys,by simp,fun a a1 b ae e=>?_⟩;simp only [List.map_cons,List.map_nil,List.mem_singleton] at ae;subst ae;subst e;exact Ue h a1
   . intro p af;rcases List.mem_append.1 af with af | af
     . exact W.ao p af
     . rw [List.mem_singleton] at af;subst af;exact pa
   . show g.nodes.length < (g.nodes++[_]).length;simp
   . show (g.nodes++[_]).length<=g.nodes.length+1;simp
theorem alZ {g:bp} (W:g.dX) (s:List UInt8) {aI:List Nat} (aH:∀x ∈ aI,x<g.N):g.le (g.put s aI)/\(g.put s aI).dX/\(g.put s aI).N=g.N+1:=by
 have aA:g.le (g.put s aI):=⟨⟨_,rfl⟩,[],by simp [bp.put]⟩;refine ⟨aA,⟨?_,?_,?_,?_,W.keys,W.ao⟩,by simp [bp.put,bp.N]⟩
 . intro i aL e x ak;rcases oc e with e | ⟨e,rfl⟩
   . exact W.c0 i aL e x ak
   . have:=aH x ak;unfold bp.N at this;omega
 . intro i aL e c;rcases oc e with e | ⟨e,rfl⟩
   . exact W.ch i aL e c
   . rfl
 . intro i aL e c;rcases oc e with e | ⟨e,rfl⟩
   . exact W.var i aL e c
   . cases c
 . intro n i e;obtain ⟨aL,a,b⟩:=W.hF n i e;exact ⟨aL,aA.get a,b⟩
mutual
def aM.lr:aM->Bool
 | .mk k n s l=>(decide (k≠1)||(decide (0<=n)&&decide (n<=1048575)))&&kA l
def kA:List aM->Bool
 | []=>true
 | t::l=>t.lr&&kA l
end
theorem Xw (t:aM):t.lr=((decide (t.k≠1)||(decide (0<=t.n)&&decide (t.n<=1048575)))&&kA t.l):=by cases t;rw [aM.lr];rfl
theorem Nv:∀l m:List aM,kA (l++m)=(kA l&&kA m)
 | [],m=>by simp [kA]
 | t::l,m=>by rw [List.cons_append,kA,kA,Nv l m,Bool.and_assoc]
theorem Nw {t:aM}:∀{l:List aM},kA l=true->t ∈ l->t.lr=true
 | [],_,h=>by cases h
 | u::l,h,m=>by
   simp only [kA,Bool.and_eq_true] at h;rcases List.mem_cons.1 m with rfl | m
   . exact h.1
   . exact Nw h.2 m
mutual
theorem Ws:∀t:aM,t.shape=true->t.lr=true
 | .mk k n s l,h=>by
   rw [aM.shape,Bool.and_eq_true] at h;rw [aM.lr,Wu l h.2,Bool.and_true,Bool.or_eq_true,Bool.and_eq_true,decide_eq_true_eq,decide_eq_true_eq,decide_eq_true_eq];by_cases c:k=1
   . refine .inr ?_;have aa:=h.1;unfold aM.own at aa;rw [if_pos (show (aM.mk k n s l).k=1 from c)] at aa;simp only [Bool.and_eq_true,decide_eq_true_eq] at aa;exact aa.1.1
   . exact .inl c
theorem Wu:∀l:List aM,kZ l=true->kA l=true
 | [],_=>rfl
 | t::l,h=>by rw [kZ,Bool.and_eq_true] at h;rw [kA,Ws t h.1,Wu l h.2];rfl
end
mutual
theorem r5:∀(t:aM) (g:bp),t.lr=true->g.dX->g.le (t.add g).1/\(t.add g).1.dX/\(t.add g).2 < (t.add g).1.N/\(t.add g).1.N<=g.N+t.size
 | .mk k n s l,g,h,W=>by
   rw [aM.lr,Bool.and_eq_true] at h;rw [aM.add,aM.size];by_cases c:k=1
   . rw [if_pos c];have aV:0<=n/\n<=1048575:=by
      have:=h.1;simp only [c,ne_eq,not_true_eq_false,decide_false,Bool.false_or,Bool.and_eq_true,decide_eq_true_eq] at this;exact this
     obtain ⟨a,b,d,e⟩:=aof W (n:=n) aV.1 aV.2;exact ⟨a,b,d,by omega⟩
   . rw [if_neg c];obtain ⟨a,b,d,e⟩:=D5 l g h.2 W;obtain ⟨p,q,r⟩:=alZ b s d;exact ⟨a.trans p,q,by simp only;omega,by simp only;omega⟩
theorem D5:∀(l:List aM) (g:bp),kA l=true->g.dX->g.le (cf l g).1/\(cf l g).1.dX/\(∀x ∈ (cf l g).2,x < (cf l g).1.N)/\(cf l g).1.N<=g.N+cE l
 | [],g,h,W=>⟨bp.le.refl g,W,fun x ak=>(by cases ak),by simp only [cf,cE];omega⟩
 | t::l,g,h,W=>by
   rw [kA,Bool.and_eq_true] at h;obtain ⟨a,b,c,d⟩:=r5 t g h.1 W;obtain ⟨bw,bL,fS,ji⟩:=D5 l _ h.2 b;rw [cf,cE];refine ⟨a.trans bw,bL,fun x ak=>?_,by simp only;omega⟩;rcases List.mem_cons.1 ak with rfl | ak
   . have:=bw.n;simp only;omega
   . exact fS x ak
end
def iV:List (aM × aM)->bp × List (Nat × Nat)->bp × List (Nat × Nat)
 | [],g=>g
 | p::l,g=>iV l ((p.2.add (p.1.add g.1).1).1,((p.1.add g.1).2,(p.2.add (p.1.add g.1).1).2)::g.2)
inductive cy (g:bp) (E:List (Nat × Nat)):Nat->Nat->Prop
 | base {a b:Nat} (h:(a,b) ∈ E):cy g E a b
 | refl (a:Nat):cy g E a a
 | symm {a b:Nat} (h:cy g E a b):cy g E b a
 | trans {a b c:Nat} (h:cy g E a b) (k:cy g E b c):cy g E a c
 | c0 {a b x y i:Nat} {aL cl:dw} (h:cy g E a b) (a1:g.nodes[a]? =some aL) (ae:g.nodes[b]? =some cl) (k8:aL.ch=true) (k9:cl.ch=true) (ak:aL.kids[i]? =some x) (aZ:cl.kids[i]? =some y):cy g E x y
def mN (g:bp) (E:List (Nat × Nat)):Prop:=∃(a b:Nat) (aL cl:dw),cy g E a b/\g.nodes[a]? =some aL/\g.nodes[b]? =some cl/\aL.ch=true/\cl.ch=true/\(aL.s≠cl.s\/aL.kids.length≠cl.kids.length)
theorem cy.mono {g cC:bp} {E ax:List (Nat × Nat)} (aB:g.le cC) (ho:∀p ∈ E,p ∈ ax) {a b:Nat} (h:cy g E a b):cy cC ax a b:=by
 induction h with
 | base h=>exact .base (ho _ h)
 | refl a=>exact .refl a
 | symm _ bq=>exact .symm bq
 | trans _ _ i1 i2=>exact .trans i1 i2
 | c0 _ a1 ae k8 k9 ak aZ bq=>exact .c0 bq (aB.get a1) (aB.get ae) k8 k9 ak aZ
theorem mN.mono {g cC:bp} {E ax:List (Nat × Nat)} (aB:g.le cC) (ho:∀p ∈ E,p ∈ ax) (h:mN g E):mN cC ax:=by obtain ⟨a,b,aL,cl,aa,ad,aJ,bG⟩:=h;exact ⟨a,b,aL,cl,aa.mono aB ho,aB.get ad,aB.get aJ,bG⟩
structure eP (g:bp) (ρ:Nat->Nat):Prop where
 idem:∀a,ρ (ρ a)=ρ a
 lt:∀a,a<g.N->ρ a<g.N
 out:∀a,g.N<=a->ρ a=a
 top:∀(a:Nat) (aL:dw),g.nodes[a]? =some aL->aL.ch=true->∃cl:dw,g.nodes[ρ a]? =some cl/\cl.ch=true
inductive hJ (ρ:Nat->Nat) (Q:List (Nat × Nat)):Nat->Nat->Prop
 | pD {a b:Nat} (h:ρ a=ρ b):hJ ρ Q a b
 | q {a b:Nat} (h:(a,b) ∈ Q):hJ ρ Q a b
 | symm {a b:Nat} (h:hJ ρ Q a b):hJ ρ Q b a
 | trans {a b c:Nat} (h:hJ ρ Q a b) (k:hJ ρ Q b c):hJ ρ Q a c
theorem hJ.imp {ρ dF:Nat->Nat} {Q gg:List (Nat × Nat)} (aa:∀a b,ρ a=ρ b->hJ dF gg a b) (ad:∀p ∈ Q,hJ dF gg p.1 p.2) {a b:Nat} (h:hJ ρ Q a b):hJ dF gg a b:=by
 induction h with
 | pD h=>exact aa _ _ h
 | q h=>exact ad _ h
 | symm _ bq=>exact .symm bq
 | trans _ _ i1 i2=>exact .trans i1 i2
theorem hJ.nil {ρ:Nat->Nat} {a b:Nat} (h:hJ ρ [] a b):ρ a=ρ b:=by
 induction h with
 | pD h=>exact h
 | q h=>cases h
 | symm _ bq=>exact bq.symm
 | trans _ _ i1 i2=>exact i1.trans i2
structure ev (g:bp) (E:List (Nat × Nat)) (ρ:Nat->Nat) (Q:List (Nat × Nat)):Prop where
 sound:∀a b,ρ a=ρ b->cy g E a b
 cv:∀p ∈ Q,cy g E p.1 p.2
 base:∀p ∈ E,hJ ρ Q p.1 p.2
 closed:∀(a b:Nat) (aL cl:dw),ρ a=ρ b->g.nodes[a]? =some aL->g.nodes[b]? =some cl->aL.ch=true->cl.ch=true->
  aL.s=cl.s/\aL.kids.length=cl.kids.length/\∀(i x y:Nat),aL.kids[i]? =some x->cl.kids[i]? =some y->hJ ρ Q x y
section
variable {g:bp} {E:List (Nat × Nat)} {ρ:Nat->Nat} {Q:List (Nat × Nat)}
theorem ev.done (J:ev g E ρ []) {a b:Nat}:cy g E a b↔ρ a=ρ b:=by
 refine ⟨fun h=>?_,J.sound a b⟩
 induction h with
 | base h=>exact (J.base _ h).nil
 | refl a=>rfl
 | symm _ bq=>exact bq.symm
 | trans _ _ i1 i2=>exact i1.trans i2
 | c0 _ a1 ae k8 k9 ak aZ bq=>exact ((J.closed _ _ _ _ bq a1 ae k8 k9).2.2 _ _ _ ak aZ).nil
theorem ev.j5 (J:ev g E ρ []):¬mN g E:=by
 rintro ⟨a,b,aL,cl,aa,ad,aJ,bG,di,dD⟩;obtain ⟨ar,aw,_⟩:=J.closed a b aL cl (J.done.1 aa) ad aJ bG di;rcases dD with dD | dD
 . exact dD ar
 . exact dD aw
theorem ev.perm {gg:List (Nat × Nat)} (J:ev g E ρ Q) (h:∀p,p ∈ Q↔p ∈ gg):ev g E ρ gg:=by have lV:∀{a b:Nat},hJ ρ Q a b->hJ ρ gg a b:=fun q=>q.imp (fun a b e=>.pD e) fun p af=>.q ((h p).1 af);refine ⟨J.sound,fun p af=>J.cv p ((h p).2 af),fun p af=>lV (J.base p af),fun a b aL cl e a1 ae k8 k9=>?_⟩;obtain ⟨ar,aw,aK⟩:=J.closed a b aL cl e a1 ae k8 k9;exact ⟨ar,aw,fun i x y ak aZ=>lV (aK i x y ak aZ)⟩
theorem eP.grow {cC:bp} (S:eP g ρ) (aB:g.le cC):eP cC ρ:=by
 have aV:=aB.n;refine ⟨S.idem,fun a h=>?_,fun a h=>S.out a (by omega),fun a aL h c=>?_⟩
 . by_cases q:a<g.N
   . have:=S.lt a q;omega
   . rw [S.out a (by omega)];exact h
 . by_cases q:a<g.N
   . rw [aB.bF q] at h;obtain ⟨cl,aa,ad⟩:=S.top a aL h c;exact ⟨cl,aB.get aa,ad⟩
   . exact ⟨aL,by rw [S.out a (by omega)];exact h,c⟩
theorem ev.grow {cC:bp} (S:eP g ρ) (W:cC.dX) (J:ev g E ρ Q) (aB:g.le cC):ev cC E ρ Q:=by
 have same:∀a b,ρ a=ρ b->a<g.N->b<g.N:=fun a b e a1=>by
  by_cases q:b<g.N
  . exact q
  . have:=S.lt a a1;rw [e,S.out b (by omega)] at this;omega
 refine ⟨fun a b h=>(J.sound a b h).mono aB fun _ h=>h,fun p af=>(J.cv p af).mono aB fun _ h=>h,J.base,fun a b aL cl e a1 ae k8 k9=>?_⟩;by_cases q:a<g.N
 . have dV:=same a b e q;rw [aB.bF q] at a1;rw [aB.bF dV] at ae;exact J.closed a b aL cl e a1 ae k8 k9
 . have dV:¬b<g.N:=fun z=>q (same b a e.symm z);rw [S.out a (by omega),S.out b (by omega)] at e;subst e;rw [a1] at ae;cases ae;refine ⟨rfl,rfl,fun i x y ak aZ=>?_⟩;rw [ak] at aZ;cases aZ;exact .pD rfl
theorem ev.push (J:ev g E ρ Q) (a b:Nat):ev g ((a,b)::E) ρ ((a,b)::Q):=by
 have lV:∀{x y:Nat},hJ ρ Q x y->hJ ρ ((a,b)::Q) x y:=fun q=>q.imp (fun a b e=>.pD e) fun p af=>.q (List.mem_cons_of_mem _ af);have tM:∀{x y:Nat},cy g E x y->cy g ((a,b)::E) x y:=fun q=>q.mono (bp.le.refl g) fun p af=>List.mem_cons_of_mem _ af;refine ⟨fun x y e=>tM (J.sound x y e),fun p af=>?_,fun p af=>?_,fun x y aL cl e a1 ae k8 k9=>?_⟩
 . rcases List.mem_cons.1 af with rfl | af
   . exact .base List.mem_cons_self
   . exact tM (J.cv p af)
 . rcases List.mem_cons.1 af with rfl | af
   . exact .q List.mem_cons_self
   . exact lV (J.base p af)
 . obtain ⟨ar,aw,aK⟩:=J.closed x y aL cl e a1 ae k8 k9;exact ⟨ar,aw,fun i u v hu bj=>lV (aK i u v hu bj)⟩
theorem ev.skip {a b:Nat} (J:ev g E ρ ((a,b)::Q)) (h:ρ a=ρ b):ev g E ρ Q:=by
 have lV:∀{x y:Nat},hJ ρ ((a,b)::Q) x y->hJ ρ Q x y:=fun q=>q.imp (fun a b e=>.pD e) fun p af=>by
  rcases List.mem_cons.1 af with rfl | af
  . exact .pD h
  . exact .q af
 refine ⟨J.sound,fun p af=>J.cv p (List.mem_cons_of_mem _ af),fun p af=>lV (J.base p af),fun x y aL cl e a1 ae k8 k9=>?_⟩;obtain ⟨ar,aw,aK⟩:=J.closed x y aL cl e a1 ae k8 k9;exact ⟨ar,aw,fun i u v hu bj=>lV (aK i u v hu bj)⟩
def ea (ρ:Nat->Nat) (r s:Nat):Nat->Nat:=fun x=>if ρ x=r then s else ρ x
theorem He {r s:Nat} (aE:ρ r=r) (aS:ρ s=s) {x y:Nat} (h:ea ρ r s x=ea ρ r s y):ρ x=ρ y\/(ρ x=r/\ρ y=s)\/(ρ x=s/\ρ y=r):=by
 unfold ea at h
 split at h<;>split at h
 . rename_i a b;exact .inl (a.trans b.symm)
 . rename_i a b;exact .inr (.inl ⟨a,h.symm⟩)
 . rename_i a b;exact .inr (.inr ⟨h,b⟩)
 . exact .inl h
theorem Np {r s x y:Nat} (h:ρ x=ρ y):ea ρ r s x=ea ρ r s y:=by unfold ea;rw [h]
theorem Nq {r s x y:Nat} (ak:ρ x=r) (aZ:ρ y=s):ea ρ r s x=ea ρ r s y:=by
 unfold ea;rw [if_pos ak]
 split
 . rfl
 . exact aZ.symm
theorem eP.one {r s:Nat} (S:eP g ρ) (aE:ρ r=r) (aS:ρ s=s) (ck:r≠s) (qm:r<g.N) (ls:s<g.N) (av:∀aL:dw,g.nodes[r]? =some aL->aL.ch=true->∃cl:dw,g.nodes[s]? =some cl/\cl.ch=true):eP g (ea ρ r s):=by
 have af5:ea ρ r s s=s:=by unfold ea;rw [aS,if_neg (fun e=>ck e.symm)]
 refine ⟨fun a=>?_,fun a h=>?_,fun a h=>?_,fun a aL h c=>?_⟩
 . by_cases q:ρ a=r
   . have:ea ρ r s a=s:=by unfold ea;rw [if_pos q]
     rw [this,af5]
   . have:ea ρ r s a=ρ a:=by unfold ea;rw [if_neg q]
     rw [this];unfold ea;rw [S.idem,if_neg q]
 . unfold ea
   split
   . exact ls
   . exact S.lt a h
 . unfold ea;have:=S.out a h;rw [if_neg (by omega)];exact this
 . obtain ⟨cl,aa,ad⟩:=S.top a aL h c;unfold ea
   split
   . rename_i q;rw [q] at aa;exact av cl aa ad
   . exact ⟨cl,aa,ad⟩
theorem ev.Xk {a b r s:Nat} (S:eP g ρ) (J:ev g E ρ ((a,b)::Q)) (yG:(ρ a=r/\ρ b=s)\/(ρ a=s/\ρ b=r)) (aE:ρ r=r) (aS:ρ s=s) (bj:∀aL:dw,g.nodes[r]? =some aL->aL.ch=false):ev g E (ea ρ r s) Q:=by
 have lV:∀{x y:Nat},hJ ρ ((a,b)::Q) x y->hJ (ea ρ r s) Q x y:=fun q=>q.imp (fun a b e=>.pD (Np e)) fun p af=>by
  rcases List.mem_cons.1 af with rfl | af
  . rcases yG with ⟨aa,ad⟩ | ⟨aa,ad⟩
    . exact .pD (Nq aa ad)
    . exact .symm (.pD (Nq ad aa))
  . exact .q af
 have yc:=J.cv (a,b) List.mem_cons_self;have yf:cy g E r s:=by
  rcases yG with ⟨aa,ad⟩ | ⟨aa,ad⟩
  . exact (cy.symm (J.sound a r (by rw [aa,aE]))).trans (yc.trans (J.sound b s (by rw [ad,aS])))
  . exact (cy.symm (J.sound b r (by rw [ad,aE]))).trans (yc.symm.trans (J.sound a s (by rw [aa,aS])))
 have UJ:∀(x:Nat) (aL:dw),ρ x=r->g.nodes[x]? =some aL->aL.ch=true->False:=fun x aL e h c=>by obtain ⟨cl,aa,ad⟩:=S.top x aL h c;rw [e] at aa;rw [bj cl aa] at ad;cases ad
 refine ⟨fun x y e=>?_,fun p af=>J.cv p (List.mem_cons_of_mem _ af),fun p af=>lV (J.base p af),fun x y aL cl e a1 ae k8 k9=>?_⟩
 . rcases He aE aS e with e | ⟨aP,bf⟩ | ⟨aP,bf⟩
   . exact J.sound x y e
   . exact (J.sound x r (by rw [aP,aE])).trans (yf.trans (J.sound s y (by rw [bf,aS])))
   . exact (J.sound x s (by rw [aP,aS])).trans (yf.symm.trans (J.sound r y (by rw [bf,aE])))
 . rcases He aE aS e with e | ⟨aP,bf⟩ | ⟨aP,bf⟩
   . obtain ⟨ar,aw,aK⟩:=J.closed x y aL cl e a1 ae k8 k9;exact ⟨ar,aw,fun i u v hu bj=>lV (aK i u v hu bj)⟩
   . exact (UJ x aL aP a1 k8).elim
   . exact (UJ y cl bf ae k9).elim
theorem ev.Xj {a b r s:Nat} {dL d_:dw} (S:eP g ρ) (J:ev g E ρ ((a,b)::Q)) (a1:ρ a=r) (ae:ρ b=s) (Fy:g.nodes[r]? =some dL) (Fz:g.nodes[s]? =some d_) (n_:dL.ch=true) (cs:d_.ch=true) (aP:dL.s=d_.s) (bf:dL.kids.length=d_.kids.length):
 ev g E (ea ρ r s) (dL.kids.zip d_.kids++Q):=by
 have aE:ρ r=r:=by rw [<-a1,S.idem]
 have aS:ρ s=s:=by rw [<-ae,S.idem]
 have lV:∀{x y:Nat},hJ ρ ((a,b)::Q) x y->hJ (ea ρ r s) (dL.kids.zip d_.kids++Q) x y:=fun q=>q.imp (fun a b e=>.pD (Np e)) fun p af=>by
  rcases List.mem_cons.1 af with rfl | af
  . exact .pD (Nq a1 ae)
  . exact .q (List.mem_append_right _ af)
 have yc:=J.cv (a,b) List.mem_cons_self;have yf:cy g E r s:=(cy.symm (J.sound a r (by rw [a1,aE]))).trans (yc.trans (J.sound b s (by rw [ae,aS])));have ajb:∀(i x y:Nat),dL.kids[i]? =some x->d_.kids[i]? =some y->(x,y) ∈ dL.kids.zip d_.kids:=fun i x y ak aZ=>by
  have:(dL.kids.zip d_.kids)[i]? =some (x,y):=by rw [List.getElem?_zip_eq_some];exact ⟨ak,aZ⟩
  exact List.mem_of_getElem? this
 have two:∀(x y:Nat) (aL cl:dw),ρ x=r->ρ y=s->g.nodes[x]? =some aL->g.nodes[y]? =some cl->aL.ch=true->cl.ch=true->
  aL.s=cl.s/\aL.kids.length=cl.kids.length/\∀(i u v:Nat),aL.kids[i]? =some u->cl.kids[i]? =some v->hJ (ea ρ r s) (dL.kids.zip d_.kids++Q) u v:=by
  intro x y aL cl ex jN ak aZ A8 A9;obtain ⟨bW,bV,b8⟩:=J.closed x r aL dL (by rw [ex,aE]) ak Fy A8 n_;obtain ⟨ar,aw,aK⟩:=J.closed s y d_ cl (by rw [jN,aS]) Fz aZ cs A9;refine ⟨bW.trans (aP.trans ar),bV.trans (bf.trans aw),fun i u v hu bj=>?_⟩;have li:=(List.getElem?_eq_some_iff.1 hu).1;have fA:dL.kids[i]? =some dL.kids[i]:=List.getElem?_eq_getElem (by omega);have uj:d_.kids[i]? =some d_.kids[i]:=List.getElem?_eq_getElem (by omega);exact (lV (b8 i _ _ hu fA)).trans ((hJ.q (List.mem_append_left _ (ajb i _ _ fA uj))).trans (lV (aK i _ _ uj bj)))
 refine ⟨fun x y e=>?_,fun p af=>?_,fun p af=>lV (J.base p af),fun x y aL cl e ak aZ A8 A9=>?_⟩
 . rcases He aE aS e with e | ⟨aP,bf⟩ | ⟨aP,bf⟩
   . exact J.sound x y e
   . exact (J.sound x r (by rw [aP,aE])).trans (yf.trans (J.sound s y (by rw [bf,aS])))
   . exact (J.sound x s (by rw [aP,aS])).trans (yf.symm.trans (J.sound r y (by rw [bf,aE])))
 . rcases List.mem_append.1 af with af | af
   . obtain ⟨i,ao⟩:=List.getElem?_of_mem af;rw [List.getElem?_zip_eq_some] at ao;exact .c0 yf Fy Fz n_ cs ao.1 ao.2
   . exact J.cv p (List.mem_cons_of_mem _ af)
 . rcases He aE aS e with e | ⟨aP,bf⟩ | ⟨aP,bf⟩
   . obtain ⟨ar,aw,aK⟩:=J.closed x y aL cl e ak aZ A8 A9;exact ⟨ar,aw,fun i u v hu bj=>lV (aK i u v hu bj)⟩
   . exact two x y aL cl aP bf ak aZ A8 A9
   . obtain ⟨ar,aw,aK⟩:=two y x cl aL bf aP aZ ak A9 A8;exact ⟨ar.symm,aw.symm,fun i u v hu bj=>(aK i v u bj hu).symm⟩
theorem ev.Es {a b r s:Nat} {dL d_:dw} (S:eP g ρ) (J:ev g E ρ ((a,b)::Q)) (a1:ρ a=r) (ae:ρ b=s) (Fy:g.nodes[r]? =some dL) (Fz:g.nodes[s]? =some d_) (n_:dL.ch=true) (cs:d_.ch=true) (h:dL.s≠d_.s\/dL.kids.length≠d_.kids.length):mN g E:=by have yc:=J.cv (a,b) List.mem_cons_self;exact ⟨r,s,dL,d_,(cy.symm (J.sound a r (by rw [a1,<-a1,S.idem]))).trans (yc.trans (J.sound b s (by rw [ae,<-ae,S.idem]))),Fy,Fz,n_,cs,h⟩
def sT (g:bp) (r:Nat):Nat:=match g.nodes[r]? with | some aL=>aL.kids.length | none=>0
def Hj (g:bp) (ρ:Nat->Nat) (r:Nat):Nat:=if ρ r=r then 1+sT g r else 0
def kl (g:bp) (ρ:Nat->Nat):Nat:=((List.range g.N).map (Hj g ρ)).sum
theorem M6 {α:Type} {f kJ:α->Nat}:∀{l:List α},(∀x ∈ l,kJ x<=f x)->(l.map kJ).sum<=(l.map f).sum
 | [],_=>Nat.le_refl _
 | x::l,h=>by have:=M6 (l:=l) fun z bn=>h z (List.mem_cons_of_mem _ bn);have:=h x List.mem_cons_self;simp only [List.map_cons,List.sum_cons];omega
theorem W1 {α:Type} {f kJ:α->Nat} {c:Nat} {r:α}:∀{l:List α},(∀x ∈ l,kJ x<=f x)->r ∈ l->kJ r+c<=f r->(l.map kJ).sum+c<=(l.map f).sum
 | [],_,h,_=>by cases h
 | x::l,h,aE,aD=>by
   simp only [List.map_cons,List.sum_cons];rcases List.mem_cons.1 aE with rfl | aE
   . have:=M6 (l:=l) fun z bn=>h z (List.mem_cons_of_mem _ bn);omega
   . have:=W1 (l:=l) (fun z bn=>h z (List.mem_cons_of_mem _ bn)) aE aD;have:=h x List.mem_cons_self;omega
theorem Hi {r s:Nat} (aE:ρ r=r) (aS:ρ s=s) (ck:r≠s) (qm:r<g.N):kl g (ea ρ r s) + (1+sT g r)<=kl g ρ:=by
 refine W1 (fun x ak=>?_) (List.mem_range.2 qm) ?_
 . unfold Hj;by_cases q:ea ρ r s x=x
   . rw [if_pos q];have:ρ x=x:=by
      unfold ea at q
      split at q
      . subst q;exact aS
      . exact q
     rw [if_pos this];exact Nat.le_refl _
   . rw [if_neg q];exact Nat.zero_le _
 . unfold Hj;have:¬ea ρ r s r=r:=by
    unfold ea;rw [if_pos aE];exact fun e=>ck e.symm
   rw [if_neg this,if_pos aE];omega
def mc (g:bp):Nat:=(g.nodes.map fun aL=>aL.kids.length).sum
theorem W3 {l:List dw} {f:Nat->Nat} (h:∀i aL,l[i]? =some aL->f i=aL.kids.length):∀n,n<=l.length->((List.range n).map f).sum=((l.take n).map fun aL=>aL.kids.length).sum
 | 0,_=>by simp
 | n+1,aV=>by have e:=List.getElem?_eq_getElem (l:=l) (i:=n) (by omega);rw [List.range_succ,List.map_append,List.sum_append,W3 h n (by omega),List.take_succ_eq_append_getElem (by omega),List.map_append,List.sum_append];simp [h n _ e]
theorem W2:∀n:Nat,((List.range n).map fun _=>1).sum=n
 | 0=>rfl
 | n+1=>by rw [List.range_succ,List.map_append,List.sum_append,W2 n];rfl
theorem sum_add {α:Type} (f kJ:α->Nat):∀l:List α,(l.map fun x=>f x+kJ x).sum=(l.map f).sum + (l.map kJ).sum
 | []=>rfl
 | x::l=>by simp only [List.map_cons,List.sum_cons,sum_add f kJ l];omega
theorem aoD:kl g ρ<=g.N+mc g:=by
 have aa:kl g ρ<=((List.range g.N).map fun r=>1+sT g r).sum:=M6 fun x _=>by unfold Hj;split<;>omega
 have ad:=W3 (l:=g.nodes) (f:=sT g) (fun i aL e=>by unfold sT;rw [e]) g.nodes.length (Nat.le_refl _);rw [List.take_length] at ad;rw [sum_add,W2] at aa;unfold mc;rw [<-ad];exact aa
def vr (eM w ρ:Nat->Nat):Prop:=∀a,(w a=a/\ρ a=a)\/(w a≠a/\eM (w a)<eM a/\ρ (w a)=ρ a)
def Way (w ρ:Nat->Nat):Prop:=∃eM:Nat->Nat,vr eM w ρ
theorem Way.root {w:Nat->Nat} (S:eP g ρ) (H:Way w ρ) {a:Nat} (h:ρ a=a):w a=a:=by
 obtain ⟨eM,H⟩:=H;rcases H a with aa | ⟨aa,ad,aJ⟩
 . exact aa.1
 . -- the way leads back to a itself
   exfalso;have key:∀n b,eM b<=n->ρ b=a->eM a<=eM b:=by
    intro n
    induction n with
    | zero=>
      intro b ae e;rcases H b with q | ⟨ar,aw,aK⟩
      . rw [q.2] at e;rw [e];exact Nat.le_refl _
      . omega
    | succ n bq=>
      intro b ae e;rcases H b with q | ⟨ar,aw,aK⟩
      . rw [q.2] at e;rw [e];exact Nat.le_refl _
      . have:=bq (w b) (by omega) (by rw [aK,e]);omega
   have:=key (eM (w a)) (w a) (Nat.le_refl _) (by rw [aJ,h]);omega
theorem Way.end {w:Nat->Nat} (H:Way w ρ) {a:Nat} (h:w a=a):ρ a=a:=by
 obtain ⟨eM,H⟩:=H;rcases H a with aa | ⟨aa,_⟩
 . exact aa.2
 . exact (aa h).elim
theorem Way.step {w:Nat->Nat} (H:Way w ρ) (a:Nat):ρ (w a)=ρ a:=by
 obtain ⟨eM,H⟩:=H;rcases H a with aa | ⟨_,_,aa⟩
 . rw [aa.1]
 . exact aa
theorem Way.refl:Way (fun a=>a) (fun a=>a):=⟨fun _=>0,fun a=>.inl ⟨rfl,rfl⟩⟩
theorem Way.one {w:Nat->Nat} {r s:Nat} (S:eP g ρ) (H:Way w ρ) (aE:ρ r=r) (aS:ρ s=s) (ck:r≠s):Way (fun a=>if a=r then s else w a) (ea ρ r s):=by
 have wr:=H.root S aE;have ws:=H.root S aS;obtain ⟨eM,H⟩:=H;refine ⟨fun a=>eM a + (if ρ a=r then eM s+1 else 0),fun a=>?_⟩;have bm:¬ρ s=r:=by rw [aS];exact fun e=>ck e.symm
 by_cases q:a=r
 . subst q;refine .inr ⟨by simp only [if_true];exact fun e=>ck e.symm,?_,?_⟩
   . simp only [if_true,aE,if_neg bm];omega
   . simp only [if_true];unfold ea;rw [if_neg bm,if_pos aE,aS]
 . simp only [if_neg q];rcases H a with ⟨aa,ad⟩ | ⟨aa,ad,aJ⟩
   . refine .inl ⟨aa,?_⟩;unfold ea;rw [if_neg (by rw [ad];exact q),ad]
   . refine .inr ⟨aa,?_,Np aJ⟩;rw [aJ];omega
theorem vr.low {eM w:Nat->Nat} (H:vr eM w ρ):∀(n b:Nat),eM b<=n->eM (ρ b)<=eM b
 | 0,b,ae=>by
   rcases H b with q | ⟨ar,aw,aK⟩
   . rw [q.2];exact Nat.le_refl _
   . omega
 | n+1,b,ae=>by
   rcases H b with q | ⟨ar,aw,aK⟩
   . rw [q.2];exact Nat.le_refl _
   . have:=H.low n (w b) (by omega);rw [aK] at this;omega
theorem vr.short {eM w:Nat->Nat} {a:Nat} (S:eP g ρ) (H:vr eM w ρ) (a1:w a≠a):vr eM (fun x=>if x=a then ρ a else w x) ρ:=by
 have ck:ρ a≠a:=fun e=>a1 (Way.root S ⟨eM,H⟩ e);intro x;by_cases q:x=a
 . subst q;simp only [if_true];rcases H x with h | ⟨aa,ad,aJ⟩
   . exact (a1 h.1).elim
   . refine .inr ⟨ck,?_,S.idem x⟩;have:=H.low (eM (w x)) (w x) (Nat.le_refl _);rw [aJ] at this;omega
 . simp only [if_neg q];exact H x
theorem Way.lt {w:Nat->Nat} (S:eP g ρ) (H:Way w ρ) {a:Nat} (a1:a<g.N):w a<g.N:=by
 have aa:=H.step a;have ad:=S.lt a a1;by_cases q:w a<g.N
 . exact q
 . have:=S.out (w a) (by omega);omega
end
theorem anS (g:bp) (n:Int):mc (g.var n).1=mc g:=by
 unfold bp.var;cases e_ n g.vars with
 | some i=>rfl
 | none=>simp [mc]
theorem anR (g:bp) (s:List UInt8) (aI:List Nat):mc (g.put s aI)=mc g+aI.length:=by simp [mc,bp.put]
mutual
theorem Ni:∀(t:aM) (g:bp),mc (t.add g).1+1<=mc g+t.size
 | .mk k n s l,g=>by
   rw [aM.add,aM.size];by_cases c:k=1
   . rw [if_pos c,anS];omega
   . rw [if_neg c];have:=W_ l g;have:=D4 l g;simp only [anR];omega
theorem W_:∀(l:List aM) (g:bp),mc (cf l g).1+l.length<=mc g+cE l
 | [],g=>by simp [cf,cE]
 | t::l,g=>by rw [cf,cE];have:=Ni t g;have:=W_ l (t.add g).1;simp only [List.length_cons];omega
end
end
section
open Go a8
inductive dJ (g:bp) (R:Nat->Nat->Prop):Nat->aM->Prop
 | var {a b:Nat} {aL:dw} (h:R a b) (ae:g.nodes[b]? =some aL) (aD:aL.ch=false) (qn:∀(x:Nat) (fV:dw),R a x->g.nodes[x]? =some fV->fV.ch=false) (bC:∀(x:Nat) (fV:dw),R a x->g.nodes[x]? =some fV->aL.n<=fV.n):dJ g R a (.mk 1 aL.n [] [])
 | ch {a b:Nat} {aL:dw} {l:List aM} (h:R a b) (ae:g.nodes[b]? =some aL) (aD:aL.ch=true) (aA:l.length=aL.kids.length) (aH:∀(i x:Nat) (t:aM),aL.kids[i]? =some x->l[i]? =some t->dJ g R x t):dJ g R a (.mk 2 0 aL.s l)
structure Part (g:bp) (R:Nat->Nat->Prop):Prop where
 refl:∀a,R a a
 symm:∀{a b},R a b->R b a
 trans:∀{a b c},R a b->R b c->R a c
 closed:∀(a b:Nat) (aL cl:dw),R a b->g.nodes[a]? =some aL->g.nodes[b]? =some cl->aL.ch=true->cl.ch=true->
  aL.s=cl.s/\aL.kids.length=cl.kids.length/\∀(i x y:Nat),aL.kids[i]? =some x->cl.kids[i]? =some y->R x y
section
variable {g:bp} {R:Nat->Nat->Prop}
theorem dJ.l_ (P:Part g R) {a b:Nat} {t:aM} (h:dJ g R a t) (e:R a b):dJ g R b t:=by
 cases h with
 | var h ae aD qn bC=>exact .var (P.trans (P.symm e) h) ae aD (fun x fV q=>qn x fV (P.trans e q)) (fun x fV q=>bC x fV (P.trans e q))
 | ch h ae aD aA aH=>exact .ch (P.trans (P.symm e) h) ae aD aA aH
theorem dJ.uniq (P:Part g R) {a:Nat} {t:aM} (h:dJ g R a t):∀{b u},R a b->dJ g R b u->t=u:=by
 induction h with
 | var h ae aD qn bC=>
   intro b u e k;cases k with
   | var ab e9 j8 Gj Ly=>
     have aa:=bC _ _ (P.trans e ab) e9;have ad:=Ly _ _ (P.trans (P.symm e) h) ae;rw [Int.le_antisymm aa ad]
   | ch ab e9 j8 fq g'=>
     have:=qn _ _ (P.trans e ab) e9;rw [j8] at this;cases this
 | ch h ae aD aA aH bq=>
   intro b u e k;cases k with
   | var ab e9 j8 Gj Ly=>
     have:=Gj _ _ (P.trans (P.symm e) h) ae;rw [aD] at this;cases this
   | ch ab e9 j8 fq g'=>
     obtain ⟨ar,aw,aK⟩:=P.closed _ _ _ _ (P.trans (P.symm h) (P.trans e ab)) ae e9 aD j8;congr 1;refine List.ext_getElem (by omega) fun i aa ad=>?_;have bz:=List.getElem?_eq_getElem (l:=(_:dw).kids) (i:=i) (show i<_ by rw [<-aA];exact aa);have bx:=List.getElem?_eq_getElem (l:=(_:dw).kids) (i:=i) (show i<_ by rw [<-fq];exact ad);exact bq i _ _ bz (List.getElem?_eq_getElem aa) (aK i _ _ bz bx) (g' i _ _ bx (List.getElem?_eq_getElem ad))
theorem dJ.all (P:Part g R) (W:g.dX) (bj:∀(i:Nat) (aL:dw),g.nodes[i]? =some aL->aL.ch=false->∃t,dJ g R i t):∀(n i:Nat),i<n->i<g.N->∃t,dJ g R i t
 | 0,i,h,_=>by omega
 | n+1,i,h,ao=>by
   have e:=List.getElem?_eq_getElem (l:=g.nodes) (i:=i) ao;cases c:g.nodes[i].ch with
   | false=>exact bj i _ e c
   | true=>
     have key:∀j:Fin g.nodes[i].kids.length,∃t,dJ g R g.nodes[i].kids[j.1] t:=fun j=>by have:=W.c0 i _ e g.nodes[i].kids[j.1] (List.getElem_mem j.2);exact dJ.all P W bj n _ (by omega) (by omega)
     obtain ⟨f,az⟩:=Classical.axiomOfChoice key;refine ⟨_,.ch (l:=List.ofFn f) (P.refl i) e c (by simp) fun j x t ak av=>?_⟩;obtain ⟨aU,rfl⟩:=List.getElem?_eq_some_iff.1 ak;rw [List.getElem?_ofFn] at av;rw [dif_pos aU] at av;cases av;exact az ⟨j,aU⟩
inductive Reach (g:bp) (R:Nat->Nat->Prop):Nat->Nat->Prop
 | c0 {a b x y i:Nat} {aL:dw} (h:R a b) (ae:g.nodes[b]? =some aL) (aD:aL.ch=true) (ak:aL.kids[i]? =some x) (k:R x y):Reach g R a y
 | trans {a b c:Nat} (h:Reach g R a b) (k:Reach g R b c):Reach g R a c
theorem Reach.l_ (P:Part g R) {a b c:Nat} (h:Reach g R a b) (e:R b c):Reach g R a c:=by
 induction h with
 | c0 h ae aD ak k=>exact .c0 h ae aD ak (P.trans k e)
 | trans h _ _ i2=>exact .trans h (i2 e)
theorem Reach.less (P:Part g R) {a b:Nat} (h:Reach g R a b):∀{t},dJ g R a t->∃u,dJ g R b u/\u.size<t.size:=by
 induction h with
 | c0 h ae aD ak k=>
   intro t av;cases av with
   | var ab e9 j8 Gj Ly=>
     have:=Gj _ _ h ae;rw [aD] at this;cases this
   | ch ab e9 j8 fq g'=>
     rename_i i aL bL cl l;obtain ⟨ar,aw,aK⟩:=P.closed _ _ _ _ (P.trans (P.symm h) ab) ae e9 aD j8;have ao:=(List.getElem?_eq_some_iff.1 ak).1;have bz:=List.getElem?_eq_getElem (l:=cl.kids) (i:=i) (by omega);have ir:l.length=cl.kids.length:=fq;have bx:=List.getElem?_eq_getElem (l:=l) (i:=i) (by omega);refine ⟨_,((g' i _ _ bz bx).l_ P (P.trans (P.symm (aK i _ _ ak bz)) k)),?_⟩;exact px (t:=.mk 2 0 cl.s l) (List.getElem_mem (l:=l) (by omega))
 | trans h _ i1 i2=>
   intro t av;obtain ⟨u,aa,ad⟩:=i1 av;obtain ⟨v,aJ,bG⟩:=i2 aa;exact ⟨v,aJ,by omega⟩
theorem Reach.ring (P:Part g R) {a:Nat} (h:Reach g R a a):¬∃t,dJ g R a t:=by rintro ⟨t,av⟩;obtain ⟨u,aa,ad⟩:=h.less P av;have:=av.uniq P (P.refl a) aa;subst this;omega
end
theorem ev.part {g:bp} {E:List (Nat × Nat)} {ρ:Nat->Nat} (J:ev g E ρ []):Part g (cy g E):=by refine ⟨.refl,.symm,.trans,fun a b aL cl h a1 ae k8 k9=>?_⟩;obtain ⟨ar,aw,aK⟩:=J.closed a b aL cl (J.done.1 h) a1 ae k8 k9;exact ⟨ar,aw,fun i x y ak aZ=>J.done.2 (aK i x y ak aZ).nil⟩
open Classical in
def rN (g:bp) (E:List (Nat × Nat)) (i:Nat):aM:=if h:∃t,dJ g (cy g E) i t then h.choose else aoS
theorem Nd {g:bp} {E:List (Nat × Nat)} (P:Part g (cy g E)) {i:Nat} {t:aM} (h:dJ g (cy g E) i t):rN g E i=t:=by unfold rN;rw [dif_pos ⟨t,h⟩];exact (Exists.choose_spec (⟨t,h⟩:∃t,dJ g (cy g E) i t)).uniq P (P.refl i) h
def gh (g:bp) (E:List (Nat × Nat)) (p:Int × Nat):Option (Int × aM):=
 open Classical in if rN g E p.2=.mk 1 p.1 [] [] then none else some (p.1,rN g E p.2)
def keyed (g:bp):List (Int × Nat):=(e0 (g.vars.map Prod.fst)).map fun n=>(n,(e_ n g.vars).getD 0)
open Classical in
def jv (g:bp) (E:List (Nat × Nat)):gW × Int:=
 if mN g E then ([],290) else if ∃i,i<g.N/\¬∃t,dJ g (cy g E) i t then ([],291)
 else if ∃p ∈ (keyed g).filterMap (gh g E),¬(p.2.size<=4096/\p.2.deep<=200) then ([],3) else ((keyed g).filterMap (gh g E),0)
def rP (a b:List aM):gW × Int:=
 if a.length=b.length/\(∀t ∈ a,t.check=0)/\(∀t ∈ b,t.check=0) then jv (iV (a.zip b) (⟨[],[]⟩,[])).1 (iV (a.zip b) (⟨[],[]⟩,[])).2 else ([],2)
end
section
open Go a8
abbrev z4:List V:=[.int .i64 0,.int .i64 0,.str [],.bB]
abbrev fT (t:aM) (du:V):List V:=[.int .i64 t.k,.int .i64 t.n,.str t.s,du]
def GB (s:List UInt8):Bool:=match oC s with
 | .ok [w]=>decide (w.kind=3)&&decide (w.text=s)
 | _=>false
theorem alf (s:List UInt8):GB s=i' 3 s:=by
 rw [Bool.eq_iff_iff];refine ⟨fun h=>?_,fun h=>?_⟩
 . unfold GB at h
   split at h
   . rename_i w hw;simp only [Bool.and_eq_true,decide_eq_true_eq] at h;have aV:i' w.kind w.text=true:=by
      unfold oC at hw
      split at hw
      . cases hw
      . split at hw
        . cases hw
        . exact F9 _ _ _ _ hw w (by simp) (.inl h.1)
     rw [h.1,h.2] at aV;exact aV
   . cases h
 . have aE:=ame (.inl rfl) h;simp only [show ((3:Int)=5)=False from by simp,if_false] at aE;unfold GB;rw [aE];simp
theorem akp (z:List UInt8) (h:ah):de Tryz.prog 88 [.str z] h fun x ab=>x=.bool (i' 3 z)/\Ext h ab:=by
 rw [<-alf];refine abg.z rfl (dM ?_);unfold QL;simp +contextual only [↓al,aG,simprocAttr];refine cK (ajM z h) ?_;rintro x aa ⟨aP,ak⟩;unfold GB;cases eL:oC z with
 | error e=>
   rw [eL] at ak;simp only at ak;subst ak;obtain ⟨ad,aw,bf,gp⟩:=n' aa [.int .i64 0,.int .i64 0] [.int .i64 e.1,.int .i64 e.2];by_cases he:e.1=0
   . simp +contextual only [aw,gp.g,eq_true he,show ny .bB=some (.int .i64 0) from rfl,show ((0:Int)=1)=False from by simp,decide_false,↓al,aG,simprocAttr];exact aP.trans bf
   . simp +contextual only [aw,gp.g,eq_false he,decide_false,↓al,aG,simprocAttr];exact aP.trans bf
 | ok ws=>
   rw [eL] at ak;simp only at ak;obtain ⟨v,rfl,S⟩:=ak;obtain ⟨ad,aw,bf,gp⟩:=n' aa [.int .i64 0,.int .i64 0] [.int .i64 0,.int .i64 0];have mi:=(S.ext bf).v;have aA:=mi.len;have dp:=mi.one
   match ws,eL,mi,aA with
   | [],_,mi,aA=>
     have fq:ny v=some (.int .i64 0):=aA;simp +contextual only [aw,gp.g,fq,dp.1,dp.2.1,show ((0:Int)=1)=False from by simp,decide_true,decide_false,↓al,aG,simprocAttr];exact aP.trans bf
   | [w],eL,mi,aA=>
     have fq:ny v=some (.int .i64 1):=aA;obtain ⟨cb,db,ow,O7⟩:=mi.cH (k:=.i64) (i:=0) (by simp);have Tq:ka 4 v (.int .i64 0)=some (.ptr cb db):=by simpa using ow
     have d0:ia (ad.get cb) db=some (.int .i64 w.kind):=by have:=O7.d' (i:=0) (by simp [qD,cw.enc]);simpa [qD,cw.enc] using this
     have d3:ia (ad.get cb) (db+3)=some (.str w.text):=by have:=O7.d' (i:=3) (by simp [qD,cw.enc]);simpa [qD,cw.enc] using this
     by_cases bP:w.kind=3
     . simp +contextual only [aw,gp.g,fq,dp.1,dp.2.1,Tq,d0,d3,eq_true bP,decide_true,decide_false,Bool.true_and,↓al,aG,simprocAttr];exact aP.trans bf
     . simp +contextual only [aw,gp.g,fq,dp.1,dp.2.1,Tq,d0,d3,eq_false bP,decide_true,decide_false,Bool.false_and,↓al,aG,simprocAttr];exact aP.trans bf
   | w::b2::ws,_,mi,aA=>
     have fq:(((ws.length+2:Nat):Int)=1)=False:=eq_false (by omega);have ae_:ny v=some (.int .i64 ((ws.length+2:Nat):Int)):=aA;simp +contextual only [aw,gp.g,ae_,fq,dp.1,dp.2.1,decide_true,decide_false,↓al,aG,simprocAttr];exact aP.trans bf
theorem alq (t:aM) (ai:List V) (h:ah) (H:cW Any h t.enc ai):de Tryz.prog 57 [.agg ai] h fun x ab=>x=.bool t.own/\Ext h ab:=by
 obtain ⟨du,rfl,L,ot⟩:=aM.open H;have ol:=L.one;have aA:=L.len;rw [List.length_map] at aA;refine aa5.z rfl (dM ?_);unfold Qo;obtain ⟨aa,ar,aP,c6⟩:=h7 h (fT t du);have bZ:AV=[45,62]:=rfl;have a2:xu=[42]:=rfl;unfold aM.own;rw [bZ,a2];by_cases bz:t.k=1
 . rw [if_pos bz];by_cases bP:0<=t.n
   . by_cases bX:t.n<=1048575
     . by_cases c3:t.s=[]
       . simp +contextual only [ol.1,ol.2.1,ar,c6.g,aA,eq_true bz,eq_true bP,eq_true bX,eq_true c3,decide_true,decide_false,Bool.true_and,↓al,aG,simprocAttr];refine ⟨?_,aP⟩;simp
       . simp +contextual only [ol.1,ol.2.1,ar,c6.g,aA,eq_true bz,eq_true bP,eq_true bX,eq_false c3,decide_true,decide_false,Bool.true_and,Bool.false_and,Bool.and_false,↓al,aG,simprocAttr];exact aP
     . simp +contextual only [ol.1,ol.2.1,ar,c6.g,aA,eq_true bz,eq_true bP,eq_false bX,decide_true,decide_false,Bool.true_and,Bool.false_and,Bool.and_false,↓al,aG,simprocAttr];exact aP
   . simp +contextual only [ol.1,ol.2.1,ar,c6.g,aA,eq_true bz,eq_false bP,decide_true,decide_false,Bool.true_and,Bool.false_and,Bool.and_false,↓al,aG,simprocAttr];exact aP
 . rw [if_neg bz];by_cases bx:t.k=2
   . rw [if_pos bx];have ir:((t.l.length:Int)=2)=(t.l.length=2):=by apply propext;omega
     have BC:((t.l.length:Int)<=64)=(t.l.length<=64):=by apply propext;omega
     by_cases c3:t.s=[45,62]
     . rw [if_pos (.inl c3)];by_cases eF:t.n=0
       . simp +contextual only [ol.1,ol.2.1,ar,c6.g,aA,eq_false bz,eq_true bx,eq_true c3,eq_true eF,ir,decide_true,decide_false,Bool.true_and,Bool.false_and,↓al,aG,simprocAttr];exact aP
       . simp +contextual only [ol.1,ol.2.1,ar,c6.g,aA,eq_false bz,eq_true bx,eq_true c3,eq_false eF,decide_true,decide_false,Bool.true_and,Bool.false_and,↓al,aG,simprocAttr];exact aP
     . by_cases jh:t.s=[42]
       . rw [if_pos (.inr jh)];by_cases eF:t.n=0
         . simp +contextual only [ol.1,ol.2.1,ar,c6.g,aA,eq_false bz,eq_true bx,eq_false c3,eq_true jh,eq_true eF,ir,decide_true,decide_false,Bool.true_and,Bool.false_and,↓al,aG,simprocAttr];exact aP
         . simp +contextual only [ol.1,ol.2.1,ar,c6.g,aA,eq_false bz,eq_true bx,eq_false c3,eq_true jh,eq_false eF,decide_true,decide_false,Bool.true_and,Bool.false_and,↓al,aG,simprocAttr];exact aP
       . rw [if_neg (fun q=>q.elim c3 jh)];by_cases eF:t.n=0
         . by_cases c5:t.l.length<=64
           . simp +contextual only [ol.1,ol.2.1,ar,c6.g,aA,eq_false bz,eq_true bx,eq_false c3,eq_false jh,eq_true eF,BC,eq_true c5,decide_true,decide_false,Bool.true_and,Bool.false_and,↓al,aG,simprocAttr];refine cK (akp t.s aa) ?_;rintro x ad ⟨rfl,bf⟩;simp +contextual only [↓al,aG,simprocAttr];exact aP.trans bf
           . simp +contextual only [ol.1,ol.2.1,ar,c6.g,aA,eq_false bz,eq_true bx,eq_false c3,eq_false jh,eq_true eF,BC,eq_false c5,decide_true,decide_false,Bool.true_and,Bool.false_and,↓al,aG,simprocAttr];exact aP
         . simp +contextual only [ol.1,ol.2.1,ar,c6.g,aA,eq_false bz,eq_true bx,eq_false c3,eq_false jh,eq_false eF,decide_true,decide_false,Bool.true_and,Bool.false_and,↓al,aG,simprocAttr];exact aP
   . rw [if_neg bx];simp +contextual only [ol.1,ol.2.1,ar,c6.g,aA,eq_false bz,eq_false bx,decide_true,decide_false,↓al,aG,simprocAttr];exact aP
theorem VU:∀(N:Nat) (t:aM),t.size<=N->N<=1000000000->∀(ai:List V) (h:ah),cW Any h t.enc ai->de Tryz.prog 59 [.agg ai] h fun x ab=>x=.int .i64 (t.deep:Nat)/\Ext h ab
 | 0,t,aS,_,_,_,_=>by have:=qx t;omega
 | N+1,t,aS,Bo,ai,h,H=>by
   obtain ⟨du,rfl,L,_⟩:=aM.open H;have bJ:N<=1000000000:=by omega
   have ol:=L.one;have aA:=L.len;have hle:=L.le;rw [List.length_map] at aA hle;have Sl:=size_eq t;refine aa7.z rfl (dM ?_);unfold Qq;obtain ⟨aa,ar,aP,c6⟩:=h7 h (fT t du);simp +contextual only [ol.1,ol.2.1,ar,↓al,aG,simprocAttr];refine fa (fun r g=>r 1=.ptr (aj h.next) 0/\∃i:Nat,r 3=.int .i64 (eY (t.l.take i):Nat)/\r 4=.int .i64 i/\i<=t.l.length/\Ext aa g) (fun r g=>t.l.length - (r 4).toN) ?_ ?_
   . exact ⟨by simp only [↓al,bs,simprocAttr],0,by simp only [↓al,bs,simprocAttr]<;>rfl,by simp only [↓al,bs,simprocAttr]<;>rfl,by omega,Ext.refl aa⟩
   rintro r g ⟨br,i,cr,gm,ao,E⟩;unfold Qr;have A:=c6.ext E;have AG:=L.ext (aP.trans E);have ko:=py t.l i;have p0:=GJ (t.l.take i);by_cases aO:i<t.l.length
   . have g0:((i:Int) < (t.l.length:Int))=True:=eq_true (by omega);obtain ⟨b,off,wl,cH,X,mZ,ld⟩:=aM.c0 AG (k:=.i64) aO;have d1:=ld g (Ext.refl g);have dv:=kB aO (by unfold top at hle;omega);have bn:=px (t:=t) (List.getElem_mem aO);simp +contextual only [br,cr,gm,A.g,aA,g0,cH,d1,↓al,aG,simprocAttr];refine cK (VU N t.l[i] (by omega) bJ _ g X) ?_;rintro x g2 ⟨rfl,eB⟩;simp +contextual only [br,cr,gm,Gh,dv,↓al,aG,simprocAttr];exact ⟨⟨i+1,by rw [Vj aO],rfl,aO,E.trans eB⟩,by omega⟩
   . have g0:((i:Int) < (t.l.length:Int))=False:=eq_false (by omega);rw [List.take_of_length_le (by omega)] at cr;have b3:IntKind.i64.wrap ((eY t.l:Int)+1)=((eY t.l+1:Nat):Int):=by
      have:=GJ t.l;rw [wrap_i64 (by omega) (by omega)];rfl
     simp +contextual only [br,cr,gm,A.g,aA,g0,b3,↓al,aG,simprocAttr];exact ⟨by rw [I8],aP.trans E⟩
theorem Wc:∀(N:Nat) (t:aM),t.size<=N->N<=1000000000->∀(ai:List V) (h:ah),cW Any h t.enc ai->de Tryz.prog 31 [.agg ai] h fun x ab=>x=.int .i64 (t.size:Nat)/\Ext h ab
 | 0,t,aS,_,_,_,_=>by have:=qx t;omega
 | N+1,t,aS,Bo,ai,h,H=>by
   obtain ⟨du,rfl,L,_⟩:=aM.open H;have bJ:N<=1000000000:=by omega
   have ol:=L.one;have aA:=L.len;have hle:=L.le;rw [List.length_map] at aA hle;have Sl:=size_eq t;refine aaQ.z rfl (dM ?_);unfold P';obtain ⟨aa,ar,aP,c6⟩:=h7 h (fT t du);simp +contextual only [ol.1,ol.2.1,ar,↓al,aG,simprocAttr];refine fa (fun r g=>r 1=.ptr (aj h.next) 0/\∃i:Nat,r 3=.int .i64 ((1+cE (t.l.take i):Nat):Int)/\r 4=.int .i64 i/\i<=t.l.length/\Ext aa g) (fun r g=>t.l.length - (r 4).toN) ?_ ?_
   . exact ⟨by simp only [↓al,bs,simprocAttr],0,by simp only [↓al,bs,simprocAttr]<;>rfl,by simp only [↓al,bs,simprocAttr]<;>rfl,by omega,Ext.refl aa⟩
   rintro r g ⟨br,i,cr,gm,ao,E⟩;unfold P_;have A:=c6.ext E;have AG:=L.ext (aP.trans E);have ko:=py t.l i;by_cases aO:i<t.l.length
   . have g0:((i:Int) < (t.l.length:Int))=True:=eq_true (by omega);obtain ⟨b,off,wl,cH,X,mZ,ld⟩:=aM.c0 AG (k:=.i64) aO;have d1:=ld g (Ext.refl g);have dv:=kB aO (by unfold top at hle;omega);have bn:=px (t:=t) (List.getElem_mem aO);have av:=xf aO;have ap0:=py t.l (i+1);simp +contextual only [br,cr,gm,A.g,aA,g0,cH,d1,↓al,aG,simprocAttr];refine cK (Wc N t.l[i] (by omega) bJ _ g X) ?_;rintro x g2 ⟨rfl,eB⟩;have b3:IntKind.i64.wrap (((1+cE (t.l.take i):Nat):Int) + (t.l[i].size:Nat))=((1+cE (t.l.take (i+1)):Nat):Int):=by
      rw [wrap_i64 (by omega) (by omega),av];omega
     simp +contextual only [br,cr,gm,b3,dv,↓al,aG,simprocAttr];exact ⟨⟨i+1,rfl,rfl,aO,E.trans eB⟩,by omega⟩
   . have g0:((i:Int) < (t.l.length:Int))=False:=eq_false (by omega);rw [List.take_of_length_le (by omega)] at cr;simp +contextual only [br,cr,gm,A.g,aA,g0,↓al,aG,simprocAttr];exact ⟨by rw [size_eq],aP.trans E⟩
theorem amT {l:List aM} {i:Nat} (h:i<l.length):kZ (l.drop i)=(l[i].shape&&kZ (l.drop (i+1))):=by rw [List.drop_eq_getElem_cons h,kZ]
theorem Wq:∀(N:Nat) (t:aM),t.size<=N->N<=1000000000->∀(ai:List V) (h:ah),cW Any h t.enc ai->de Tryz.prog 58 [.agg ai] h fun x ab=>x=.bool t.shape/\Ext h ab
 | 0,t,aS,_,_,_,_=>by have:=qx t;omega
 | N+1,t,aS,Bo,ai,h,H=>by
   obtain ⟨du,rfl,L,ot⟩:=aM.open H;have bJ:N<=1000000000:=by omega
   have ol:=L.one;have aA:=L.len;have hle:=L.le;rw [List.length_map] at aA hle;have Sl:=size_eq t;refine aa6.z rfl (dM ?_);unfold Qp;obtain ⟨aa,ar,aP,c6⟩:=h7 h (fT t du);have bZ:AV=[45,62]:=rfl;have a2:xu=[42]:=rfl;have kj:=L.ext aP;rw [amS];unfold aM.own;rw [bZ,a2];by_cases bz:t.k=1
   . rw [if_pos bz];by_cases bP:0<=t.n
     . by_cases bX:t.n<=1048575
       . by_cases c3:t.s=[]
         . by_cases eF:t.l.length=0
           . have IG:((t.l.length:Int)=0)=True:=eq_true (by omega);have p3:=List.eq_nil_of_length_eq_zero eF;simp +contextual only [ol.1,ol.2.1,ar,c6.g,aA,eq_true bz,eq_true bP,eq_true bX,eq_true c3,IG,decide_true,decide_false,Bool.true_and,↓al,aG,simprocAttr];refine ⟨?_,aP⟩;rw [decide_eq_true eF,p3,kZ];rfl
           . have IG:((t.l.length:Int)=0)=False:=eq_false (by omega);simp +contextual only [ol.1,ol.2.1,ar,c6.g,aA,eq_true bz,eq_true bP,eq_true bX,eq_true c3,IG,decide_true,decide_false,Bool.true_and,↓al,aG,simprocAttr];refine ⟨?_,aP⟩;rw [decide_eq_false eF];rfl
         . simp +contextual only [ol.1,ol.2.1,ar,c6.g,aA,eq_true bz,eq_true bP,eq_true bX,eq_false c3,decide_true,decide_false,Bool.true_and,Bool.false_and,Bool.and_false,↓al,aG,simprocAttr];exact aP
       . simp +contextual only [ol.1,ol.2.1,ar,c6.g,aA,eq_true bz,eq_true bP,eq_false bX,decide_true,decide_false,Bool.true_and,Bool.false_and,Bool.and_false,↓al,aG,simprocAttr];exact aP
     . simp +contextual only [ol.1,ol.2.1,ar,c6.g,aA,eq_true bz,eq_false bP,decide_true,decide_false,Bool.true_and,Bool.false_and,Bool.and_false,↓al,aG,simprocAttr];exact aP
   . rw [if_neg bz];have kids:∀{g0:ah} (fl:Ext aa g0) {r:bc} (br:r 1=.ptr (aj h.next) 0) (gm:r 4=.int .i64 0) {Q:dm->bc->ah->Prop} (cM:∀e r g,e.ends->r 2=.bool (kZ t.l)->Ext h g->Q e r g),
      zt Tryz.prog IT [.aN 0,.c (.seq (aY.aq [⟨(some 2),.b0 (.c (.bool true)),none,[]⟩]) (aY.ret))] r g0 Q:=by
      intro g0 fl r br gm Q cM;refine fa (fun r g=>r 1=.ptr (aj h.next) 0/\∃i:Nat,r 4=.int .i64 i/\i<=t.l.length/\kZ t.l=kZ (t.l.drop i)/\Ext aa g) (fun r g=>t.l.length - (r 4).toN) ?_ ?_
      . exact ⟨br,0,gm,by omega,rfl,fl⟩
      clear br gm;rintro r g ⟨br,i,gm,ao,rh,E⟩;unfold IT;have A:=c6.ext E;by_cases aO:i<t.l.length
      . have Jz:((i:Int) < (t.l.length:Int))=True:=eq_true (by omega);obtain ⟨b,off,wl,cH,X,mZ,ld⟩:=aM.c0 (kj.ext E) (k:=.i64) aO;have d1:=ld g (Ext.refl g);have dv:=kB aO (by unfold top at hle;omega);have bn:=px (t:=t) (List.getElem_mem aO);have bb:=amT aO;simp +contextual only [br,gm,A.g,aA,Jz,cH,d1,↓al,aG,simprocAttr];refine cK (Wq N t.l[i] (by omega) bJ _ g X) ?_;rintro x g2 ⟨rfl,eB⟩;cases ae:t.l[i].shape with
        | true=>
          simp +contextual only [br,gm,dv,↓al,aG,simprocAttr];exact ⟨⟨i+1,rfl,aO,by rw [rh,bb,ae,Bool.true_and],E.trans eB⟩,by omega⟩
        | false=>
          simp +contextual only [br,gm,dv,↓al,aG,simprocAttr];exact cM _ _ _ (by trivial) (by rw [rh,bb,ae,Bool.false_and];simp only [↓al,bs,simprocAttr]) (aP.trans (E.trans eB))
      . have Jz:((i:Int) < (t.l.length:Int))=False:=eq_false (by omega);rw [List.drop_eq_nil_of_le (by omega),kZ] at rh;simp +contextual only [br,gm,A.g,aA,Jz,↓al,aG,simprocAttr];exact cM _ _ _ (by trivial) (by rw [rh];simp only [↓al,bs,simprocAttr]) (aP.trans E)
     by_cases bx:t.k=2
     . rw [if_pos bx];by_cases eF:t.n=0
       . have ir:((t.l.length:Int)=2)=(t.l.length=2):=by apply propext;omega
         have BC:(64 < (t.l.length:Int))=(64<t.l.length):=by apply propext;omega
         by_cases c3:t.s=[45,62]
         . rw [if_pos (.inl c3)];by_cases c5:t.l.length=2
           . simp +contextual only [ol.1,ol.2.1,ar,c6.g,aA,eq_false bz,eq_true bx,eq_true c3,eq_true eF,ir,eq_true c5,decide_true,decide_false,Bool.true_and,Bool.false_and,Bool.and_false,Bool.not_true,Bool.not_false,↓al,aG,simprocAttr];exact kids (Ext.refl _) (by simp only [↓al,bs,simprocAttr]) (by simp only [↓al,bs,simprocAttr]) fun e r g he aE E=>⟨he,aE,E⟩
           . simp +contextual only [ol.1,ol.2.1,ar,c6.g,aA,eq_false bz,eq_true bx,eq_true c3,eq_true eF,ir,eq_false c5,decide_true,decide_false,Bool.true_and,Bool.false_and,Bool.and_false,Bool.not_true,Bool.not_false,↓al,aG,simprocAttr];exact aP
         . by_cases jh:t.s=[42]
           . rw [if_pos (.inr jh)];by_cases c5:t.l.length=2
             . simp +contextual only [ol.1,ol.2.1,ar,c6.g,aA,eq_false bz,eq_true bx,eq_false c3,eq_true jh,eq_true eF,ir,eq_true c5,decide_true,decide_false,Bool.true_and,Bool.false_and,Bool.and_false,Bool.not_true,Bool.not_false,↓al,aG,simprocAttr];exact kids (Ext.refl _) (by simp only [↓al,bs,simprocAttr]) (by simp only [↓al,bs,simprocAttr]) fun e r g he aE E=>⟨he,aE,E⟩
             . simp +contextual only [ol.1,ol.2.1,ar,c6.g,aA,eq_false bz,eq_true bx,eq_false c3,eq_true jh,eq_true eF,ir,eq_false c5,decide_true,decide_false,Bool.true_and,Bool.false_and,Bool.and_false,Bool.not_true,Bool.not_false,↓al,aG,simprocAttr];exact aP
           . rw [if_neg (fun q=>q.elim c3 jh)];simp +contextual only [ol.1,ol.2.1,ar,c6.g,aA,eq_false bz,eq_true bx,eq_false c3,eq_false jh,eq_true eF,decide_true,decide_false,Bool.true_and,Bool.false_and,Bool.and_false,Bool.not_true,Bool.not_false,↓al,aG,simprocAttr];refine cK (amg 3 t.s (by unfold top at ot;omega) (.inl rfl) aa) ?_;rintro x ad ⟨rfl,bf⟩;have gp:=c6.ext bf;cases mr:i' 3 t.s with
             | false=>
               simp +contextual only [↓al,aG,simprocAttr];exact aP.trans bf
             | true=>
               by_cases c5:t.l.length<=64
               . have IK:(64<t.l.length)=False:=eq_false (by omega);simp +contextual only [gp.g,aA,BC,IK,eq_true c5,decide_true,decide_false,Bool.true_and,↓al,aG,simprocAttr];exact kids bf (by simp only [↓al,bs,simprocAttr]) (by simp only [↓al,bs,simprocAttr]) fun e r g he aE E=>⟨he,aE,E⟩
               . have IK:(64<t.l.length)=True:=eq_true (by omega);simp +contextual only [gp.g,aA,BC,IK,eq_false c5,decide_true,decide_false,Bool.true_and,Bool.false_and,↓al,aG,simprocAttr];exact aP.trans bf
       . by_cases c3:t.s=[45,62]
         . rw [if_pos (.inl c3)];simp +contextual only [ol.1,ol.2.1,ar,c6.g,aA,eq_false bz,eq_true bx,eq_true c3,eq_false eF,decide_true,decide_false,Bool.true_and,Bool.false_and,Bool.and_false,Bool.not_true,Bool.not_false,↓al,aG,simprocAttr];exact aP
         . by_cases jh:t.s=[42]
           . rw [if_pos (.inr jh)];simp +contextual only [ol.1,ol.2.1,ar,c6.g,aA,eq_false bz,eq_true bx,eq_false c3,eq_true jh,eq_false eF,decide_true,decide_false,Bool.true_and,Bool.false_and,Bool.and_false,Bool.not_true,Bool.not_false,↓al,aG,simprocAttr];exact aP
           . rw [if_neg (fun q=>q.elim c3 jh)];simp +contextual only [ol.1,ol.2.1,ar,c6.g,aA,eq_false bz,eq_true bx,eq_false c3,eq_false jh,eq_false eF,decide_true,decide_false,Bool.true_and,Bool.false_and,Bool.and_false,Bool.not_true,Bool.not_false,↓al,aG,simprocAttr];exact aP
     . rw [if_neg bx];by_cases c3:t.s=[45,62]
       . simp +contextual only [ol.1,ol.2.1,ar,c6.g,aA,eq_false bz,eq_false bx,eq_true c3,decide_true,decide_false,Bool.true_and,Bool.false_and,Bool.and_false,Bool.not_true,Bool.not_false,↓al,aG,simprocAttr];exact aP
       . simp +contextual only [ol.1,ol.2.1,ar,c6.g,aA,eq_false bz,eq_false bx,eq_false c3,decide_true,decide_false,Bool.true_and,Bool.false_and,Bool.and_false,Bool.not_true,Bool.not_false,↓al,aG,simprocAttr];exact aP
theorem QT (t:aM):t.check=if t.shape=true then (if t.size<=4096 then (if t.deep<=200 then 0 else 3) else 3) else 2:=by
 unfold aM.check
 split
 . by_cases a:t.size<=4096
   . by_cases b:t.deep<=200
     . rw [if_pos ⟨a,b⟩,if_pos a,if_pos b]
     . rw [if_neg (fun q=>b q.2),if_pos a,if_neg b]
   . rw [if_neg (fun q=>a q.1),if_neg a]
 . rfl
theorem Mz (t:aM) (aS:t.size<=1000000000) (ai:List V) (h:ah) (H:cW Any h t.enc ai):de Tryz.prog 20 [.agg ai] h fun x ab=>x=.int .i64 t.check/\Ext h ab:=by
 have vc:=H;obtain ⟨du,rfl,L,ot⟩:=aM.open H;have ol:=L.one;refine aaO.z rfl (dM ?_);unfold P8;obtain ⟨aa,ar,aP,c6⟩:=h7 h (fT t du);rw [QT];simp +contextual only [ol.1,ol.2.1,ar,c6.g,↓al,aG,simprocAttr];refine cK (Wq _ t (Nat.le_refl _) aS _ aa (vc.ext aP)) ?_;rintro x ad ⟨rfl,bf⟩;have gp:=c6.ext bf;have cm:=aP.trans bf;cases c:t.shape with
 | false=>
   simp +contextual only [↓al,aG,simprocAttr];exact cm
 | true=>
 simp +contextual only [gp.g,↓al,aG,simprocAttr];refine cK (Wc _ t (Nat.le_refl _) aS _ ad (vc.ext cm)) ?_;rintro x aJ ⟨rfl,c4⟩;have pH:=gp.ext c4;have mO:=cm.trans c4;by_cases bX:t.size<=4096
 . have f2:((4096:Int) < (t.size:Int))=False:=eq_false (by omega);simp +contextual only [pH.g,f2,decide_true,decide_false,↓al,aG,simprocAttr];refine cK (VU _ t (Nat.le_refl _) aS _ aJ (vc.ext mO)) ?_;rintro x bG ⟨rfl,gj⟩;have tp:=mO.trans gj;by_cases c3:t.deep<=200
   . have f3:((200:Int) < (t.deep:Int))=False:=eq_false (by omega);simp +contextual only [f3,decide_true,decide_false,↓al,aG,simprocAttr];exact ⟨by simp [bX,c3],tp⟩
   . have f3:((200:Int) < (t.deep:Int))=True:=eq_true (by omega);simp +contextual only [f3,decide_true,decide_false,↓al,aG,simprocAttr];exact ⟨by simp [bX,c3],tp⟩
 . have f2:((4096:Int) < (t.size:Int))=True:=eq_true (by omega);simp +contextual only [pH.g,f2,decide_true,decide_false,↓al,aG,simprocAttr];exact ⟨by simp [bX],mO⟩
theorem Wk:∀(N:Nat),(∀(t:aM),2 * t.size<N->∀(ai ws:List V) (h:ah),cW Any h t.enc ai->cW Any h t.enc ws->de Tryz.prog 25 [.agg ai,.agg ws] h fun x ab=>x=.bool true/\Ext h ab)/\
 (∀(l:List aM),2 * cE l+1<N->∀(v w:V) (h:ah),dc Any h 4 (l.map aM.enc) v->dc Any h 4 (l.map aM.enc) w->de Tryz.prog 17 [v,w] h fun x ab=>x=.bool true/\Ext h ab)
 | 0=>⟨fun t q=>by omega,fun l q=>by omega⟩
 | N+1=>by
   obtain ⟨K9,K'⟩:=Wk N;refine ⟨fun t aS ai ws h H cp=>?_,fun l aS v w h L hU=>?_⟩
   . obtain ⟨du,rfl,L,_⟩:=aM.open H;obtain ⟨wl,rfl,hU,_⟩:=aM.open cp;have cq:=size_eq t;have ol:=L.one;have kT:=hU.one;refine aaP.z rfl (dM ?_);unfold P9;obtain ⟨aa,ar,aP,c6⟩:=h7 h [.int .i64 t.k,.int .i64 t.n,.str t.s,du];obtain ⟨ad,aw,bf,gp⟩:=h7 aa [.int .i64 t.k,.int .i64 t.n,.str t.s,wl];have XQ:=c6.ext bf;simp +contextual only [ol.1,ol.2.1,kT.1,kT.2.1,ar,aw,XQ.g,gp.g,decide_true,↓al,aG,simprocAttr];refine cK (K' t.l (by omega) du wl ad (L.ext (aP.trans bf)) (hU.ext (aP.trans bf))) ?_;rintro x aJ ⟨rfl,c4⟩;simp +contextual only [↓al,aG,simprocAttr];exact (aP.trans bf).trans c4
   . have aA:=L.len;have ir:=hU.len;have hle:=L.le;rw [List.length_map] at aA hle ir;refine aaI.z rfl (dM ?_);unfold tJ;simp +contextual only [aA,ir,↓al,aG,simprocAttr];refine fa (fun r g=>r 0=v/\r 1=w/\∃i:Nat,r 5=.int .i64 i/\i<=l.length/\Ext h g) (fun r g=>l.length - (r 5).toN) ?_ ?_
     . exact ⟨by simp only [↓al,bs,simprocAttr],by simp only [↓al,bs,simprocAttr],0,by simp only [↓al,bs,simprocAttr]<;>rfl,by omega,Ext.refl h⟩
     rintro r g ⟨bt,br,i,c1,ao,E⟩;unfold P6;by_cases aO:i<l.length
     . have g0:((i:Int) < (l.length:Int))=True:=eq_true (by omega);obtain ⟨b,off,ul,cH,X,mZ,ld⟩:=aM.c0 (L.ext E) (k:=.i64) aO;obtain ⟨ca,U0,aqO,qc,lD,ao9,uy⟩:=aM.c0 (hU.ext E) (k:=.i64) aO;have d1:=ld g (Ext.refl g);have d2:=uy g (Ext.refl g);have dv:=kB aO (by unfold top at hle;omega);have cq:=zP (List.getElem_mem aO);simp +contextual only [bt,br,c1,aA,g0,cH,qc,d1,d2,↓al,aG,simprocAttr];refine cK (K9 l[i] (by omega) _ _ g X lD) ?_;rintro x g2 ⟨rfl,bf⟩;have d3:=ld g2 bf;have d4:=uy g2 bf;simp +contextual only [bt,br,c1,dv,d1,d2,d3,d4,↓al,aG,simprocAttr];exact ⟨⟨i+1,rfl,aO,E.trans bf⟩,by omega⟩
     . have g0:((i:Int) < (l.length:Int))=False:=eq_false (by omega);simp +contextual only [bt,br,c1,aA,g0,↓al,aG,simprocAttr];exact E
theorem amO (t:aM) (ai ws:List V) (h:ah) (H:cW Any h t.enc ai) (cp:cW Any h t.enc ws):de Tryz.prog 25 [.agg ai,.agg ws] h fun x ab=>x=.bool true/\Ext h ab:=(Wk _).1 t (Nat.lt_succ_self _) ai ws h H cp
abbrev z5:List V:=[.int .i64 0,.int .i64 0,.str [],.bB]
end
end Go.Proofs.YthemdhlheglhoaaGreatDoor
