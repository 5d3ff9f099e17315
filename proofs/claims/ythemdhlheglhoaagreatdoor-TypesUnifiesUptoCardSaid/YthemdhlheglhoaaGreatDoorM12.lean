/- The chapter's functions, walked by the abstract machine: plain lemmas, no condition. Printed by a program from longer texts: names made short. -/
import Derived.Test.YthemdhlheglhoaaGreatDoorM10
import Derived.Test.YthemdhlheglhoaaGreatDoorM11
import Derived.Test.YthemdhlheglhoaaGreatDoorM8
set_option linter.unusedSectionVars false
set_option linter.unusedSimpArgs false
set_option linter.unusedVariables false
set_option maxHeartbeats 64000000
noncomputable section
namespace Go.Proofs.YthemdhlheglhoaaGreatDoor
section
open Go a7
abbrev hS:=List (Int × aL)
section
variable (s:hS)
mutual
def aL.put:aL->aL
 | .mk k n x l=>match (if k=1 then ff n s else none) with
   | some u=>u
   | none=>.mk k n x (fI l)
def fI:List aL->List aL
 | []=>[]
 | t::l=>t.put::fI l
end
end
theorem ab4 {t:aL} (h:t.check=0):t.shape=true/\t.size<=4096/\t.deep<=200:=by
 unfold aL.check at h
 split at h
 . rename_i aa
   split at h
   . rename_i ad;exact ⟨aa,ad⟩
   . cases h
 . cases h
def ao7:aL:=.mk 0 0 [] []
section
variable {s:hS}
end
end
section
open Go a7
structure dx where
 cj:Bool
 n:Int
 s:List UInt8
 kids:List Nat
structure bp where
 nodes:List dx
 vars:List (Int × Nat)
def bp.N (g:bp):Nat:=g.nodes.length
def bp.var (g:bp) (n:Int):bp × Nat:=
 match ff n g.vars with
 | some i=>(g,i)
 | none=>(⟨g.nodes++[⟨false,n,[],[]⟩],g.vars++[(n,g.nodes.length)]⟩,g.nodes.length)
def bp.put (g:bp) (s:List UInt8) (aI:List Nat):bp:=⟨g.nodes++[⟨true,0,s,aI⟩],g.vars⟩
mutual
def aL.add:aL->bp->bp × Nat
 | .mk k n s l,g=>if k=1 then g.var n else ((cg l g).1.put s (cg l g).2,(cg l g).1.N)
def cg:List aL->bp->bp × List Nat
 | [],g=>(g,[])
 | t::l,g=>((cg l (t.add g).1).1,(t.add g).2::(cg l (t.add g).1).2)
end
theorem add_eq (t:aL) (g:bp):t.add g=if t.k=1 then g.var t.n else ((cg t.l g).1.put t.s (cg t.l g).2,(cg t.l g).1.N):=by cases t;rw [aL.add];rfl
theorem OY:∀(l m:List aL) (g:bp),cg (l++m) g=((cg m (cg l g).1).1,(cg l g).2++(cg m (cg l g).1).2)
 | [],m,g=>by simp [cg]
 | t::l,m,g=>by rw [List.cons_append,cg,OY l m];simp [cg]
theorem D0:∀(l:List aL) (g:bp),(cg l g).2.length=l.length
 | [],g=>rfl
 | t::l,g=>by rw [cg,List.length_cons,List.length_cons,D0 l]
def bp.le (g cH:bp):Prop:=(∃m,cH.nodes=g.nodes++m)/\∃m,cH.vars=g.vars++m
theorem bp.le.refl (g:bp):g.le g:=⟨⟨[],by simp⟩,⟨[],by simp⟩⟩
theorem bp.le.trans {a b c:bp} (h:a.le b) (k:b.le c):a.le c:=by obtain ⟨⟨m,aa⟩,n,ad⟩:=h;obtain ⟨⟨p,bA⟩,q,bx⟩:=k;exact ⟨⟨m++p,by rw [bA,aa,List.append_assoc]⟩,n++q,by rw [bx,ad,List.append_assoc]⟩
theorem bp.le.get {g cH:bp} (h:g.le cH) {i:Nat} {aN:dx} (e:g.nodes[i]? =some aN):cH.nodes[i]? =some aN:=by obtain ⟨⟨m,aa⟩,_⟩:=h;rw [aa,List.getElem?_append_left (List.getElem?_eq_some_iff.1 e).1];exact e
theorem bp.le.bG {g cH:bp} (h:g.le cH) {i:Nat} (an:i<g.N):cH.nodes[i]? =g.nodes[i]? :=by obtain ⟨⟨m,aa⟩,_⟩:=h;rw [aa,List.getElem?_append_left an]
theorem bp.le.n {g cH:bp} (h:g.le cH):g.N<=cH.N:=by obtain ⟨⟨m,aa⟩,_⟩:=h;unfold bp.N;rw [aa,List.length_append];omega
theorem F8 {α:Type} (s:Int):∀(k m:List (Int × α)),ff s (k++m)=(match ff s k with | some a=>some a | none=>ff s m)
 | [],m=>rfl
 | (n,a)::k,m=>by
   simp only [List.cons_append,ff]
   split
   . rfl
   . exact F8 s k m
theorem Ut {α:Type} {s:Int} {a:α}:∀{k:List (Int × α)},ff s k=some a->(s,a) ∈ k
 | [],h=>by cases h
 | (n,b)::k,h=>by
   simp only [ff] at h
   split at h
   . rename_i e;cases h;subst e;exact List.mem_cons_self
   . exact List.mem_cons_of_mem _ (Ut h)
theorem Uu {α:Type} {s:Int}:∀{k:List (Int × α)},ff s k=none->s ∉ k.map Prod.fst
 | [],_,h=>by simp at h
 | (n,b)::k,h,q=>by
   simp only [ff] at h
   split at h
   . cases h
   . rename_i e;rcases List.mem_cons.1 q with q | q
     . exact e q
     . exact Uu h q
theorem w0 {α:Type} {s:Int} {a:α}:∀{k:List (Int × α)},(k.map Prod.fst).Nodup->(s,a) ∈ k->ff s k=some a
 | [],_,h=>by cases h
 | (n,b)::k,aV,h=>by
   simp only [List.map_cons,List.nodup_cons] at aV;simp only [ff];rcases List.mem_cons.1 h with h | h
   . cases h;rw [if_pos rfl]
   . rw [if_neg (fun e=>aV.1 (by rw [<-e];exact List.mem_map_of_mem h))];exact w0 aV.2 h
structure bp.ee (g:bp):Prop where
 c6:∀(i:Nat) (aN:dx),g.nodes[i]? =some aN->∀x ∈ aN.kids,x<i
 cj:∀(i:Nat) (aN:dx),g.nodes[i]? =some aN->aN.cj=true->aN.n=0
 var:∀(i:Nat) (aN:dx),g.nodes[i]? =some aN->aN.cj=false->aN.kids=[]/\aN.s=[]/\0<=aN.n/\ff aN.n g.vars=some i
 hI:∀(n:Int) (i:Nat),ff n g.vars=some i->∃aN,g.nodes[i]? =some aN/\aN.cj=false/\aN.n=n
 keys:(g.vars.map Prod.fst).Nodup
 an:∀p ∈ g.vars,p.1<=1048575
theorem bp.ee.empty:bp.ee ⟨[],[]⟩:=⟨fun i aN h=>by simp at h,fun i aN h=>by simp at h,fun i aN h=>by simp at h,fun n i h=>(by simp [ff] at h),by simp,fun p ag=>(by cases ag)⟩
theorem bp.ee.qj {g:bp} (W:g.ee) {i:Nat} {aN:dx} (h:g.nodes[i]? =some aN) {x:Nat} (ak:x ∈ aN.kids):x<g.N:=by have:=W.c6 i aN h x ak;have:=(List.getElem?_eq_some_iff.1 h).1;unfold bp.N;omega
theorem oe {α:Type} {l:List α} {x y:α} {i:Nat} (h:(l++[x])[i]? =some y):l[i]? =some y\/i=l.length/\y=x:=by
 by_cases c:i<l.length
 . rw [List.getElem?_append_left c] at h;exact .inl h
 . rw [List.getElem?_append_right (by omega)] at h;have:i-l.length=0:=by
    have:=(List.getElem?_eq_some_iff.1 h).1;simp only [List.length_singleton] at this;omega
   rw [this] at h;simp only [List.getElem?_cons_zero,Option.some.injEq] at h;exact .inr ⟨by omega,h.symm⟩
theorem aor {g:bp} (W:g.ee) {n:Int} (aV:0<=n) (pb:n<=1048575):g.le (g.var n).1/\(g.var n).1.ee/\(g.var n).2 < (g.var n).1.N/\(g.var n).1.N<=g.N+1:=by
 unfold bp.var;cases h:ff n g.vars with
 | some i=>
   obtain ⟨aN,aa,_⟩:=W.hI n i h;exact ⟨bp.le.refl g,W,(List.getElem?_eq_some_iff.1 aa).1,Nat.le_succ _⟩
 | none=>
   refine ⟨⟨⟨_,rfl⟩,_,rfl⟩,⟨?_,?_,?_,?_,?_,?_⟩,?_,?_⟩
   . intro i aN e x ak;rcases oe e with e | ⟨e,rfl⟩
     . exact W.c6 i aN e x ak
     . simp at ak
   . intro i aN e c;rcases oe e with e | ⟨e,rfl⟩
     . exact W.cj i aN e c
     . cases c
   . intro i aN e c;rcases oe e with e | ⟨c0,rfl⟩
     . obtain ⟨a,b,bL,d⟩:=W.var i aN e c;exact ⟨a,b,bL,by rw [F8,d]⟩
     . refine ⟨rfl,rfl,aV,?_⟩;rw [F8,h];simp only [ff,if_true];rw [c0]
   . intro m i e;rw [F8] at e;cases q:ff m g.vars with
     | some j=>
       rw [q] at e;simp only [Option.some.injEq] at e;subst e;obtain ⟨aN,a,b⟩:=W.hI m j q;exact ⟨aN,by rw [List.getElem?_append_left (List.getElem?_eq_some_iff.1 a).1];exact a,b⟩
     | none=>
       rw [q] at e;simp only [ff] at e
       split at e
       . rename_i em;cases e;exact ⟨_,by rw [List.getElem?_append_right (Nat.le_refl _),Nat.sub_self];rfl,rfl,em.symm⟩
       . cases e
   . rw [List.map_append,List.nodup_append];refine ⟨W.keys,by simp,fun a a1 b ae e=>?_⟩;simp only [List.map_cons,List.map_nil,List.mem_singleton] at ae;subst ae;subst e;exact Uu h a1
   . intro p ag;rcases List.mem_append.1 ag with ag | ag
     . exact W.an p ag
     . rw [List.mem_singleton] at ag;subst ag;exact pb
   . show g.nodes.length < (g.nodes++[_]).length;simp
   . show (g.nodes++[_]).length<=g.nodes.length+1;simp
theorem al_ {g:bp} (W:g.ee) (s:List UInt8) {aI:List Nat} (aH:∀x ∈ aI,x<g.N):g.le (g.put s aI)/\(g.put s aI).ee/\(g.put s aI).N=g.N+1:=by
 have ay:g.le (g.put s aI):=⟨⟨_,rfl⟩,[],by simp [bp.put]⟩;refine ⟨ay,⟨?_,?_,?_,?_,W.keys,W.an⟩,by simp [bp.put,bp.N]⟩
 . intro i aN e x ak;rcases oe e with e | ⟨e,rfl⟩
   . exact W.c6 i aN e x ak
   . have:=aH x ak;unfold bp.N at this;omega
 . intro i aN e c;rcases oe e with e | ⟨e,rfl⟩
   . exact W.cj i aN e c
   . rfl
 . intro i aN e c;rcases oe e with e | ⟨e,rfl⟩
   . exact W.var i aN e c
   . cases c
 . intro n i e;obtain ⟨aN,a,b⟩:=W.hI n i e;exact ⟨aN,ay.get a,b⟩
mutual
def aL.lF:aL->Bool
 | .mk k n s l=>(decide (k≠1)||(decide (0<=n)&&decide (n<=1048575)))&&kN l
def kN:List aL->Bool
 | []=>true
 | t::l=>t.lF&&kN l
end
theorem XP (t:aL):t.lF=((decide (t.k≠1)||(decide (0<=t.n)&&decide (t.n<=1048575)))&&kN t.l):=by cases t;rw [aL.lF];rfl
theorem Nz:∀l m:List aL,kN (l++m)=(kN l&&kN m)
 | [],m=>by simp [kN]
 | t::l,m=>by rw [List.cons_append,kN,kN,Nz l m,Bool.and_assoc]
theorem NA {t:aL}:∀{l:List aL},kN l=true->t ∈ l->t.lF=true
 | [],_,h=>by cases h
 | u::l,h,m=>by
   simp only [kN,Bool.and_eq_true] at h;rcases List.mem_cons.1 m with rfl | m
   . exact h.1
   . exact NA h.2 m
mutual
theorem WM:∀t:aL,t.shape=true->t.lF=true
 | .mk k n s l,h=>by
   rw [aL.shape,Bool.and_eq_true] at h;rw [aL.lF,WO l h.2,Bool.and_true,Bool.or_eq_true,Bool.and_eq_true,decide_eq_true_eq,decide_eq_true_eq,decide_eq_true_eq];by_cases c:k=1
   . refine .inr ?_;have aa:=h.1;unfold aL.own at aa;rw [if_pos (show (aL.mk k n s l).k=1 from c)] at aa;simp only [Bool.and_eq_true,decide_eq_true_eq] at aa;exact aa.1.1
   . exact .inl c
theorem WO:∀l:List aL,mR l=true->kN l=true
 | [],_=>rfl
 | t::l,h=>by rw [mR,Bool.and_eq_true] at h;rw [kN,WM t h.1,WO l h.2];rfl
end
mutual
theorem r8:∀(t:aL) (g:bp),t.lF=true->g.ee->g.le (t.add g).1/\(t.add g).1.ee/\(t.add g).2 < (t.add g).1.N/\(t.add g).1.N<=g.N+t.size
 | .mk k n s l,g,h,W=>by
   rw [aL.lF,Bool.and_eq_true] at h;rw [aL.add,aL.size];by_cases c:k=1
   . rw [if_pos c];have aV:0<=n/\n<=1048575:=by
      have:=h.1;simp only [c,ne_eq,not_true_eq_false,decide_false,Bool.false_or,Bool.and_eq_true,decide_eq_true_eq] at this;exact this
     obtain ⟨a,b,d,e⟩:=aor W (n:=n) aV.1 aV.2;exact ⟨a,b,d,by omega⟩
   . rw [if_neg c];obtain ⟨a,b,d,e⟩:=D1 l g h.2 W;obtain ⟨p,q,r⟩:=al_ b s d;exact ⟨a.trans p,q,by simp only;omega,by simp only;omega⟩
theorem D1:∀(l:List aL) (g:bp),kN l=true->g.ee->g.le (cg l g).1/\(cg l g).1.ee/\(∀x ∈ (cg l g).2,x < (cg l g).1.N)/\(cg l g).1.N<=g.N+ca l
 | [],g,h,W=>⟨bp.le.refl g,W,fun x ak=>(by cases ak),by simp only [cg,ca];omega⟩
 | t::l,g,h,W=>by
   rw [kN,Bool.and_eq_true] at h;obtain ⟨a,b,c,d⟩:=r8 t g h.1 W;obtain ⟨bu,bL,fX,jq⟩:=D1 l _ h.2 b;rw [cg,ca];refine ⟨a.trans bu,bL,fun x ak=>?_,by simp only;omega⟩;rcases List.mem_cons.1 ak with rfl | ak
   . have:=bu.n;simp only;omega
   . exact fX x ak
end
def ja:List (aL × aL)->bp × List (Nat × Nat)->bp × List (Nat × Nat)
 | [],g=>g
 | p::l,g=>ja l ((p.2.add (p.1.add g.1).1).1,((p.1.add g.1).2,(p.2.add (p.1.add g.1).1).2)::g.2)
inductive cB (g:bp) (E:List (Nat × Nat)):Nat->Nat->Prop
 | base {a b:Nat} (h:(a,b) ∈ E):cB g E a b
 | refl (a:Nat):cB g E a a
 | symm {a b:Nat} (h:cB g E a b):cB g E b a
 | trans {a b c:Nat} (h:cB g E a b) (k:cB g E b c):cB g E a c
 | c6 {a b x y i:Nat} {aN cm:dx} (h:cB g E a b) (a1:g.nodes[a]? =some aN) (ae:g.nodes[b]? =some cm) (jO:aN.cj=true) (jP:cm.cj=true) (ak:aN.kids[i]? =some x) (aZ:cm.kids[i]? =some y):cB g E x y
def mU (g:bp) (E:List (Nat × Nat)):Prop:=∃(a b:Nat) (aN cm:dx),cB g E a b/\g.nodes[a]? =some aN/\g.nodes[b]? =some cm/\aN.cj=true/\cm.cj=true/\(aN.s≠cm.s\/aN.kids.length≠cm.kids.length)
theorem cB.mono {g cH:bp} {E ax:List (Nat × Nat)} (aB:g.le cH) (hn:∀p ∈ E,p ∈ ax) {a b:Nat} (h:cB g E a b):cB cH ax a b:=by
 induction h with
 | base h=>exact .base (hn _ h)
 | refl a=>exact .refl a
 | symm _ br=>exact .symm br
 | trans _ _ i1 i2=>exact .trans i1 i2
 | c6 _ a1 ae jO jP ak aZ br=>exact .c6 br (aB.get a1) (aB.get ae) jO jP ak aZ
theorem mU.mono {g cH:bp} {E ax:List (Nat × Nat)} (aB:g.le cH) (hn:∀p ∈ E,p ∈ ax) (h:mU g E):mU cH ax:=by obtain ⟨a,b,aN,cm,aa,ad,aJ,bE⟩:=h;exact ⟨a,b,aN,cm,aa.mono aB hn,aB.get ad,aB.get aJ,bE⟩
structure eU (g:bp) (ρ:Nat->Nat):Prop where
 idem:∀a,ρ (ρ a)=ρ a
 lt:∀a,a<g.N->ρ a<g.N
 out:∀a,g.N<=a->ρ a=a
 top:∀(a:Nat) (aN:dx),g.nodes[a]? =some aN->aN.cj=true->∃cm:dx,g.nodes[ρ a]? =some cm/\cm.cj=true
inductive hP (ρ:Nat->Nat) (Q:List (Nat × Nat)):Nat->Nat->Prop
 | pF {a b:Nat} (h:ρ a=ρ b):hP ρ Q a b
 | q {a b:Nat} (h:(a,b) ∈ Q):hP ρ Q a b
 | symm {a b:Nat} (h:hP ρ Q a b):hP ρ Q b a
 | trans {a b c:Nat} (h:hP ρ Q a b) (k:hP ρ Q b c):hP ρ Q a c
theorem hP.imp {ρ dJ:Nat->Nat} {Q gj:List (Nat × Nat)} (aa:∀a b,ρ a=ρ b->hP dJ gj a b) (ad:∀p ∈ Q,hP dJ gj p.1 p.2) {a b:Nat} (h:hP ρ Q a b):hP dJ gj a b:=by
 induction h with
 | pF h=>exact aa _ _ h
 | q h=>exact ad _ h
 | symm _ br=>exact .symm br
 | trans _ _ i1 i2=>exact .trans i1 i2
theorem hP.nil {ρ:Nat->Nat} {a b:Nat} (h:hP ρ [] a b):ρ a=ρ b:=by
 induction h with
 | pF h=>exact h
 | q h=>cases h
 | symm _ br=>exact br.symm
 | trans _ _ i1 i2=>exact i1.trans i2
structure eA (g:bp) (E:List (Nat × Nat)) (ρ:Nat->Nat) (Q:List (Nat × Nat)):Prop where
 sound:∀a b,ρ a=ρ b->cB g E a b
 cy:∀p ∈ Q,cB g E p.1 p.2
 base:∀p ∈ E,hP ρ Q p.1 p.2
 closed:∀(a b:Nat) (aN cm:dx),ρ a=ρ b->g.nodes[a]? =some aN->g.nodes[b]? =some cm->aN.cj=true->cm.cj=true->
  aN.s=cm.s/\aN.kids.length=cm.kids.length/\∀(i x y:Nat),aN.kids[i]? =some x->cm.kids[i]? =some y->hP ρ Q x y
section
variable {g:bp} {E:List (Nat × Nat)} {ρ:Nat->Nat} {Q:List (Nat × Nat)}
theorem eA.done (J:eA g E ρ []) {a b:Nat}:cB g E a b↔ρ a=ρ b:=by
 refine ⟨fun h=>?_,J.sound a b⟩
 induction h with
 | base h=>exact (J.base _ h).nil
 | refl a=>rfl
 | symm _ br=>exact br.symm
 | trans _ _ i1 i2=>exact i1.trans i2
 | c6 _ a1 ae jO jP ak aZ br=>exact ((J.closed _ _ _ _ br a1 ae jO jP).2.2 _ _ _ ak aZ).nil
theorem eA.kf (J:eA g E ρ []):¬mU g E:=by
 rintro ⟨a,b,aN,cm,aa,ad,aJ,bE,dn,dH⟩;obtain ⟨ar,av,_⟩:=J.closed a b aN cm (J.done.1 aa) ad aJ bE dn;rcases dH with dH | dH
 . exact dH ar
 . exact dH av
theorem eA.perm {gj:List (Nat × Nat)} (J:eA g E ρ Q) (h:∀p,p ∈ Q↔p ∈ gj):eA g E ρ gj:=by have l4:∀{a b:Nat},hP ρ Q a b->hP ρ gj a b:=fun q=>q.imp (fun a b e=>.pF e) fun p ag=>.q ((h p).1 ag);refine ⟨J.sound,fun p ag=>J.cy p ((h p).2 ag),fun p ag=>l4 (J.base p ag),fun a b aN cm e a1 ae jO jP=>?_⟩;obtain ⟨ar,av,aK⟩:=J.closed a b aN cm e a1 ae jO jP;exact ⟨ar,av,fun i x y ak aZ=>l4 (aK i x y ak aZ)⟩
theorem eU.grow {cH:bp} (S:eU g ρ) (aB:g.le cH):eU cH ρ:=by
 have aV:=aB.n;refine ⟨S.idem,fun a h=>?_,fun a h=>S.out a (by omega),fun a aN h c=>?_⟩
 . by_cases q:a<g.N
   . have:=S.lt a q;omega
   . rw [S.out a (by omega)];exact h
 . by_cases q:a<g.N
   . rw [aB.bG q] at h;obtain ⟨cm,aa,ad⟩:=S.top a aN h c;exact ⟨cm,aB.get aa,ad⟩
   . exact ⟨aN,by rw [S.out a (by omega)];exact h,c⟩
theorem eA.grow {cH:bp} (S:eU g ρ) (W:cH.ee) (J:eA g E ρ Q) (aB:g.le cH):eA cH E ρ Q:=by
 have same:∀a b,ρ a=ρ b->a<g.N->b<g.N:=fun a b e a1=>by
  by_cases q:b<g.N
  . exact q
  . have:=S.lt a a1;rw [e,S.out b (by omega)] at this;omega
 refine ⟨fun a b h=>(J.sound a b h).mono aB fun _ h=>h,fun p ag=>(J.cy p ag).mono aB fun _ h=>h,J.base,fun a b aN cm e a1 ae jO jP=>?_⟩;by_cases q:a<g.N
 . have ec:=same a b e q;rw [aB.bG q] at a1;rw [aB.bG ec] at ae;exact J.closed a b aN cm e a1 ae jO jP
 . have ec:¬b<g.N:=fun z=>q (same b a e.symm z);rw [S.out a (by omega),S.out b (by omega)] at e;subst e;rw [a1] at ae;cases ae;refine ⟨rfl,rfl,fun i x y ak aZ=>?_⟩;rw [ak] at aZ;cases aZ;exact .pF rfl
theorem eA.push (J:eA g E ρ Q) (a b:Nat):eA g ((a,b)::E) ρ ((a,b)::Q):=by
 have l4:∀{x y:Nat},hP ρ Q x y->hP ρ ((a,b)::Q) x y:=fun q=>q.imp (fun a b e=>.pF e) fun p ag=>.q (List.mem_cons_of_mem _ ag);have tL:∀{x y:Nat},cB g E x y->cB g ((a,b)::E) x y:=fun q=>q.mono (bp.le.refl g) fun p ag=>List.mem_cons_of_mem _ ag;refine ⟨fun x y e=>tL (J.sound x y e),fun p ag=>?_,fun p ag=>?_,fun x y aN cm e a1 ae jO jP=>?_⟩
 . rcases List.mem_cons.1 ag with rfl | ag
   . exact .base List.mem_cons_self
   . exact tL (J.cy p ag)
 . rcases List.mem_cons.1 ag with rfl | ag
   . exact .q List.mem_cons_self
   . exact l4 (J.base p ag)
 . obtain ⟨ar,av,aK⟩:=J.closed x y aN cm e a1 ae jO jP;exact ⟨ar,av,fun i u v hu bh=>l4 (aK i u v hu bh)⟩
theorem eA.skip {a b:Nat} (J:eA g E ρ ((a,b)::Q)) (h:ρ a=ρ b):eA g E ρ Q:=by
 have l4:∀{x y:Nat},hP ρ ((a,b)::Q) x y->hP ρ Q x y:=fun q=>q.imp (fun a b e=>.pF e) fun p ag=>by
  rcases List.mem_cons.1 ag with rfl | ag
  . exact .pF h
  . exact .q ag
 refine ⟨J.sound,fun p ag=>J.cy p (List.mem_cons_of_mem _ ag),fun p ag=>l4 (J.base p ag),fun x y aN cm e a1 ae jO jP=>?_⟩;obtain ⟨ar,av,aK⟩:=J.closed x y aN cm e a1 ae jO jP;exact ⟨ar,av,fun i u v hu bh=>l4 (aK i u v hu bh)⟩
def eg (ρ:Nat->Nat) (r s:Nat):Nat->Nat:=fun x=>if ρ x=r then s else ρ x
theorem Hd {r s:Nat} (aF:ρ r=r) (aR:ρ s=s) {x y:Nat} (h:eg ρ r s x=eg ρ r s y):ρ x=ρ y\/(ρ x=r/\ρ y=s)\/(ρ x=s/\ρ y=r):=by
 unfold eg at h
 split at h<;>split at h
 . rename_i a b;exact .inl (a.trans b.symm)
 . rename_i a b;exact .inr (.inl ⟨a,h.symm⟩)
 . rename_i a b;exact .inr (.inr ⟨h,b⟩)
 . exact .inl h
theorem Nu {r s x y:Nat} (h:ρ x=ρ y):eg ρ r s x=eg ρ r s y:=by unfold eg;rw [h]
theorem Nv {r s x y:Nat} (ak:ρ x=r) (aZ:ρ y=s):eg ρ r s x=eg ρ r s y:=by
 unfold eg;rw [if_pos ak]
 split
 . rfl
 . exact aZ.symm
theorem eU.one {r s:Nat} (S:eU g ρ) (aF:ρ r=r) (aR:ρ s=s) (cl:r≠s) (qp:r<g.N) (ls:s<g.N) (aw:∀aN:dx,g.nodes[r]? =some aN->aN.cj=true->∃cm:dx,g.nodes[s]? =some cm/\cm.cj=true):eU g (eg ρ r s):=by
 have agl:eg ρ r s s=s:=by unfold eg;rw [aR,if_neg (fun e=>cl e.symm)]
 refine ⟨fun a=>?_,fun a h=>?_,fun a h=>?_,fun a aN h c=>?_⟩
 . by_cases q:ρ a=r
   . have:eg ρ r s a=s:=by unfold eg;rw [if_pos q]
     rw [this,agl]
   . have:eg ρ r s a=ρ a:=by unfold eg;rw [if_neg q]
     rw [this];unfold eg;rw [S.idem,if_neg q]
 . unfold eg
   split
   . exact ls
   . exact S.lt a h
 . unfold eg;have:=S.out a h;rw [if_neg (by omega)];exact this
 . obtain ⟨cm,aa,ad⟩:=S.top a aN h c;unfold eg
   split
   . rename_i q;rw [q] at aa;exact aw cm aa ad
   . exact ⟨cm,aa,ad⟩
theorem eA.XE {a b r s:Nat} (S:eU g ρ) (J:eA g E ρ ((a,b)::Q)) (yF:(ρ a=r/\ρ b=s)\/(ρ a=s/\ρ b=r)) (aF:ρ r=r) (aR:ρ s=s) (bh:∀aN:dx,g.nodes[r]? =some aN->aN.cj=false):eA g E (eg ρ r s) Q:=by
 have l4:∀{x y:Nat},hP ρ ((a,b)::Q) x y->hP (eg ρ r s) Q x y:=fun q=>q.imp (fun a b e=>.pF (Nu e)) fun p ag=>by
  rcases List.mem_cons.1 ag with rfl | ag
  . rcases yF with ⟨aa,ad⟩ | ⟨aa,ad⟩
    . exact .pF (Nv aa ad)
    . exact .symm (.pF (Nv ad aa))
  . exact .q ag
 have ya:=J.cy (a,b) List.mem_cons_self;have ye:cB g E r s:=by
  rcases yF with ⟨aa,ad⟩ | ⟨aa,ad⟩
  . exact (cB.symm (J.sound a r (by rw [aa,aF]))).trans (ya.trans (J.sound b s (by rw [ad,aR])))
  . exact (cB.symm (J.sound b r (by rw [ad,aF]))).trans (ya.symm.trans (J.sound a s (by rw [aa,aR])))
 have UY:∀(x:Nat) (aN:dx),ρ x=r->g.nodes[x]? =some aN->aN.cj=true->False:=fun x aN e h c=>by obtain ⟨cm,aa,ad⟩:=S.top x aN h c;rw [e] at aa;rw [bh cm aa] at ad;cases ad
 refine ⟨fun x y e=>?_,fun p ag=>J.cy p (List.mem_cons_of_mem _ ag),fun p ag=>l4 (J.base p ag),fun x y aN cm e a1 ae jO jP=>?_⟩
 . rcases Hd aF aR e with e | ⟨aP,a'⟩ | ⟨aP,a'⟩
   . exact J.sound x y e
   . exact (J.sound x r (by rw [aP,aF])).trans (ye.trans (J.sound s y (by rw [a',aR])))
   . exact (J.sound x s (by rw [aP,aR])).trans (ye.symm.trans (J.sound r y (by rw [a',aF])))
 . rcases Hd aF aR e with e | ⟨aP,a'⟩ | ⟨aP,a'⟩
   . obtain ⟨ar,av,aK⟩:=J.closed x y aN cm e a1 ae jO jP;exact ⟨ar,av,fun i u v hu bh=>l4 (aK i u v hu bh)⟩
   . exact (UY x aN aP a1 jO).elim
   . exact (UY y cm a' ae jP).elim
theorem eA.XD {a b r s:Nat} {dP ef:dx} (S:eU g ρ) (J:eA g E ρ ((a,b)::Q)) (a1:ρ a=r) (ae:ρ b=s) (Fv:g.nodes[r]? =some dP) (Fw:g.nodes[s]? =some ef) (ob:dP.cj=true) (cs:ef.cj=true) (aP:dP.s=ef.s) (a':dP.kids.length=ef.kids.length):
 eA g E (eg ρ r s) (dP.kids.zip ef.kids++Q):=by
 have aF:ρ r=r:=by rw [<-a1,S.idem]
 have aR:ρ s=s:=by rw [<-ae,S.idem]
 have l4:∀{x y:Nat},hP ρ ((a,b)::Q) x y->hP (eg ρ r s) (dP.kids.zip ef.kids++Q) x y:=fun q=>q.imp (fun a b e=>.pF (Nu e)) fun p ag=>by
  rcases List.mem_cons.1 ag with rfl | ag
  . exact .pF (Nv a1 ae)
  . exact .q (List.mem_append_right _ ag)
 have ya:=J.cy (a,b) List.mem_cons_self;have ye:cB g E r s:=(cB.symm (J.sound a r (by rw [a1,aF]))).trans (ya.trans (J.sound b s (by rw [ae,aR])));have ajr:∀(i x y:Nat),dP.kids[i]? =some x->ef.kids[i]? =some y->(x,y) ∈ dP.kids.zip ef.kids:=fun i x y ak aZ=>by
  have:(dP.kids.zip ef.kids)[i]? =some (x,y):=by rw [List.getElem?_zip_eq_some];exact ⟨ak,aZ⟩
  exact List.mem_of_getElem? this
 have two:∀(x y:Nat) (aN cm:dx),ρ x=r->ρ y=s->g.nodes[x]? =some aN->g.nodes[y]? =some cm->aN.cj=true->cm.cj=true->
  aN.s=cm.s/\aN.kids.length=cm.kids.length/\∀(i u v:Nat),aN.kids[i]? =some u->cm.kids[i]? =some v->hP (eg ρ r s) (dP.kids.zip ef.kids++Q) u v:=by
  intro x y aN cm ex jV ak aZ A5 A6;obtain ⟨bZ,bX,b_⟩:=J.closed x r aN dP (by rw [ex,aF]) ak Fv A5 ob;obtain ⟨ar,av,aK⟩:=J.closed s y ef cm (by rw [jV,aR]) Fw aZ cs A6;refine ⟨bZ.trans (aP.trans ar),bX.trans (a'.trans av),fun i u v hu bh=>?_⟩;have li:=(List.getElem?_eq_some_iff.1 hu).1;have fG:dP.kids[i]? =some dP.kids[i]:=List.getElem?_eq_getElem (by omega);have uj:ef.kids[i]? =some ef.kids[i]:=List.getElem?_eq_getElem (by omega);exact (l4 (b_ i _ _ hu fG)).trans ((hP.q (List.mem_append_left _ (ajr i _ _ fG uj))).trans (l4 (aK i _ _ uj bh)))
 refine ⟨fun x y e=>?_,fun p ag=>?_,fun p ag=>l4 (J.base p ag),fun x y aN cm e ak aZ A5 A6=>?_⟩
 . rcases Hd aF aR e with e | ⟨aP,a'⟩ | ⟨aP,a'⟩
   . exact J.sound x y e
   . exact (J.sound x r (by rw [aP,aF])).trans (ye.trans (J.sound s y (by rw [a',aR])))
   . exact (J.sound x s (by rw [aP,aR])).trans (ye.symm.trans (J.sound r y (by rw [a',aF])))
 . rcases List.mem_append.1 ag with ag | ag
   . obtain ⟨i,an⟩:=List.getElem?_of_mem ag;rw [List.getElem?_zip_eq_some] at an;exact .c6 ye Fv Fw ob cs an.1 an.2
   . exact J.cy p (List.mem_cons_of_mem _ ag)
 . rcases Hd aF aR e with e | ⟨aP,a'⟩ | ⟨aP,a'⟩
   . obtain ⟨ar,av,aK⟩:=J.closed x y aN cm e ak aZ A5 A6;exact ⟨ar,av,fun i u v hu bh=>l4 (aK i u v hu bh)⟩
   . exact two x y aN cm aP a' ak aZ A5 A6
   . obtain ⟨ar,av,aK⟩:=two y x cm aN a' aP aZ ak A6 A5;exact ⟨ar.symm,av.symm,fun i u v hu bh=>(aK i v u bh hu).symm⟩
theorem eA.Er {a b r s:Nat} {dP ef:dx} (S:eU g ρ) (J:eA g E ρ ((a,b)::Q)) (a1:ρ a=r) (ae:ρ b=s) (Fv:g.nodes[r]? =some dP) (Fw:g.nodes[s]? =some ef) (ob:dP.cj=true) (cs:ef.cj=true) (h:dP.s≠ef.s\/dP.kids.length≠ef.kids.length):mU g E:=by have ya:=J.cy (a,b) List.mem_cons_self;exact ⟨r,s,dP,ef,(cB.symm (J.sound a r (by rw [a1,<-a1,S.idem]))).trans (ya.trans (J.sound b s (by rw [ae,<-ae,S.idem]))),Fv,Fw,ob,cs,h⟩
def sX (g:bp) (r:Nat):Nat:=match g.nodes[r]? with | some aN=>aN.kids.length | none=>0
def Hi (g:bp) (ρ:Nat->Nat) (r:Nat):Nat:=if ρ r=r then 1+sX g r else 0
def kx (g:bp) (ρ:Nat->Nat):Nat:=((List.range g.N).map (Hi g ρ)).sum
theorem M_ {α:Type} {f kV:α->Nat}:∀{l:List α},(∀x ∈ l,kV x<=f x)->(l.map kV).sum<=(l.map f).sum
 | [],_=>Nat.le_refl _
 | x::l,h=>by have:=M_ (l:=l) fun z bn=>h z (List.mem_cons_of_mem _ bn);have:=h x List.mem_cons_self;simp only [List.map_cons,List.sum_cons];omega
theorem Xj {α:Type} {f kV:α->Nat} {c:Nat} {r:α}:∀{l:List α},(∀x ∈ l,kV x<=f x)->r ∈ l->kV r+c<=f r->(l.map kV).sum+c<=(l.map f).sum
 | [],_,h,_=>by cases h
 | x::l,h,aF,aD=>by
   simp only [List.map_cons,List.sum_cons];rcases List.mem_cons.1 aF with rfl | aF
   . have:=M_ (l:=l) fun z bn=>h z (List.mem_cons_of_mem _ bn);omega
   . have:=Xj (l:=l) (fun z bn=>h z (List.mem_cons_of_mem _ bn)) aF aD;have:=h x List.mem_cons_self;omega
theorem Hh {r s:Nat} (aF:ρ r=r) (aR:ρ s=s) (cl:r≠s) (qp:r<g.N):kx g (eg ρ r s) + (1+sX g r)<=kx g ρ:=by
 refine Xj (fun x ak=>?_) (List.mem_range.2 qp) ?_
 . unfold Hi;by_cases q:eg ρ r s x=x
   . rw [if_pos q];have:ρ x=x:=by
      unfold eg at q
      split at q
      . subst q;exact aR
      . exact q
     rw [if_pos this];exact Nat.le_refl _
   . rw [if_neg q];exact Nat.zero_le _
 . unfold Hi;have:¬eg ρ r s r=r:=by
    unfold eg;rw [if_pos aF];exact fun e=>cl e.symm
   rw [if_neg this,if_pos aF];omega
def mi (g:bp):Nat:=(g.nodes.map fun aN=>aN.kids.length).sum
theorem Xl {l:List dx} {f:Nat->Nat} (h:∀i aN,l[i]? =some aN->f i=aN.kids.length):∀n,n<=l.length->((List.range n).map f).sum=((l.take n).map fun aN=>aN.kids.length).sum
 | 0,_=>by simp
 | n+1,aV=>by have e:=List.getElem?_eq_getElem (l:=l) (i:=n) (by omega);rw [List.range_succ,List.map_append,List.sum_append,Xl h n (by omega),List.take_succ_eq_append_getElem (by omega),List.map_append,List.sum_append];simp [h n _ e]
theorem Xk:∀n:Nat,((List.range n).map fun _=>1).sum=n
 | 0=>rfl
 | n+1=>by rw [List.range_succ,List.map_append,List.sum_append,Xk n];rfl
theorem sum_add {α:Type} (f kV:α->Nat):∀l:List α,(l.map fun x=>f x+kV x).sum=(l.map f).sum + (l.map kV).sum
 | []=>rfl
 | x::l=>by simp only [List.map_cons,List.sum_cons,sum_add f kV l];omega
theorem aoQ:kx g ρ<=g.N+mi g:=by
 have aa:kx g ρ<=((List.range g.N).map fun r=>1+sX g r).sum:=M_ fun x _=>by unfold Hi;split<;>omega
 have ad:=Xl (l:=g.nodes) (f:=sX g) (fun i aN e=>by unfold sX;rw [e]) g.nodes.length (Nat.le_refl _);rw [List.take_length] at ad;rw [sum_add,Xk] at aa;unfold mi;rw [<-ad];exact aa
def vu (eR w ρ:Nat->Nat):Prop:=∀a,(w a=a/\ρ a=a)\/(w a≠a/\eR (w a)<eR a/\ρ (w a)=ρ a)
def Way (w ρ:Nat->Nat):Prop:=∃eR:Nat->Nat,vu eR w ρ
theorem Way.root {w:Nat->Nat} (S:eU g ρ) (H:Way w ρ) {a:Nat} (h:ρ a=a):w a=a:=by
 obtain ⟨eR,H⟩:=H;rcases H a with aa | ⟨aa,ad,aJ⟩
 . exact aa.1
 . -- the way leads back to a itself
   exfalso;have key:∀n b,eR b<=n->ρ b=a->eR a<=eR b:=by
    intro n
    induction n with
    | zero=>
      intro b ae e;rcases H b with q | ⟨ar,av,aK⟩
      . rw [q.2] at e;rw [e];exact Nat.le_refl _
      . omega
    | succ n br=>
      intro b ae e;rcases H b with q | ⟨ar,av,aK⟩
      . rw [q.2] at e;rw [e];exact Nat.le_refl _
      . have:=br (w b) (by omega) (by rw [aK,e]);omega
   have:=key (eR (w a)) (w a) (Nat.le_refl _) (by rw [aJ,h]);omega
theorem Way.end {w:Nat->Nat} (H:Way w ρ) {a:Nat} (h:w a=a):ρ a=a:=by
 obtain ⟨eR,H⟩:=H;rcases H a with aa | ⟨aa,_⟩
 . exact aa.2
 . exact (aa h).elim
theorem Way.step {w:Nat->Nat} (H:Way w ρ) (a:Nat):ρ (w a)=ρ a:=by
 obtain ⟨eR,H⟩:=H;rcases H a with aa | ⟨_,_,aa⟩
 . rw [aa.1]
 . exact aa
theorem Way.refl:Way (fun a=>a) (fun a=>a):=⟨fun _=>0,fun a=>.inl ⟨rfl,rfl⟩⟩
theorem Way.one {w:Nat->Nat} {r s:Nat} (S:eU g ρ) (H:Way w ρ) (aF:ρ r=r) (aR:ρ s=s) (cl:r≠s):Way (fun a=>if a=r then s else w a) (eg ρ r s):=by
 have wr:=H.root S aF;have ws:=H.root S aR;obtain ⟨eR,H⟩:=H;refine ⟨fun a=>eR a + (if ρ a=r then eR s+1 else 0),fun a=>?_⟩;have bm:¬ρ s=r:=by rw [aR];exact fun e=>cl e.symm
 by_cases q:a=r
 . subst q;refine .inr ⟨by simp only [if_true];exact fun e=>cl e.symm,?_,?_⟩
   . simp only [if_true,aF,if_neg bm];omega
   . simp only [if_true];unfold eg;rw [if_neg bm,if_pos aF,aR]
 . simp only [if_neg q];rcases H a with ⟨aa,ad⟩ | ⟨aa,ad,aJ⟩
   . refine .inl ⟨aa,?_⟩;unfold eg;rw [if_neg (by rw [ad];exact q),ad]
   . refine .inr ⟨aa,?_,Nu aJ⟩;rw [aJ];omega
theorem vu.low {eR w:Nat->Nat} (H:vu eR w ρ):∀(n b:Nat),eR b<=n->eR (ρ b)<=eR b
 | 0,b,ae=>by
   rcases H b with q | ⟨ar,av,aK⟩
   . rw [q.2];exact Nat.le_refl _
   . omega
 | n+1,b,ae=>by
   rcases H b with q | ⟨ar,av,aK⟩
   . rw [q.2];exact Nat.le_refl _
   . have:=H.low n (w b) (by omega);rw [aK] at this;omega
theorem vu.short {eR w:Nat->Nat} {a:Nat} (S:eU g ρ) (H:vu eR w ρ) (a1:w a≠a):vu eR (fun x=>if x=a then ρ a else w x) ρ:=by
 have cl:ρ a≠a:=fun e=>a1 (Way.root S ⟨eR,H⟩ e);intro x;by_cases q:x=a
 . subst q;simp only [if_true];rcases H x with h | ⟨aa,ad,aJ⟩
   . exact (a1 h.1).elim
   . refine .inr ⟨cl,?_,S.idem x⟩;have:=H.low (eR (w x)) (w x) (Nat.le_refl _);rw [aJ] at this;omega
 . simp only [if_neg q];exact H x
theorem Way.lt {w:Nat->Nat} (S:eU g ρ) (H:Way w ρ) {a:Nat} (a1:a<g.N):w a<g.N:=by
 have aa:=H.step a;have ad:=S.lt a a1;by_cases q:w a<g.N
 . exact q
 . have:=S.out (w a) (by omega);omega
end
theorem an3 (g:bp) (n:Int):mi (g.var n).1=mi g:=by
 unfold bp.var;cases ff n g.vars with
 | some i=>rfl
 | none=>simp [mi]
theorem an2 (g:bp) (s:List UInt8) (aI:List Nat):mi (g.put s aI)=mi g+aI.length:=by simp [mi,bp.put]
mutual
theorem No:∀(t:aL) (g:bp),mi (t.add g).1+1<=mi g+t.size
 | .mk k n s l,g=>by
   rw [aL.add,aL.size];by_cases c:k=1
   . rw [if_pos c,an3];omega
   . rw [if_neg c];have:=Xt l g;have:=D0 l g;simp only [an2];omega
theorem Xt:∀(l:List aL) (g:bp),mi (cg l g).1+l.length<=mi g+ca l
 | [],g=>by simp [cg,ca]
 | t::l,g=>by rw [cg,ca];have:=No t g;have:=Xt l (t.add g).1;simp only [List.length_cons];omega
end
end
section
open Go a7
inductive dO (g:bp) (R:Nat->Nat->Prop):Nat->aL->Prop
 | var {a b:Nat} {aN:dx} (h:R a b) (ae:g.nodes[b]? =some aN) (aD:aN.cj=false) (qq:∀(x:Nat) (f_:dx),R a x->g.nodes[x]? =some f_->f_.cj=false) (bB:∀(x:Nat) (f_:dx),R a x->g.nodes[x]? =some f_->aN.n<=f_.n):dO g R a (.mk 1 aN.n [] [])
 | cj {a b:Nat} {aN:dx} {l:List aL} (h:R a b) (ae:g.nodes[b]? =some aN) (aD:aN.cj=true) (ay:l.length=aN.kids.length) (aH:∀(i x:Nat) (t:aL),aN.kids[i]? =some x->l[i]? =some t->dO g R x t):dO g R a (.mk 2 0 aN.s l)
structure Part (g:bp) (R:Nat->Nat->Prop):Prop where
 refl:∀a,R a a
 symm:∀{a b},R a b->R b a
 trans:∀{a b c},R a b->R b c->R a c
 closed:∀(a b:Nat) (aN cm:dx),R a b->g.nodes[a]? =some aN->g.nodes[b]? =some cm->aN.cj=true->cm.cj=true->
  aN.s=cm.s/\aN.kids.length=cm.kids.length/\∀(i x y:Nat),aN.kids[i]? =some x->cm.kids[i]? =some y->R x y
section
variable {g:bp} {R:Nat->Nat->Prop}
theorem dO.mg (P:Part g R) {a b:Nat} {t:aL} (h:dO g R a t) (e:R a b):dO g R b t:=by
 cases h with
 | var h ae aD qq bB=>exact .var (P.trans (P.symm e) h) ae aD (fun x f_ q=>qq x f_ (P.trans e q)) (fun x f_ q=>bB x f_ (P.trans e q))
 | cj h ae aD ay aH=>exact .cj (P.trans (P.symm e) h) ae aD ay aH
theorem dO.uniq (P:Part g R) {a:Nat} {t:aL} (h:dO g R a t):∀{b u},R a b->dO g R b u->t=u:=by
 induction h with
 | var h ae aD qq bB=>
   intro b u e k;cases k with
   | var ab fc kh Gg LC=>
     have aa:=bB _ _ (P.trans e ab) fc;have ad:=LC _ _ (P.trans (P.symm e) h) ae;rw [Int.le_antisymm aa ad]
   | cj ab fc kh eP gZ=>
     have:=qq _ _ (P.trans e ab) fc;rw [kh] at this;cases this
 | cj h ae aD ay aH br=>
   intro b u e k;cases k with
   | var ab fc kh Gg LC=>
     have:=Gg _ _ (P.trans (P.symm e) h) ae;rw [aD] at this;cases this
   | cj ab fc kh eP gZ=>
     obtain ⟨ar,av,aK⟩:=P.closed _ _ _ _ (P.trans (P.symm h) (P.trans e ab)) ae fc aD kh;congr 1;refine List.ext_getElem (by omega) fun i aa ad=>?_;have bA:=List.getElem?_eq_getElem (l:=(_:dx).kids) (i:=i) (show i<_ by rw [<-ay];exact aa);have bx:=List.getElem?_eq_getElem (l:=(_:dx).kids) (i:=i) (show i<_ by rw [<-eP];exact ad);exact br i _ _ bA (List.getElem?_eq_getElem aa) (aK i _ _ bA bx) (gZ i _ _ bx (List.getElem?_eq_getElem ad))
theorem dO.all (P:Part g R) (W:g.ee) (bh:∀(i:Nat) (aN:dx),g.nodes[i]? =some aN->aN.cj=false->∃t,dO g R i t):∀(n i:Nat),i<n->i<g.N->∃t,dO g R i t
 | 0,i,h,_=>by omega
 | n+1,i,h,an=>by
   have e:=List.getElem?_eq_getElem (l:=g.nodes) (i:=i) an;cases c:g.nodes[i].cj with
   | false=>exact bh i _ e c
   | true=>
     have key:∀j:Fin g.nodes[i].kids.length,∃t,dO g R g.nodes[i].kids[j.1] t:=fun j=>by have:=W.c6 i _ e g.nodes[i].kids[j.1] (List.getElem_mem j.2);exact dO.all P W bh n _ (by omega) (by omega)
     obtain ⟨f,aA⟩:=Classical.axiomOfChoice key;refine ⟨_,.cj (l:=List.ofFn f) (P.refl i) e c (by simp) fun j x t ak aw=>?_⟩;obtain ⟨aU,rfl⟩:=List.getElem?_eq_some_iff.1 ak;rw [List.getElem?_ofFn] at aw;rw [dif_pos aU] at aw;cases aw;exact aA ⟨j,aU⟩
inductive Reach (g:bp) (R:Nat->Nat->Prop):Nat->Nat->Prop
 | c6 {a b x y i:Nat} {aN:dx} (h:R a b) (ae:g.nodes[b]? =some aN) (aD:aN.cj=true) (ak:aN.kids[i]? =some x) (k:R x y):Reach g R a y
 | trans {a b c:Nat} (h:Reach g R a b) (k:Reach g R b c):Reach g R a c
theorem Reach.mg (P:Part g R) {a b c:Nat} (h:Reach g R a b) (e:R b c):Reach g R a c:=by
 induction h with
 | c6 h ae aD ak k=>exact .c6 h ae aD ak (P.trans k e)
 | trans h _ _ i2=>exact .trans h (i2 e)
theorem Reach.less (P:Part g R) {a b:Nat} (h:Reach g R a b):∀{t},dO g R a t->∃u,dO g R b u/\u.size<t.size:=by
 induction h with
 | c6 h ae aD ak k=>
   intro t aw;cases aw with
   | var ab fc kh Gg LC=>
     have:=Gg _ _ h ae;rw [aD] at this;cases this
   | cj ab fc kh eP gZ=>
     rename_i i aN bL cm l;obtain ⟨ar,av,aK⟩:=P.closed _ _ _ _ (P.trans (P.symm h) ab) ae fc aD kh;have an:=(List.getElem?_eq_some_iff.1 ak).1;have bA:=List.getElem?_eq_getElem (l:=cm.kids) (i:=i) (by omega);have iz:l.length=cm.kids.length:=eP;have bx:=List.getElem?_eq_getElem (l:=l) (i:=i) (by omega);refine ⟨_,((gZ i _ _ bA bx).mg P (P.trans (P.symm (aK i _ _ ak bA)) k)),?_⟩;exact py (t:=.mk 2 0 cm.s l) (List.getElem_mem (l:=l) (by omega))
 | trans h _ i1 i2=>
   intro t aw;obtain ⟨u,aa,ad⟩:=i1 aw;obtain ⟨v,aJ,bE⟩:=i2 aa;exact ⟨v,aJ,by omega⟩
theorem Reach.ring (P:Part g R) {a:Nat} (h:Reach g R a a):¬∃t,dO g R a t:=by rintro ⟨t,aw⟩;obtain ⟨u,aa,ad⟩:=h.less P aw;have:=aw.uniq P (P.refl a) aa;subst this;omega
end
theorem eA.part {g:bp} {E:List (Nat × Nat)} {ρ:Nat->Nat} (J:eA g E ρ []):Part g (cB g E):=by refine ⟨.refl,.symm,.trans,fun a b aN cm h a1 ae jO jP=>?_⟩;obtain ⟨ar,av,aK⟩:=J.closed a b aN cm (J.done.1 h) a1 ae jO jP;exact ⟨ar,av,fun i x y ak aZ=>J.done.2 (aK i x y ak aZ).nil⟩
open Classical in
def rR (g:bp) (E:List (Nat × Nat)) (i:Nat):aL:=if h:∃t,dO g (cB g E) i t then h.choose else ao7
theorem Nj {g:bp} {E:List (Nat × Nat)} (P:Part g (cB g E)) {i:Nat} {t:aL} (h:dO g (cB g E) i t):rR g E i=t:=by unfold rR;rw [dif_pos ⟨t,h⟩];exact (Exists.choose_spec (⟨t,h⟩:∃t,dO g (cB g E) i t)).uniq P (P.refl i) h
def gk (g:bp) (E:List (Nat × Nat)) (p:Int × Nat):Option (Int × aL):=
 open Classical in if rR g E p.2=.mk 1 p.1 [] [] then none else some (p.1,rR g E p.2)
def keyed (g:bp):List (Int × Nat):=(e6 (g.vars.map Prod.fst)).map fun n=>(n,(ff n g.vars).getD 0)
open Classical in
def jD (g:bp) (E:List (Nat × Nat)):hS × Int:=
 if mU g E then ([],290) else if ∃i,i<g.N/\¬∃t,dO g (cB g E) i t then ([],291)
 else if ∃p ∈ (keyed g).filterMap (gk g E),¬(p.2.size<=4096/\p.2.deep<=200) then ([],3) else ((keyed g).filterMap (gk g E),0)
def qD (a b:List aL):hS × Int:=
 if a.length=b.length/\(∀t ∈ a,t.check=0)/\(∀t ∈ b,t.check=0) then jD (ja (a.zip b) (⟨[],[]⟩,[])).1 (ja (a.zip b) (⟨[],[]⟩,[])).2 else ([],2)
end
section
open Go a7
abbrev z4:List V:=[.int .i64 0,.int .i64 0,.str [],.bF]
abbrev gG (t:aL) (dw:V):List V:=[.int .i64 t.k,.int .i64 t.n,.str t.s,dw]
def Gy (s:List UInt8):Bool:=match oE s with
 | .ok [w]=>decide (w.kind=3)&&decide (w.text=s)
 | _=>false
theorem alq (s:List UInt8):Gy s=j5 3 s:=by
 rw [Bool.eq_iff_iff];refine ⟨fun h=>?_,fun h=>?_⟩
 . unfold Gy at h
   split at h
   . rename_i w hw;simp only [Bool.and_eq_true,decide_eq_true_eq] at h;have aV:j5 w.kind w.text=true:=by
      unfold oE at hw
      split at hw
      . cases hw
      . split at hw
        . cases hw
        . exact F4 _ _ _ _ hw w (by simp) (.inl h.1)
     rw [h.1,h.2] at aV;exact aV
   . cases h
 . have aF:=ams (.inl rfl) h;simp only [show ((3:Int)=5)=False from by simp,if_false] at aF;unfold Gy;rw [aF];simp
theorem akA (z:List UInt8) (h:ai):db Tryz.prog 88 [.str z] h fun x ab=>x=.bool (j5 3 z)/\Ext h ab:=by
 rw [<-alq];refine abB.z rfl (dB ?_);unfold QY;simp +contextual only [↓al,aE,simprocAttr];refine cz (aj2 z h) ?_;rintro x aa ⟨aP,ak⟩;unfold Gy;cases eO:oE z with
 | error e=>
   rw [eO] at ak;simp only at ak;subst ak;obtain ⟨ad,av,a',gq⟩:=o1 aa [.int .i64 0,.int .i64 0] [.int .i64 e.1,.int .i64 e.2];by_cases he:e.1=0
   . simp +contextual only [av,gq.g,eq_true he,show lA .bF=some (.int .i64 0) from rfl,show ((0:Int)=1)=False from by simp,decide_false,↓al,aE,simprocAttr];exact aP.trans a'
   . simp +contextual only [av,gq.g,eq_false he,decide_false,↓al,aE,simprocAttr];exact aP.trans a'
 | ok ws=>
   rw [eO] at ak;simp only at ak;obtain ⟨v,rfl,S⟩:=ak;obtain ⟨ad,av,a',gq⟩:=o1 aa [.int .i64 0,.int .i64 0] [.int .i64 0,.int .i64 0];have lg:=(S.ext a').v;have ay:=lg.len;have dq:=lg.one
   match ws,eO,lg,ay with
   | [],_,lg,ay=>
     have eP:lA v=some (.int .i64 0):=ay;simp +contextual only [av,gq.g,eP,dq.1,dq.2.1,show ((0:Int)=1)=False from by simp,decide_true,decide_false,↓al,aE,simprocAttr];exact aP.trans a'
   | [w],eO,lg,ay=>
     have eP:lA v=some (.int .i64 1):=ay;obtain ⟨cb,c7,ow,Pc⟩:=lg.ct (k:=.i64) (i:=0) (by simp);have TE:iT 4 v (.int .i64 0)=some (.ptr cb c7):=by simpa using ow
     have d0:hd (ad.get cb) c7=some (.int .i64 w.kind):=by have:=Pc.d_ (i:=0) (by simp [qE,cA.enc]);simpa [qE,cA.enc] using this
     have d3:hd (ad.get cb) (c7+3)=some (.str w.text):=by have:=Pc.d_ (i:=3) (by simp [qE,cA.enc]);simpa [qE,cA.enc] using this
     by_cases bP:w.kind=3
     . simp +contextual only [av,gq.g,eP,dq.1,dq.2.1,TE,d0,d3,eq_true bP,decide_true,decide_false,Bool.true_and,↓al,aE,simprocAttr];exact aP.trans a'
     . simp +contextual only [av,gq.g,eP,dq.1,dq.2.1,TE,d0,d3,eq_false bP,decide_true,decide_false,Bool.false_and,↓al,aE,simprocAttr];exact aP.trans a'
   | w::b0::ws,_,lg,ay=>
     have eP:(((ws.length+2:Nat):Int)=1)=False:=eq_false (by omega);have afs:lA v=some (.int .i64 ((ws.length+2:Nat):Int)):=ay;simp +contextual only [av,gq.g,afs,eP,dq.1,dq.2.1,decide_true,decide_false,↓al,aE,simprocAttr];exact aP.trans a'
theorem alC (t:aL) (ah:List V) (h:ai) (H:cW Any h t.enc ah):db Tryz.prog 57 [.agg ah] h fun x ab=>x=.bool t.own/\Ext h ab:=by
 obtain ⟨dw,rfl,L,ny⟩:=aL.open H;have ol:=L.one;have ay:=L.len;rw [List.length_map] at ay;refine abn.z rfl (dB ?_);unfold QB;obtain ⟨aa,ar,aP,da⟩:=ic h (gG t dw);have bW:Ii=[45,62]:=rfl;have a2:M5=[42]:=rfl;unfold aL.own;rw [bW,a2];by_cases bA:t.k=1
 . rw [if_pos bA];by_cases bP:0<=t.n
   . by_cases bY:t.n<=1048575
     . by_cases c3:t.s=[]
       . simp +contextual only [ol.1,ol.2.1,ar,da.g,ay,eq_true bA,eq_true bP,eq_true bY,eq_true c3,decide_true,decide_false,Bool.true_and,↓al,aE,simprocAttr];refine ⟨?_,aP⟩;simp
       . simp +contextual only [ol.1,ol.2.1,ar,da.g,ay,eq_true bA,eq_true bP,eq_true bY,eq_false c3,decide_true,decide_false,Bool.true_and,Bool.false_and,Bool.and_false,↓al,aE,simprocAttr];exact aP
     . simp +contextual only [ol.1,ol.2.1,ar,da.g,ay,eq_true bA,eq_true bP,eq_false bY,decide_true,decide_false,Bool.true_and,Bool.false_and,Bool.and_false,↓al,aE,simprocAttr];exact aP
   . simp +contextual only [ol.1,ol.2.1,ar,da.g,ay,eq_true bA,eq_false bP,decide_true,decide_false,Bool.true_and,Bool.false_and,Bool.and_false,↓al,aE,simprocAttr];exact aP
 . rw [if_neg bA];by_cases bx:t.k=2
   . rw [if_pos bx];have iz:((t.l.length:Int)=2)=(t.l.length=2):=by apply propext;omega
     have BB:((t.l.length:Int)<=64)=(t.l.length<=64):=by apply propext;omega
     by_cases c3:t.s=[45,62]
     . rw [if_pos (.inl c3)];by_cases eV:t.n=0
       . simp +contextual only [ol.1,ol.2.1,ar,da.g,ay,eq_false bA,eq_true bx,eq_true c3,eq_true eV,iz,decide_true,decide_false,Bool.true_and,Bool.false_and,↓al,aE,simprocAttr];exact aP
       . simp +contextual only [ol.1,ol.2.1,ar,da.g,ay,eq_false bA,eq_true bx,eq_true c3,eq_false eV,decide_true,decide_false,Bool.true_and,Bool.false_and,↓al,aE,simprocAttr];exact aP
     . by_cases jo:t.s=[42]
       . rw [if_pos (.inr jo)];by_cases eV:t.n=0
         . simp +contextual only [ol.1,ol.2.1,ar,da.g,ay,eq_false bA,eq_true bx,eq_false c3,eq_true jo,eq_true eV,iz,decide_true,decide_false,Bool.true_and,Bool.false_and,↓al,aE,simprocAttr];exact aP
         . simp +contextual only [ol.1,ol.2.1,ar,da.g,ay,eq_false bA,eq_true bx,eq_false c3,eq_true jo,eq_false eV,decide_true,decide_false,Bool.true_and,Bool.false_and,↓al,aE,simprocAttr];exact aP
       . rw [if_neg (fun q=>q.elim c3 jo)];by_cases eV:t.n=0
         . by_cases c5:t.l.length<=64
           . simp +contextual only [ol.1,ol.2.1,ar,da.g,ay,eq_false bA,eq_true bx,eq_false c3,eq_false jo,eq_true eV,BB,eq_true c5,decide_true,decide_false,Bool.true_and,Bool.false_and,↓al,aE,simprocAttr];refine cz (akA t.s aa) ?_;rintro x ad ⟨rfl,a'⟩;simp +contextual only [↓al,aE,simprocAttr];exact aP.trans a'
           . simp +contextual only [ol.1,ol.2.1,ar,da.g,ay,eq_false bA,eq_true bx,eq_false c3,eq_false jo,eq_true eV,BB,eq_false c5,decide_true,decide_false,Bool.true_and,Bool.false_and,↓al,aE,simprocAttr];exact aP
         . simp +contextual only [ol.1,ol.2.1,ar,da.g,ay,eq_false bA,eq_true bx,eq_false c3,eq_false jo,eq_false eV,decide_true,decide_false,Bool.true_and,Bool.false_and,↓al,aE,simprocAttr];exact aP
   . rw [if_neg bx];simp +contextual only [ol.1,ol.2.1,ar,da.g,ay,eq_false bA,eq_false bx,decide_true,decide_false,↓al,aE,simprocAttr];exact aP
theorem Wb:∀(N:Nat) (t:aL),t.size<=N->N<=1000000000->∀(ah:List V) (h:ai),cW Any h t.enc ah->db Tryz.prog 59 [.agg ah] h fun x ab=>x=.int .i64 (t.deep:Nat)/\Ext h ab
 | 0,t,aR,_,_,_,_=>by have:=pA t;omega
 | N+1,t,aR,Bn,ah,h,H=>by
   obtain ⟨dw,rfl,L,_⟩:=aL.open H;have bJ:N<=1000000000:=by omega
   have ol:=L.one;have ay:=L.len;have hle:=L.le;rw [List.length_map] at ay hle;have SB:=size_eq t;refine abp.z rfl (dB ?_);unfold QD;obtain ⟨aa,ar,aP,da⟩:=ic h (gG t dw);simp +contextual only [ol.1,ol.2.1,ar,↓al,aE,simprocAttr];refine eY (fun r g=>r 1=.ptr (aj h.next) 0/\∃i:Nat,r 3=.int .i64 (fm (t.l.take i):Nat)/\r 4=.int .i64 i/\i<=t.l.length/\Ext aa g) (fun r g=>t.l.length - (r 4).toN) ?_ ?_
   . exact ⟨by simp only [↓al,bs,simprocAttr],0,by simp only [↓al,bs,simprocAttr]<;>rfl,by simp only [↓al,bs,simprocAttr]<;>rfl,by omega,Ext.refl aa⟩
   rintro r g ⟨bw,i,cn,fo,an,E⟩;unfold QE;have A:=da.ext E;have AB:=L.ext (aP.trans E);have kB:=nK t.l i;have p6:=GH (t.l.take i);by_cases aO:i<t.l.length
   . have g0:((i:Int) < (t.l.length:Int))=True:=eq_true (by omega);obtain ⟨b,off,wl,ct,X,ky,ld⟩:=aL.c6 AB (k:=.i64) aO;have d1:=ld g (Ext.refl g);have dk:=jj aO (by unfold top at hle;omega);have bn:=py (t:=t) (List.getElem_mem aO);simp +contextual only [bw,cn,fo,A.g,ay,g0,ct,d1,↓al,aE,simprocAttr];refine cz (Wb N t.l[i] (by omega) bJ _ g X) ?_;rintro x g2 ⟨rfl,ek⟩;simp +contextual only [bw,cn,fo,Ge,dk,↓al,aE,simprocAttr];exact ⟨⟨i+1,by rw [VC aO],rfl,aO,E.trans ek⟩,by omega⟩
   . have g0:((i:Int) < (t.l.length:Int))=False:=eq_false (by omega);rw [List.take_of_length_le (by omega)] at cn;have b2:IntKind.i64.wrap ((fm t.l:Int)+1)=((fm t.l+1:Nat):Int):=by
      have:=GH t.l;rw [wrap_i64 (by omega) (by omega)];rfl
     simp +contextual only [bw,cn,fo,A.g,ay,g0,b2,↓al,aE,simprocAttr];exact ⟨by rw [Ja],aP.trans E⟩
theorem Wv:∀(N:Nat) (t:aL),t.size<=N->N<=1000000000->∀(ah:List V) (h:ai),cW Any h t.enc ah->db Tryz.prog 31 [.agg ah] h fun x ab=>x=.int .i64 (t.size:Nat)/\Ext h ab
 | 0,t,aR,_,_,_,_=>by have:=pA t;omega
 | N+1,t,aR,Bn,ah,h,H=>by
   obtain ⟨dw,rfl,L,_⟩:=aL.open H;have bJ:N<=1000000000:=by omega
   have ol:=L.one;have ay:=L.len;have hle:=L.le;rw [List.length_map] at ay hle;have SB:=size_eq t;refine aa7.z rfl (dB ?_);unfold Ql;obtain ⟨aa,ar,aP,da⟩:=ic h (gG t dw);simp +contextual only [ol.1,ol.2.1,ar,↓al,aE,simprocAttr];refine eY (fun r g=>r 1=.ptr (aj h.next) 0/\∃i:Nat,r 3=.int .i64 ((1+ca (t.l.take i):Nat):Int)/\r 4=.int .i64 i/\i<=t.l.length/\Ext aa g) (fun r g=>t.l.length - (r 4).toN) ?_ ?_
   . exact ⟨by simp only [↓al,bs,simprocAttr],0,by simp only [↓al,bs,simprocAttr]<;>rfl,by simp only [↓al,bs,simprocAttr]<;>rfl,by omega,Ext.refl aa⟩
   rintro r g ⟨bw,i,cn,fo,an,E⟩;unfold Qm;have A:=da.ext E;have AB:=L.ext (aP.trans E);have kB:=nK t.l i;by_cases aO:i<t.l.length
   . have g0:((i:Int) < (t.l.length:Int))=True:=eq_true (by omega);obtain ⟨b,off,wl,ct,X,ky,ld⟩:=aL.c6 AB (k:=.i64) aO;have d1:=ld g (Ext.refl g);have dk:=jj aO (by unfold top at hle;omega);have bn:=py (t:=t) (List.getElem_mem aO);have aw:=uO aO;have aqh:=nK t.l (i+1);simp +contextual only [bw,cn,fo,A.g,ay,g0,ct,d1,↓al,aE,simprocAttr];refine cz (Wv N t.l[i] (by omega) bJ _ g X) ?_;rintro x g2 ⟨rfl,ek⟩;have b2:IntKind.i64.wrap (((1+ca (t.l.take i):Nat):Int) + (t.l[i].size:Nat))=((1+ca (t.l.take (i+1)):Nat):Int):=by
      rw [wrap_i64 (by omega) (by omega),aw];omega
     simp +contextual only [bw,cn,fo,b2,dk,↓al,aE,simprocAttr];exact ⟨⟨i+1,rfl,rfl,aO,E.trans ek⟩,by omega⟩
   . have g0:((i:Int) < (t.l.length:Int))=False:=eq_false (by omega);rw [List.take_of_length_le (by omega)] at cn;simp +contextual only [bw,cn,fo,A.g,ay,g0,↓al,aE,simprocAttr];exact ⟨by rw [size_eq],aP.trans E⟩
theorem am4 {l:List aL} {i:Nat} (h:i<l.length):mR (l.drop i)=(l[i].shape&&mR (l.drop (i+1))):=by rw [List.drop_eq_getElem_cons h,mR]
theorem WK:∀(N:Nat) (t:aL),t.size<=N->N<=1000000000->∀(ah:List V) (h:ai),cW Any h t.enc ah->db Tryz.prog 58 [.agg ah] h fun x ab=>x=.bool t.shape/\Ext h ab
 | 0,t,aR,_,_,_,_=>by have:=pA t;omega
 | N+1,t,aR,Bn,ah,h,H=>by
   obtain ⟨dw,rfl,L,ny⟩:=aL.open H;have bJ:N<=1000000000:=by omega
   have ol:=L.one;have ay:=L.len;have hle:=L.le;rw [List.length_map] at ay hle;have SB:=size_eq t;refine abo.z rfl (dB ?_);unfold QC;obtain ⟨aa,ar,aP,da⟩:=ic h (gG t dw);have bW:Ii=[45,62]:=rfl;have a2:M5=[42]:=rfl;have kt:=L.ext aP;rw [am3];unfold aL.own;rw [bW,a2];by_cases bA:t.k=1
   . rw [if_pos bA];by_cases bP:0<=t.n
     . by_cases bY:t.n<=1048575
       . by_cases c3:t.s=[]
         . by_cases eV:t.l.length=0
           . have IK:((t.l.length:Int)=0)=True:=eq_true (by omega);have p9:=List.eq_nil_of_length_eq_zero eV;simp +contextual only [ol.1,ol.2.1,ar,da.g,ay,eq_true bA,eq_true bP,eq_true bY,eq_true c3,IK,decide_true,decide_false,Bool.true_and,↓al,aE,simprocAttr];refine ⟨?_,aP⟩;rw [decide_eq_true eV,p9,mR];rfl
           . have IK:((t.l.length:Int)=0)=False:=eq_false (by omega);simp +contextual only [ol.1,ol.2.1,ar,da.g,ay,eq_true bA,eq_true bP,eq_true bY,eq_true c3,IK,decide_true,decide_false,Bool.true_and,↓al,aE,simprocAttr];refine ⟨?_,aP⟩;rw [decide_eq_false eV];rfl
         . simp +contextual only [ol.1,ol.2.1,ar,da.g,ay,eq_true bA,eq_true bP,eq_true bY,eq_false c3,decide_true,decide_false,Bool.true_and,Bool.false_and,Bool.and_false,↓al,aE,simprocAttr];exact aP
       . simp +contextual only [ol.1,ol.2.1,ar,da.g,ay,eq_true bA,eq_true bP,eq_false bY,decide_true,decide_false,Bool.true_and,Bool.false_and,Bool.and_false,↓al,aE,simprocAttr];exact aP
     . simp +contextual only [ol.1,ol.2.1,ar,da.g,ay,eq_true bA,eq_false bP,decide_true,decide_false,Bool.true_and,Bool.false_and,Bool.and_false,↓al,aE,simprocAttr];exact aP
   . rw [if_neg bA];have kids:∀{g0:ai} (fp:Ext aa g0) {r:bd} (bw:r 1=.ptr (aj h.next) 0) (fo:r 4=.int .i64 0) {Q:dm->bd->ai->Prop} (cO:∀e r g,e.ends->r 2=.bool (mR t.l)->Ext h g->Q e r g),
      zq Tryz.prog IX [.aM 0,.c (.seq (aW.aq [⟨(some 2),.b1 (.c (.bool true)),none,[]⟩]) (aW.ret))] r g0 Q:=by
      intro g0 fp r bw fo Q cO;refine eY (fun r g=>r 1=.ptr (aj h.next) 0/\∃i:Nat,r 4=.int .i64 i/\i<=t.l.length/\mR t.l=mR (t.l.drop i)/\Ext aa g) (fun r g=>t.l.length - (r 4).toN) ?_ ?_
      . exact ⟨bw,0,fo,by omega,rfl,fp⟩
      clear bw fo;rintro r g ⟨bw,i,fo,an,rj,E⟩;unfold IX;have A:=da.ext E;by_cases aO:i<t.l.length
      . have JB:((i:Int) < (t.l.length:Int))=True:=eq_true (by omega);obtain ⟨b,off,wl,ct,X,ky,ld⟩:=aL.c6 (kt.ext E) (k:=.i64) aO;have d1:=ld g (Ext.refl g);have dk:=jj aO (by unfold top at hle;omega);have bn:=py (t:=t) (List.getElem_mem aO);have bc:=am4 aO;simp +contextual only [bw,fo,A.g,ay,JB,ct,d1,↓al,aE,simprocAttr];refine cz (WK N t.l[i] (by omega) bJ _ g X) ?_;rintro x g2 ⟨rfl,ek⟩;cases ae:t.l[i].shape with
        | true=>
          simp +contextual only [bw,fo,dk,↓al,aE,simprocAttr];exact ⟨⟨i+1,rfl,aO,by rw [rj,bc,ae,Bool.true_and],E.trans ek⟩,by omega⟩
        | false=>
          simp +contextual only [bw,fo,dk,↓al,aE,simprocAttr];exact cO _ _ _ (by trivial) (by rw [rj,bc,ae,Bool.false_and];simp only [↓al,bs,simprocAttr]) (aP.trans (E.trans ek))
      . have JB:((i:Int) < (t.l.length:Int))=False:=eq_false (by omega);rw [List.drop_eq_nil_of_le (by omega),mR] at rj;simp +contextual only [bw,fo,A.g,ay,JB,↓al,aE,simprocAttr];exact cO _ _ _ (by trivial) (by rw [rj];simp only [↓al,bs,simprocAttr]) (aP.trans E)
     by_cases bx:t.k=2
     . rw [if_pos bx];by_cases eV:t.n=0
       . have iz:((t.l.length:Int)=2)=(t.l.length=2):=by apply propext;omega
         have BB:(64 < (t.l.length:Int))=(64<t.l.length):=by apply propext;omega
         by_cases c3:t.s=[45,62]
         . rw [if_pos (.inl c3)];by_cases c5:t.l.length=2
           . simp +contextual only [ol.1,ol.2.1,ar,da.g,ay,eq_false bA,eq_true bx,eq_true c3,eq_true eV,iz,eq_true c5,decide_true,decide_false,Bool.true_and,Bool.false_and,Bool.and_false,Bool.not_true,Bool.not_false,↓al,aE,simprocAttr];exact kids (Ext.refl _) (by simp only [↓al,bs,simprocAttr]) (by simp only [↓al,bs,simprocAttr]) fun e r g he aF E=>⟨he,aF,E⟩
           . simp +contextual only [ol.1,ol.2.1,ar,da.g,ay,eq_false bA,eq_true bx,eq_true c3,eq_true eV,iz,eq_false c5,decide_true,decide_false,Bool.true_and,Bool.false_and,Bool.and_false,Bool.not_true,Bool.not_false,↓al,aE,simprocAttr];exact aP
         . by_cases jo:t.s=[42]
           . rw [if_pos (.inr jo)];by_cases c5:t.l.length=2
             . simp +contextual only [ol.1,ol.2.1,ar,da.g,ay,eq_false bA,eq_true bx,eq_false c3,eq_true jo,eq_true eV,iz,eq_true c5,decide_true,decide_false,Bool.true_and,Bool.false_and,Bool.and_false,Bool.not_true,Bool.not_false,↓al,aE,simprocAttr];exact kids (Ext.refl _) (by simp only [↓al,bs,simprocAttr]) (by simp only [↓al,bs,simprocAttr]) fun e r g he aF E=>⟨he,aF,E⟩
             . simp +contextual only [ol.1,ol.2.1,ar,da.g,ay,eq_false bA,eq_true bx,eq_false c3,eq_true jo,eq_true eV,iz,eq_false c5,decide_true,decide_false,Bool.true_and,Bool.false_and,Bool.and_false,Bool.not_true,Bool.not_false,↓al,aE,simprocAttr];exact aP
           . rw [if_neg (fun q=>q.elim c3 jo)];simp +contextual only [ol.1,ol.2.1,ar,da.g,ay,eq_false bA,eq_true bx,eq_false c3,eq_false jo,eq_true eV,decide_true,decide_false,Bool.true_and,Bool.false_and,Bool.and_false,Bool.not_true,Bool.not_false,↓al,aE,simprocAttr];refine cz (amu 3 t.s (by unfold top at ny;omega) (.inl rfl) aa) ?_;rintro x ad ⟨rfl,a'⟩;have gq:=da.ext a';cases mA:j5 3 t.s with
             | false=>
               simp +contextual only [↓al,aE,simprocAttr];exact aP.trans a'
             | true=>
               by_cases c5:t.l.length<=64
               . have IP:(64<t.l.length)=False:=eq_false (by omega);simp +contextual only [gq.g,ay,BB,IP,eq_true c5,decide_true,decide_false,Bool.true_and,↓al,aE,simprocAttr];exact kids a' (by simp only [↓al,bs,simprocAttr]) (by simp only [↓al,bs,simprocAttr]) fun e r g he aF E=>⟨he,aF,E⟩
               . have IP:(64<t.l.length)=True:=eq_true (by omega);simp +contextual only [gq.g,ay,BB,IP,eq_false c5,decide_true,decide_false,Bool.true_and,Bool.false_and,↓al,aE,simprocAttr];exact aP.trans a'
       . by_cases c3:t.s=[45,62]
         . rw [if_pos (.inl c3)];simp +contextual only [ol.1,ol.2.1,ar,da.g,ay,eq_false bA,eq_true bx,eq_true c3,eq_false eV,decide_true,decide_false,Bool.true_and,Bool.false_and,Bool.and_false,Bool.not_true,Bool.not_false,↓al,aE,simprocAttr];exact aP
         . by_cases jo:t.s=[42]
           . rw [if_pos (.inr jo)];simp +contextual only [ol.1,ol.2.1,ar,da.g,ay,eq_false bA,eq_true bx,eq_false c3,eq_true jo,eq_false eV,decide_true,decide_false,Bool.true_and,Bool.false_and,Bool.and_false,Bool.not_true,Bool.not_false,↓al,aE,simprocAttr];exact aP
           . rw [if_neg (fun q=>q.elim c3 jo)];simp +contextual only [ol.1,ol.2.1,ar,da.g,ay,eq_false bA,eq_true bx,eq_false c3,eq_false jo,eq_false eV,decide_true,decide_false,Bool.true_and,Bool.false_and,Bool.and_false,Bool.not_true,Bool.not_false,↓al,aE,simprocAttr];exact aP
     . rw [if_neg bx];by_cases c3:t.s=[45,62]
       . simp +contextual only [ol.1,ol.2.1,ar,da.g,ay,eq_false bA,eq_false bx,eq_true c3,decide_true,decide_false,Bool.true_and,Bool.false_and,Bool.and_false,Bool.not_true,Bool.not_false,↓al,aE,simprocAttr];exact aP
       . simp +contextual only [ol.1,ol.2.1,ar,da.g,ay,eq_false bA,eq_false bx,eq_false c3,decide_true,decide_false,Bool.true_and,Bool.false_and,Bool.and_false,Bool.not_true,Bool.not_false,↓al,aE,simprocAttr];exact aP
theorem Q6 (t:aL):t.check=if t.shape=true then (if t.size<=4096 then (if t.deep<=200 then 0 else 3) else 3) else 2:=by
 unfold aL.check
 split
 . by_cases a:t.size<=4096
   . by_cases b:t.deep<=200
     . rw [if_pos ⟨a,b⟩,if_pos a,if_pos b]
     . rw [if_neg (fun q=>b q.2),if_pos a,if_neg b]
   . rw [if_neg (fun q=>a q.1),if_neg a]
 . rfl
theorem Wa (t:aL) (aR:t.size<=1000000000) (ah:List V) (h:ai) (H:cW Any h t.enc ah):db Tryz.prog 20 [.agg ah] h fun x ab=>x=.int .i64 t.check/\Ext h ab:=by
 have vd:=H;obtain ⟨dw,rfl,L,ny⟩:=aL.open H;have ol:=L.one;refine aa4.z rfl (dB ?_);unfold Qh;obtain ⟨aa,ar,aP,da⟩:=ic h (gG t dw);rw [Q6];simp +contextual only [ol.1,ol.2.1,ar,da.g,↓al,aE,simprocAttr];refine cz (WK _ t (Nat.le_refl _) aR _ aa (vd.ext aP)) ?_;rintro x ad ⟨rfl,a'⟩;have gq:=da.ext a';have cp:=aP.trans a';cases c:t.shape with
 | false=>
   simp +contextual only [↓al,aE,simprocAttr];exact cp
 | true=>
 simp +contextual only [gq.g,↓al,aE,simprocAttr];refine cz (Wv _ t (Nat.le_refl _) aR _ ad (vd.ext cp)) ?_;rintro x aJ ⟨rfl,cM⟩;have pL:=gq.ext cM;have kc:=cp.trans cM;by_cases bY:t.size<=4096
 . have f2:((4096:Int) < (t.size:Int))=False:=eq_false (by omega);simp +contextual only [pL.g,f2,decide_true,decide_false,↓al,aE,simprocAttr];refine cz (Wb _ t (Nat.le_refl _) aR _ aJ (vd.ext kc)) ?_;rintro x bE ⟨rfl,fM⟩;have oS:=kc.trans fM;by_cases c3:t.deep<=200
   . have f3:((200:Int) < (t.deep:Int))=False:=eq_false (by omega);simp +contextual only [f3,decide_true,decide_false,↓al,aE,simprocAttr];exact ⟨by simp [bY,c3],oS⟩
   . have f3:((200:Int) < (t.deep:Int))=True:=eq_true (by omega);simp +contextual only [f3,decide_true,decide_false,↓al,aE,simprocAttr];exact ⟨by simp [bY,c3],oS⟩
 . have f2:((4096:Int) < (t.size:Int))=True:=eq_true (by omega);simp +contextual only [pL.g,f2,decide_true,decide_false,↓al,aE,simprocAttr];exact ⟨by simp [bY],kc⟩
theorem aL.T4 [Lay] {F:aQ->Prop} {h:ai} {l:List aL} {v:V} (H:cJ F h 4 (l.map aL.enc) v) {k:IntKind} {i:Nat} (an:i<l.length):
 ∃b off dw,iT 4 v (.int k i)=some (.ptr b (off+i * 4))/\cW F h l[i].enc [.int .i64 l[i].k,.int .i64 l[i].n,.str l[i].s,dw]/\cJ F h 4 (l[i].l.map aL.enc) dw/\
  (∀ab,Ext h ab->oA 4 (ab.get b) (off+i * 4)=some (.agg [.int .i64 l[i].k,.int .i64 l[i].n,.str l[i].s,dw]))/\
  (∀ab,Ext h ab->hd (ab.get b) (off+i * 4)=some (.int .i64 l[i].k))/\(∀ab,Ext h ab->hd (ab.get b) (off+i * 4+2)=some (.str l[i].s))/\(∀ab,Ext h ab->hd (ab.get b) (off+i * 4+3)=some dw):=by
 obtain ⟨b,off,u,aP,a',cM,fM,gf⟩:=H.at (k:=k) (i:=i) (by rw [List.length_map];exact an);rw [List.getElem_map] at a';obtain ⟨dw,rfl,L,_⟩:=aL.open a';exact ⟨b,off,dw,aP,a',L,fM,fun ab e=>by simpa using gf ab e 0 (by omega),fun ab e=>by simpa using gf ab e 2 (by omega),fun ab e=>by simpa using gf ab e 3 (by omega)⟩
theorem I7:∀(N:Nat) (l:List aL),ca l<N->N<=1000000000->∀(v:V) (h:ai),cJ Any h 4 (l.map aL.enc) v->db Tryz.prog 12 [v] h fun x ab=>cJ (vo h) ab 4 (l.map aL.enc) x/\Ext h ab
 | 0,l,aR,_,_,_,_=>by omega
 | N+1,l,aR,bJ,v,h,L=>by
   have ay:=L.len;have hle:=L.le;rw [List.length_map] at ay hle;refine aaG.z rfl (dB ?_);unfold PM;simp +contextual only [↓al,aE,simprocAttr];refine eY (fun r g=>r 0=v/\∃(i:Nat) (w:V),r 3=w/\r 4=.int .i64 i/\i<=l.length/\hR h.next (vo h) g 4 ((l.take i).map aL.enc) w/\Ext h g) (fun r g=>l.length - (r 4).toN) ?_ ?_
   . exact ⟨by simp only [↓al,bs,simprocAttr],0,.bF,by simp only [↓al,bs,simprocAttr],by simp only [↓al,bs,simprocAttr]<;>rfl,by omega,hR.nil _ _ _ _,Ext.refl h⟩
   rintro r g ⟨bq,i,w,cn,fo,an,W,E⟩;unfold PW;have BL:=pz l;by_cases aO:i<l.length
   . have g0:((i:Int) < (l.length:Int))=True:=eq_true (by omega);obtain ⟨b,off,wl,ct,X,ky,ld,uy,Ug,zl⟩:=aL.T4 (L.ext E) (k:=.i64) aO;have d0:=ld g (Ext.refl g);obtain ⟨g1,e7,bz,Z⟩:=o1 g [.int .i64 0,.int .i64 0,.str [],.bF] [.int .i64 l[i].k,.int .i64 l[i].n,.str l[i].s,wl];have d4:=zl g1 bz;have dk:=jj aO (by unfold top at hle;omega);have ol:=ky.one;simp +contextual only [bq,cn,fo,ay,g0,ct,d0,d4,e7,ol.1,ol.2.1,↓al,aE,simprocAttr];refine cz (I7 N l[i].l (by have:=Mo aO;omega) (by omega) wl g1 (ky.ext bz)) ?_;rintro y g2 ⟨Y,ek⟩;have ke:=Z.ext ek;have hs:=Y.one;have aqy:=Z.lt;have aoR:Ext g g2:=bz.trans ek;have mq:=ke.put [.int .i64 l[i].k,.int .i64 l[i].n,.str l[i].s,y];have H_:=Y.set (b:=aj g.next) (fun q=>by unfold vo at q;rw [cc] at q;omega) (.bC [.int .i64 l[i].k,.int .i64 l[i].n,.str l[i].s,y] 0 false);have X2:Ext g (g2.set (aj g.next) (.bC [.int .i64 l[i].k,.int .i64 l[i].n,.str l[i].s,y] 0 false)):=aoR.set (Nat.le_refl _) _;have hw:∀b,vo g1 b->vo h b/\¬w.aM b:=fun b q=>by
      have:=E.next
      unfold vo at q ⊢;refine ⟨by omega,fun z=>?_⟩;have:=W.ak7 z;unfold Old at this;omega
     have ak:cW (fun b=>vo h b/\¬w.aM b) (g2.set (aj g.next) (.bC [.int .i64 l[i].k,.int .i64 l[i].n,.str l[i].s,y] 0 false)) l[i].enc [.int .i64 l[i].k,.int .i64 l[i].n,.str l[i].s,y]:=by
      rw [CP];have ny:l[i].s.length<=top:=by obtain ⟨_,_,_,q⟩:=aL.open X;exact q
      exact .i (.i (.s ny ((H_.jG hw).cons .nil)))
     have Zb:=W.ext X2;have kc:=E.trans X2;simp +contextual only [bq,cn,fo,ke.g,hs.1,hs.2.1,↓al,aE,simprocAttr];have n3:(g2.set (aj g.next) (.bC [.int .i64 l[i].k,.int .i64 l[i].n,.str l[i].s,y] 0 false)).next=g2.next:=lC ..
     generalize g2.set (aj g.next) (.bC [.int .i64 l[i].k,.int .i64 l[i].n,.str l[i].s,y] 0 false)=g3 at *;obtain ⟨ao,g4,ar,av,aK,bU,dV⟩:=Zb.add ak (by omega) kc.next (by rw [List.length_map,List.length_take];unfold top;omega) rfl
     rw [n3] at ar;simp +contextual only [bq,cn,fo,mq.g,hs.1,hs.2.1,ar,dk,↓al,aE,simprocAttr];refine ⟨⟨i+1,rfl,aO,?_,kc.hJ aK fun b ae=>W.base ae⟩,by omega⟩;rw [take_one aO,List.map_append];exact av
   . have g0:((i:Int) < (l.length:Int))=False:=eq_false (by omega);rw [List.take_of_length_le (by omega)] at W;simp +contextual only [bq,cn,fo,ay,g0,↓al,aE,simprocAttr];exact ⟨W.fU (by rw [List.length_map];exact hle) (fun _ q=>q) fun _ q=>q,E⟩
theorem MU:∀(N:Nat),(∀(t:aL),2 * t.size<N->∀(ah ws:List V) (h:ai),cW Any h t.enc ah->cW Any h t.enc ws->db Tryz.prog 25 [.agg ah,.agg ws] h fun x ab=>x=.bool true/\Ext h ab)/\
 (∀(l:List aL),2 * ca l+1<N->∀(v w:V) (h:ai),cJ Any h 4 (l.map aL.enc) v->cJ Any h 4 (l.map aL.enc) w->db Tryz.prog 17 [v,w] h fun x ab=>x=.bool true/\Ext h ab)
 | 0=>⟨fun t q=>by omega,fun l q=>by omega⟩
 | N+1=>by
   obtain ⟨Lc,Ld⟩:=MU N;refine ⟨fun t aR ah ws h H cu=>?_,fun l aR v w h L hA=>?_⟩
   . obtain ⟨dw,rfl,L,_⟩:=aL.open H;obtain ⟨wl,rfl,hA,_⟩:=aL.open cu;have cr:=size_eq t;have ol:=L.one;have k5:=hA.one;refine aa5.z rfl (dB ?_);unfold Qi;obtain ⟨aa,ar,aP,da⟩:=ic h [.int .i64 t.k,.int .i64 t.n,.str t.s,dw];obtain ⟨ad,av,a',gq⟩:=ic aa [.int .i64 t.k,.int .i64 t.n,.str t.s,wl];have X8:=da.ext a';simp +contextual only [ol.1,ol.2.1,k5.1,k5.2.1,ar,av,X8.g,gq.g,decide_true,↓al,aE,simprocAttr];refine cz (Ld t.l (by omega) dw wl ad (L.ext (aP.trans a')) (hA.ext (aP.trans a'))) ?_;rintro x aJ ⟨rfl,cM⟩;simp +contextual only [↓al,aE,simprocAttr];exact (aP.trans a').trans cM
   . have ay:=L.len;have iz:=hA.len;have hle:=L.le;rw [List.length_map] at ay hle iz;refine aaZ.z rfl (dB ?_);unfold tI;simp +contextual only [ay,iz,↓al,aE,simprocAttr];refine eY (fun r g=>r 0=v/\r 1=w/\∃i:Nat,r 5=.int .i64 i/\i<=l.length/\Ext h g) (fun r g=>l.length - (r 5).toN) ?_ ?_
     . exact ⟨by simp only [↓al,bs,simprocAttr],by simp only [↓al,bs,simprocAttr],0,by simp only [↓al,bs,simprocAttr]<;>rfl,by omega,Ext.refl h⟩
     rintro r g ⟨bq,bw,i,dv,an,E⟩;unfold Qg;by_cases aO:i<l.length
     . have g0:((i:Int) < (l.length:Int))=True:=eq_true (by omega);obtain ⟨b,off,ul,ct,X,ky,ld⟩:=aL.c6 (L.ext E) (k:=.i64) aO;obtain ⟨b9,Vc,aq8,qg,lN,apn,uz⟩:=aL.c6 (hA.ext E) (k:=.i64) aO;have d1:=ld g (Ext.refl g);have d2:=uz g (Ext.refl g);have dk:=jj aO (by unfold top at hle;omega);have cr:=xk (List.getElem_mem aO);simp +contextual only [bq,bw,dv,ay,g0,ct,qg,d1,d2,↓al,aE,simprocAttr];refine cz (Lc l[i] (by omega) _ _ g X lN) ?_;rintro x g2 ⟨rfl,a'⟩;have d3:=ld g2 a';have d4:=uz g2 a';simp +contextual only [bq,bw,dv,dk,d1,d2,d3,d4,↓al,aE,simprocAttr];exact ⟨⟨i+1,rfl,aO,E.trans a'⟩,by omega⟩
     . have g0:((i:Int) < (l.length:Int))=False:=eq_false (by omega);simp +contextual only [bq,bw,dv,ay,g0,↓al,aE,simprocAttr];exact E
theorem WD (l:List aL) (v w:V) (h:ai) (L:cJ Any h 4 (l.map aL.enc) v) (hA:cJ Any h 4 (l.map aL.enc) w):db Tryz.prog 17 [v,w] h fun x ab=>x=.bool true/\Ext h ab:=(MU _).2 l (Nat.lt_succ_self _) v w h L hA
theorem amZ (t:aL) (ah ws:List V) (h:ai) (H:cW Any h t.enc ah) (cu:cW Any h t.enc ws):db Tryz.prog 25 [.agg ah,.agg ws] h fun x ab=>x=.bool true/\Ext h ab:=(MU _).1 t (Nat.lt_succ_self _) ah ws h H cu
abbrev z5:List V:=[.int .i64 0,.int .i64 0,.str [],.bF]
end
end Go.Proofs.YthemdhlheglhoaaGreatDoor
