/- The chapter's functions, walked by the abstract machine: plain lemmas, no condition. Printed by a program from longer texts: names made short. -/
import Derived.Test.YthemdhlheglhoaaGreatDoorM5
set_option linter.unusedSectionVars false
set_option linter.unusedSimpArgs false
set_option linter.unusedVariables false
set_option maxHeartbeats 64000000
noncomputable section
namespace Go.Proofs.YthemdhlheglhoaaGreatDoor
section
open Go aY
inductive an where
 | mk (k n:Int) (s:List UInt8) (l:List an)
namespace an
def k:an->Int | mk k _ _ _=>k
def n:an->Int | mk _ n _ _=>n
def s:an->List UInt8 | mk _ _ s _=>s
def l:an->List an | mk _ _ _ l=>l
end an
mutual
def an.size:an->Nat
 | .mk _ _ _ l=>1+cN l
def cN:List an->Nat
 | []=>0
 | t::l=>t.size+cN l
end
theorem uE {t:an}:∀{l:List an},t ∈ l->t.size<=cN l
 | [],h=>by cases h
 | u::l,h=>by
   simp only [cN];rcases List.mem_cons.1 h with rfl | h
   . omega
   . have:=uE h;omega
theorem w4 {t u:an} (h:u ∈ t.l):u.size<t.size:=by
 cases t with
 | mk k n s l=>have:=uE h;simp only [an.size];simp only [an.l] at this;omega
theorem sQ:∀l:List an,l.length<=cN l
 | []=>Nat.le_refl _
 | t::l=>by have:=sQ l;have:1<=t.size:=by (cases t;simp only [an.size];omega)
            simp only [cN,List.length_cons];omega
theorem rm (t:an):1<=t.size:=by cases t;simp only [an.size];omega
mutual
def an.enc:an->List D
 | .mk k n s l=>[.i .i64 k,.i .i64 n,.s s,.l 4 (Gs l)]
def Gs:List an->List (List D)
 | []=>[]
 | t::l=>t.enc::Gs l
end
theorem Vl:∀l:List an,Gs l=l.map an.enc
 | []=>rfl
 | t::l=>by rw [Gs,Vl l,List.map_cons]
theorem zC (t:an):t.enc=[.i .i64 t.k,.i .i64 t.n,.s t.s,.l 4 (t.l.map an.enc)]:=by
 cases t with
 | mk k n s l=>simp only [an.enc,Vl,an.k,an.n,an.s,an.l]
mutual
def an.pre:an->List an
 | .mk k n s l=>.mk k n s l::uD l
def uD:List an->List an
 | []=>[]
 | t::l=>t.pre++uD l
end
mutual
theorem Vu:∀t:an,t.pre.length=t.size
 | .mk k n s l=>by rw [an.pre,an.size,List.length_cons,Mt l,Nat.add_comm]
theorem Mt:∀l:List an,(uD l).length=cN l
 | []=>rfl
 | t::l=>by rw [uD,cN,List.length_append,Vu t,Mt l]
end
mutual
def an.deep:an->Nat
 | .mk _ _ _ l=>hY l+1
def hY:List an->Nat
 | []=>0
 | t::l=>max t.deep (hY l)
end
section
variable {F:aO->Prop} {h:ah} [Lay]
theorem an.open {t:an} {ag:List V} (H:b5 F h t.enc ag):∃cr,ag=[.int .i64 t.k,.int .i64 t.n,.str t.s,cr]/\dj F h 4 (t.l.map an.enc) cr/\t.s.length<=top:=by rw [zC] at H;obtain ⟨_,rfl,H1⟩:=H.int;obtain ⟨_,rfl,cy⟩:=H1.int;obtain ⟨_,rfl,aM,xK⟩:=cy.str;obtain ⟨cr,_,rfl,L,ig⟩:=xK.fo;obtain rfl:=ig.no;exact ⟨cr,rfl,L,aM⟩
theorem an.dO {l:List an} {v:V} (H:dj F h 4 (l.map an.enc) v) {k:IntKind} {i:Nat} (aq:i<l.length):
 ∃b off cr,lH 4 v (.int k i)=some (.ptr b (off+i * 4))/\b5 F h l[i].enc [.int .i64 l[i].k,.int .i64 l[i].n,.str l[i].s,cr]/\dj F h 4 (l[i].l.map an.enc) cr/\
  ∀ab,Ext h ab->n1 4 (ab.get b) (off+i * 4)=some (.agg [.int .i64 l[i].k,.int .i64 l[i].n,.str l[i].s,cr]):=by
 obtain ⟨b,off,u,aN,aZ,bJ,dR,_⟩:=H.at (k:=k) (i:=i) (by rw [List.length_map];exact aq);rw [List.getElem_map] at aZ;obtain ⟨cr,rfl,L,_⟩:=an.open aZ;exact ⟨b,off,cr,aN,aZ,L,dR⟩
end
end
end Go.Proofs.YthemdhlheglhoaaGreatDoor
