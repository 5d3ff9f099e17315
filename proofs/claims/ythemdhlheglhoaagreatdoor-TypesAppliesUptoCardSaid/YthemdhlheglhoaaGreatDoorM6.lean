/- The chapter's functions, walked by the abstract machine: plain lemmas, no condition. Printed by a program from longer texts: names made short. -/
import Derived.Test.YthemdhlheglhoaaGreatDoorM5
set_option linter.unusedSectionVars false
set_option linter.unusedSimpArgs false
set_option linter.unusedVariables false
namespace Go.Proofs.YthemdhlheglhoaaGreatDoor
open Go a6
inductive aL where
 | mk (k n:Int) (s:List UInt8) (l:List aL)
namespace aL
def k:aL→Int | mk k _ _ _=>k
def n:aL→Int | mk _ n _ _=>n
def s:aL→List UInt8 | mk _ _ s _=>s
def l:aL→List aL | mk _ _ _ l=>l
end aL
mutual
def aL.size:aL→Nat
 | .mk _ _ _ l=>1+c2 l
def c2:List aL→Nat
 | []=>0
 | t::l=>t.size+c2 l
end
theorem AI {t:aL}:∀{l:List aL},t ∈ l→t.size≤c2 l
 | [],h=>by cases h
 | u::l,h=>by
   simp only [c2]
   rcases List.mem_cons.1 h with rfl | h
   · omega
   · have:=AI h;omega
theorem qA {t u:aL} (h:u ∈ t.l):u.size<t.size:=by
 cases t with
 | mk k n s l=>have:=AI h;simp only [aL.size];simp only [aL.l] at this;omega
theorem uQ:∀l:List aL,l.length≤c2 l
 | []=>Nat.le_refl _
 | t::l=>by have:=uQ l;have:1≤t.size:=by (cases t;simp only [aL.size];omega)
            simp only [c2,List.length_cons];omega
theorem oa (t:aL):1≤t.size:=by cases t;simp only [aL.size];omega
mutual
def aL.enc:aL→List D
 | .mk k n s l=>[.i .i64 k,.i .i64 n,.s s,.l 4 (AD l)]
def AD:List aL→List (List D)
 | []=>[]
 | t::l=>t.enc::AD l
end
theorem MS:∀l:List aL,AD l=l.map aL.enc
 | []=>rfl
 | t::l=>by rw [AD,MS l,List.map_cons]
theorem qw (t:aL):t.enc=[.i .i64 t.k,.i .i64 t.n,.s t.s,.l 4 (t.l.map aL.enc)]:=by
 cases t with
 | mk k n s l=>simp only [aL.enc,MS,aL.k,aL.n,aL.s,aL.l]
mutual
def aL.pre:aL→List aL
 | .mk k n s l=>.mk k n s l::qz l
def qz:List aL→List aL
 | []=>[]
 | t::l=>t.pre++qz l
end
mutual
theorem M1:∀t:aL,t.pre.length=t.size
 | .mk k n s l=>by rw [aL.pre,aL.size,List.length_cons,Gh l,Nat.add_comm]
theorem Gh:∀l:List aL,(qz l).length=c2 l
 | []=>rfl
 | t::l=>by rw [qz,c2,List.length_append,M1 t,Gh l]
end
mutual
def aL.deep:aL→Nat
 | .mk _ _ _ l=>fw l+1
def fw:List aL→Nat
 | []=>0
 | t::l=>max t.deep (fw l)
end
section
variable {F:aO→Prop} {h:af} [Lay]
theorem aL.open {t:aL} {ad:List V} (H:bV F h t.enc ad):∃b7,ad=[.int .i64 t.k,.int .i64 t.n,.str t.s,b7]∧cZ F h 4 (t.l.map aL.enc) b7∧t.s.length≤top:=by
 rw [qw] at H
 obtain ⟨_,rfl,H1⟩:=H.int
 obtain ⟨_,rfl,cR⟩:=H1.int
 obtain ⟨_,rfl,aQ,Pm⟩:=cR.str
 obtain ⟨b7,_,rfl,L,Bn⟩:=Pm.fx
 obtain rfl:=Bn.no
 exact ⟨b7,rfl,L,aQ⟩
theorem aL.hR {l:List aL} {v:V} (H:cZ F h 4 (l.map aL.enc) v) {k:IntKind} {i:Nat} (aD:i<l.length):
 ∃b off b7,iU 4 v (.int k i)=some (.ptr b (off+i * 4))∧bV F h l[i].enc [.int .i64 l[i].k,.int .i64 l[i].n,.str l[i].s,b7]∧cZ F h 4 (l[i].l.map aL.enc) b7∧
  ∀ab,Ext h ab→lu 4 (ab.get b) (off+i * 4)=some (.agg [.int .i64 l[i].k,.int .i64 l[i].n,.str l[i].s,b7]):=by
 obtain ⟨b,off,u,aN,bf,bT,dA,_⟩:=H.at (k:=k) (i:=i) (by rw [List.length_map];exact aD)
 rw [List.getElem_map] at bf
 obtain ⟨b7,rfl,L,_⟩:=aL.open bf
 exact ⟨b,off,b7,aN,bf,L,dA⟩
end
end Go.Proofs.YthemdhlheglhoaaGreatDoor
