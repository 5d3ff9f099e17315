/- The chapter's functions, walked by the abstract machine: plain lemmas, no condition. Printed by a program from longer texts: names made short. -/
import Derived.Test.YthemdhlheglhoaaGreatDoorM5
set_option linter.unusedSectionVars false
set_option linter.unusedSimpArgs false
set_option linter.unusedVariables false
namespace Go.Proofs.YthemdhlheglhoaaGreatDoor
open Go aX
inductive aB where
 | mk (k n:Int) (s:List UInt8) (l:List aB)
namespace aB
def k:aB→Int | mk k _ _ _=>k
def n:aB→Int | mk _ n _ _=>n
def s:aB→List UInt8 | mk _ _ s _=>s
def l:aB→List aB | mk _ _ _ l=>l
end aB
mutual
def aB.size:aB→Nat
 | .mk _ _ _ l=>1+c9 l
def c9:List aB→Nat
 | []=>0
 | t::l=>t.size+c9 l
end
theorem xv {t:aB}:∀{l:List aB},t ∈ l→t.size≤c9 l
 | [],h=>by cases h
 | u::l,h=>by
   simp only [c9]
   rcases List.mem_cons.1 h with rfl | h
   · omega
   · have:=xv h;omega
theorem l9 {t u:aB} (h:u ∈ t.l):u.size<t.size:=by
 cases t with
 | mk k n s l=>have:=xv h;simp only [aB.size];simp only [aB.l] at this;omega
theorem oN:∀l:List aB,l.length≤c9 l
 | []=>Nat.le_refl _
 | t::l=>by have:=oN l;have:1≤t.size:=by (cases t;simp only [aB.size];omega)
            simp only [c9,List.length_cons];omega
theorem lu (t:aB):1≤t.size:=by cases t;simp only [aB.size];omega
mutual
def aB.enc:aB→List D
 | .mk k n s l=>[.i .i64 k,.i .i64 n,.s s,.l 4 (Dn l)]
def Dn:List aB→List (List D)
 | []=>[]
 | t::l=>t.enc::Dn l
end
theorem Q8:∀l:List aB,Dn l=l.map aB.enc
 | []=>rfl
 | t::l=>by rw [Dn,Q8 l,List.map_cons]
theorem sF (t:aB):t.enc=[.i .i64 t.k,.i .i64 t.n,.s t.s,.l 4 (t.l.map aB.enc)]:=by
 cases t with
 | mk k n s l=>simp only [aB.enc,Q8,aB.k,aB.n,aB.s,aB.l]
mutual
def aB.pre:aB→List aB
 | .mk k n s l=>.mk k n s l::jQ l
def jQ:List aB→List aB
 | []=>[]
 | t::l=>t.pre++jQ l
end
theorem aiq (t:aB):t.pre=t::jQ t.l:=by cases t;simp only [aB.pre,aB.l]
theorem Rk:∀l m:List aB,jQ (l++m)=jQ l++jQ m
 | [],m=>rfl
 | t::l,m=>by rw [List.cons_append,jQ,jQ,Rk l m,List.append_assoc]
mutual
theorem Jy:∀t:aB,t.pre.length=t.size
 | .mk k n s l=>by rw [aB.pre,aB.size,List.length_cons,Du l,Nat.add_comm]
theorem Du:∀l:List aB,(jQ l).length=c9 l
 | []=>rfl
 | t::l=>by rw [jQ,c9,List.length_append,Jy t,Du l]
end
mutual
def aB.deep:aB→Nat
 | .mk _ _ _ l=>h_ l+1
def h_:List aB→Nat
 | []=>0
 | t::l=>max t.deep (h_ l)
end
section
variable {F:aP→Prop} {h:af} [Lay]
theorem aB.open {t:aB} {ad:List V} (H:bJ F h t.enc ad):∃bN,ad=[.int .i64 t.k,.int .i64 t.n,.str t.s,bN]∧cw F h 4 (t.l.map aB.enc) bN∧t.s.length≤top:=by
 rw [sF] at H
 obtain ⟨_,rfl,H1⟩:=H.int
 obtain ⟨_,rfl,cq⟩:=H1.int
 obtain ⟨_,rfl,aQ,TO⟩:=cq.str
 obtain ⟨bN,_,rfl,L,Eb⟩:=TO.fv
 obtain rfl:=Eb.no
 exact ⟨bN,rfl,L,aQ⟩
theorem aB.hN {l:List aB} {v:V} (H:cw F h 4 (l.map aB.enc) v) {k:IntKind} {i:Nat} (aC:i<l.length):
 ∃b off bN,iT 4 v (.int k i)=some (.ptr b (off+i * 4))∧bJ F h l[i].enc [.int .i64 l[i].k,.int .i64 l[i].n,.str l[i].s,bN]∧cw F h 4 (l[i].l.map aB.enc) bN∧
  ∀aa,Ext h aa→kI 4 (aa.get b) (off+i * 4)=some (.agg [.int .i64 l[i].k,.int .i64 l[i].n,.str l[i].s,bN]):=by
 obtain ⟨b,off,u,aK,aS,bn,b2,_⟩:=H.at (k:=k) (i:=i) (by rw [List.length_map];exact aC)
 rw [List.getElem_map] at aS
 obtain ⟨bN,rfl,L,_⟩:=aB.open aS
 exact ⟨b,off,bN,aK,aS,L,b2⟩
end
end Go.Proofs.YthemdhlheglhoaaGreatDoor
