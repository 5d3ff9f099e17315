/- The chapter's functions, walked by the abstract machine: plain lemmas, no condition. Printed by a program from longer texts: names made short. -/
import Derived.Test.YthemdhlheglhoaaGreatDoorM5
set_option linter.unusedSectionVars false
set_option linter.unusedSimpArgs false
set_option linter.unusedVariables false
namespace Go.Proofs.YthemdhlheglhoaaGreatDoor
open Go aY
inductive aB where
 | mk (k n:Int) (s:List UInt8) (l:List aB)
namespace aB
def k:aB→Int | mk k _ _ _=>k
def n:aB→Int | mk _ n _ _=>n
def s:aB→List UInt8 | mk _ _ s _=>s
def l:aB→List aB | mk _ _ _ l=>l
end aB
mutual
def aB.size:aB→Nat
 | .mk _ _ _ l=>1+eH l
def eH:List aB→Nat
 | []=>0
 | t::l=>t.size+eH l
end
theorem y0 {t:aB}:∀{l:List aB},t ∈ l→t.size≤eH l
 | [],h=>by cases h
 | u::l,h=>by
   simp only [eH]
   rcases List.mem_cons.1 h with rfl | h
   · omega
   · have:=y0 h;omega
theorem Hv {t u:aB} (h:u ∈ t.l):u.size<t.size:=by
 cases t with
 | mk k n s l=>have:=y0 h;simp only [aB.size];simp only [aB.l] at this;omega
theorem y1:∀l:List aB,l.length≤eH l
 | []=>Nat.le_refl _
 | t::l=>by have:=y1 l;have:1≤t.size:=by (cases t;simp only [aB.size];omega)
            simp only [eH,List.length_cons];omega
theorem y2 (t:aB):1≤t.size:=by cases t;simp only [aB.size];omega
mutual
def aB.enc:aB→List D
 | .mk k n s l=>[.i .i64 k,.i .i64 n,.s s,.l 4 (B4 l)]
def B4:List aB→List (List D)
 | []=>[]
 | t::l=>t.enc::B4 l
end
theorem NV:∀l:List aB,B4 l=l.map aB.enc
 | []=>rfl
 | t::l=>by rw [B4,NV l,List.map_cons]
theorem wF (t:aB):t.enc=[.i .i64 t.k,.i .i64 t.n,.s t.s,.l 4 (t.l.map aB.enc)]:=by
 cases t with
 | mk k n s l=>simp only [aB.enc,NV,aB.k,aB.n,aB.s,aB.l]
mutual
def aB.pre:aB→List aB
 | .mk k n s l=>.mk k n s l::oh l
def oh:List aB→List aB
 | []=>[]
 | t::l=>t.pre++oh l
end
mutual
theorem Ho:∀t:aB,t.pre.length=t.size
 | .mk k n s l=>by rw [aB.pre,aB.size,List.length_cons,Hs l,Nat.add_comm]
theorem Hs:∀l:List aB,(oh l).length=eH l
 | []=>rfl
 | t::l=>by rw [oh,eH,List.length_append,Ho t,Hs l]
end
mutual
def aB.deep:aB→Nat
 | .mk _ _ _ l=>jB l+1
def jB:List aB→Nat
 | []=>0
 | t::l=>max t.deep (jB l)
end
section
variable {F:aN→Prop} {h:af} [Lay]
theorem aB.open {t:aB} {ad:List V} (H:b5 F h t.enc ad):∃cF,ad=[.int .i64 t.k,.int .i64 t.n,.str t.s,cF]∧eg F h 4 (t.l.map aB.enc) cF∧t.s.length≤top:=by
 rw [wF] at H
 obtain ⟨_,rfl,H1⟩:=H.int
 obtain ⟨_,rfl,cG⟩:=H1.int
 obtain ⟨_,rfl,aO,Qn⟩:=cG.str
 obtain ⟨cF,_,rfl,L,CR⟩:=Qn.hf
 obtain rfl:=CR.no
 exact ⟨cF,rfl,L,aO⟩
theorem aB.q1 {l:List aB} {v:V} (H:eg F h 4 (l.map aB.enc) v) {k:IntKind} {i:Nat} (aF:i<l.length):
 ∃b off cF,lU 4 v (.int k i)=some (.ptr b (off+i * 4))∧b5 F h l[i].enc [.int .i64 l[i].k,.int .i64 l[i].n,.str l[i].s,cF]∧eg F h 4 (l[i].l.map aB.enc) cF∧
  ∀ab,Ext h ab→mB 4 (ab.get b) (off+i * 4)=some (.agg [.int .i64 l[i].k,.int .i64 l[i].n,.str l[i].s,cF]):=by
 obtain ⟨b,off,u,aP,bl,bW,eu,_⟩:=H.at (k:=k) (i:=i) (by rw [List.length_map];exact aF)
 rw [List.getElem_map] at bl
 obtain ⟨cF,rfl,L,_⟩:=aB.open bl
 exact ⟨b,off,cF,aP,bl,L,eu⟩
end
end Go.Proofs.YthemdhlheglhoaaGreatDoor
