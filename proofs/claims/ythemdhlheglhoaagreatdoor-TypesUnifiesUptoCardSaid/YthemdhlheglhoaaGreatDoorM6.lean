/- The chapter's functions, walked by the abstract machine: plain lemmas, no condition. Printed by a program from longer texts: names made short. -/
import Derived.Test.YthemdhlheglhoaaGreatDoorM5
set_option linter.unusedSectionVars false
set_option linter.unusedSimpArgs false
set_option linter.unusedVariables false
set_option maxHeartbeats 64000000
noncomputable section
namespace Go.Proofs.YthemdhlheglhoaaGreatDoor
section
open Go a7
inductive aL where
 | mk (k n:Int) (s:List UInt8) (l:List aL)
namespace aL
def k:aL->Int | mk k _ _ _=>k
def n:aL->Int | mk _ n _ _=>n
def s:aL->List UInt8 | mk _ _ s _=>s
def l:aL->List aL | mk _ _ _ l=>l
end aL
mutual
def aL.size:aL->Nat
 | .mk _ _ _ l=>1+ca l
def ca:List aL->Nat
 | []=>0
 | t::l=>t.size+ca l
end
theorem xk {t:aL}:∀{l:List aL},t ∈ l->t.size<=ca l
 | [],h=>by cases h
 | u::l,h=>by
   simp only [ca];rcases List.mem_cons.1 h with rfl | h
   . omega
   . have:=xk h;omega
theorem py {t u:aL} (h:u ∈ t.l):u.size<t.size:=by
 cases t with
 | mk k n s l=>have:=xk h;simp only [aL.size];simp only [aL.l] at this;omega
theorem pz:∀l:List aL,l.length<=ca l
 | []=>Nat.le_refl _
 | t::l=>by have:=pz l;have:1<=t.size:=by (cases t;simp only [aL.size];omega)
            simp only [ca,List.length_cons];omega
theorem pA (t:aL):1<=t.size:=by cases t;simp only [aL.size];omega
mutual
def aL.enc:aL->List D
 | .mk k n s l=>[.i .i64 k,.i .i64 n,.s s,.l 4 (GI l)]
def GI:List aL->List (List D)
 | []=>[]
 | t::l=>t.enc::GI l
end
theorem VE:∀l:List aL,GI l=l.map aL.enc
 | []=>rfl
 | t::l=>by rw [GI,VE l,List.map_cons]
theorem CP (t:aL):t.enc=[.i .i64 t.k,.i .i64 t.n,.s t.s,.l 4 (t.l.map aL.enc)]:=by
 cases t with
 | mk k n s l=>simp only [aL.enc,VE,aL.k,aL.n,aL.s,aL.l]
mutual
def aL.pre:aL->List aL
 | .mk k n s l=>.mk k n s l::uN l
def uN:List aL->List aL
 | []=>[]
 | t::l=>t.pre++uN l
end
mutual
theorem VN:∀t:aL,t.pre.length=t.size
 | .mk k n s l=>by rw [aL.pre,aL.size,List.length_cons,Ml l,Nat.add_comm]
theorem Ml:∀l:List aL,(uN l).length=ca l
 | []=>rfl
 | t::l=>by rw [uN,ca,List.length_append,VN t,Ml l]
end
mutual
def aL.deep:aL->Nat
 | .mk _ _ _ l=>fm l+1
def fm:List aL->Nat
 | []=>0
 | t::l=>max t.deep (fm l)
end
section
variable {F:aQ->Prop} {h:ai} [Lay]
theorem aL.open {t:aL} {ah:List V} (H:cW F h t.enc ah):∃dw,ah=[.int .i64 t.k,.int .i64 t.n,.str t.s,dw]/\cJ F h 4 (t.l.map aL.enc) dw/\t.s.length<=top:=by rw [CP] at H;obtain ⟨_,rfl,H1⟩:=H.int;obtain ⟨_,rfl,cu⟩:=H1.int;obtain ⟨_,rfl,aR,xR⟩:=cu.str;obtain ⟨dw,_,rfl,L,jl⟩:=xR.fU;obtain rfl:=jl.no;exact ⟨dw,rfl,L,aR⟩
theorem aL.c6 {l:List aL} {v:V} (H:cJ F h 4 (l.map aL.enc) v) {k:IntKind} {i:Nat} (an:i<l.length):
 ∃b off dw,iT 4 v (.int k i)=some (.ptr b (off+i * 4))/\cW F h l[i].enc [.int .i64 l[i].k,.int .i64 l[i].n,.str l[i].s,dw]/\cJ F h 4 (l[i].l.map aL.enc) dw/\
  ∀ab,Ext h ab->oA 4 (ab.get b) (off+i * 4)=some (.agg [.int .i64 l[i].k,.int .i64 l[i].n,.str l[i].s,dw]):=by
 obtain ⟨b,off,u,aP,a',cM,fM,_⟩:=H.at (k:=k) (i:=i) (by rw [List.length_map];exact an);rw [List.getElem_map] at a';obtain ⟨dw,rfl,L,_⟩:=aL.open a';exact ⟨b,off,dw,aP,a',L,fM⟩
end
end
end Go.Proofs.YthemdhlheglhoaaGreatDoor
