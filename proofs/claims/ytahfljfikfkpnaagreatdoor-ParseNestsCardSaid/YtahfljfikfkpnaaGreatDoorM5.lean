/- The chapter's functions, walked by the abstract machine: plain lemmas, no condition. Printed by a program from longer texts: names made short. -/
import Derived.Test.YtahfljfikfkpnaaGreatDoorM4
set_option linter.unusedSectionVars false
set_option linter.unusedSimpArgs false
set_option linter.unusedVariables false
set_option maxHeartbeats 64000000
noncomputable section
namespace Go.Proofs.YtahfljfikfkpnaaGreatDoor
section
open Go bg
inductive aN where
 | mk (k n a:Int) (s:List UInt8) (l:List aN)
namespace aN
def k:aN->Int | mk k _ _ _ _=>k
def n:aN->Int | mk _ n _ _ _=>n
def a:aN->Int | mk _ _ a _ _=>a
def s:aN->List UInt8 | mk _ _ _ s _=>s
def l:aN->List aN | mk _ _ _ _ l=>l
end aN
mutual
def aN.size:aN->Nat
 | .mk _ _ _ _ l=>1+h8 l
def h8:List aN->Nat
 | []=>0
 | t::l=>t.size+h8 l
end
theorem Kz {t:aN}:∀{l:List aN},t ∈ l->t.size<=h8 l
 | [],h=>by cases h
 | u::l,h=>by
   simp only [h8];rcases apy.1 h with rfl | h
   . omega
   . have:=Kz h;omega
theorem Sy {t u:aN} (h:u ∈ t.l):u.size<t.size:=by
 cases t with
 | mk k n a s l=>have:=Kz h;simp only [aN.size];simp only [aN.l] at this;omega
theorem akc:∀l:List aN,l.length<=h8 l
 | []=>ao1 _
 | t::l=>by have:=akc l;have:1<=t.size:=by (cases t;simp only [aN.size];omega)
            simp only [h8,ao9];omega
theorem FA (t:aN):1<=t.size:=by cases t;simp only [aN.size];omega
mutual
def aN.enc:aN->List D
 | .mk k n a s l=>[.i .i64 k,.i .i64 n,.i .i64 a,.s s,.l 5 (Fw l)]
def Fw:List aN->List (List D)
 | []=>[]
 | t::l=>t.enc::Fw l
end
theorem Sp:∀l:List aN,Fw l=l.map aN.enc
 | []=>rfl
 | t::l=>by rw [Fw,Sp l,aqA]
theorem Fv (t:aN):t.enc=[.i .i64 t.k,.i .i64 t.n,.i .i64 t.a,.s t.s,.l 5 (t.l.map aN.enc)]:=by
 cases t with
 | mk k n a s l=>simp only [aN.enc,Sp,aN.k,aN.n,aN.a,aN.s,aN.l]
mutual
def aN.deep:aN->Nat
 | .mk _ _ _ _ l=>kC l+1
def kC:List aN->Nat
 | []=>0
 | t::l=>max t.deep (kC l)
end
section
variable {F:aO->Prop} {h:ah} [Lay]
theorem aN.open {t:aN} {aj:List V} (H:eJ F h t.enc aj):∃aA,aj=[.int .i64 t.k,.int .i64 t.n,.int .i64 t.a,.str t.s,aA]/\fw F h 5 (t.l.map aN.enc) aA/\t.s.length<=top:=by rw [Fv] at H;obtain ⟨_,rfl,H1⟩:=H.int;obtain ⟨_,rfl,e0⟩:=H1.int;obtain ⟨_,rfl,Gu⟩:=e0.int;obtain ⟨_,rfl,al,UA⟩:=Gu.str;obtain ⟨aA,_,rfl,L,UB⟩:=UA.c7;obtain rfl:=UB.no;exact ⟨aA,rfl,L,al⟩
theorem aN.E0 {l:List aN} {v:V} (H:fw F h 5 (l.map aN.enc) v) {k:IntKind} {i:Nat} (aM:i<l.length):
 ∃b off aA,mG 5 v (.int k i)=some (.ptr b (off+i * 5))/\eJ F h l[i].enc [.int .i64 l[i].k,.int .i64 l[i].n,.int .i64 l[i].a,.str l[i].s,aA]/\fw F h 5 (l[i].l.map aN.enc) aA/\
  ∀af,Ext h af->rT 5 (af.get b) (off+i * 5)=some (.agg [.int .i64 l[i].k,.int .i64 l[i].n,.int .i64 l[i].a,.str l[i].s,aA]):=by
 obtain ⟨b,off,u,aP,bu,cT,cN,_⟩:=H.at (k:=k) (i:=i) (by rw [apD];exact aM);rw [List.getElem_map] at bu;obtain ⟨aA,rfl,L,_⟩:=aN.open bu;exact ⟨b,off,aA,aP,bu,L,cN⟩
end
end
end Go.Proofs.YtahfljfikfkpnaaGreatDoor
