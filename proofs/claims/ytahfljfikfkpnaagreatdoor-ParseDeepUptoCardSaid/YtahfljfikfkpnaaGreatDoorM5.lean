/- The chapter's functions, walked by the abstract machine: plain lemmas, no condition. Printed by a program from longer texts: names made short. -/
import Derived.Test.YtahfljfikfkpnaaGreatDoorM4
set_option linter.unusedSectionVars false
set_option linter.unusedSimpArgs false
set_option linter.unusedVariables false
set_option maxHeartbeats 64000000
noncomputable section
namespace Go.Proofs.YtahfljfikfkpnaaGreatDoor
section
open Go ba
inductive aP where
 | mk (k n a:Int) (s:List UInt8) (l:List aP)
namespace aP
def k:aP->Int | mk k _ _ _ _=>k
def n:aP->Int | mk _ n _ _ _=>n
def a:aP->Int | mk _ _ a _ _=>a
def s:aP->List UInt8 | mk _ _ _ s _=>s
def l:aP->List aP | mk _ _ _ _ l=>l
end aP
mutual
def aP.size:aP->Nat
 | .mk _ _ _ _ l=>1+h2 l
def h2:List aP->Nat
 | []=>0
 | t::l=>t.size+h2 l
end
theorem Kt {t:aP}:∀{l:List aP},t ∈ l->t.size<=h2 l
 | [],h=>by cases h
 | u::l,h=>by
   simp only [h2];rcases ao7.1 h with rfl | h
   . omega
   . have:=Kt h;omega
theorem Sm {t u:aP} (h:u ∈ t.l):u.size<t.size:=by
 cases t with
 | mk k n a s l=>have:=Kt h;simp only [aP.size];simp only [aP.l] at this;omega
theorem ajP:∀l:List aP,l.length<=h2 l
 | []=>aoz _
 | t::l=>by have:=ajP l;have:1<=t.size:=by (cases t;simp only [aP.size];omega)
            simp only [h2,aoH];omega
theorem Fy (t:aP):1<=t.size:=by cases t;simp only [aP.size];omega
mutual
def aP.enc:aP->List D
 | .mk k n a s l=>[.i .i64 k,.i .i64 n,.i .i64 a,.s s,.l 5 (Fu l)]
def Fu:List aP->List (List D)
 | []=>[]
 | t::l=>t.enc::Fu l
end
theorem Sc:∀l:List aP,Fu l=l.map aP.enc
 | []=>rfl
 | t::l=>by rw [Fu,Sc l,ap9]
theorem Ft (t:aP):t.enc=[.i .i64 t.k,.i .i64 t.n,.i .i64 t.a,.s t.s,.l 5 (t.l.map aP.enc)]:=by
 cases t with
 | mk k n a s l=>simp only [aP.enc,Sc,aP.k,aP.n,aP.a,aP.s,aP.l]
mutual
def aP.deep:aP->Nat
 | .mk _ _ _ _ l=>lk l+1
def lk:List aP->Nat
 | []=>0
 | t::l=>max t.deep (lk l)
end
section
variable {F:aN->Prop} {h:ah} [Lay]
theorem aP.open {t:aP} {aj:List V} (H:ev F h t.enc aj):∃aC,aj=[.int .i64 t.k,.int .i64 t.n,.int .i64 t.a,.str t.s,aC]/\e_ F h 5 (t.l.map aP.enc) aC/\t.s.length<=top:=by rw [Ft] at H;obtain ⟨_,rfl,H1⟩:=H.int;obtain ⟨_,rfl,eY⟩:=H1.int;obtain ⟨_,rfl,Gq⟩:=eY.int;obtain ⟨_,rfl,al,Ur⟩:=Gq.str;obtain ⟨aC,_,rfl,L,Us⟩:=Ur.c';obtain rfl:=Us.no;exact ⟨aC,rfl,L,al⟩
theorem aP.EX {l:List aP} {v:V} (H:e_ F h 5 (l.map aP.enc) v) {k:IntKind} {i:Nat} (aJ:i<l.length):
 ∃b off aC,j9 5 v (.int k i)=some (.ptr b (off+i * 5))/\ev F h l[i].enc [.int .i64 l[i].k,.int .i64 l[i].n,.int .i64 l[i].a,.str l[i].s,aC]/\e_ F h 5 (l[i].l.map aP.enc) aC/\
  ∀ae,Ext h ae->rE 5 (ae.get b) (off+i * 5)=some (.agg [.int .i64 l[i].k,.int .i64 l[i].n,.int .i64 l[i].a,.str l[i].s,aC]):=by
 obtain ⟨b,off,u,aO,bs,cT,cO,_⟩:=H.at (k:=k) (i:=i) (by rw [ao6];exact aJ);rw [aqc] at bs;obtain ⟨aC,rfl,L,_⟩:=aP.open bs;exact ⟨b,off,aC,aO,bs,L,cO⟩
end
end
end Go.Proofs.YtahfljfikfkpnaaGreatDoor
