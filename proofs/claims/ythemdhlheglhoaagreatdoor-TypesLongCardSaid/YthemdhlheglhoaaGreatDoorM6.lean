/- The chapter's functions, walked by the abstract machine: plain lemmas, no condition. Printed by a program from longer texts: names made short. -/
import Derived.Test.YthemdhlheglhoaaGreatDoorM5
set_option linter.unusedSectionVars false
set_option linter.unusedSimpArgs false
set_option linter.unusedVariables false
set_option maxHeartbeats 64000000
noncomputable section
namespace Go.Proofs.YthemdhlheglhoaaGreatDoor
section
open Go a8
inductive aM where
 | mk (k n:Int) (s:List UInt8) (l:List aM)
namespace aM
def k:aM->Int | mk k _ _ _=>k
def n:aM->Int | mk _ n _ _=>n
def s:aM->List UInt8 | mk _ _ s _=>s
def l:aM->List aM | mk _ _ _ l=>l
end aM
mutual
def aM.size:aM->Nat
 | .mk _ _ _ l=>1+cE l
def cE:List aM->Nat
 | []=>0
 | t::l=>t.size+cE l
end
theorem zP {t:aM}:∀{l:List aM},t ∈ l->t.size<=cE l
 | [],h=>by cases h
 | u::l,h=>by
   simp only [cE];rcases List.mem_cons.1 h with rfl | h
   . omega
   . have:=zP h;omega
theorem px {t u:aM} (h:u ∈ t.l):u.size<t.size:=by
 cases t with
 | mk k n s l=>have:=zP h;simp only [aM.size];simp only [aM.l] at this;omega
theorem qw:∀l:List aM,l.length<=cE l
 | []=>Nat.le_refl _
 | t::l=>by have:=qw l;have:1<=t.size:=by (cases t;simp only [aM.size];omega)
            simp only [cE,List.length_cons];omega
theorem qx (t:aM):1<=t.size:=by cases t;simp only [aM.size];omega
mutual
def aM.enc:aM->List D
 | .mk k n s l=>[.i .i64 k,.i .i64 n,.s s,.l 4 (GK l)]
def GK:List aM->List (List D)
 | []=>[]
 | t::l=>t.enc::GK l
end
theorem Vl:∀l:List aM,GK l=l.map aM.enc
 | []=>rfl
 | t::l=>by rw [GK,Vl l,List.map_cons]
theorem CR (t:aM):t.enc=[.i .i64 t.k,.i .i64 t.n,.s t.s,.l 4 (t.l.map aM.enc)]:=by
 cases t with
 | mk k n s l=>simp only [aM.enc,Vl,aM.k,aM.n,aM.s,aM.l]
mutual
def aM.pre:aM->List aM
 | .mk k n s l=>.mk k n s l::uM l
def uM:List aM->List aM
 | []=>[]
 | t::l=>t.pre++uM l
end
mutual
theorem Vu:∀t:aM,t.pre.length=t.size
 | .mk k n s l=>by rw [aM.pre,aM.size,List.length_cons,Mk l,Nat.add_comm]
theorem Mk:∀l:List aM,(uM l).length=cE l
 | []=>rfl
 | t::l=>by rw [uM,cE,List.length_append,Vu t,Mk l]
end
mutual
def aM.deep:aM->Nat
 | .mk _ _ _ l=>eY l+1
def eY:List aM->Nat
 | []=>0
 | t::l=>max t.deep (eY l)
end
section
variable {F:aQ->Prop} {h:ah} [Lay]
theorem aM.open {t:aM} {ai:List V} (H:cW F h t.enc ai):∃du,ai=[.int .i64 t.k,.int .i64 t.n,.str t.s,du]/\dc F h 4 (t.l.map aM.enc) du/\t.s.length<=top:=by rw [CR] at H;obtain ⟨_,rfl,H1⟩:=H.int;obtain ⟨_,rfl,cp⟩:=H1.int;obtain ⟨_,rfl,aS,xP⟩:=cp.str;obtain ⟨du,_,rfl,L,jd⟩:=xP.fY;obtain rfl:=jd.no;exact ⟨du,rfl,L,aS⟩
theorem aM.c0 {l:List aM} {v:V} (H:dc F h 4 (l.map aM.enc) v) {k:IntKind} {i:Nat} (ao:i<l.length):
 ∃b off du,ka 4 v (.int k i)=some (.ptr b (off+i * 4))/\cW F h l[i].enc [.int .i64 l[i].k,.int .i64 l[i].n,.str l[i].s,du]/\dc F h 4 (l[i].l.map aM.enc) du/\
  ∀ab,Ext h ab->pk 4 (ab.get b) (off+i * 4)=some (.agg [.int .i64 l[i].k,.int .i64 l[i].n,.str l[i].s,du]):=by
 obtain ⟨b,off,u,aP,bf,c4,gj,_⟩:=H.at (k:=k) (i:=i) (by rw [List.length_map];exact ao);rw [List.getElem_map] at bf;obtain ⟨du,rfl,L,_⟩:=aM.open bf;exact ⟨b,off,du,aP,bf,L,gj⟩
end
end
end Go.Proofs.YthemdhlheglhoaaGreatDoor
