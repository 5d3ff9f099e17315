/- The abstract machine and its walks (a verified interpreter of the model's code: plain definitions and lemmas, no condition). Printed by a program from longer texts: names made short. -/
import Derived.Test.YtefceblncmdkhaaGreatDoorM5
set_option linter.unusedSectionVars false
set_option linter.unusedSimpArgs false
set_option linter.unusedVariables false
set_option maxHeartbeats 64000000
noncomputable section
namespace Go.Proofs.YtefceblncmdkhaaGreatDoor.bd
section
open Go Go.RowKit
variable [Lay]
theorem c_.room {B:Nat} {h:ah} {size:Nat} {v:V} {n:Nat} {ai:List V} (H:c_ B h size v n ai):zq v:=by intro b o l c e;subst e;have q:=H.2;simp only at q;omega
structure kl (B:Nat) (G:aU->Prop) (h:ah) (size:Nat) (es:List (List D)) (v:V):Prop where
 ex:∃us:List (List V),c_ B h size v es.length us.flatten/\us.length=es.length/\(∀u ∈ us,u.length=size)/\∀(i:Nat) (e:List D) (u:List V),es[i]? =some e->us[i]? =some u->cj (fun b=>G b/\¬v.bj b) h e u
section
variable {B:Nat} {G:aU->Prop} {h aa:ah} {size:Nat} {es:List (List D)} {v:V}
theorem kl.nil (B:Nat) (G:aU->Prop) (h:ah) (size:Nat):kl B G h size [] .cc:=⟨⟨[],⟨by simp,rfl⟩,rfl,fun u hu=>(by cases hu),fun i e u q=>(by simp at q)⟩⟩
theorem kl.one (H:kl B G h size es v):v.one=true/\v.cells=[v]/\v.fK=true:=by obtain ⟨us,a,_⟩:=H.ex;exact a.v.one
theorem kl.base (H:kl B G h size es v) {b:aU} (aj:v.bj b):B<=cR b:=by obtain ⟨us,a,_⟩:=H.ex;exact a.base aj
theorem kl.ahQ (H:kl B G h size es v) {b:aU} (aj:v.bj b):Old h b:=by obtain ⟨us,a,_⟩:=H.ex;exact a.v.cH aj
theorem kl.ext (H:kl B G h size es v) (e:Ext h aa):kl B G aa size es v:=by obtain ⟨us,a,b,c,d⟩:=H.ex;exact ⟨us,a.ext e,b,c,fun i x u ag av=>(d i x u ag av).ext e⟩
theorem kl.ek {F:aU->Prop} (H:kl B G h size es v) (ax:es.length<=top) (oU:∀b,G b->F b) (dr:∀b,B<=cR b->F b):cq F h size es v:=by obtain ⟨us,a,b,c,d⟩:=H.ex;exact ⟨a.room,ax,⟨us,a.v,b,c,fun i x u ag av=>(d i x u ag av).nH fun b q=>oU b q.1⟩,fun b q=>dr b (a.base q)⟩
theorem HT {α:Type} {l:List α} {x y:α} {i:Nat} (q:(l++[x])[i]? =some y):(i<l.length/\l[i]? =some y)\/(i=l.length/\y=x):=by
 by_cases au:i<l.length
 . rw [anp au] at q;exact .inl ⟨au,q⟩
 . rw [ano (by omega)] at q;obtain ⟨aL,_⟩:=anl.1 q;simp only [am0,am8] at aL;have:i=l.length:=by omega
   subst this;simp only [aoG,anj,amW] at q;exact .inr ⟨rfl,q.symm⟩
theorem kl.add {ds:List D} {cs:List V} (H:kl B G h size es v) (E:cj (fun b=>G b/\¬v.bj b) h ds cs) (cy:1<=size) (dr:B<=h.next) (hlen:(es.length+1) * size<=top) (gZ:cs.length=size):
 ∃cI aa,iY size v (.slice (aC h.next) 0 1 1) (h.new (.a_ cs 0 false))=.val cI aa/\kl B G aa size (es++[ds]) cI/\Mod v.bj h aa/\h.next+1<=aa.next/\∀b,cI.bj b->v.bj b\/h.next<cR b:=by
 obtain ⟨us,a,b,c,d⟩:=H.ex;obtain ⟨cI,aa,ag,av,aI,bU,c8⟩:=xN cy a dr hlen gZ E.fq
 have gp:∀b,(G b/\¬v.bj b)->Old h b->¬v.bj b/\(G b/\¬cI.bj b):=fun b q o=>⟨q.2,q.1,fun z=>by
  rcases c8 b z with z | z
  . exact q.2 z
  . unfold Old at o;omega⟩
 refine ⟨cI,aa,ag,⟨us++[cs],?_,by simp [b],?_,?_⟩,aI,bU,c8⟩
 . rw [amZ,List.length_singleton,List.flatten_append];simpa using av
 . intro u hu;rcases aoV.1 hu with hu | hu
   . exact c u hu
   . rw [aos] at hu;subst hu;exact gZ
 . intro i e u an aN;rcases HT an with ⟨J,an⟩ | ⟨J,rfl⟩
   . rcases HT aN with ⟨ad,aN⟩ | ⟨ad,rfl⟩
     . exact (d i e u an aN).mod aI gp
     . omega
   . rcases HT aN with ⟨ad,aN⟩ | ⟨ad,rfl⟩
     . omega
     . exact E.mod aI gp
end
def mG (l:List Int):List V:=l.map (V.int .i64)
theorem Jr (a b:List Int):mG (a++b)=mG a++mG b:=aor
theorem Fb:∀l:List Int,fq (mG l)=true
 | []=>rfl
 | i::l=>by simpa [mG,fq,V.one] using Fb l
theorem PF:∀l:List Int,(l.map fun i=>[V.int .i64 i]).flatten=mG l
 | []=>rfl
 | i::l=>by rw [anZ,an_,PF l];rfl
theorem e9.hr {h:ah} {v:V} {l:List Int} (H:e9 h 1 v l.length (mG l)) (aJ:zq v) (ax:l.length<=top):cq Any h 1 (l.map nV) v:=
 ⟨aJ,by rw [anc];exact ax,⟨l.map fun i=>[V.int .i64 i],by rw [anc,PF];exact H,by simp,fun u hu=>by
   obtain ⟨i,_,rfl⟩:=List.mem_map.1 hu;rfl,fun i e u ag av=>by
   rw [anQ] at ag av;cases au:l[i]? with
   | none=>rw [au] at ag;cases ag
   | some y=>
     rw [au] at ag av;simp only [aot,amW] at ag av;subst ag av
     exact .i .nil⟩,fun _ _=>trivial⟩
theorem c_.hr {B:Nat} {h:ah} {v:V} {l:List Int} (H:c_ B h 1 v l.length (mG l)) (ax:l.length<=top):cq Any h 1 (l.map nV) v:=H.v.hr H.room ax
theorem sT (h:ah) (size n:Nat) (ai:List V) (ax:ai.length=n * size) (aX:n<=top):∃H,h.new (.a_ ai 0 false)=H/\Ext h H/\c_ h.next H size (.slice (aC h.next) 0 n n) n ai:=
 ⟨_,rfl,(Ext.refl h).new _,ax,rfl,by rw [dX];exact am6 _,hB (by rw [gD];omega),am6 _,aX,ai,0,false,ju _,by omega,by rw [anN,aox]⟩
end
end Go.Proofs.YtefceblncmdkhaaGreatDoor.bd
