/- The abstract machine and its walks (a verified interpreter of the model's code: plain definitions and lemmas, no condition). Printed by a program from longer texts: names made short. -/
import Derived.Test.YtkehcalakofigaaGreatDoorM5
set_option linter.unusedSectionVars false
set_option linter.unusedSimpArgs false
set_option linter.unusedVariables false
namespace Go.Proofs.YtkehcalakofigaaGreatDoor.aS
variable [Lay]
open Go Go.RowKit
theorem ej.room {B:Nat} {h:af} {size:Nat} {v:V} {n:Nat} {ad:List V} (H:ej B h size v n ad):vC v:=by
 intro b o l c e
 subst e
 have q:=H.2
 simp only at q
 omega
theorem Has.mod {M:aO→Prop} {h ab:af} {n:Nat} {l:List V} (B:Has h n l) (m:Mod M h ab) (aZ:¬M (ay n)):Has ab n l:=⟨Nat.lt_of_lt_of_le B.lt m.next,(m.get _ (fh B.lt) aZ).trans B.g⟩
structure ahA (B:Nat) (G:aO→Prop) (h:af) (size:Nat) (es:List (List D)) (v:V):Prop where
 ex:∃us:List (List V),ej B h size v es.length us.flatten∧us.length=es.length∧(∀u ∈ us,u.length=size)∧∀(i:Nat) (e:List D) (u:List V),es[i]? =some e→us[i]? =some u→b9 (fun b=>G b∧¬v.a_ b) h e u
section
variable {B:Nat} {G:aO→Prop} {h ab:af} {size:Nat} {es:List (List D)} {v:V}
theorem Xz {α:Type} {l:List α} {x y:α} {i:Nat} (q:(l++[x])[i]? =some y):(i<l.length∧l[i]? =some y)∨(i=l.length∧y=x):=by
 by_cases az:i<l.length
 · rw [List.getElem?_append_left az] at q
   exact .inl ⟨az,q⟩
 · rw [List.getElem?_append_right (by omega)] at q
   obtain ⟨aP,_⟩:=List.getElem?_eq_some_iff.1 q
   simp only [List.length_cons,List.length_nil] at aP
   have:i=l.length:=by omega
   subst this
   simp only [Nat.sub_self,List.getElem?_cons_zero,Option.some.injEq] at q
   exact .inr ⟨rfl,q.symm⟩
end
theorem ae3 {P:Program} {n:Nat} (h:n≤4611686018427387904):(d'.int .quo).run P (.int .i64 (n:Int)) (.int .i64 100)=some (.int .i64 ((n / 100:Nat):Int)):=by
 simp only [d'.run,jT,xV,V.dJ]
 rw [show (l_ .i64 .i64&&!Int.fG 100 0)=true from rfl,cond_true]
 rw [show (n:Int).tdiv 100=((n / 100:Nat):Int) from by rw [Int.tdiv_eq_ediv_of_nonneg (by omega)];rfl,wrap_i64 (by omega) (by omega)]
def encS (s:List UInt8):List D:=[.s s]
theorem ch.agm {F:aO→Prop} {h:af} {l:List (List UInt8)} {v:V} (H:ch F h 1 (l.map encS) v) {k:IntKind} {i:Nat} (az:i<l.length):
 ∃b off,jj 1 v (.int k i)=some (.ptr b (off+i * 1))∧l[i].length≤top∧∀ab,Ext h ab→hd (ab.get b) (off+i * 1)=some (.str l[i]):=by
 obtain ⟨b,off,u,aN,aY,cz,_,gq⟩:=H.at (k:=k) (i:=i) (by rw [List.length_map];exact az)
 rw [List.getElem_map,encS] at aY
 obtain ⟨us,rfl,ag,jE⟩:=b9.str aY
 obtain rfl:=jE.no
 exact ⟨b,off,aN,ag,fun ab e=>by simpa using gq ab e 0 (by omega)⟩
def u' (l:List Int):List V:=l.map (V.int .i64)
theorem ael:∀l:List Int,ed (u' l)=true
 | []=>rfl
 | i::l=>by simpa [u',ed,V.one] using ael l
theorem Ll:∀l:List Int,(l.map fun i=>[V.int .i64 i]).flatten=u' l
 | []=>rfl
 | i::l=>by rw [List.map_cons,List.flatten_cons,Ll l];rfl
theorem eL.afZ {h:af} {v:V} {l:List Int} (H:eL h 1 v l.length (u' l)) (aH:vC v) (ai:l.length≤top):ch Any h 1 (l.map encI) v:=
 ⟨aH,by rw [List.length_map];exact ai,⟨l.map fun i=>[V.int .i64 i],by rw [List.length_map,Ll];exact H,by simp,fun u hu=>by
   obtain ⟨i,_,rfl⟩:=List.mem_map.1 hu
   rfl,fun i e u aq av=>by
   rw [List.getElem?_map] at aq av
   cases az:l[i]? with
   | none=>rw [az] at aq;cases aq
   | some y=>
     rw [az] at aq av
     simp only [Option.map_some,Option.some.injEq] at aq av
     subst aq av
     exact .i .nil⟩,fun _ _=>trivial⟩
theorem GZ (h:af) (size n:Nat) (ad:List V) (ai:ad.length=n * size) (aZ:n≤top):∃H,h.new (.bq ad 0 false)=H∧Ext h H∧ej h.next H size (.slice (ay h.next) 0 n n) n ad:=
 ⟨_,rfl,(Ext.refl h).new _,ai,rfl,by rw [c4];exact Nat.le_refl _,fh (by rw [e7];omega),Nat.le_refl _,aZ,ad,0,false,mV _,by omega,by rw [List.drop_zero,List.take_length]⟩
end Go.Proofs.YtkehcalakofigaaGreatDoor.aS
