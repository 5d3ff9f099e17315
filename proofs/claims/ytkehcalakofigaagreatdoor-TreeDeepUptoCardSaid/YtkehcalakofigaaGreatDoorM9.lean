/- The abstract machine and its walks (a verified interpreter of the model's code: plain definitions and lemmas, no condition). Printed by a program from longer texts: names made short. -/
import Derived.Test.YtkehcalakofigaaGreatDoorM5
set_option linter.unusedSectionVars false
set_option linter.unusedSimpArgs false
set_option linter.unusedVariables false
namespace Go.Proofs.YtkehcalakofigaaGreatDoor.aY
variable [Lay]
open Go Go.RowKit
theorem du.room {B:Nat} {h:ae} {size:Nat} {v:V} {n:Nat} {ab:List V} (H:du B h size v n ab):wK v:=by
 intro b o l c e
 subst e
 have q:=H.2
 simp only at q
 omega
theorem Has.mod {M:aN→Prop} {h aa:ae} {n:Nat} {l:List V} (B:Has h n l) (m:Mod M h aa) (a7:¬M (aG n)):Has aa n l:=⟨Nat.lt_of_lt_of_le B.lt m.next,(m.get _ (gL B.lt) a7).trans B.g⟩
structure acP (B:Nat) (G:aN→Prop) (h:ae) (size:Nat) (es:List (List D)) (v:V):Prop where
 ex:∃us:List (List V),du B h size v es.length us.flatten∧us.length=es.length∧(∀u ∈ us,u.length=size)∧∀(i:Nat) (e:List D) (u:List V),es[i]? =some e→us[i]? =some u→cl (fun b=>G b∧¬v.bd b) h e u
section
variable {B:Nat} {G:aN→Prop} {h aa:ae} {size:Nat} {es:List (List D)} {v:V}
end
def jg (l:List Int):List V:=l.map (V.int .i64)
theorem D6 (a b:List Int):jg (a++b)=jg a++jg b:=List.map_append
theorem zm:∀l:List Int,ef (jg l)=true
 | []=>rfl
 | i::l=>by simpa [jg,ef,V.one] using zm l
theorem H8:∀l:List Int,(l.map fun i=>[V.int .i64 i]).flatten=jg l
 | []=>rfl
 | i::l=>by rw [List.map_cons,List.flatten_cons,H8 l];rfl
theorem eW.fb {h:ae} {v:V} {l:List Int} (H:eW h 1 v l.length (jg l)) (aH:wK v) (aj:l.length≤top):cM Any h 1 (l.map encI) v:=
 ⟨aH,by rw [List.length_map];exact aj,⟨l.map fun i=>[V.int .i64 i],by rw [List.length_map,H8];exact H,by simp,fun u hu=>by
   obtain ⟨i,_,rfl⟩:=List.mem_map.1 hu
   rfl,fun i e u ai ay=>by
   rw [List.getElem?_map] at ai ay
   cases aC:l[i]? with
   | none=>rw [aC] at ai;cases ai
   | some y=>
     rw [aC] at ai ay
     simp only [Option.map_some,Option.some.injEq] at ai ay
     subst ai ay
     exact .i .nil⟩,fun _ _=>trivial⟩
theorem du.fb {B:Nat} {h:ae} {v:V} {l:List Int} (H:du B h 1 v l.length (jg l)) (aj:l.length≤top):cM Any h 1 (l.map encI) v:=H.v.fb H.room aj
theorem oE (h:ae) (size n:Nat) (ab:List V) (aj:ab.length=n * size) (a7:n≤top):∃H,h.new (.bk ab 0 false)=H∧Ext h H∧du h.next H size (.slice (aG h.next) 0 n n) n ab:=
 ⟨_,rfl,(Ext.refl h).new _,aj,rfl,by rw [dV];exact Nat.le_refl _,gL (by rw [gn];omega),Nat.le_refl _,a7,ab,0,false,l7 _,by omega,by rw [List.drop_zero,List.take_length]⟩
end Go.Proofs.YtkehcalakofigaaGreatDoor.aY
