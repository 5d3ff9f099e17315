/- The abstract machine and its walks (a verified interpreter of the model's code: plain definitions and lemmas, no condition). Printed by a program from longer texts: names made short. -/
import Derived.Test.YtkehcalakofigaaGreatDoorM5
set_option linter.unusedSectionVars false
set_option linter.unusedSimpArgs false
set_option linter.unusedVariables false
namespace Go.Proofs.YtkehcalakofigaaGreatDoor.a1
variable [Lay]
open Go Go.RowKit
theorem dy.room {B:Nat} {h:ae} {size:Nat} {v:V} {n:Nat} {ab:List V} (H:dy B h size v n ab):wP v:=by
 intro b o l c e
 subst e
 have q:=H.2
 simp only at q
 omega
theorem Has.mod {M:aO→Prop} {h aa:ae} {n:Nat} {l:List V} (B:Has h n l) (m:Mod M h aa) (a7:¬M (aH n)):Has aa n l:=⟨Nat.lt_of_lt_of_le B.lt m.next,(m.get _ (gS B.lt) a7).trans B.g⟩
structure ja (B:Nat) (G:aO→Prop) (h:ae) (size:Nat) (es:List (List D)) (v:V):Prop where
 ex:∃us:List (List V),dy B h size v es.length us.flatten∧us.length=es.length∧(∀u ∈ us,u.length=size)∧∀(i:Nat) (e:List D) (u:List V),es[i]? =some e→us[i]? =some u→ct (fun b=>G b∧¬v.bd b) h e u
section
variable {B:Nat} {G:aO→Prop} {h aa:ae} {size:Nat} {es:List (List D)} {v:V}
theorem ja.nil (B:Nat) (G:aO→Prop) (h:ae) (size:Nat):ja B G h size [] .cq:=⟨⟨[],⟨by simp,rfl⟩,rfl,fun u hu=>(by cases hu),fun i e u q=>(by simp at q)⟩⟩
theorem ja.base (H:ja B G h size es v) {b:aO} (af:v.bd b):B≤cr b:=by
 obtain ⟨us,a,_⟩:=H.ex
 exact a.base af
theorem ja.ZS (H:ja B G h size es v) {b:aO} (af:v.bd b):Old h b:=by
 obtain ⟨us,a,_⟩:=H.ex
 exact a.v.b0 af
theorem ja.ext (H:ja B G h size es v) (e:Ext h aa):ja B G aa size es v:=by
 obtain ⟨us,a,b,c,d⟩:=H.ex
 exact ⟨us,a.ext e,b,c,fun i x u aj ay=>(d i x u aj ay).ext e⟩
theorem ja.fH {F:aO→Prop} (H:ja B G h size es v) (ai:es.length≤top) (kP:∀b,G b→F b) (cI:∀b,B≤cr b→F b):cF F h size es v:=by
 obtain ⟨us,a,b,c,d⟩:=H.ex
 exact ⟨a.room,ai,⟨us,a.v,b,c,fun i x u aj ay=>(d i x u aj ay).k8 fun b q=>kP b q.1⟩,fun b q=>cI b (a.base q)⟩
theorem CE {α:Type} {l:List α} {x y:α} {i:Nat} (q:(l++[x])[i]? =some y):(i<l.length∧l[i]? =some y)∨(i=l.length∧y=x):=by
 by_cases aB:i<l.length
 · rw [List.getElem?_append_left aB] at q
   exact .inl ⟨aB,q⟩
 · rw [List.getElem?_append_right (by omega)] at q
   obtain ⟨aN,_⟩:=List.getElem?_eq_some_iff.1 q
   simp only [List.length_cons,List.length_nil] at aN
   have:i=l.length:=by omega
   subst this
   simp only [Nat.sub_self,List.getElem?_cons_zero,Option.some.injEq] at q
   exact .inr ⟨rfl,q.symm⟩
theorem ja.add {ds:List D} {cs:List V} (H:ja B G h size es v) (E:ct (fun b=>G b∧¬v.bd b) h ds cs) (bZ:1≤size) (cI:B≤h.next) (hlen:(es.length+1) * size≤top) (gp:cs.length=size):
 ∃fI aa,lk size v (.slice (aH h.next) 0 1 1) (h.new (.bk cs 0 false))=.val fI aa∧ja B G aa size (es++[ds]) fI∧Mod v.bd h aa∧h.next+1≤aa.next∧∀b,fI.bd b→v.bd b∨h.next<cr b:=by
 obtain ⟨us,a,b,c,d⟩:=H.ex
 obtain ⟨fI,aa,aj,ay,aK,bE,dh⟩:=uN bZ a cI hlen gp E.eb
 have fc:∀b,(G b∧¬v.bd b)→Old h b→¬v.bd b∧(G b∧¬fI.bd b):=fun b q o=>⟨q.2,q.1,fun z=>by
  rcases dh b z with z | z
  · exact q.2 z
  · unfold Old at o;omega⟩
 refine ⟨fI,aa,aj,⟨us++[cs],?_,by simp [b],?_,?_⟩,aK,bE,dh⟩
 · rw [List.length_append,List.length_singleton,List.flatten_append]
   simpa using ay
 · intro u hu
   rcases List.mem_append.1 hu with hu | hu
   · exact c u hu
   · rw [List.mem_singleton] at hu;subst hu;exact gp
 · intro i e u aE aM
   rcases CE aE with ⟨U,aE⟩ | ⟨U,rfl⟩
   · rcases CE aM with ⟨ad,aM⟩ | ⟨ad,rfl⟩
     · exact (d i e u aE aM).mod aK fc
     · omega
   · rcases CE aM with ⟨ad,aM⟩ | ⟨ad,rfl⟩
     · omega
     · exact E.mod aK fc
end
theorem aaK {P:Program} {n:Nat} (h:n≤4611686018427387904):(dV.int .quo).run P (.int .i64 (n:Int)) (.int .i64 100)=some (.int .i64 ((n / 100:Nat):Int)):=by
 simp only [dV.run,jk,vT,V.dB]
 rw [show (lp .i64 .i64&&!Int.fp 100 0)=true from rfl,cond_true]
 rw [show (n:Int).tdiv 100=((n / 100:Nat):Int) from by rw [Int.tdiv_eq_ediv_of_nonneg (by omega)];rfl,wrap_i64 (by omega) (by omega)]
def jl (l:List Int):List V:=l.map (V.int .i64)
theorem Ed (a b:List Int):jl (a++b)=jl a++jl b:=List.map_append
theorem zs:∀l:List Int,eb (jl l)=true
 | []=>rfl
 | i::l=>by simpa [jl,eb,V.one] using zs l
theorem It:∀l:List Int,(l.map fun i=>[V.int .i64 i]).flatten=jl l
 | []=>rfl
 | i::l=>by rw [List.map_cons,List.flatten_cons,It l];rfl
theorem eZ.fe {h:ae} {v:V} {l:List Int} (H:eZ h 1 v l.length (jl l)) (aG:wP v) (ai:l.length≤top):cF Any h 1 (l.map encI) v:=
 ⟨aG,by rw [List.length_map];exact ai,⟨l.map fun i=>[V.int .i64 i],by rw [List.length_map,It];exact H,by simp,fun u hu=>by
   obtain ⟨i,_,rfl⟩:=List.mem_map.1 hu
   rfl,fun i e u aj ay=>by
   rw [List.getElem?_map] at aj ay
   cases aB:l[i]? with
   | none=>rw [aB] at aj;cases aj
   | some y=>
     rw [aB] at aj ay
     simp only [Option.map_some,Option.some.injEq] at aj ay
     subst aj ay
     exact .i .nil⟩,fun _ _=>trivial⟩
theorem dy.fe {B:Nat} {h:ae} {v:V} {l:List Int} (H:dy B h 1 v l.length (jl l)) (ai:l.length≤top):cF Any h 1 (l.map encI) v:=H.v.fe H.room ai
theorem pY (h:ae) (size n:Nat) (ab:List V) (ai:ab.length=n * size) (a7:n≤top):∃H,h.new (.bk ab 0 false)=H∧Ext h H∧dy h.next H size (.slice (aH h.next) 0 n n) n ab:=
 ⟨_,rfl,(Ext.refl h).new _,ai,rfl,by rw [dR];exact Nat.le_refl _,gS (by rw [gw];omega),Nat.le_refl _,a7,ab,0,false,l9 _,by omega,by rw [List.drop_zero,List.take_length]⟩
end Go.Proofs.YtkehcalakofigaaGreatDoor.a1
