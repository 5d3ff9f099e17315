/- The abstract machine and its walks (a verified interpreter of the model's code: plain definitions and lemmas, no condition). Printed by a program from longer texts: names made short. -/
import Derived.Test.YtkehcalakofigaaGreatDoorM5
set_option linter.unusedSectionVars false
set_option linter.unusedSimpArgs false
set_option linter.unusedVariables false
namespace Go.Proofs.YtkehcalakofigaaGreatDoor.aS
variable [Lay]
open Go Go.RowKit
theorem dx.room {B:Nat} {h:af} {size:Nat} {v:V} {n:Nat} {ad:List V} (H:dx B h size v n ad):sh v:=by
 intro b o l c e
 subst e
 have q:=H.2
 simp only at q
 omega
theorem Has.mod {M:aQ→Prop} {h ab:af} {n:Nat} {l:List V} (B:Has h n l) (m:Mod M h ab) (aX:¬M (aC n)):Has ab n l:=⟨Nat.lt_of_lt_of_le B.lt m.next,(m.get _ (gz B.lt) aX).trans B.g⟩
structure im (B:Nat) (G:aQ→Prop) (h:af) (size:Nat) (es:List (List D)) (v:V):Prop where
 ex:∃us:List (List V),dx B h size v es.length us.flatten∧us.length=es.length∧(∀u ∈ us,u.length=size)∧∀(i:Nat) (e:List D) (u:List V),es[i]? =some e→us[i]? =some u→bZ (fun b=>G b∧¬v.a7 b) h e u
section
variable {B:Nat} {G:aQ→Prop} {h ab:af} {size:Nat} {es:List (List D)} {v:V}
theorem im.nil (B:Nat) (G:aQ→Prop) (h:af) (size:Nat):im B G h size [] .bW:=⟨⟨[],⟨by simp,rfl⟩,rfl,fun u hu=>(by cases hu),fun i e u q=>(by simp at q)⟩⟩
theorem im.one (H:im B G h size es v):v.one=true∧v.cells=[v]∧v.e5=true:=by
 obtain ⟨us,a,_⟩:=H.ex
 exact a.v.one
theorem im.base (H:im B G h size es v) {b:aQ} (ai:v.a7 b):B≤cd b:=by
 obtain ⟨us,a,_⟩:=H.ex
 exact a.base ai
theorem im.tX (H:im B G h size es v) {b:aQ} (ai:v.a7 b):Old h b:=by
 obtain ⟨us,a,_⟩:=H.ex
 exact a.v.b0 ai
theorem im.ext (H:im B G h size es v) (e:Ext h ab):im B G ab size es v:=by
 obtain ⟨us,a,b,c,d⟩:=H.ex
 exact ⟨us,a.ext e,b,c,fun i x u al aq=>(d i x u al aq).ext e⟩
theorem im.eC {F:aQ→Prop} (H:im B G h size es v) (ak:es.length≤top) (mf:∀b,G b→F b) (cS:∀b,B≤cd b→F b):bI F h size es v:=by
 obtain ⟨us,a,b,c,d⟩:=H.ex
 exact ⟨a.room,ak,⟨us,a.v,b,c,fun i x u al aq=>(d i x u al aq).hQ fun b q=>mf b q.1⟩,fun b q=>cS b (a.base q)⟩
theorem Br {α:Type} {l:List α} {x y:α} {i:Nat} (q:(l++[x])[i]? =some y):(i<l.length∧l[i]? =some y)∨(i=l.length∧y=x):=by
 by_cases av:i<l.length
 · rw [List.getElem?_append_left av] at q
   exact .inl ⟨av,q⟩
 · rw [List.getElem?_append_right (by omega)] at q
   obtain ⟨aN,_⟩:=List.getElem?_eq_some_iff.1 q
   simp only [List.length_cons,List.length_nil] at aN
   have:i=l.length:=by omega
   subst this
   simp only [Nat.sub_self,List.getElem?_cons_zero,Option.some.injEq] at q
   exact .inr ⟨rfl,q.symm⟩
theorem im.add {ds:List D} {cs:List V} (H:im B G h size es v) (E:bZ (fun b=>G b∧¬v.a7 b) h ds cs) (b7:1≤size) (cS:B≤h.next) (hlen:(es.length+1) * size≤top) (fU:cs.length=size):
 ∃cG ab,kH size v (.slice (aC h.next) 0 1 1) (h.new (.bh cs 0 false))=.val cG ab∧im B G ab size (es++[ds]) cG∧Mod v.a7 h ab∧h.next+1≤ab.next∧∀b,cG.a7 b→v.a7 b∨h.next<cd b:=by
 obtain ⟨us,a,b,c,d⟩:=H.ex
 obtain ⟨cG,ab,al,aq,aK,bG,di⟩:=sI b7 a cS hlen fU E.eg
 have e8:∀b,(G b∧¬v.a7 b)→Old h b→¬v.a7 b∧(G b∧¬cG.a7 b):=fun b q o=>⟨q.2,q.1,fun z=>by
  rcases di b z with z | z
  · exact q.2 z
  · unfold Old at o;omega⟩
 refine ⟨cG,ab,al,⟨us++[cs],?_,by simp [b],?_,?_⟩,aK,bG,di⟩
 · rw [List.length_append,List.length_singleton,List.flatten_append]
   simpa using aq
 · intro u hu
   rcases List.mem_append.1 hu with hu | hu
   · exact c u hu
   · rw [List.mem_singleton] at hu;subst hu;exact fU
 · intro i e u aB aO
   rcases Br aB with ⟨aa,aB⟩ | ⟨aa,rfl⟩
   · rcases Br aO with ⟨ae,aO⟩ | ⟨ae,rfl⟩
     · exact (d i e u aB aO).mod aK e8
     · omega
   · rcases Br aO with ⟨ae,aO⟩ | ⟨ae,rfl⟩
     · omega
     · exact E.mod aK e8
end
theorem ahk {P:Program} {n:Nat} (h:n≤4611686018427387904):(en.int .quo).run P (.int .i64 (n:Int)) (.int .i64 100)=some (.int .i64 ((n / 100:Nat):Int)):=by
 simp only [en.run,km,yP,V.dV]
 rw [show (mY .i64 .i64&&!Int.gd 100 0)=true from rfl,cond_true]
 rw [show (n:Int).tdiv 100=((n / 100:Nat):Int) from by rw [Int.tdiv_eq_ediv_of_nonneg (by omega)];rfl,wrap_i64 (by omega) (by omega)]
def encS (s:List UInt8):List D:=[.s s]
theorem bI.JH {F:aQ→Prop} {h:af} {l:List (List UInt8)} {v:V} (H:bI F h 1 (l.map encS) v) {k:IntKind} {i:Nat} (av:i<l.length):
 ∃b off,hY 1 v (.int k i)=some (.ptr b (off+i * 1))∧l[i].length≤top∧∀ab,Ext h ab→hj (ab.get b) (off+i * 1)=some (.str l[i]):=by
 obtain ⟨b,off,u,aB,aO,cc,_,fy⟩:=H.at (k:=k) (i:=i) (by rw [List.length_map];exact av)
 rw [List.getElem_map,encS] at aO
 obtain ⟨us,rfl,ai,ir⟩:=bZ.str aO
 obtain rfl:=ir.no
 exact ⟨b,off,aB,ai,fun ab e=>by simpa using fy ab e 0 (by omega)⟩
def kn (l:List Int):List V:=l.map (V.int .i64)
theorem H3 (a b:List Int):kn (a++b)=kn a++kn b:=List.map_append
theorem CH:∀l:List Int,eg (kn l)=true
 | []=>rfl
 | i::l=>by simpa [kn,eg,V.one] using CH l
theorem ML:∀l:List Int,(l.map fun i=>[V.int .i64 i]).flatten=kn l
 | []=>rfl
 | i::l=>by rw [List.map_cons,List.flatten_cons,ML l];rfl
theorem et.fO {h:af} {v:V} {l:List Int} (H:et h 1 v l.length (kn l)) (aJ:sh v) (ak:l.length≤top):bI Any h 1 (l.map encI) v:=
 ⟨aJ,by rw [List.length_map];exact ak,⟨l.map fun i=>[V.int .i64 i],by rw [List.length_map,ML];exact H,by simp,fun u hu=>by
   obtain ⟨i,_,rfl⟩:=List.mem_map.1 hu
   rfl,fun i e u al aq=>by
   rw [List.getElem?_map] at al aq
   cases av:l[i]? with
   | none=>rw [av] at al;cases al
   | some y=>
     rw [av] at al aq
     simp only [Option.map_some,Option.some.injEq] at al aq
     subst al aq
     exact .i .nil⟩,fun _ _=>trivial⟩
theorem dx.fO {B:Nat} {h:af} {v:V} {l:List Int} (H:dx B h 1 v l.length (kn l)) (ak:l.length≤top):bI Any h 1 (l.map encI) v:=H.v.fO H.room ak
theorem ns (h:af) (size n:Nat) (ad:List V) (ak:ad.length=n * size) (aX:n≤top):∃H,h.new (.bh ad 0 false)=H∧Ext h H∧dx h.next H size (.slice (aC h.next) 0 n n) n ad:=
 ⟨_,rfl,(Ext.refl h).new _,ak,rfl,by rw [c6];exact Nat.le_refl _,gz (by rw [gx];omega),Nat.le_refl _,aX,ad,0,false,na _,by omega,by rw [List.drop_zero,List.take_length]⟩
end Go.Proofs.YtkehcalakofigaaGreatDoor.aS
