/- The abstract machine and its walks (a verified interpreter of the model's code: plain definitions and lemmas, no condition). Printed by a program from longer texts: names made short. -/
import Derived.Test.YtgmhjhgoamjeeaaGreatDoorM4
import Derived.Test.YtgmhjhgoamjeeaaGreatDoorM5
set_option linter.unusedSectionVars false
set_option linter.unusedSimpArgs false
set_option linter.unusedVariables false
set_option maxHeartbeats 64000000
noncomputable section
namespace Go.Proofs.YtgmhjhgoamjeeaaGreatDoor.a7
section
open Go Go.RowKit
variable [Lay]
theorem ec.room {B:Nat} {h:ag} {size:Nat} {v:V} {n:Nat} {ah:List V} (H:ec B h size v n ah):xA v:=by intro b o l c e;subst e;have q:=H.2;simp only at q;omega
theorem Has.mod {M:aQ->Prop} {h ab:ag} {n:Nat} {l:List V} (B:Has h n l) (m:Mod M h ab) (aW:¬M (aG n)):Has ab n l:=⟨Nat.lt_of_lt_of_le B.lt m.next,(m.get _ (iJ B.lt) aW).trans B.g⟩
structure db (B:Nat) (G:aQ->Prop) (h:ag) (size:Nat) (es:List (List D)) (v:V):Prop where
 ex:∃us:List (List V),ec B h size v es.length us.flatten/\us.length=es.length/\(∀u ∈ us,u.length=size)/\∀(i:Nat) (e:List D) (u:List V),es[i]? =some e->us[i]? =some u->cb (fun b=>G b/\¬v.a' b) h e u
section
variable {B:Nat} {G:aQ->Prop} {h ab:ag} {size:Nat} {es:List (List D)} {v:V}
theorem db.nil (B:Nat) (G:aQ->Prop) (h:ag) (size:Nat):db B G h size [] .bL:=⟨⟨[],⟨by simp,rfl⟩,rfl,fun u hu=>(by cases hu),fun i e u q=>(by simp at q)⟩⟩
theorem db.one (H:db B G h size es v):v.one=true/\v.cells=[v]/\v.fD=true:=by obtain ⟨us,a,_⟩:=H.ex;exact a.v.one
theorem db.base (H:db B G h size es v) {b:aQ} (ak:v.a' b):B<=ck b:=by obtain ⟨us,a,_⟩:=H.ex;exact a.base ak
theorem db.tu (H:db B G h size es v) {b:aQ} (ak:v.a' b):Old h b:=by obtain ⟨us,a,_⟩:=H.ex;exact a.v.bY ak
theorem db.len (H:db B G h size es v):iF v=some (.int .i64 es.length):=by obtain ⟨us,a,_⟩:=H.ex;exact a.v.len
theorem db.ext (H:db B G h size es v) (e:Ext h ab):db B G ab size es v:=by obtain ⟨us,a,b,c,d⟩:=H.ex;exact ⟨us,a.ext e,b,c,fun i x u al au=>(d i x u al au).ext e⟩
theorem db.mod {M:aQ->Prop} (H:db B G h size es v) (m:Mod M h ab) (bz:∀b,v.a' b->¬M b) (e8:∀b,G b->Old h b->¬v.a' b->¬M b):db B G ab size es v:=by obtain ⟨us,a,b,c,d⟩:=H.ex;exact ⟨us,a.mod m bz,b,c,fun i x u al au=>(d i x u al au).mod m fun b q o=>⟨e8 b q.1 o q.2,q⟩⟩
theorem db.ea {F:aQ->Prop} (H:db B G h size es v) (aw:es.length<=top) (e8:∀b,G b->F b) (cJ:∀b,B<=ck b->F b):bB F h size es v:=by obtain ⟨us,a,b,c,d⟩:=H.ex;exact ⟨a.room,aw,⟨us,a.v,b,c,fun i x u al au=>(d i x u al au).e3 fun b q=>e8 b q.1⟩,fun b q=>cJ b (a.base q)⟩
theorem I9 {α:Type} {l:List α} {x y:α} {i:Nat} (q:(l++[x])[i]? =some y):(i<l.length/\l[i]? =some y)\/(i=l.length/\y=x):=by
 by_cases aB:i<l.length
 . rw [aqq aB] at q;exact .inl ⟨aB,q⟩
 . rw [aqk (by omega)] at q;obtain ⟨aN,_⟩:=aqp.1 q;simp only [aqb,aqN] at aN;have:i=l.length:=by omega
   subst this;simp only [ar6,aqm,ap3] at q;exact .inr ⟨rfl,q.symm⟩
theorem db.add {ds:List D} {cs:List V} (H:db B G h size es v) (E:cb (fun b=>G b/\¬v.a' b) h ds cs) (cu:1<=size) (cJ:B<=h.next) (hlen:(es.length+1) * size<=top) (hD:cs.length=size):
 ∃cQ ab,lF size v (.slice (aG h.next) 0 1 1) (h.new (.bU cs 0 false))=.val cQ ab/\db B G ab size (es++[ds]) cQ/\Mod v.a' h ab/\h.next+1<=ab.next/\∀b,cQ.a' b->v.a' b\/h.next<ck b:=by
 obtain ⟨us,a,b,c,d⟩:=H.ex;obtain ⟨cQ,ab,al,au,aJ,bE,c1⟩:=AZ cu a cJ hlen hD E.eN
 have fc:∀b,(G b/\¬v.a' b)->Old h b->¬v.a' b/\(G b/\¬cQ.a' b):=fun b q o=>⟨q.2,q.1,fun z=>by
  rcases c1 b z with z | z
  . exact q.2 z
  . unfold Old at o;omega⟩
 refine ⟨cQ,ab,al,⟨us++[cs],?_,by simp [b],?_,?_⟩,aJ,bE,c1⟩
 . rw [aqi,ar8,List.flatten_append];simpa using au
 . intro u hu;rcases aq0.1 hu with hu | hu
   . exact c u hu
   . rw [aqU] at hu;subst hu;exact hD
 . intro i e u ax aH;rcases I9 ax with ⟨aa,ax⟩ | ⟨aa,rfl⟩
   . rcases I9 aH with ⟨ae,aH⟩ | ⟨ae,rfl⟩
     . exact (d i e u ax aH).mod aJ fc
     . omega
   . rcases I9 aH with ⟨ae,aH⟩ | ⟨ae,rfl⟩
     . omega
     . exact E.mod aJ fc
end
theorem alA {P:Program} {n:Nat} (h:n<=4611686018427387904):(eK.int .quo).run P (.int .i64 (n:Int)) (.int .i64 100)=some (.int .i64 ((n / 100:Nat):Int)):=by simp only [eK.run,mx,Cf,V.eB];rw [show (pn .i64 .i64&&!Int.hf 100 0)=true from rfl,ap8];rw [show (n:Int).tdiv 100=((n / 100:Nat):Int) from by rw [Int.tdiv_eq_ediv_of_nonneg (by omega)];rfl,wrap_i64 (by omega) (by omega)]
def my (l:List Int):List V:=l.map (V.int .i64)
theorem KH (a b:List Int):my (a++b)=my a++my b:=aqS
theorem Gi:∀l:List Int,eN (my l)=true
 | []=>rfl
 | i::l=>by simpa [my,eN,V.one] using Gi l
theorem RC:∀l:List Int,(l.map fun i=>[V.int .i64 i]).flatten=my l
 | []=>rfl
 | i::l=>by rw [are,arc,RC l];rfl
theorem fl.g' {h:ag} {v:V} {l:List Int} (H:fl h 1 v l.length (my l)) (aD:xA v) (aw:l.length<=top):bB Any h 1 (l.map nI) v:=
 ⟨aD,by rw [ap6];exact aw,⟨l.map fun i=>[V.int .i64 i],by rw [ap6,RC];exact H,by simp,fun u hu=>by
   obtain ⟨i,_,rfl⟩:=ass.1 hu;rfl,fun i e u al au=>by
   rw [aq2] at al au;cases aB:l[i]? with
   | none=>rw [aB] at al;cases al
   | some y=>
     rw [aB] at al au;simp only [arL,ap3] at al au;subst al au
     exact .i .nil⟩,fun _ _=>trivial⟩
theorem ec.g' {B:Nat} {h:ag} {v:V} {l:List Int} (H:ec B h 1 v l.length (my l)) (aw:l.length<=top):bB Any h 1 (l.map nI) v:=H.v.g' H.room aw
theorem r4 (h:ag) (size n:Nat) (ah:List V) (aw:ah.length=n * size) (aW:n<=top):∃H,h.new (.bU ah 0 false)=H/\Ext h H/\ec h.next H size (.slice (aG h.next) 0 n n) n ah:=
 ⟨_,rfl,(Ext.refl h).new _,aw,rfl,by rw [dx];exact ap7 _,iJ (by rw [ir];omega),ap7 _,aW,ah,0,false,oA _,by omega,by rw [ara,ar3]⟩
end
end Go.Proofs.YtgmhjhgoamjeeaaGreatDoor.a7
