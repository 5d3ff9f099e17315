/- The abstract machine and its walks (a verified interpreter of the model's code: plain definitions and lemmas, no condition). Printed by a program from longer texts: names made short. -/
import Derived.Test.YtefceblncmdkhaaGreatDoorM5
set_option linter.unusedSectionVars false
set_option linter.unusedSimpArgs false
set_option linter.unusedVariables false
set_option maxHeartbeats 64000000
noncomputable section
namespace Go.Proofs.YtefceblncmdkhaaGreatDoor.bb
section
open Go Go.RowKit
variable [Lay]
theorem cZ.room {B:Nat} {h:ah} {size:Nat} {v:V} {n:Nat} {ai:List V} (H:cZ B h size v n ai):xd v:=by intro b o l c e;subst e;have q:=H.2;simp only at q;omega
structure mC (B:Nat) (G:aU->Prop) (h:ah) (size:Nat) (es:List (List D)) (v:V):Prop where
 ex:∃us:List (List V),cZ B h size v es.length us.flatten/\us.length=es.length/\(∀u ∈ us,u.length=size)/\∀(i:Nat) (e:List D) (u:List V),es[i]? =some e->us[i]? =some u->cg (fun b=>G b/\¬v.bh b) h e u
section
variable {B:Nat} {G:aU->Prop} {h ab:ah} {size:Nat} {es:List (List D)} {v:V}
theorem mC.nil (B:Nat) (G:aU->Prop) (h:ah) (size:Nat):mC B G h size [] .cr:=⟨⟨[],⟨by simp,rfl⟩,rfl,fun u hu=>(by cases hu),fun i e u q=>(by simp at q)⟩⟩
theorem mC.base (H:mC B G h size es v) {b:aU} (aj:v.bh b):B<=cY b:=by obtain ⟨us,a,_⟩:=H.ex;exact a.base aj
theorem mC.aih (H:mC B G h size es v) {b:aU} (aj:v.bh b):Old h b:=by obtain ⟨us,a,_⟩:=H.ex;exact a.v.cJ aj
theorem mC.ext (H:mC B G h size es v) (e:Ext h ab):mC B G ab size es v:=by obtain ⟨us,a,b,c,d⟩:=H.ex;exact ⟨us,a.ext e,b,c,fun i x u ag av=>(d i x u ag av).ext e⟩
theorem mC.dZ {F:aU->Prop} (H:mC B G h size es v) (aw:es.length<=top) (oU:∀b,G b->F b) (dz:∀b,B<=cY b->F b):ch F h size es v:=by obtain ⟨us,a,b,c,d⟩:=H.ex;exact ⟨a.room,aw,⟨us,a.v,b,c,fun i x u ag av=>(d i x u ag av).mX fun b q=>oU b q.1⟩,fun b q=>dz b (a.base q)⟩
theorem H4 {α:Type} {l:List α} {x y:α} {i:Nat} (q:(l++[x])[i]? =some y):(i<l.length/\l[i]? =some y)\/(i=l.length/\y=x):=by
 by_cases au:i<l.length
 . rw [anX au] at q;exact .inl ⟨au,q⟩
 . rw [anW (by omega)] at q;obtain ⟨aH,_⟩:=anU.1 q;simp only [anz,anH] at aH;have:i=l.length:=by omega
   subst this;simp only [apf,anR,ant] at q;exact .inr ⟨rfl,q.symm⟩
theorem mC.add {ds:List D} {cs:List V} (H:mC B G h size es v) (E:cg (fun b=>G b/\¬v.bh b) h ds cs) (cx:1<=size) (dz:B<=h.next) (hlen:(es.length+1) * size<=top) (hc:cs.length=size):
 ∃c_ ab,jz size v (.slice (aD h.next) 0 1 1) (h.new (.a_ cs 0 false))=.val c_ ab/\mC B G ab size (es++[ds]) c_/\Mod v.bh h ab/\h.next+1<=ab.next/\∀b,c_.bh b->v.bh b\/h.next<cY b:=by
 obtain ⟨us,a,b,c,d⟩:=H.ex;obtain ⟨c_,ab,ag,av,aJ,bU,cX⟩:=xT cx a dz hlen hc E.fi
 have gw:∀b,(G b/\¬v.bh b)->Old h b->¬v.bh b/\(G b/\¬c_.bh b):=fun b q o=>⟨q.2,q.1,fun z=>by
  rcases cX b z with z | z
  . exact q.2 z
  . unfold Old at o;omega⟩
 refine ⟨c_,ab,ag,⟨us++[cs],?_,by simp [b],?_,?_⟩,aJ,bU,cX⟩
 . rw [anw,List.length_singleton,List.flatten_append];simpa using av
 . intro u hu;rcases apw.1 hu with hu | hu
   . exact c u hu
   . rw [apc] at hu;subst hu;exact hc
 . intro i e u al aN;rcases H4 al with ⟨J,al⟩ | ⟨J,rfl⟩
   . rcases H4 aN with ⟨ad,aN⟩ | ⟨ad,rfl⟩
     . exact (d i e u al aN).mod aJ gw
     . omega
   . rcases H4 aN with ⟨ad,aN⟩ | ⟨ad,rfl⟩
     . omega
     . exact E.mod aJ gw
end
theorem aje {P:Program} {n:Nat} (h:n<=4611686018427387904):(dV.int .quo).run P (.int .i64 (n:Int)) (.int .i64 100)=some (.int .i64 ((n / 100:Nat):Int)):=by simp only [dV.run,lr,wK,V.e0];rw [show (oS .i64 .i64&&!Int.g_ 100 0)=true from rfl,anC];rw [show (n:Int).tdiv 100=((n / 100:Nat):Int) from by rw [Int.tdiv_eq_ediv_of_nonneg (by omega)];rfl,wrap_i64 (by omega) (by omega)]
def mO (l:List Int):List V:=l.map (V.int .i64)
theorem JF (a b:List Int):mO (a++b)=mO a++mO b:=apb
theorem Fm:∀l:List Int,fi (mO l)=true
 | []=>rfl
 | i::l=>by simpa [mO,fi,V.one] using Fm l
theorem P4:∀l:List Int,(l.map fun i=>[V.int .i64 i]).flatten=mO l
 | []=>rfl
 | i::l=>by rw [aow,aoE,P4 l];rfl
theorem e3.hy {h:ah} {v:V} {l:List Int} (H:e3 h 1 v l.length (mO l)) (aK:xd v) (aw:l.length<=top):ch Any h 1 (l.map nZ) v:=
 ⟨aK,by rw [anK];exact aw,⟨l.map fun i=>[V.int .i64 i],by rw [anK,P4];exact H,by simp,fun u hu=>by
   obtain ⟨i,_,rfl⟩:=List.mem_map.1 hu;rfl,fun i e u ag av=>by
   rw [aoo] at ag av;cases au:l[i]? with
   | none=>rw [au] at ag;cases ag
   | some y=>
     rw [au] at ag av;simp only [ao2,ant] at ag av;subst ag av
     exact .i .nil⟩,fun _ _=>trivial⟩
theorem cZ.hy {B:Nat} {h:ah} {v:V} {l:List Int} (H:cZ B h 1 v l.length (mO l)) (aw:l.length<=top):ch Any h 1 (l.map nZ) v:=H.v.hy H.room aw
theorem uw (h:ah) (size n:Nat) (ai:List V) (aw:ai.length=n * size) (aX:n<=top):∃H,h.new (.a_ ai 0 false)=H/\Ext h H/\cZ h.next H size (.slice (aD h.next) 0 n n) n ai:=
 ⟨_,rfl,(Ext.refl h).new _,aw,rfl,by rw [ee];exact anD _,hE (by rw [gI];omega),anD _,aX,ai,0,false,jD _,by omega,by rw [aok,ao8]⟩
end
end Go.Proofs.YtefceblncmdkhaaGreatDoor.bb
