/- The abstract machine and its walks (a verified interpreter of the model's code: plain definitions and lemmas, no condition). Printed by a program from longer texts: names made short. -/
import Derived.Test.YthemdhlheglhoaaGreatDoorM4
import Derived.Test.YthemdhlheglhoaaGreatDoorM7
set_option linter.unusedSectionVars false
set_option linter.unusedSimpArgs false
set_option linter.unusedVariables false
set_option maxHeartbeats 64000000
noncomputable section
namespace Go.Proofs.YthemdhlheglhoaaGreatDoor.aY
section
open Go Go.RowKit
variable [Lay]
theorem dW.room {B:Nat} {h:ah} {size:Nat} {v:V} {n:Nat} {ag:List V} (H:dW B h size v n ag):sX v:=by intro b o l c e;subst e;have q:=H.2;simp only at q;omega
theorem Has.mod {M:aO->Prop} {h ab:ah} {n:Nat} {l:List V} (B:Has h n l) (m:Mod M h ab) (aQ:¬M (aj n)):Has ab n l:=⟨Nat.lt_of_lt_of_le B.lt m.next,(m.get _ (gi B.lt) aQ).trans B.g⟩
structure iJ (B:Nat) (G:aO->Prop) (h:ah) (size:Nat) (es:List (List D)) (v:V):Prop where
 ex:∃us:List (List V),dW B h size v es.length us.flatten/\us.length=es.length/\(∀u ∈ us,u.length=size)/\∀(i:Nat) (e:List D) (u:List V),es[i]? =some e->us[i]? =some u->b5 (fun b=>G b/\¬v.aW b) h e u
section
variable {B:Nat} {G:aO->Prop} {h ab:ah} {size:Nat} {es:List (List D)} {v:V}
theorem iJ.nil (B:Nat) (G:aO->Prop) (h:ah) (size:Nat):iJ B G h size [] .bU:=⟨⟨[],⟨by simp,rfl⟩,rfl,fun u hu=>(by cases hu),fun i e u q=>(by simp at q)⟩⟩
theorem iJ.one (H:iJ B G h size es v):v.one=true/\v.cells=[v]/\v.fI=true:=by obtain ⟨us,a,_⟩:=H.ex;exact a.v.one
theorem iJ.base (H:iJ B G h size es v) {b:aO} (ae:v.aW b):B<=dr b:=by obtain ⟨us,a,_⟩:=H.ex;exact a.base ae
theorem iJ.fo {F:aO->Prop} (H:iJ B G h size es v) (az:es.length<=top) (tN:∀b,G b->F b) (dc:∀b,B<=dr b->F b):dj F h size es v:=by obtain ⟨us,a,b,c,d⟩:=H.ex;exact ⟨a.room,az,⟨us,a.v,b,c,fun i x u ao ax=>(d i x u ao ax).hJ fun b q=>tN b q.1⟩,fun b q=>dc b (a.base q)⟩
theorem A' {α:Type} {l:List α} {x y:α} {i:Nat} (q:(l++[x])[i]? =some y):(i<l.length/\l[i]? =some y)\/(i=l.length/\y=x):=by
 by_cases aq:i<l.length
 . rw [List.getElem?_append_left aq] at q;exact .inl ⟨aq,q⟩
 . rw [List.getElem?_append_right (by omega)] at q;obtain ⟨aT,_⟩:=List.getElem?_eq_some_iff.1 q;simp only [List.length_cons,List.length_nil] at aT;have:i=l.length:=by omega
   subst this;simp only [Nat.sub_self,List.getElem?_cons_zero,Option.some.injEq] at q;exact .inr ⟨rfl,q.symm⟩
theorem iJ.add {ds:List D} {cs:List V} (H:iJ B G h size es v) (E:b5 (fun b=>G b/\¬v.aW b) h ds cs) (b':1<=size) (dc:B<=h.next) (hlen:(es.length+1) * size<=top) (hh:cs.length=size):
 ∃c1 ab,lr size v (.slice (aj h.next) 0 1 1) (h.new (.bx cs 0 false))=.val c1 ab/\iJ B G ab size (es++[ds]) c1/\Mod v.aW h ab/\h.next+1<=ab.next/\∀b,c1.aW b->v.aW b\/h.next<dr b:=by
 obtain ⟨us,a,b,c,d⟩:=H.ex;obtain ⟨c1,ab,ao,ax,aL,bY,ee⟩:=vo b' a dc hlen hh E.fJ;have gB:∀b,(G b/\¬v.aW b)->Old h b->¬v.aW b/\(G b/\¬c1.aW b):=fun b q o=>⟨q.2,q.1,fun z=>by
  rcases ee b z with z | z
  . exact q.2 z
  . unfold Old at o;omega⟩
 refine ⟨c1,ab,ao,⟨us++[cs],?_,by simp [b],?_,?_⟩,aL,bY,ee⟩
 . rw [List.length_append,List.length_singleton,List.flatten_append];simpa using ax
 . intro u hu;rcases List.mem_append.1 hu with hu | hu
   . exact c u hu
   . rw [List.mem_singleton] at hu;subst hu;exact hh
 . intro i e u aN aZ;rcases A' aN with ⟨aa,aN⟩ | ⟨aa,rfl⟩
   . rcases A' aZ with ⟨ad,aZ⟩ | ⟨ad,rfl⟩
     . exact (d i e u aN aZ).mod aL gB
     . omega
   . rcases A' aZ with ⟨ad,aZ⟩ | ⟨ad,rfl⟩
     . omega
     . exact E.mod aL gB
end
theorem V4 {P:Program} {n:Nat} (h:n<=4611686018427387904):(eK.int .quo).run P (.int .i64 (n:Int)) (.int .i64 100)=some (.int .i64 ((n / 100:Nat):Int)):=by simp only [eK.run,lK,BR,V.eo];rw [show (oL .i64 .i64&&!Int.gz 100 0)=true from rfl,cond_true];rw [show (n:Int).tdiv 100=((n / 100:Nat):Int) from by rw [Int.tdiv_eq_ediv_of_nonneg (by omega)];rfl,wrap_i64 (by omega) (by omega)]
def q9 (l:List Int):List V:=l.map (V.int .i64)
theorem FH (l:List Int):(q9 l).length=l.length:=List.length_map _
theorem Ud (h:ah) (size n:Nat) (ag:List V) (az:ag.length=n * size) (aQ:n<=top):∃H,h.new (.bx ag 0 false)=H/\Ext h H/\dW h.next H size (.slice (aj h.next) 0 n n) n ag:=
 ⟨_,rfl,(Ext.refl h).new _,az,rfl,by rw [cm];exact Nat.le_refl _,gi (by rw [gF];omega),Nat.le_refl _,aQ,ag,0,false,nQ _,by omega,by rw [List.drop_zero,List.take_length]⟩
section
variable {α:Type}
def qu (e:α->V):List (Int × α)->List cE->Prop
 | [],[]=>True
 | (s,a)::bw,m::es=>m.k=.int .i64 s/\m.v=e a/\qu e bw es
 | _,_=>False
def ca (s:Int):List (Int × α)->Option α
 | []=>none
 | (n,a)::bw=>if s=n then some a else ca s bw
def pf (s:Int) (x:α):List (Int × α)->List (Int × α)
 | []=>[(s,x)]
 | (n,a)::bw=>if s=n then (s,x)::bw else (n,a)::pf s x bw
structure iI (e:α->V) (h:ah) (b:aO) (bw:List (Int × α)):Prop where
 ex:∃es clock,h.get b=.mp es clock/\qu e bw es/\hA clock 0 es=true
 bP:Old h b
variable {e:α->V} {h ab:ah} {b:aO} {bw:List (Int × α)} {es:List cE}
theorem qu.find (H:qu e bw es) (s:Int):mI lv (.int .i64 s) es=some ((ca s bw).map e):=by
 induction bw generalizing es with
 | nil=>
   cases es with
   | nil=>rfl
   | cons m es=>exact H.elim
 | cons p bw bd=>
   obtain ⟨n,a⟩:=p;cases es with
   | nil=>exact H.elim
   | cons m es=>
     obtain ⟨aa,ad,aH⟩:=H;simp only [mI,aa,Wp,ca];by_cases q:s=n
     . subst q;simp [ad]
     . simp only [q,decide_false,cond_false,if_false];exact bd aH
theorem qu.put (H:qu e bw es) (s:Int) (x:α) (clock:Nat) (bC:Nat) (eC:bC<=clock) (B:hA clock bC es=true):
 ∃gf f,kM lv (.int .i64 s) (e x) clock es=some (gf,f)/\qu e (pf s x bw) gf/\hA (bif f then clock+1 else clock) bC gf=true:=by
 induction bw generalizing es bC with
 | nil=>
   cases es with
   | nil=>
     refine ⟨_,true,rfl,⟨rfl,rfl,trivial⟩,?_⟩;simp only [hA,cond_true,Bool.and_true,Bool.and_eq_true,Nat.ble_eq,Nat.blt_eq];omega
   | cons m es=>exact H.elim
 | cons p bw bd=>
   obtain ⟨n,a⟩:=p;cases es with
   | nil=>exact H.elim
   | cons m es=>
     obtain ⟨aa,ad,aH⟩:=H;simp only [hA,Bool.and_eq_true,Nat.ble_eq,Nat.blt_eq] at B;obtain ⟨⟨cn,ch⟩,gk⟩:=B;simp only [kM,aa,Wp,pf];by_cases q:s=n
     . subst q;refine ⟨⟨.int .i64 s,e x,m.born⟩::es,false,by simp only [decide_true,cond_true],?_,?_⟩
       . rw [if_pos rfl];exact ⟨rfl,rfl,aH⟩
       . simp only [cond_false,hA,gk,Bool.and_true,Bool.and_eq_true,Nat.ble_eq,Nat.blt_eq];exact ⟨cn,ch⟩
     . obtain ⟨gf,f,ao,ax,aL⟩:=bd (bC:=m.born+1) aH (by omega) gk;refine ⟨m::gf,f,by simp only [q,decide_false,cond_false,ao],by rw [if_neg q];exact ⟨aa,ad,ax⟩,?_⟩;simp only [hA,aL,Bool.and_true,Bool.and_eq_true,Nat.ble_eq,Nat.blt_eq];refine ⟨cn,?_⟩;cases f<;>simp only [cond_true,cond_false]<;>omega
theorem iI.ext (H:iI e h b bw) (x:Ext h ab):iI e ab b bw:=by obtain ⟨es,clock,ao,ax,aL⟩:=H.ex;exact ⟨⟨es,clock,by rw [x.get b H.bP];exact ao,ax,aL⟩,x.bP H.bP⟩
theorem iI.mod {M:aO->Prop} (H:iI e h b bw) (m:Mod M h ab) (ae:¬M b):iI e ab b bw:=by obtain ⟨es,clock,ao,ax,aL⟩:=H.ex;exact ⟨⟨es,clock,by rw [m.get b H.bP ae];exact ao,ax,aL⟩,m.bP H.bP⟩
theorem iI.look (H:iI e h b bw) (s:Int) (z:V) (ok:Bool):o_ lv z ok h (.map b) (.int .i64 s)=some (match ca s bw with
 | some a=>(bif ok then .tuple [e a,.bool true] else e a)
 | none=>(bif ok then .tuple [z,.bool false] else z)):=by
 obtain ⟨es,clock,ao,ax,aL⟩:=H.ex;simp only [o_,ao,je,sJ,b9.jJ,ax.find];cases ca s bw<;>rfl
theorem iI.eE (H:iI e h b bw) (s:Int) (x:α):∃ab,kt lv h (.map b) (.int .i64 s) (e x)=some ab/\iI e ab b (pf s x bw)/\Mod (fun p=>p=b) h ab/\ab.next=h.next:=by obtain ⟨es,clock,ao,ax,aL⟩:=H.ex;obtain ⟨gf,f,bD,b3,cc⟩:=ax.put s x clock 0 (Nat.zero_le _) aL;refine ⟨h.set b (.mp gf (bif f then clock+1 else clock)),by simp only [kt,ao,b9.jJ,bD],⟨⟨gf,_,by rw [dv,if_pos rfl],b3,cc⟩,?_⟩,(Mod.refl (fun p=>p=b) h).set (fun _=>rfl) _,rfl⟩;exact ((Mod.refl (fun p=>p=b) h).set (fun _=>rfl) _).bP H.bP
theorem iI.new (e:α->V) (h:ah):iI e (h.new (.mp [] 0)) (aj h.next) []:=
 ⟨⟨[],0,nQ _,trivial,rfl⟩,gi (by rw [gF];omega)⟩
end
end
end Go.Proofs.YthemdhlheglhoaaGreatDoor.aY
