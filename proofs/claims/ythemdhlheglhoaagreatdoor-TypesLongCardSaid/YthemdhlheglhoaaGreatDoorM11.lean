/- The abstract machine and its walks (a verified interpreter of the model's code: plain definitions and lemmas, no condition). Printed by a program from longer texts: names made short. -/
import Derived.Test.YthemdhlheglhoaaGreatDoorM5
import Derived.Test.YthemdhlheglhoaaGreatDoorM7
set_option linter.unusedSectionVars false
set_option linter.unusedSimpArgs false
set_option linter.unusedVariables false
set_option maxHeartbeats 64000000
noncomputable section
namespace Go.Proofs.YthemdhlheglhoaaGreatDoor.a8
section
open Go Go.RowKit
variable [Lay]
theorem cJ.room {B:Nat} {h:ah} {size:Nat} {v:V} {n:Nat} {ai:List V} (H:cJ B h size v n ai):s9 v:=by intro b o l c e;subst e;have q:=H.2;simp only at q;omega
theorem Has.mod {M:aQ->Prop} {h ab:ah} {n:Nat} {l:List V} (B:Has h n l) (m:Mod M h ab) (aV:¬M (aj n)):Has ab n l:=⟨Nat.lt_of_lt_of_le B.lt m.next,(m.get _ (fW B.lt) aV).trans B.g⟩
structure lC (B:Nat) (G:aQ->Prop) (h:ah) (size:Nat) (es:List (List D)) (v:V):Prop where
 ex:∃us:List (List V),cJ B h size v es.length us.flatten/\us.length=es.length/\(∀u ∈ us,u.length=size)/\∀(i:Nat) (e:List D) (u:List V),es[i]? =some e->us[i]? =some u->cW (fun b=>G b/\¬v.aN b) h e u
section
variable {B:Nat} {G:aQ->Prop} {h ab:ah} {size:Nat} {es:List (List D)} {v:V}
theorem lC.one (H:lC B G h size es v):v.one=true/\v.cells=[v]/\v.gd=true:=by obtain ⟨us,a,_⟩:=H.ex;exact a.v.one
theorem lC.base (H:lC B G h size es v) {b:aQ} (ae:v.aN b):B<=cB b:=by obtain ⟨us,a,_⟩:=H.ex;exact a.base ae
theorem lC.fY {F:aQ->Prop} (H:lC B G h size es v) (aA:es.length<=top) (kn:∀b,G b->F b) (da:∀b,B<=cB b->F b):dc F h size es v:=by obtain ⟨us,a,b,c,d⟩:=H.ex;exact ⟨a.room,aA,⟨us,a.v,b,c,fun i x u ar aw=>(d i x u ar aw).k1 fun b q=>kn b q.1⟩,fun b q=>da b (a.base q)⟩
theorem R1 {α:Type} {l:List α} {x y:α} {i:Nat} (q:(l++[x])[i]? =some y):(i<l.length/\l[i]? =some y)\/(i=l.length/\y=x):=by
 by_cases ao:i<l.length
 . rw [List.getElem?_append_left ao] at q;exact .inl ⟨ao,q⟩
 . rw [List.getElem?_append_right (by omega)] at q;obtain ⟨aO,_⟩:=List.getElem?_eq_some_iff.1 q;simp only [List.length_cons,List.length_nil] at aO;have:i=l.length:=by omega
   subst this;simp only [Nat.sub_self,List.getElem?_cons_zero,Option.some.injEq] at q;exact .inr ⟨rfl,q.symm⟩
end
def lY (l:List Int):List V:=l.map (V.int .i64)
theorem FY (l:List Int):(lY l).length=l.length:=List.length_map _
theorem Lv (h:ah) (size n:Nat) (ai:List V) (aA:ai.length=n * size) (aV:n<=top):∃H,h.new (.bE ai 0 false)=H/\Ext h H/\cJ h.next H size (.slice (aj h.next) 0 n n) n ai:=
 ⟨_,rfl,(Ext.refl h).new _,aA,rfl,by rw [b9];exact Nat.le_refl _,fW (by rw [gk];omega),Nat.le_refl _,aV,ai,0,false,nd _,by omega,by rw [List.drop_zero,List.take_length]⟩
section
variable {α:Type}
def qI (e:α->V):List (Int × α)->List cI->Prop
 | [],[]=>True
 | (s,a)::bM,m::es=>m.k=.int .i64 s/\m.v=e a/\qI e bM es
 | _,_=>False
def e_ (s:Int):List (Int × α)->Option α
 | []=>none
 | (n,a)::bM=>if s=n then some a else e_ s bM
def zQ (s:Int) (x:α):List (Int × α)->List (Int × α)
 | []=>[(s,x)]
 | (n,a)::bM=>if s=n then (s,x)::bM else (n,a)::zQ s x bM
structure je (e:α->V) (h:ah) (b:aQ) (bM:List (Int × α)):Prop where
 ex:∃es clock,h.get b=.mp es clock/\qI e bM es/\hV clock 0 es=true
 bF:Old h b
variable {e:α->V} {h ab:ah} {b:aQ} {bM:List (Int × α)} {es:List cI}
theorem qI.find (H:qI e bM es) (s:Int):nc oa (.int .i64 s) es=some ((e_ s bM).map e):=by
 induction bM generalizing es with
 | nil=>
   cases es with
   | nil=>rfl
   | cons m es=>exact H.elim
 | cons p bM bq=>
   obtain ⟨n,a⟩:=p;cases es with
   | nil=>exact H.elim
   | cons m es=>
     obtain ⟨aa,ad,aJ⟩:=H;simp only [nc,aa,Wf,e_];by_cases q:s=n
     . subst q;simp [ad]
     . simp only [q,decide_false,cond_false,if_false];exact bq aJ
theorem qI.put (H:qI e bM es) (s:Int) (x:α) (clock:Nat) (bC:Nat) (ey:bC<=clock) (B:hV clock bC es=true):
 ∃gw f,kW oa (.int .i64 s) (e x) clock es=some (gw,f)/\qI e (zQ s x bM) gw/\hV (bif f then clock+1 else clock) bC gw=true:=by
 induction bM generalizing es bC with
 | nil=>
   cases es with
   | nil=>
     refine ⟨_,true,rfl,⟨rfl,rfl,trivial⟩,?_⟩;simp only [hV,cond_true,Bool.and_true,Bool.and_eq_true,Nat.ble_eq,Nat.blt_eq];omega
   | cons m es=>exact H.elim
 | cons p bM bq=>
   obtain ⟨n,a⟩:=p;cases es with
   | nil=>exact H.elim
   | cons m es=>
     obtain ⟨aa,ad,aJ⟩:=H;simp only [hV,Bool.and_eq_true,Nat.ble_eq,Nat.blt_eq] at B;obtain ⟨⟨cb,ca⟩,e5⟩:=B;simp only [kW,aa,Wf,zQ];by_cases q:s=n
     . subst q;refine ⟨⟨.int .i64 s,e x,m.born⟩::es,false,by simp only [decide_true,cond_true],?_,?_⟩
       . rw [if_pos rfl];exact ⟨rfl,rfl,aJ⟩
       . simp only [cond_false,hV,e5,Bool.and_true,Bool.and_eq_true,Nat.ble_eq,Nat.blt_eq];exact ⟨cb,ca⟩
     . obtain ⟨gw,f,ar,aw,aK⟩:=bq (bC:=m.born+1) aJ (by omega) e5;refine ⟨m::gw,f,by simp only [q,decide_false,cond_false,ar],by rw [if_neg q];exact ⟨aa,ad,aw⟩,?_⟩;simp only [hV,aK,Bool.and_true,Bool.and_eq_true,Nat.ble_eq,Nat.blt_eq];refine ⟨cb,?_⟩;cases f<;>simp only [cond_true,cond_false]<;>omega
theorem je.ext (H:je e h b bM) (x:Ext h ab):je e ab b bM:=by obtain ⟨es,clock,ar,aw,aK⟩:=H.ex;exact ⟨⟨es,clock,by rw [x.get b H.bF];exact ar,aw,aK⟩,x.bF H.bF⟩
theorem je.mod {M:aQ->Prop} (H:je e h b bM) (m:Mod M h ab) (ae:¬M b):je e ab b bM:=by obtain ⟨es,clock,ar,aw,aK⟩:=H.ex;exact ⟨⟨es,clock,by rw [m.get b H.bF ae];exact ar,aw,aK⟩,m.bF H.bF⟩
theorem je.look (H:je e h b bM) (s:Int) (z:V) (ok:Bool):ru oa z ok h (.map b) (.int .i64 s)=some (match e_ s bM with
 | some a=>(bif ok then .tuple [e a,.bool true] else e a)
 | none=>(bif ok then .tuple [z,.bool false] else z)):=by
 obtain ⟨es,clock,ar,aw,aK⟩:=H.ex;simp only [ru,ar,jq,sX,cd.jZ,aw.find];cases e_ s bM<;>rfl
theorem je.eU (H:je e h b bM) (s:Int) (x:α):∃ab,k0 oa h (.map b) (.int .i64 s) (e x)=some ab/\je e ab b (zQ s x bM)/\Mod (fun p=>p=b) h ab/\ab.next=h.next:=by obtain ⟨es,clock,ar,aw,aK⟩:=H.ex;obtain ⟨gw,f,br,cF,cr⟩:=aw.put s x clock 0 (Nat.zero_le _) aK;refine ⟨h.set b (.mp gw (bif f then clock+1 else clock)),by simp only [k0,ar,cd.jZ,br],⟨⟨gw,_,by rw [dC,if_pos rfl],cF,cr⟩,?_⟩,(Mod.refl (fun p=>p=b) h).set (fun _=>rfl) _,rfl⟩;exact ((Mod.refl (fun p=>p=b) h).set (fun _=>rfl) _).bF H.bF
theorem je.new (e:α->V) (h:ah):je e (h.new (.mp [] 0)) (aj h.next) []:=
 ⟨⟨[],0,nd _,trivial,rfl⟩,fW (by rw [gk];omega)⟩
end
end
end Go.Proofs.YthemdhlheglhoaaGreatDoor.a8
