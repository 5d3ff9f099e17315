/- The abstract machine and its walks (a verified interpreter of the model's code: plain definitions and lemmas, no condition). Printed by a program from longer texts: names made short. -/
import Derived.Test.YthemdhlheglhoaaGreatDoorM5
import Derived.Test.YthemdhlheglhoaaGreatDoorM7
set_option linter.unusedSectionVars false
set_option linter.unusedSimpArgs false
set_option linter.unusedVariables false
set_option maxHeartbeats 64000000
noncomputable section
namespace Go.Proofs.YthemdhlheglhoaaGreatDoor.a7
section
open Go Go.RowKit
variable [Lay]
theorem cD.room {B:Nat} {h:ai} {size:Nat} {v:V} {n:Nat} {ah:List V} (H:cD B h size v n ah):rN v:=by intro b o l c e;subst e;have q:=H.2;simp only at q;omega
theorem Has.mod {M:aQ->Prop} {h ab:ai} {n:Nat} {l:List V} (B:Has h n l) (m:Mod M h ab) (aV:¬M (aj n)):Has ab n l:=⟨Nat.lt_of_lt_of_le B.lt m.next,(m.get _ (gi B.lt) aV).trans B.g⟩
structure hR (B:Nat) (G:aQ->Prop) (h:ai) (size:Nat) (es:List (List D)) (v:V):Prop where
 ex:∃us:List (List V),cD B h size v es.length us.flatten/\us.length=es.length/\(∀u ∈ us,u.length=size)/\∀(i:Nat) (e:List D) (u:List V),es[i]? =some e->us[i]? =some u->cW (fun b=>G b/\¬v.aM b) h e u
section
variable {B:Nat} {G:aQ->Prop} {h ab:ai} {size:Nat} {es:List (List D)} {v:V}
theorem hR.nil (B:Nat) (G:aQ->Prop) (h:ai) (size:Nat):hR B G h size [] .bF:=⟨⟨[],⟨by simp,rfl⟩,rfl,fun u hu=>(by cases hu),fun i e u q=>(by simp at q)⟩⟩
theorem hR.one (H:hR B G h size es v):v.one=true/\v.cells=[v]/\v.fY=true:=by obtain ⟨us,a,_⟩:=H.ex;exact a.v.one
theorem hR.base (H:hR B G h size es v) {b:aQ} (ae:v.aM b):B<=cI b:=by obtain ⟨us,a,_⟩:=H.ex;exact a.base ae
theorem hR.ak7 (H:hR B G h size es v) {b:aQ} (ae:v.aM b):Old h b:=by obtain ⟨us,a,_⟩:=H.ex;exact a.v.bG ae
theorem hR.ext (H:hR B G h size es v) (e:Ext h ab):hR B G ab size es v:=by obtain ⟨us,a,b,c,d⟩:=H.ex;exact ⟨us,a.ext e,b,c,fun i x u ar av=>(d i x u ar av).ext e⟩
theorem hR.fU {F:aQ->Prop} (H:hR B G h size es v) (ay:es.length<=top) (kA:∀b,G b->F b) (c_:∀b,B<=cI b->F b):cJ F h size es v:=by obtain ⟨us,a,b,c,d⟩:=H.ex;exact ⟨a.room,ay,⟨us,a.v,b,c,fun i x u ar av=>(d i x u ar av).jG fun b q=>kA b q.1⟩,fun b q=>c_ b (a.base q)⟩
theorem Bk {α:Type} {l:List α} {x y:α} {i:Nat} (q:(l++[x])[i]? =some y):(i<l.length/\l[i]? =some y)\/(i=l.length/\y=x):=by
 by_cases an:i<l.length
 . rw [List.getElem?_append_left an] at q;exact .inl ⟨an,q⟩
 . rw [List.getElem?_append_right (by omega)] at q;obtain ⟨aO,_⟩:=List.getElem?_eq_some_iff.1 q;simp only [List.length_cons,List.length_nil] at aO;have:i=l.length:=by omega
   subst this;simp only [Nat.sub_self,List.getElem?_cons_zero,Option.some.injEq] at q;exact .inr ⟨rfl,q.symm⟩
theorem hR.add {ds:List D} {cs:List V} (H:hR B G h size es v) (E:cW (fun b=>G b/\¬v.aM b) h ds cs) (cr:1<=size) (c_:B<=h.next) (hlen:(es.length+1) * size<=top) (ho:cs.length=size):
 ∃c9 ab,iK size v (.slice (aj h.next) 0 1 1) (h.new (.bC cs 0 false))=.val c9 ab/\hR B G ab size (es++[ds]) c9/\Mod v.aM h ab/\h.next+1<=ab.next/\∀b,c9.aM b->v.aM b\/h.next<cI b:=by
 obtain ⟨us,a,b,c,d⟩:=H.ex;obtain ⟨c9,ab,ar,av,aK,bU,dV⟩:=pS cr a c_ hlen ho E.ev;have gT:∀b,(G b/\¬v.aM b)->Old h b->¬v.aM b/\(G b/\¬c9.aM b):=fun b q o=>⟨q.2,q.1,fun z=>by
  rcases dV b z with z | z
  . exact q.2 z
  . unfold Old at o;omega⟩
 refine ⟨c9,ab,ar,⟨us++[cs],?_,by simp [b],?_,?_⟩,aK,bU,dV⟩
 . rw [List.length_append,List.length_singleton,List.flatten_append];simpa using av
 . intro u hu;rcases List.mem_append.1 hu with hu | hu
   . exact c u hu
   . rw [List.mem_singleton] at hu;subst hu;exact ho
 . intro i e u aP a';rcases Bk aP with ⟨aa,aP⟩ | ⟨aa,rfl⟩
   . rcases Bk a' with ⟨ad,a'⟩ | ⟨ad,rfl⟩
     . exact (d i e u aP a').mod aK gT
     . omega
   . rcases Bk a' with ⟨ad,a'⟩ | ⟨ad,rfl⟩
     . omega
     . exact E.mod aK gT
end
theorem amh {P:Program} {n:Nat} (h:n<=4611686018427387904):(eG.int .quo).run P (.int .i64 (n:Int)) (.int .i64 100)=some (.int .i64 ((n / 100:Nat):Int)):=by simp only [eG.run,l6,B',V.eu];rw [show (o4 .i64 .i64&&!Int.gS 100 0)=true from rfl,cond_true];rw [show (n:Int).tdiv 100=((n / 100:Nat):Int) from by rw [Int.tdiv_eq_ediv_of_nonneg (by omega)];rfl,wrap_i64 (by omega) (by omega)]
def l7 (l:List Int):List V:=l.map (V.int .i64)
theorem FT (l:List Int):(l7 l).length=l.length:=List.length_map _
theorem aj7 (h:ai) (size n:Nat) (ah:List V) (ay:ah.length=n * size) (aV:n<=top):∃H,h.new (.bC ah 0 false)=H/\Ext h H/\cD h.next H size (.slice (aj h.next) 0 n n) n ah:=
 ⟨_,rfl,(Ext.refl h).new _,ay,rfl,by rw [cc];exact Nat.le_refl _,gi (by rw [gN];omega),Nat.le_refl _,aV,ah,0,false,ni _,by omega,by rw [List.drop_zero,List.take_length]⟩
section
variable {α:Type}
def qJ (e:α->V):List (Int × α)->List cL->Prop
 | [],[]=>True
 | (s,a)::bM,m::es=>m.k=.int .i64 s/\m.v=e a/\qJ e bM es
 | _,_=>False
def ff (s:Int):List (Int × α)->Option α
 | []=>none
 | (n,a)::bM=>if s=n then some a else ff s bM
def zL (s:Int) (x:α):List (Int × α)->List (Int × α)
 | []=>[(s,x)]
 | (n,a)::bM=>if s=n then (s,x)::bM else (n,a)::zL s x bM
structure jm (e:α->V) (h:ai) (b:aQ) (bM:List (Int × α)):Prop where
 ex:∃es clock,h.get b=.mp es clock/\qJ e bM es/\h2 clock 0 es=true
 bG:Old h b
variable {e:α->V} {h ab:ai} {b:aQ} {bM:List (Int × α)} {es:List cL}
theorem qJ.find (H:qJ e bM es) (s:Int):nh oc (.int .i64 s) es=some ((ff s bM).map e):=by
 induction bM generalizing es with
 | nil=>
   cases es with
   | nil=>rfl
   | cons m es=>exact H.elim
 | cons p bM br=>
   obtain ⟨n,a⟩:=p;cases es with
   | nil=>exact H.elim
   | cons m es=>
     obtain ⟨aa,ad,aJ⟩:=H;simp only [nh,aa,Wy,ff];by_cases q:s=n
     . subst q;simp [ad]
     . simp only [q,decide_false,cond_false,if_false];exact br aJ
theorem qJ.put (H:qJ e bM es) (s:Int) (x:α) (clock:Nat) (bB:Nat) (eD:bB<=clock) (B:h2 clock bB es=true):
 ∃gy f,k8 oc (.int .i64 s) (e x) clock es=some (gy,f)/\qJ e (zL s x bM) gy/\h2 (bif f then clock+1 else clock) bB gy=true:=by
 induction bM generalizing es bB with
 | nil=>
   cases es with
   | nil=>
     refine ⟨_,true,rfl,⟨rfl,rfl,trivial⟩,?_⟩;simp only [h2,cond_true,Bool.and_true,Bool.and_eq_true,Nat.ble_eq,Nat.blt_eq];omega
   | cons m es=>exact H.elim
 | cons p bM br=>
   obtain ⟨n,a⟩:=p;cases es with
   | nil=>exact H.elim
   | cons m es=>
     obtain ⟨aa,ad,aJ⟩:=H;simp only [h2,Bool.and_eq_true,Nat.ble_eq,Nat.blt_eq] at B;obtain ⟨⟨cb,b9⟩,e3⟩:=B;simp only [k8,aa,Wy,zL];by_cases q:s=n
     . subst q;refine ⟨⟨.int .i64 s,e x,m.born⟩::es,false,by simp only [decide_true,cond_true],?_,?_⟩
       . rw [if_pos rfl];exact ⟨rfl,rfl,aJ⟩
       . simp only [cond_false,h2,e3,Bool.and_true,Bool.and_eq_true,Nat.ble_eq,Nat.blt_eq];exact ⟨cb,b9⟩
     . obtain ⟨gy,f,ar,av,aK⟩:=br (bB:=m.born+1) aJ (by omega) e3;refine ⟨m::gy,f,by simp only [q,decide_false,cond_false,ar],by rw [if_neg q];exact ⟨aa,ad,av⟩,?_⟩;simp only [h2,aK,Bool.and_true,Bool.and_eq_true,Nat.ble_eq,Nat.blt_eq];refine ⟨cb,?_⟩;cases f<;>simp only [cond_true,cond_false]<;>omega
theorem jm.ext (H:jm e h b bM) (x:Ext h ab):jm e ab b bM:=by obtain ⟨es,clock,ar,av,aK⟩:=H.ex;exact ⟨⟨es,clock,by rw [x.get b H.bG];exact ar,av,aK⟩,x.bG H.bG⟩
theorem jm.mod {M:aQ->Prop} (H:jm e h b bM) (m:Mod M h ab) (ae:¬M b):jm e ab b bM:=by obtain ⟨es,clock,ar,av,aK⟩:=H.ex;exact ⟨⟨es,clock,by rw [m.get b H.bG ae];exact ar,av,aK⟩,m.bG H.bG⟩
theorem jm.look (H:jm e h b bM) (s:Int) (z:V) (ok:Bool):rz oc z ok h (.map b) (.int .i64 s)=some (match ff s bM with
 | some a=>(bif ok then .tuple [e a,.bool true] else e a)
 | none=>(bif ok then .tuple [z,.bool false] else z)):=by
 obtain ⟨es,clock,ar,av,aK⟩:=H.ex;simp only [rz,ar,jx,s3,cf.j9,av.find];cases ff s bM<;>rfl
theorem jm.e0 (H:jm e h b bM) (s:Int) (x:α):∃ab,k_ oc h (.map b) (.int .i64 s) (e x)=some ab/\jm e ab b (zL s x bM)/\Mod (fun p=>p=b) h ab/\ab.next=h.next:=by obtain ⟨es,clock,ar,av,aK⟩:=H.ex;obtain ⟨gy,f,bw,cw,cn⟩:=av.put s x clock 0 (Nat.zero_le _) aK;refine ⟨h.set b (.mp gy (bif f then clock+1 else clock)),by simp only [k_,ar,cf.j9,bw],⟨⟨gy,_,by rw [dy,if_pos rfl],cw,cn⟩,?_⟩,(Mod.refl (fun p=>p=b) h).set (fun _=>rfl) _,rfl⟩;exact ((Mod.refl (fun p=>p=b) h).set (fun _=>rfl) _).bG H.bG
theorem jm.new (e:α->V) (h:ai):jm e (h.new (.mp [] 0)) (aj h.next) []:=
 ⟨⟨[],0,ni _,trivial,rfl⟩,gi (by rw [gN];omega)⟩
end
end
end Go.Proofs.YthemdhlheglhoaaGreatDoor.a7
