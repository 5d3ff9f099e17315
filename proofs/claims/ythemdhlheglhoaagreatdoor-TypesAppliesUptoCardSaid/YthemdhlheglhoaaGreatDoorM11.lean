/- The abstract machine and its walks (a verified interpreter of the model's code: plain definitions and lemmas, no condition). Printed by a program from longer texts: names made short. -/
import Derived.Test.YthemdhlheglhoaaGreatDoorM5
import Derived.Test.YthemdhlheglhoaaGreatDoorM7
set_option linter.unusedSectionVars false
set_option linter.unusedSimpArgs false
set_option linter.unusedVariables false
namespace Go.Proofs.YthemdhlheglhoaaGreatDoor.a6
variable [Lay]
open Go Go.RowKit
theorem ed.room {B:Nat} {h:af} {size:Nat} {v:V} {n:Nat} {ad:List V} (H:ed B h size v n ad):AW v:=by
 intro b o l c e
 subst e
 have q:=H.2
 simp only at q
 omega
theorem Has.mod {M:aO→Prop} {h ab:af} {n:Nat} {l:List V} (B:Has h n l) (m:Mod M h ab) (aV:¬M (aq n)):Has ab n l:=⟨Nat.lt_of_lt_of_le B.lt m.next,(m.get _ (fj B.lt) aV).trans B.g⟩
structure gb (B:Nat) (G:aO→Prop) (h:af) (size:Nat) (es:List (List D)) (v:V):Prop where
 ex:∃us:List (List V),ed B h size v es.length us.flatten∧us.length=es.length∧(∀u ∈ us,u.length=size)∧∀(i:Nat) (e:List D) (u:List V),es[i]? =some e→us[i]? =some u→bV (fun b=>G b∧¬v.a8 b) h e u
section
variable {B:Nat} {G:aO→Prop} {h ab:af} {size:Nat} {es:List (List D)} {v:V}
theorem gb.nil (B:Nat) (G:aO→Prop) (h:af) (size:Nat):gb B G h size [] .b6:=⟨⟨[],⟨by simp,rfl⟩,rfl,fun u hu=>(by cases hu),fun i e u q=>(by simp at q)⟩⟩
theorem gb.one (H:gb B G h size es v):v.one=true∧v.cells=[v]∧v.e9=true:=by
 obtain ⟨us,a,_⟩:=H.ex
 exact a.v.one
theorem gb.base (H:gb B G h size es v) {b:aO} (ah:v.a8 b):B≤ei b:=by
 obtain ⟨us,a,_⟩:=H.ex
 exact a.base ah
theorem gb.FY (H:gb B G h size es v) {b:aO} (ah:v.a8 b):Old h b:=by
 obtain ⟨us,a,_⟩:=H.ex
 exact a.v.bO ah
theorem gb.ext (H:gb B G h size es v) (e:Ext h ab):gb B G ab size es v:=by
 obtain ⟨us,a,b,c,d⟩:=H.ex
 exact ⟨us,a.ext e,b,c,fun i x u au aC=>(d i x u au aC).ext e⟩
theorem gb.mod {M:aO→Prop} (H:gb B G h size es v) (m:Mod M h ab) (bn:∀b,v.a8 b→¬M b) (DT:∀b,G b→Old h b→¬v.a8 b→¬M b):gb B G ab size es v:=by
 obtain ⟨us,a,b,c,d⟩:=H.ex
 exact ⟨us,a.mod m bn,b,c,fun i x u au aC=>(d i x u au aC).mod m fun b q o=>⟨DT b q.1 o q.2,q⟩⟩
theorem gb.fx {F:aO→Prop} (H:gb B G h size es v) (ai:es.length≤top) (DT:∀b,G b→F b) (cJ:∀b,B≤ei b→F b):cZ F h size es v:=by
 obtain ⟨us,a,b,c,d⟩:=H.ex
 exact ⟨a.room,ai,⟨us,a.v,b,c,fun i x u au aC=>(d i x u au aC).fH fun b q=>DT b q.1⟩,fun b q=>cJ b (a.base q)⟩
theorem zd {α:Type} {l:List α} {x y:α} {i:Nat} (q:(l++[x])[i]? =some y):(i<l.length∧l[i]? =some y)∨(i=l.length∧y=x):=by
 by_cases aD:i<l.length
 · rw [List.getElem?_append_left aD] at q
   exact .inl ⟨aD,q⟩
 · rw [List.getElem?_append_right (by omega)] at q
   obtain ⟨aP,_⟩:=List.getElem?_eq_some_iff.1 q
   simp only [List.length_cons,List.length_nil] at aP
   have:i=l.length:=by omega
   subst this
   simp only [Nat.sub_self,List.getElem?_cons_zero,Option.some.injEq] at q
   exact .inr ⟨rfl,q.symm⟩
theorem gb.add {ds:List D} {cs:List V} (H:gb B G h size es v) (E:bV (fun b=>G b∧¬v.a8 b) h ds cs) (b5:1≤size) (cJ:B≤h.next) (hlen:(es.length+1) * size≤top) (eW:cs.length=size):
 ∃eQ ab,lh size v (.slice (aq h.next) 0 1 1) (h.new (.bb cs 0 false))=.val eQ ab∧gb B G ab size (es++[ds]) eQ∧Mod v.a8 h ab∧h.next+1≤ab.next∧∀b,eQ.a8 b→v.a8 b∨h.next<ei b:=by
 obtain ⟨us,a,b,c,d⟩:=H.ex
 obtain ⟨eQ,ab,au,aC,aM,bG,dJ⟩:=yo b5 a cJ hlen eW E.fk
 have fO:∀b,(G b∧¬v.a8 b)→Old h b→¬v.a8 b∧(G b∧¬eQ.a8 b):=fun b q o=>⟨q.2,q.1,fun z=>by
  rcases dJ b z with z | z
  · exact q.2 z
  · unfold Old at o;omega⟩
 refine ⟨eQ,ab,au,⟨us++[cs],?_,by simp [b],?_,?_⟩,aM,bG,dJ⟩
 · rw [List.length_append,List.length_singleton,List.flatten_append]
   simpa using aC
 · intro u hu
   rcases List.mem_append.1 hu with hu | hu
   · exact c u hu
   · rw [List.mem_singleton] at hu;subst hu;exact eW
 · intro i e u aN bf
   rcases zd aN with ⟨aa,aN⟩ | ⟨aa,rfl⟩
   · rcases zd bf with ⟨ae,bf⟩ | ⟨ae,rfl⟩
     · exact (d i e u aN bf).mod aM fO
     · omega
   · rcases zd bf with ⟨ae,bf⟩ | ⟨ae,rfl⟩
     · omega
     · exact E.mod aM fO
end
theorem ac1 {P:Program} {n:Nat} (h:n≤4611686018427387904):(ej.int .quo).run P (.int .i64 (n:Int)) (.int .i64 100)=some (.int .i64 ((n / 100:Nat):Int)):=by
 simp only [ej.run,jX,w5,V.dT]
 rw [show (lP .i64 .i64&&!Int.fs 100 0)=true from rfl,cond_true]
 rw [show (n:Int).tdiv 100=((n / 100:Nat):Int) from by rw [Int.tdiv_eq_ediv_of_nonneg (by omega)];rfl,wrap_i64 (by omega) (by omega)]
def YE (l:List Int):List V:=l.map (V.int .i64)
theorem L4 (h:af) (size n:Nat) (ad:List V) (ai:ad.length=n * size) (aV:n≤top):∃H,h.new (.bb ad 0 false)=H∧Ext h H∧ed h.next H size (.slice (aq h.next) 0 n n) n ad:=
 ⟨_,rfl,(Ext.refl h).new _,ai,rfl,by rw [c7];exact Nat.le_refl _,fj (by rw [fF];omega),Nat.le_refl _,aV,ad,0,false,lk _,by omega,by rw [List.drop_zero,List.take_length]⟩
end Go.Proofs.YthemdhlheglhoaaGreatDoor.a6
namespace Go.Proofs.YthemdhlheglhoaaGreatDoor.a6
variable [Lay]
open Go Go.RowKit
section
variable {α:Type}
def qX (e:α→V):List (Int × α)→List cx→Prop
 | [],[]=>True
 | (s,a)::c1,m::es=>m.k=.int .i64 s∧m.v=e a∧qX e c1 es
 | _,_=>False
def dj (s:Int):List (Int × α)→Option α
 | []=>none
 | (n,a)::c1=>if s=n then some a else dj s c1
def ob (s:Int) (x:α):List (Int × α)→List (Int × α)
 | []=>[(s,x)]
 | (n,a)::c1=>if s=n then (s,x)::c1 else (n,a)::ob s x c1
structure jJ (e:α→V) (h:af) (b:aO) (c1:List (Int × α)):Prop where
 ex:∃es clock,h.get b=.mp es clock∧qX e c1 es∧lM clock 0 es=true
 bO:Old h b
variable {e:α→V} {h ab:af} {b:aO} {c1:List (Int × α)} {es:List cx}
theorem qX.find (H:qX e c1 es) (s:Int):lS jL (.int .i64 s) es=some ((dj s c1).map e):=by
 induction c1 generalizing es with
 | nil=>
   cases es with
   | nil=>rfl
   | cons m es=>exact H.elim
 | cons p c1 bh=>
   obtain ⟨n,a⟩:=p
   cases es with
   | nil=>exact H.elim
   | cons m es=>
     obtain ⟨aa,ae,aI⟩:=H
     simp only [lS,aa,NN,dj]
     by_cases q:s=n
     · subst q;simp [ae]
     · simp only [q,decide_false,cond_false,if_false]
       exact bh aI
theorem qX.put (H:qX e c1 es) (s:Int) (x:α) (clock:Nat) (bH:Nat) (eg:bH≤clock) (B:lM clock bH es=true):
 ∃h6 f,j4 jL (.int .i64 s) (e x) clock es=some (h6,f)∧qX e (ob s x c1) h6∧lM (bif f then clock+1 else clock) bH h6=true:=by
 induction c1 generalizing es bH with
 | nil=>
   cases es with
   | nil=>
     refine ⟨_,true,rfl,⟨rfl,rfl,trivial⟩,?_⟩
     simp only [lM,cond_true,Bool.and_true,Bool.and_eq_true,Nat.ble_eq,Nat.blt_eq]
     omega
   | cons m es=>exact H.elim
 | cons p c1 bh=>
   obtain ⟨n,a⟩:=p
   cases es with
   | nil=>exact H.elim
   | cons m es=>
     obtain ⟨aa,ae,aI⟩:=H
     simp only [lM,Bool.and_eq_true,Nat.ble_eq,Nat.blt_eq] at B
     obtain ⟨⟨ct,cf⟩,gx⟩:=B
     simp only [j4,aa,NN,ob]
     by_cases q:s=n
     · subst q
       refine ⟨⟨.int .i64 s,e x,m.born⟩::es,false,by simp only [decide_true,cond_true],?_,?_⟩
       · rw [if_pos rfl];exact ⟨rfl,rfl,aI⟩
       · simp only [cond_false,lM,gx,Bool.and_true,Bool.and_eq_true,Nat.ble_eq,Nat.blt_eq];exact ⟨ct,cf⟩
     · obtain ⟨h6,f,au,aC,aM⟩:=bh (bH:=m.born+1) aI (by omega) gx
       refine ⟨m::h6,f,by simp only [q,decide_false,cond_false,au],by rw [if_neg q];exact ⟨aa,ae,aC⟩,?_⟩
       simp only [lM,aM,Bool.and_true,Bool.and_eq_true,Nat.ble_eq,Nat.blt_eq]
       refine ⟨ct,?_⟩
       cases f<;>simp only [cond_true,cond_false]<;>omega
theorem jJ.ext (H:jJ e h b c1) (x:Ext h ab):jJ e ab b c1:=by
 obtain ⟨es,clock,au,aC,aM⟩:=H.ex
 exact ⟨⟨es,clock,by rw [x.get b H.bO];exact au,aC,aM⟩,x.bO H.bO⟩
theorem jJ.mod {M:aO→Prop} (H:jJ e h b c1) (m:Mod M h ab) (ah:¬M b):jJ e ab b c1:=by
 obtain ⟨es,clock,au,aC,aM⟩:=H.ex
 exact ⟨⟨es,clock,by rw [m.get b H.bO ah];exact au,aC,aM⟩,m.bO H.bO⟩
theorem jJ.look (H:jJ e h b c1) (s:Int) (z:V) (ok:Bool):ma jL z ok h (.map b) (.int .i64 s)=some (match dj s c1 with
 | some a=>(bif ok then .tuple [e a,.bool true] else e a)
 | none=>(bif ok then .tuple [z,.bool false] else z)):=by
 obtain ⟨es,clock,au,aC,aM⟩:=H.ex
 simp only [ma,au,o',ql,b1.jv,aC.find]
 cases dj s c1<;>rfl
theorem jJ.nm (H:jJ e h b c1) (s:Int) (x:α):∃ab,lG jL h (.map b) (.int .i64 s) (e x)=some ab∧jJ e ab b (ob s x c1)∧Mod (fun p=>p=b) h ab∧ab.next=h.next:=by
 obtain ⟨es,clock,au,aC,aM⟩:=H.ex
 obtain ⟨h6,f,bw,cb,bS⟩:=aC.put s x clock 0 (Nat.zero_le _) aM
 refine ⟨h.set b (.mp h6 (bif f then clock+1 else clock)),by simp only [lG,au,b1.jv,bw],⟨⟨h6,_,by rw [c8,if_pos rfl],cb,bS⟩,?_⟩,(Mod.refl (fun p=>p=b) h).set (fun _=>rfl) _,rfl⟩
 exact ((Mod.refl (fun p=>p=b) h).set (fun _=>rfl) _).bO H.bO
theorem jJ.new (e:α→V) (h:af):jJ e (h.new (.mp [] 0)) (aq h.next) []:=
 ⟨⟨[],0,lk _,trivial,rfl⟩,fj (by rw [fF];omega)⟩
end
end Go.Proofs.YthemdhlheglhoaaGreatDoor.a6
