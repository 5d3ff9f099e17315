/- The abstract machine and its walks (a verified interpreter of the model's code: plain definitions and lemmas, no condition). Printed by a program from longer texts: names made short. -/
import Derived.Test.YthemdhlheglhoaaGreatDoorM5
import Derived.Test.YthemdhlheglhoaaGreatDoorM7
set_option linter.unusedSectionVars false
set_option linter.unusedSimpArgs false
set_option linter.unusedVariables false
namespace Go.Proofs.YthemdhlheglhoaaGreatDoor.aY
variable [Lay]
open Go Go.RowKit
theorem dL.room {B:Nat} {h:af} {size:Nat} {v:V} {n:Nat} {ad:List V} (H:dL B h size v n ad):y_ v:=by
 intro b o l c e
 subst e
 have q:=H.2
 simp only at q
 omega
theorem Has.mod {M:aN→Prop} {h ab:af} {n:Nat} {l:List V} (B:Has h n l) (m:Mod M h ab) (aS:¬M (ai n)):Has ab n l:=⟨Nat.lt_of_lt_of_le B.lt m.next,(m.get _ (e3 B.lt) aS).trans B.g⟩
structure afJ (B:Nat) (G:aN→Prop) (h:af) (size:Nat) (es:List (List D)) (v:V):Prop where
 ex:∃us:List (List V),dL B h size v es.length us.flatten∧us.length=es.length∧(∀u ∈ us,u.length=size)∧∀(i:Nat) (e:List D) (u:List V),es[i]? =some e→us[i]? =some u→b5 (fun b=>G b∧¬v.bc b) h e u
section
variable {B:Nat} {G:aN→Prop} {h ab:af} {size:Nat} {es:List (List D)} {v:V}
theorem VU {α:Type} {l:List α} {x y:α} {i:Nat} (q:(l++[x])[i]? =some y):(i<l.length∧l[i]? =some y)∨(i=l.length∧y=x):=by
 by_cases aF:i<l.length
 · rw [List.getElem?_append_left aF] at q
   exact .inl ⟨aF,q⟩
 · rw [List.getElem?_append_right (by omega)] at q
   obtain ⟨aW,_⟩:=List.getElem?_eq_some_iff.1 q
   simp only [List.length_cons,List.length_nil] at aW
   have:i=l.length:=by omega
   subst this
   simp only [Nat.sub_self,List.getElem?_cons_zero,Option.some.injEq] at q
   exact .inr ⟨rfl,q.symm⟩
end
theorem adb {P:Program} {n:Nat} (h:n≤4611686018427387904):(eW.int .quo).run P (.int .i64 (n:Int)) (.int .i64 100)=some (.int .i64 ((n / 100:Nat):Int)):=by
 simp only [eW.run,lf,yo,V.ep]
 rw [show (nJ .i64 .i64&&!Int.gr 100 0)=true from rfl,cond_true]
 rw [show (n:Int).tdiv 100=((n / 100:Nat):Int) from by rw [Int.tdiv_eq_ediv_of_nonneg (by omega)];rfl,wrap_i64 (by omega) (by omega)]
def p1 (l:List Int):List V:=l.map (V.int .i64)
theorem YG (a b:List Int):p1 (a++b)=p1 a++p1 b:=List.map_append
theorem acp:∀l:List Int,gh (p1 l)=true
 | []=>rfl
 | i::l=>by simpa [p1,gh,V.one] using acp l
theorem KQ:∀l:List Int,(l.map fun i=>[V.int .i64 i]).flatten=p1 l
 | []=>rfl
 | i::l=>by rw [List.map_cons,List.flatten_cons,KQ l];rfl
theorem hJ.H3 {h:af} {v:V} {l:List Int} (H:hJ h 1 v l.length (p1 l)) (aG:y_ v) (ao:l.length≤top):eg Any h 1 (l.map encI) v:=
 ⟨aG,by rw [List.length_map];exact ao,⟨l.map fun i=>[V.int .i64 i],by rw [List.length_map,KQ];exact H,by simp,fun u hu=>by
   obtain ⟨i,_,rfl⟩:=List.mem_map.1 hu
   rfl,fun i e u au az=>by
   rw [List.getElem?_map] at au az
   cases aF:l[i]? with
   | none=>rw [aF] at au;cases au
   | some y=>
     rw [aF] at au az
     simp only [Option.map_some,Option.some.injEq] at au az
     subst au az
     exact .i .nil⟩,fun _ _=>trivial⟩
theorem dL.H3 {B:Nat} {h:af} {v:V} {l:List Int} (H:dL B h 1 v l.length (p1 l)) (ao:l.length≤top):eg Any h 1 (l.map encI) v:=H.v.H3 H.room ao
theorem abd (h:af) (size n:Nat) (ad:List V) (ao:ad.length=n * size) (aS:n≤top):∃H,h.new (.bg ad 0 false)=H∧Ext h H∧dL h.next H size (.slice (ai h.next) 0 n n) n ad:=
 ⟨_,rfl,(Ext.refl h).new _,ao,rfl,by rw [c8];exact Nat.le_refl _,e3 (by rw [fs];omega),Nat.le_refl _,aS,ad,0,false,m' _,by omega,by rw [List.drop_zero,List.take_length]⟩
end Go.Proofs.YthemdhlheglhoaaGreatDoor.aY
namespace Go.Proofs.YthemdhlheglhoaaGreatDoor.aY
variable [Lay]
open Go Go.RowKit
section
variable {α:Type}
def sR (e:α→V):List (Int × α)→List cH→Prop
 | [],[]=>True
 | (s,a)::cQ,m::es=>m.k=.int .i64 s∧m.v=e a∧sR e cQ es
 | _,_=>False
def cl (s:Int):List (Int × α)→Option α
 | []=>none
 | (n,a)::cQ=>if s=n then some a else cl s cQ
def nv (s:Int) (x:α):List (Int × α)→List (Int × α)
 | []=>[(s,x)]
 | (n,a)::cQ=>if s=n then (s,x)::cQ else (n,a)::nv s x cQ
structure ky (e:α→V) (h:af) (b:aN) (cQ:List (Int × α)):Prop where
 ex:∃es clock,h.get b=.mp es clock∧sR e cQ es∧nH clock 0 es=true
 bY:Old h b
variable {e:α→V} {h ab:af} {b:aN} {cQ:List (Int × α)} {es:List cH}
theorem sR.find (H:sR e cQ es) (s:Int):nM k1 (.int .i64 s) es=some ((cl s cQ).map e):=by
 induction cQ generalizing es with
 | nil=>
   cases es with
   | nil=>rfl
   | cons m es=>exact H.elim
 | cons p cQ bj=>
   obtain ⟨n,a⟩:=p
   cases es with
   | nil=>exact H.elim
   | cons m es=>
     obtain ⟨aa,ae,aH⟩:=H
     simp only [nM,aa,OZ,cl]
     by_cases q:s=n
     · subst q;simp [ae]
     · simp only [q,decide_false,cond_false,if_false]
       exact bj aH
theorem sR.put (H:sR e cQ es) (s:Int) (x:α) (clock:Nat) (bG:Nat) (eK:bG≤clock) (B:nH clock bG es=true):
 ∃jn f,lr k1 (.int .i64 s) (e x) clock es=some (jn,f)∧sR e (nv s x cQ) jn∧nH (bif f then clock+1 else clock) bG jn=true:=by
 induction cQ generalizing es bG with
 | nil=>
   cases es with
   | nil=>
     refine ⟨_,true,rfl,⟨rfl,rfl,trivial⟩,?_⟩
     simp only [nH,cond_true,Bool.and_true,Bool.and_eq_true,Nat.ble_eq,Nat.blt_eq]
     omega
   | cons m es=>exact H.elim
 | cons p cQ bj=>
   obtain ⟨n,a⟩:=p
   cases es with
   | nil=>exact H.elim
   | cons m es=>
     obtain ⟨aa,ae,aH⟩:=H
     simp only [nH,Bool.and_eq_true,Nat.ble_eq,Nat.blt_eq] at B
     obtain ⟨⟨cx,cn⟩,hZ⟩:=B
     simp only [lr,aa,OZ,nv]
     by_cases q:s=n
     · subst q
       refine ⟨⟨.int .i64 s,e x,m.born⟩::es,false,by simp only [decide_true,cond_true],?_,?_⟩
       · rw [if_pos rfl];exact ⟨rfl,rfl,aH⟩
       · simp only [cond_false,nH,hZ,Bool.and_true,Bool.and_eq_true,Nat.ble_eq,Nat.blt_eq];exact ⟨cx,cn⟩
     · obtain ⟨jn,f,au,az,aM⟩:=bj (bG:=m.born+1) aH (by omega) hZ
       refine ⟨m::jn,f,by simp only [q,decide_false,cond_false,au],by rw [if_neg q];exact ⟨aa,ae,az⟩,?_⟩
       simp only [nH,aM,Bool.and_true,Bool.and_eq_true,Nat.ble_eq,Nat.blt_eq]
       refine ⟨cx,?_⟩
       cases f<;>simp only [cond_true,cond_false]<;>omega
theorem ky.ext (H:ky e h b cQ) (x:Ext h ab):ky e ab b cQ:=by
 obtain ⟨es,clock,au,az,aM⟩:=H.ex
 exact ⟨⟨es,clock,by rw [x.get b H.bY];exact au,az,aM⟩,x.bY H.bY⟩
theorem ky.mod {M:aN→Prop} (H:ky e h b cQ) (m:Mod M h ab) (ah:¬M b):ky e ab b cQ:=by
 obtain ⟨es,clock,au,az,aM⟩:=H.ex
 exact ⟨⟨es,clock,by rw [m.get b H.bY ah];exact au,az,aM⟩,m.bY H.bY⟩
theorem ky.look (H:ky e h b cQ) (s:Int) (z:V) (ok:Bool):oa k1 z ok h (.map b) (.int .i64 s)=some (match cl s cQ with
 | some a=>(bif ok then .tuple [e a,.bool true] else e a)
 | none=>(bif ok then .tuple [z,.bool false] else z)):=by
 obtain ⟨es,clock,au,az,aM⟩:=H.ex
 simp only [oa,au,q2,sg,b4.kN,az.find]
 cases cl s cQ<;>rfl
theorem ky.lz (H:ky e h b cQ) (s:Int) (x:α):∃ab,nz k1 h (.map b) (.int .i64 s) (e x)=some ab∧ky e ab b (nv s x cQ)∧Mod (fun p=>p=b) h ab∧ab.next=h.next:=by
 obtain ⟨es,clock,au,az,aM⟩:=H.ex
 obtain ⟨jn,f,bS,b7,cT⟩:=az.put s x clock 0 (Nat.zero_le _) aM
 refine ⟨h.set b (.mp jn (bif f then clock+1 else clock)),by simp only [nz,au,b4.kN,bS],⟨⟨jn,_,by rw [c0,if_pos rfl],b7,cT⟩,?_⟩,(Mod.refl (fun p=>p=b) h).set (fun _=>rfl) _,rfl⟩
 exact ((Mod.refl (fun p=>p=b) h).set (fun _=>rfl) _).bY H.bY
theorem ky.new (e:α→V) (h:af):ky e (h.new (.mp [] 0)) (ai h.next) []:=
 ⟨⟨[],0,m' _,trivial,rfl⟩,e3 (by rw [fs];omega)⟩
theorem M1 (s:Int) (x:α) (t:Int):∀cQ:List (Int × α),cl t (nv s x cQ)=if t=s then some x else cl t cQ
 | []=>by simp only [nv,cl]
 | (n,a)::cQ=>by
   simp only [nv]
   by_cases q:s=n
   · subst q
     simp only [if_true,cl]
     split<;>rfl
   · rw [if_neg q]
     simp only [cl,M1 s x t cQ]
     by_cases r:t=n
     · rw [if_pos r,if_neg (fun z=>q (z.symm.trans r)),if_pos r]
     · rw [if_neg r,if_neg r]
end
end Go.Proofs.YthemdhlheglhoaaGreatDoor.aY
