/- The abstract machine and its walks (a verified interpreter of the model's code: plain definitions and lemmas, no condition). Printed by a program from longer texts: names made short. -/
import Derived.Test.YtahfljfikfkpnaaGreatDoorM6
import Derived.Test.YtahfljfikfkpnaaGreatDoorM11
import Derived.Test.YtahfljfikfkpnaaGreatDoorM4
set_option linter.unusedSectionVars false
set_option linter.unusedSimpArgs false
set_option linter.unusedVariables false
set_option maxHeartbeats 64000000
noncomputable section
namespace Go.Proofs.YtahfljfikfkpnaaGreatDoor.bg
section
open Go Go.RowKit
variable [Lay]
section
variable {α:Type}
def wj (e:α->V):List (Int × α)->List fv->Prop
 | [],[]=>True
 | (s,a)::ik,m::es=>m.k=.int .i64 s/\m.v=e a/\wj e ik es
 | _,_=>False
def Cy (s:Int):List (Int × α)->Option α
 | []=>none
 | (n,a)::ik=>if s=n then some a else Cy s ik
def FB (s:Int) (x:α):List (Int × α)->List (Int × α)
 | []=>[(s,x)]
 | (n,a)::ik=>if s=n then (s,x)::ik else (n,a)::FB s x ik
structure rh (e:α->V) (h:ah) (b:aO) (ik:List (Int × α)):Prop where
 ex:∃es clock,h.get b=.mp es clock/\wj e ik es/\u6 clock 0 es=true
 cr:Old h b
variable {e:α->V} {h af:ah} {b:aO} {ik:List (Int × α)} {es:List fv}
theorem wj.find (H:wj e ik es) (s:Int):qy o1 (.int .i64 s) es=some ((Cy s ik).map e):=by
 induction ik generalizing es with
 | nil=>
   cases es with
   | nil=>rfl
   | cons m es=>exact H.elim
 | cons p ik b6=>
   obtain ⟨n,a⟩:=p;cases es with
   | nil=>exact H.elim
   | cons m es=>
     obtain ⟨ae,ag,ar⟩:=H;simp only [qy,ae,S5,Cy];by_cases q:s=n
     . subst q;simp [ag]
     . simp only [q,aqG,apg,apa];exact b6 ar
theorem wj.put (H:wj e ik es) (s:Int) (x:α) (clock:Nat) (cW:Nat) (hK:cW<=clock) (B:u6 clock cW es=true):
 ∃mv f,pw o1 (.int .i64 s) (e x) clock es=some (mv,f)/\wj e (FB s x ik) mv/\u6 (bif f then clock+1 else clock) cW mv=true:=by
 induction ik generalizing es cW with
 | nil=>
   cases es with
   | nil=>
     refine ⟨_,true,rfl,⟨rfl,rfl,trivial⟩,?_⟩;simp only [u6,apc,apY,ao7,apn,apG];omega
   | cons m es=>exact H.elim
 | cons p ik b6=>
   obtain ⟨n,a⟩:=p;cases es with
   | nil=>exact H.elim
   | cons m es=>
     obtain ⟨ae,ag,ar⟩:=H;simp only [u6,ao7,apn,apG] at B;obtain ⟨⟨bW,df⟩,ic⟩:=B;simp only [pw,ae,S5,FB];by_cases q:s=n
     . subst q;refine ⟨⟨.int .i64 s,e x,m.born⟩::es,false,by simp only [aqn,apc],?_,?_⟩
       . rw [ape rfl];exact ⟨rfl,rfl,ar⟩
       . simp only [apg,u6,ic,apY,ao7,apn,apG];exact ⟨bW,df⟩
     . obtain ⟨mv,f,ao,av,aC⟩:=b6 (cW:=m.born+1) ar (by omega) ic;refine ⟨m::mv,f,by simp only [q,aqG,apg,ao],by rw [ao_ q];exact ⟨ae,ag,av⟩,?_⟩;simp only [u6,aC,apY,ao7,apn,apG];refine ⟨bW,?_⟩;cases f<;>simp only [apc,apg]<;>omega
theorem rh.ext (H:rh e h b ik) (x:Ext h af):rh e af b ik:=by obtain ⟨es,clock,ao,av,aC⟩:=H.ex;exact ⟨⟨es,clock,by rw [x.get b H.cr];exact ao,av,aC⟩,x.cr H.cr⟩
theorem rh.look (H:rh e h b ik) (s:Int) (z:V) (ok:Bool):rV o1 z ok h (.map b) (.int .i64 s)=some (match Cy s ik with
 | some a=>(bif ok then .tuple [e a,.bool true] else e a)
 | none=>(bif ok then .tuple [z,.bool false] else z)):=by
 obtain ⟨es,clock,ao,av,aC⟩:=H.ex;simp only [rV,ao,p4,vE,c'.nP,av.find];cases Cy s ik<;>rfl
theorem rh.uL (H:rh e h b ik) (s:Int) (x:α):∃af,q_ o1 h (.map b) (.int .i64 s) (e x)=some af/\rh e af b (FB s x ik)/\Mod (fun p=>p=b) h af/\af.next=h.next:=by obtain ⟨es,clock,ao,av,aC⟩:=H.ex;obtain ⟨mv,f,cL,bf,bU⟩:=av.put s x clock 0 (api _) aC;refine ⟨h.set b (.mp mv (bif f then clock+1 else clock)),by simp only [q_,ao,c'.nP,cL],⟨⟨mv,_,by rw [eC,ape rfl],bf,bU⟩,?_⟩,(Mod.refl (fun p=>p=b) h).set (fun _=>rfl) _,rfl⟩;exact ((Mod.refl (fun p=>p=b) h).set (fun _=>rfl) _).cr H.cr
theorem rh.new (e:α->V) (h:ah):rh e (h.new (.mp [] 0)) (an h.next) []:=
 ⟨⟨[],0,rA _,trivial,rfl⟩,jJ (by rw [hV];omega)⟩
end
end
end Go.Proofs.YtahfljfikfkpnaaGreatDoor.bg
