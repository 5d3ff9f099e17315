/- The abstract machine and its walks (a verified interpreter of the model's code: plain definitions and lemmas, no condition). Printed by a program from longer texts: names made short. -/
import Derived.Test.YtahfljfikfkpnaaGreatDoorM6
import Derived.Test.YtahfljfikfkpnaaGreatDoorM11
import Derived.Test.YtahfljfikfkpnaaGreatDoorM4
set_option linter.unusedSectionVars false
set_option linter.unusedSimpArgs false
set_option linter.unusedVariables false
set_option maxHeartbeats 64000000
noncomputable section
namespace Go.Proofs.YtahfljfikfkpnaaGreatDoor.ba
section
open Go Go.RowKit
variable [Lay]
section
variable {α:Type}
def wb (e:α->V):List (Int × α)->List fv->Prop
 | [],[]=>True
 | (s,a)::ie,m::es=>m.k=.int .i64 s/\m.v=e a/\wb e ie es
 | _,_=>False
def Cr (s:Int):List (Int × α)->Option α
 | []=>none
 | (n,a)::ie=>if s=n then some a else Cr s ie
def Fz (s:Int) (x:α):List (Int × α)->List (Int × α)
 | []=>[(s,x)]
 | (n,a)::ie=>if s=n then (s,x)::ie else (n,a)::Fz s x ie
structure q4 (e:α->V) (h:ah) (b:aN) (ie:List (Int × α)):Prop where
 ex:∃es clock,h.get b=.mp es clock/\wb e ie es/\u1 clock 0 es=true
 cu:Old h b
variable {e:α->V} {h ae:ah} {b:aN} {ie:List (Int × α)} {es:List fv}
theorem wb.find (H:wb e ie es) (s:Int):qm oV (.int .i64 s) es=some ((Cr s ie).map e):=by
 induction ie generalizing es with
 | nil=>
   cases es with
   | nil=>rfl
   | cons m es=>exact H.elim
 | cons p ie cc=>
   obtain ⟨n,a⟩:=p;cases es with
   | nil=>exact H.elim
   | cons m es=>
     obtain ⟨ad,ag,ar⟩:=H;simp only [qm,ad,SS,Cr];by_cases q:s=n
     . subst q;simp [ag]
     . simp only [q,decide_false,aoP,aoK];exact cc ar
theorem wb.put (H:wb e ie es) (s:Int) (x:α) (clock:Nat) (cX:Nat) (hx:cX<=clock) (B:u1 clock cX es=true):
 ∃mm f,pj oV (.int .i64 s) (e x) clock es=some (mm,f)/\wb e (Fz s x ie) mm/\u1 (bif f then clock+1 else clock) cX mm=true:=by
 induction ie generalizing es cX with
 | nil=>
   cases es with
   | nil=>
     refine ⟨_,true,rfl,⟨rfl,rfl,trivial⟩,?_⟩;simp only [u1,aoJ,apG,aoE,aoT,ape];omega
   | cons m es=>exact H.elim
 | cons p ie cc=>
   obtain ⟨n,a⟩:=p;cases es with
   | nil=>exact H.elim
   | cons m es=>
     obtain ⟨ad,ag,ar⟩:=H;simp only [u1,aoE,aoT,ape] at B;obtain ⟨⟨bT,c2⟩,h9⟩:=B;simp only [pj,ad,SS,Fz];by_cases q:s=n
     . subst q;refine ⟨⟨.int .i64 s,e x,m.born⟩::es,false,by simp only [aqj,aoJ],?_,?_⟩
       . rw [aoN rfl];exact ⟨rfl,rfl,ar⟩
       . simp only [aoP,u1,h9,apG,aoE,aoT,ape];exact ⟨bT,c2⟩
     . obtain ⟨mm,f,an,av,aB⟩:=cc (cX:=m.born+1) ar (by omega) h9;refine ⟨m::mm,f,by simp only [q,decide_false,aoP,an],by rw [aoI q];exact ⟨ad,ag,av⟩,?_⟩;simp only [u1,aB,apG,aoE,aoT,ape];refine ⟨bT,?_⟩;cases f<;>simp only [aoJ,aoP]<;>omega
theorem q4.ext (H:q4 e h b ie) (x:Ext h ae):q4 e ae b ie:=by obtain ⟨es,clock,an,av,aB⟩:=H.ex;exact ⟨⟨es,clock,by rw [x.get b H.cu];exact an,av,aB⟩,x.cu H.cu⟩
theorem q4.look (H:q4 e h b ie) (s:Int) (z:V) (ok:Bool):rG oV z ok h (.map b) (.int .i64 s)=some (match Cr s ie with
 | some a=>(bif ok then .tuple [e a,.bool true] else e a)
 | none=>(bif ok then .tuple [z,.bool false] else z)):=by
 obtain ⟨es,clock,an,av,aB⟩:=H.ex;simp only [rG,an,pY,vz,c_.nN,av.find];cases Cr s ie<;>rfl
theorem q4.uC (H:q4 e h b ie) (s:Int) (x:α):∃ae,qZ oV h (.map b) (.int .i64 s) (e x)=some ae/\q4 e ae b (Fz s x ie)/\Mod (fun p=>p=b) h ae/\ae.next=h.next:=by obtain ⟨es,clock,an,av,aB⟩:=H.ex;obtain ⟨mm,f,cJ,bc,bV⟩:=av.put s x clock 0 (aoQ _) aB;refine ⟨h.set b (.mp mm (bif f then clock+1 else clock)),by simp only [qZ,an,c_.nN,cJ],⟨⟨mm,_,by rw [ey,aoN rfl],bc,bV⟩,?_⟩,(Mod.refl (fun p=>p=b) h).set (fun _=>rfl) _,rfl⟩;exact ((Mod.refl (fun p=>p=b) h).set (fun _=>rfl) _).cu H.cu
theorem q4.new (e:α->V) (h:ah):q4 e (h.new (.mp [] 0)) (ao h.next) []:=
 ⟨⟨[],0,sf _,trivial,rfl⟩,jP (by rw [ig];omega)⟩
end
end
end Go.Proofs.YtahfljfikfkpnaaGreatDoor.ba
