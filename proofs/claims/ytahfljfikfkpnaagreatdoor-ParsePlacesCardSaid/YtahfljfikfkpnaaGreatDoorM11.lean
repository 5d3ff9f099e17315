/- The abstract machine and its walks (a verified interpreter of the model's code: plain definitions and lemmas, no condition). Printed by a program from longer texts: names made short. -/
import Derived.Test.YtahfljfikfkpnaaGreatDoorM3
import Derived.Test.YtahfljfikfkpnaaGreatDoorM9
import Derived.Test.YtahfljfikfkpnaaGreatDoorM5
set_option linter.unusedSectionVars false
set_option linter.unusedSimpArgs false
set_option linter.unusedVariables false
set_option maxHeartbeats 64000000
noncomputable section
namespace Go.Proofs.YtahfljfikfkpnaaGreatDoor.bf
section
open Go Go.RowKit
variable [Lay]
section
variable {α:Type}
def wy (e:α->V):List (Int × α)->List c9->Prop
 | [],[]=>True
 | (s,a)::dS,m::es=>m.k=.int .i64 s/\m.v=e a/\wy e dS es
 | _,_=>False
def CF (s:Int):List (Int × α)->Option α
 | []=>none
 | (n,a)::dS=>if s=n then some a else CF s dS
def GM (s:Int) (x:α):List (Int × α)->List (Int × α)
 | []=>[(s,x)]
 | (n,a)::dS=>if s=n then (s,x)::dS else (n,a)::GM s x dS
structure qF (e:α->V) (h:ae) (b:aN) (dS:List (Int × α)):Prop where
 ex:∃es clock,h.get b=.mp es clock/\wy e dS es/\uT clock 0 es=true
 cA:Old h b
variable {e:α->V} {h ab:ae} {b:aN} {dS:List (Int × α)} {es:List c9}
theorem wy.find (H:wy e dS es) (s:Int):mw kO (.int .i64 s) es=some ((CF s dS).map e):=by
 induction dS generalizing es with
 | nil=>
   cases es with
   | nil=>rfl
   | cons m es=>exact H.elim
 | cons p dS aT=>
   obtain ⟨n,a⟩:=p;cases es with
   | nil=>exact H.elim
   | cons m es=>
     obtain ⟨U,ad,aC⟩:=H;simp only [mw,U,G6,CF];by_cases q:s=n
     . subst q;simp [ad]
     . simp only [q,ase,aqt,aqs];exact aT aC
theorem wy.put (H:wy e dS es) (s:Int) (x:α) (clock:Nat) (aZ:Nat) (bM:aZ<=clock) (B:uT clock aZ es=true):
 ∃jG f,nt kO (.int .i64 s) (e x) clock es=some (jG,f)/\wy e (GM s x dS) jG/\uT (bif f then clock+1 else clock) aZ jG=true:=by
 induction dS generalizing es aZ with
 | nil=>
   cases es with
   | nil=>
     refine ⟨_,true,rfl,⟨rfl,rfl,trivial⟩,?_⟩;simp only [uT,aqo,arz,aqi,aqE,aqS];omega
   | cons m es=>exact H.elim
 | cons p dS aT=>
   obtain ⟨n,a⟩:=p;cases es with
   | nil=>exact H.elim
   | cons m es=>
     obtain ⟨U,ad,aC⟩:=H;simp only [uT,aqi,aqE,aqS] at B;obtain ⟨⟨ct,c6⟩,hv⟩:=B;simp only [nt,U,G6,GM];by_cases q:s=n
     . subst q;refine ⟨⟨.int .i64 s,e x,m.born⟩::es,false,by simp only [decide_true,aqo],?_,?_⟩
       . rw [aqw rfl];exact ⟨rfl,rfl,aC⟩
       . simp only [aqt,uT,hv,arz,aqi,aqE,aqS];exact ⟨ct,c6⟩
     . obtain ⟨jG,f,an,av,aH⟩:=aT (aZ:=m.born+1) aC (by omega) hv;refine ⟨m::jG,f,by simp only [q,ase,aqt,an],by rw [aqr q];exact ⟨U,ad,av⟩,?_⟩;simp only [uT,aH,arz,aqi,aqE,aqS];refine ⟨ct,?_⟩;cases f<;>simp only [aqo,aqt]<;>omega
theorem qF.ext (H:qF e h b dS) (x:Ext h ab):qF e ab b dS:=by obtain ⟨es,clock,an,av,aH⟩:=H.ex;exact ⟨⟨es,clock,by rw [x.get b H.cA];exact an,av,aH⟩,x.cA H.cA⟩
theorem qF.look (H:qF e h b dS) (s:Int) (z:V) (ok:Bool):ln kO z ok h (.map b) (.int .i64 s)=some (match CF s dS with
 | some a=>(bif ok then .tuple [e a,.bool true] else e a)
 | none=>(bif ok then .tuple [z,.bool false] else z)):=by
 obtain ⟨es,clock,an,av,aH⟩:=H.ex;simp only [ln,an,nV,sq,cz.lp,av.find];cases CF s dS<;>rfl
theorem qF.qy (H:qF e h b dS) (s:Int) (x:α):∃ab,oT kO h (.map b) (.int .i64 s) (e x)=some ab/\qF e ab b (GM s x dS)/\Mod (fun p=>p=b) h ab/\ab.next=h.next:=by obtain ⟨es,clock,an,av,aH⟩:=H.ex;obtain ⟨jG,f,ca,b5,b6⟩:=av.put s x clock 0 (aqZ _) aH;refine ⟨h.set b (.mp jG (bif f then clock+1 else clock)),by simp only [oT,an,cz.lp,ca],⟨⟨jG,_,by rw [fG,aqw rfl],b5,b6⟩,?_⟩,(Mod.refl (fun p=>p=b) h).set (fun _=>rfl) _,rfl⟩;exact ((Mod.refl (fun p=>p=b) h).set (fun _=>rfl) _).cA H.cA
theorem qF.new (e:α->V) (h:ae):qF e (h.new (.mp [] 0)) (aE h.next) []:=
 ⟨⟨[],0,ti _,trivial,rfl⟩,kf (by rw [jK];omega)⟩
end
end
end Go.Proofs.YtahfljfikfkpnaaGreatDoor.bf
