/- The abstract machine and its walks (a verified interpreter of the model's code: plain definitions and lemmas, no condition). Printed by a program from longer texts: names made short. -/
import Derived.Test.YtahfljfikfkpnaaGreatDoorM4
set_option linter.unusedSectionVars false
set_option linter.unusedSimpArgs false
set_option linter.unusedVariables false
set_option maxHeartbeats 64000000
noncomputable section
namespace Go.Proofs.YtahfljfikfkpnaaGreatDoor.bg
section
open Go Go.RowKit
variable [Lay]
theorem dK.room {B:Nat} {h:ah} {size:Nat} {v:V} {n:Nat} {aj:List V} (H:dK B h size v n aj):FP v:=by intro b o l c e;subst e;have q:=H.2;simp only at q;omega
theorem Has.mod {M:aO->Prop} {h af:ah} {n:Nat} {l:List V} (B:Has h n l) (m:Mod M h af) (aF:¬M (an n)):Has af n l:=⟨aqg B.lt m.next,(m.get _ (jJ B.lt) aF).trans B.g⟩
structure dz (B:Nat) (G:aO->Prop) (h:ah) (size:Nat) (es:List (List D)) (v:V):Prop where
 ex:∃us:List (List V),dK B h size v es.length us.flatten/\us.length=es.length/\(∀u ∈ us,u.length=size)/\∀(i:Nat) (e:List D) (u:List V),es[i]? =some e->us[i]? =some u->eJ (fun b=>G b/\¬v.bn b) h e u
section
variable {B:Nat} {G:aO->Prop} {h af:ah} {size:Nat} {es:List (List D)} {v:V}
theorem dz.nil (B:Nat) (G:aO->Prop) (h:ah) (size:Nat):dz B G h size [] .cS:=⟨⟨[],⟨by simp,rfl⟩,rfl,fun u hu=>(by cases hu),fun i e u q=>(by simp at q)⟩⟩
theorem dz.one (H:dz B G h size es v):v.one=true/\v.cells=[v]/\v.hZ=true:=by obtain ⟨us,a,_⟩:=H.ex;exact a.v.one
theorem dz.base (H:dz B G h size es v) {b:aO} (ai:v.bn b):B<=dP b:=by obtain ⟨us,a,_⟩:=H.ex;exact a.base ai
theorem dz.R1 (H:dz B G h size es v) {b:aO} (ai:v.bn b):Old h b:=by obtain ⟨us,a,_⟩:=H.ex;exact a.v.cr ai
theorem dz.len (H:dz B G h size es v):l9 v=some (.int .i64 es.length):=by obtain ⟨us,a,_⟩:=H.ex;exact a.v.len
theorem dz.ext (H:dz B G h size es v) (e:Ext h af):dz B G af size es v:=by obtain ⟨us,a,b,c,d⟩:=H.ex;exact ⟨us,a.ext e,b,c,fun i x u ao av=>(d i x u ao av).ext e⟩
theorem dz.mod {M:aO->Prop} (H:dz B G h size es v) (m:Mod M h af) (b0:∀b,v.bn b->¬M b) (n':∀b,G b->Old h b->¬v.bn b->¬M b):dz B G af size es v:=by obtain ⟨us,a,b,c,d⟩:=H.ex;exact ⟨us,a.mod m b0,b,c,fun i x u ao av=>(d i x u ao av).mod m fun b q o=>⟨n' b q.1 o q.2,q⟩⟩
theorem dz.eW {nz:aO->Prop} (H:dz B G h size es v) (w:∀b,G b->nz b):dz B nz h size es v:=by obtain ⟨us,a,b,c,d⟩:=H.ex;exact ⟨us,a,b,c,fun i x u ao av=>(d i x u ao av).eW fun b q=>⟨w b q.1,q.2⟩⟩
theorem dz.c7 {F:aO->Prop} (H:dz B G h size es v) (aH:es.length<=top) (n':∀b,G b->F b) (cj:∀b,B<=dP b->F b):fw F h size es v:=by obtain ⟨us,a,b,c,d⟩:=H.ex;exact ⟨a.room,aH,⟨us,a.v,b,c,fun i x u ao av=>(d i x u ao av).eW fun b q=>n' b q.1⟩,fun b q=>cj b (a.base q)⟩
theorem y7 {α:Type} {l:List α} {x y:α} {i:Nat} (q:(l++[x])[i]? =some y):(i<l.length/\l[i]? =some y)\/(i=l.length/\y=x):=by
 by_cases aM:i<l.length
 . rw [apC aM] at q;exact .inl ⟨aM,q⟩
 . rw [apJ (by omega)] at q;obtain ⟨a1,_⟩:=apL.1 q;simp only [ao9,aph] at a1;have:i=l.length:=by omega
   subst this;simp only [aqs,apj,ao4] at q;exact .inr ⟨rfl,q.symm⟩
theorem dz.add {ds:List D} {cs:List V} (H:dz B G h size es v) (E:eJ (fun b=>G b/\¬v.bn b) h ds cs) (dS:1<=size) (cj:B<=h.next) (hlen:(es.length+1) * size<=top) (jF:cs.length=size):
 ∃ez af,l0 size v (.slice (an h.next) 0 1 1) (h.new (.bc cs 0 false))=.val ez af/\dz B G af size (es++[ds]) ez/\Mod v.bn h af/\h.next+1<=af.next/\∀b,ez.bn b->v.bn b\/h.next<dP b:=by
 obtain ⟨us,a,b,c,d⟩:=H.ex;obtain ⟨ez,af,ao,av,aC,bs,ca⟩:=A3 dS a cj hlen jF E.hE
 have h4:∀b,(G b/\¬v.bn b)->Old h b->¬v.bn b/\(G b/\¬ez.bn b):=fun b q o=>⟨q.2,q.1,fun z=>by
  rcases ca b z with z | z
  . exact q.2 z
  . unfold Old at o;omega⟩
 refine ⟨ez,af,ao,⟨us++[cs],?_,by simp [b],?_,?_⟩,aC,bs,ca⟩
 . rw [apb,aps,aqF];simpa using av
 . intro u hu;rcases aqL.1 hu with hu | hu
   . exact c u hu
   . rw [ap2] at hu;subst hu;exact jF
 . intro i e u aP bu;rcases y7 aP with ⟨ae,aP⟩ | ⟨ae,rfl⟩
   . rcases y7 bu with ⟨ag,bu⟩ | ⟨ag,rfl⟩
     . exact (d i e u aP bu).mod aC h4
     . omega
   . rcases y7 bu with ⟨ag,bu⟩ | ⟨ag,rfl⟩
     . omega
     . exact E.mod aC h4
end
theorem Rv (h:ah) (size n:Nat) (aj:List V) (aH:aj.length=n * size) (aF:n<=top):∃H,h.new (.bc aj 0 false)=H/\Ext h H/\dK h.next H size (.slice (an h.next) 0 n n) n aj:=
 ⟨_,rfl,(Ext.refl h).new _,aH,rfl,by rw [dk];exact ao1 _,jJ (by rw [hV];omega),ao1 _,aF,aj,0,false,rA _,by omega,by rw [apT,List.take_length]⟩
theorem JI {F:aO->Prop} {h:ah} {size:Nat} (wS:List (List D)) (wJ:List (List V)) (aH:wJ.length=wS.length) (bN:∀cs ∈ wJ,cs.length=size) (hS:∀(i:Nat) (e:List D) (u:List V),wS[i]? =some e->wJ[i]? =some u->eJ F h e u)
 (hJ:F (an h.next)) (aF:wS.length<=top):∃H,h.new (.bc wJ.flatten 0 false)=H/\Ext h H/\fw F H size wS (.slice (an h.next) 0 wS.length wS.length):=by
 have tJ:=HU wJ bN;obtain ⟨H,ao,av,aC⟩:=Rv h size wS.length wJ.flatten (by rw [tJ,aH]) aF;exact ⟨H,ao,av,aC.room,aF,⟨wJ,aC.v,aH,bN,fun i e u a b=>(hS i e u a b).ext av⟩,fun b q=>by rw [show b=an h.next from q];exact hJ⟩
theorem sR {F:aO->Prop} {h:ah} {size:Nat} {ds:List D} {cs:List V} (bN:cs.length=size) (H:eJ F h ds cs) (hJ:F (an h.next)):∃g,h.new (.bc cs 0 false)=g/\Ext h g/\fw F g size [ds] (.slice (an h.next) 0 1 1):=by
 have:=JI (F:=F) (h:=h) (size:=size) [ds] [cs] rfl (fun c q=>by rw [ap2] at q;subst q;exact bN) (fun i e u a b=>by
  cases i with
  | zero=>simp only [apj,ao4] at a b;subst a b;exact H
  | succ i=>simp at a) hJ (by show _<=top;unfold top;simp)
 simpa using this
theorem xF {F:aO->Prop} {h:ah} {size:Nat} {ds oZ:List D} {cs rk:List V} (bN:cs.length=size) (Jo:rk.length=size) (H:eJ F h ds cs) (km:eJ F h oZ rk) (hJ:F (an h.next)):∃g,h.new (.bc (cs++rk) 0 false)=g/\Ext h g/\fw F g size [ds,oZ] (.slice (an h.next) 0 2 2):=by
 have:=JI (F:=F) (h:=h) (size:=size) [ds,oZ] [cs,rk] rfl (fun c q=>by
  rcases apy.1 q with rfl | q
  . exact bN
  . rw [ap2] at q;subst q;exact Jo) (fun i e u a b=>by
  match i with
  | 0=>simp only [apj,ao4] at a b;subst a b;exact H
  | 1=>simp only [apO,apj,ao4] at a b;subst a b;exact km
  | i+2=>simp at a) hJ (by show _<=top;unfold top;simp)
 simpa using this
end
end Go.Proofs.YtahfljfikfkpnaaGreatDoor.bg
