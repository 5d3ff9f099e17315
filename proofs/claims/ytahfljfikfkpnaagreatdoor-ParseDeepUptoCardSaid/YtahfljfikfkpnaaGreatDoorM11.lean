/- The abstract machine and its walks (a verified interpreter of the model's code: plain definitions and lemmas, no condition). Printed by a program from longer texts: names made short. -/
import Derived.Test.YtahfljfikfkpnaaGreatDoorM4
set_option linter.unusedSectionVars false
set_option linter.unusedSimpArgs false
set_option linter.unusedVariables false
set_option maxHeartbeats 64000000
noncomputable section
namespace Go.Proofs.YtahfljfikfkpnaaGreatDoor.ba
section
open Go Go.RowKit
variable [Lay]
theorem dA.room {B:Nat} {h:ah} {size:Nat} {v:V} {n:Nat} {aj:List V} (H:dA B h size v n aj):CZ v:=by intro b o l c e;subst e;have q:=H.2;simp only at q;omega
theorem Has.mod {M:aN->Prop} {h ae:ah} {n:Nat} {l:List V} (B:Has h n l) (m:Mod M h ae) (aI:¬M (ao n)):Has ae n l:=⟨apP B.lt m.next,(m.get _ (jP B.lt) aI).trans B.g⟩
structure dB (B:Nat) (G:aN->Prop) (h:ah) (size:Nat) (es:List (List D)) (v:V):Prop where
 ex:∃us:List (List V),dA B h size v es.length us.flatten/\us.length=es.length/\(∀u ∈ us,u.length=size)/\∀(i:Nat) (e:List D) (u:List V),es[i]? =some e->us[i]? =some u->ev (fun b=>G b/\¬v.bp b) h e u
section
variable {B:Nat} {G:aN->Prop} {h ae:ah} {size:Nat} {es:List (List D)} {v:V}
theorem dB.nil (B:Nat) (G:aN->Prop) (h:ah) (size:Nat):dB B G h size [] .cL:=⟨⟨[],⟨by simp,rfl⟩,rfl,fun u hu=>(by cases hu),fun i e u q=>(by simp at q)⟩⟩
theorem dB.one (H:dB B G h size es v):v.one=true/\v.cells=[v]/\v.hO=true:=by obtain ⟨us,a,_⟩:=H.ex;exact a.v.one
theorem dB.base (H:dB B G h size es v) {b:aN} (ai:v.bp b):B<=dP b:=by obtain ⟨us,a,_⟩:=H.ex;exact a.base ai
theorem dB.RP (H:dB B G h size es v) {b:aN} (ai:v.bp b):Old h b:=by obtain ⟨us,a,_⟩:=H.ex;exact a.v.cu ai
theorem dB.len (H:dB B G h size es v):k' v=some (.int .i64 es.length):=by obtain ⟨us,a,_⟩:=H.ex;exact a.v.len
theorem dB.ext (H:dB B G h size es v) (e:Ext h ae):dB B G ae size es v:=by obtain ⟨us,a,b,c,d⟩:=H.ex;exact ⟨us,a.ext e,b,c,fun i x u an av=>(d i x u an av).ext e⟩
theorem dB.mod {M:aN->Prop} (H:dB B G h size es v) (m:Mod M h ae) (bZ:∀b,v.bp b->¬M b) (n_:∀b,G b->Old h b->¬v.bp b->¬M b):dB B G ae size es v:=by obtain ⟨us,a,b,c,d⟩:=H.ex;exact ⟨us,a.mod m bZ,b,c,fun i x u an av=>(d i x u an av).mod m fun b q o=>⟨n_ b q.1 o q.2,q⟩⟩
theorem dB.eU {nw:aN->Prop} (H:dB B G h size es v) (w:∀b,G b->nw b):dB B nw h size es v:=by obtain ⟨us,a,b,c,d⟩:=H.ex;exact ⟨us,a,b,c,fun i x u an av=>(d i x u an av).eU fun b q=>⟨w b q.1,q.2⟩⟩
theorem dB.c' {F:aN->Prop} (H:dB B G h size es v) (aG:es.length<=top) (n_:∀b,G b->F b) (cd:∀b,B<=dP b->F b):e_ F h size es v:=by obtain ⟨us,a,b,c,d⟩:=H.ex;exact ⟨a.room,aG,⟨us,a.v,b,c,fun i x u an av=>(d i x u an av).eU fun b q=>n_ b q.1⟩,fun b q=>cd b (a.base q)⟩
theorem yX {α:Type} {l:List α} {x y:α} {i:Nat} (q:(l++[x])[i]? =some y):(i<l.length/\l[i]? =some y)\/(i=l.length/\y=x):=by
 by_cases aJ:i<l.length
 . rw [apb aJ] at q;exact .inl ⟨aJ,q⟩
 . rw [apf (by omega)] at q;obtain ⟨a7,_⟩:=apk.1 q;simp only [aoH,aoS] at a7;have:i=l.length:=by omega
   subst this;simp only [apY,aoR,aoC] at q;exact .inr ⟨rfl,q.symm⟩
theorem dB.add {ds:List D} {cs:List V} (H:dB B G h size es v) (E:ev (fun b=>G b/\¬v.bp b) h ds cs) (dH:1<=size) (cd:B<=h.next) (hlen:(es.length+1) * size<=top) (jA:cs.length=size):
 ∃ea ae,kj size v (.slice (ao h.next) 0 1 1) (h.new (.bd cs 0 false))=.val ea ae/\dB B G ae size (es++[ds]) ea/\Mod v.bp h ae/\h.next+1<=ae.next/\∀b,ea.bp b->v.bp b\/h.next<dP b:=by
 obtain ⟨us,a,b,c,d⟩:=H.ex;obtain ⟨ea,ae,an,av,aB,bt,ca⟩:=AU dH a cd hlen jA E.gV
 have hX:∀b,(G b/\¬v.bp b)->Old h b->¬v.bp b/\(G b/\¬ea.bp b):=fun b q o=>⟨q.2,q.1,fun z=>by
  rcases ca b z with z | z
  . exact q.2 z
  . unfold Old at o;omega⟩
 refine ⟨ea,ae,an,⟨us++[cs],?_,by simp [b],?_,?_⟩,aB,bt,ca⟩
 . rw [aoL,ao0,aqe];simpa using av
 . intro u hu;rcases List.mem_append.1 hu with hu | hu
   . exact c u hu
   . rw [apz] at hu;subst hu;exact jA
 . intro i e u aO bs;rcases yX aO with ⟨ad,aO⟩ | ⟨ad,rfl⟩
   . rcases yX bs with ⟨ag,bs⟩ | ⟨ag,rfl⟩
     . exact (d i e u aO bs).mod aB hX
     . omega
   . rcases yX bs with ⟨ag,bs⟩ | ⟨ag,rfl⟩
     . omega
     . exact E.mod aB hX
end
theorem Rj (h:ah) (size n:Nat) (aj:List V) (aG:aj.length=n * size) (aI:n<=top):∃H,h.new (.bd aj 0 false)=H/\Ext h H/\dA h.next H size (.slice (ao h.next) 0 n n) n aj:=
 ⟨_,rfl,(Ext.refl h).new _,aG,rfl,by rw [dh];exact aoz _,jP (by rw [ig];omega),aoz _,aI,aj,0,false,sf _,by omega,by rw [apm,aqb]⟩
theorem JC {F:aN->Prop} {h:ah} {size:Nat} (wL:List (List D)) (wC:List (List V)) (aG:wC.length=wL.length) (bN:∀cs ∈ wC,cs.length=size) (hP:∀(i:Nat) (e:List D) (u:List V),wL[i]? =some e->wC[i]? =some u->ev F h e u)
 (hF:F (ao h.next)) (aI:wL.length<=top):∃H,h.new (.bd wC.flatten 0 false)=H/\Ext h H/\e_ F H size wL (.slice (ao h.next) 0 wL.length wL.length):=by
 have tu:=HP wC bN;obtain ⟨H,an,av,aB⟩:=Rj h size wL.length wC.flatten (by rw [tu,aG]) aI;exact ⟨H,an,av,aB.room,aI,⟨wC,aB.v,aG,bN,fun i e u a b=>(hP i e u a b).ext av⟩,fun b q=>by rw [show b=ao h.next from q];exact hF⟩
theorem sC {F:aN->Prop} {h:ah} {size:Nat} {ds:List D} {cs:List V} (bN:cs.length=size) (H:ev F h ds cs) (hF:F (ao h.next)):∃g,h.new (.bd cs 0 false)=g/\Ext h g/\e_ F g size [ds] (.slice (ao h.next) 0 1 1):=by
 have:=JC (F:=F) (h:=h) (size:=size) [ds] [cs] rfl (fun c q=>by rw [apz] at q;subst q;exact bN) (fun i e u a b=>by
  cases i with
  | zero=>simp only [aoR,aoC] at a b;subst a b;exact H
  | succ i=>simp at a) hF (by show _<=top;unfold top;simp)
 simpa using this
theorem xx {F:aN->Prop} {h:ah} {size:Nat} {ds oT:List D} {cs q6:List V} (bN:cs.length=size) (Ji:q6.length=size) (H:ev F h ds cs) (ki:ev F h oT q6) (hF:F (ao h.next)):∃g,h.new (.bd (cs++q6) 0 false)=g/\Ext h g/\e_ F g size [ds,oT] (.slice (ao h.next) 0 2 2):=by
 have:=JC (F:=F) (h:=h) (size:=size) [ds,oT] [cs,q6] rfl (fun c q=>by
  rcases ao7.1 q with rfl | q
  . exact bN
  . rw [apz] at q;subst q;exact Ji) (fun i e u a b=>by
  match i with
  | 0=>simp only [aoR,aoC] at a b;subst a b;exact H
  | 1=>simp only [apq,aoR,aoC] at a b;subst a b;exact ki
  | i+2=>simp at a) hF (by show _<=top;unfold top;simp)
 simpa using this
end
end Go.Proofs.YtahfljfikfkpnaaGreatDoor.ba
