/- The abstract machine and its walks (a verified interpreter of the model's code: plain definitions and lemmas, no condition). Printed by a program from longer texts: names made short. -/
import Derived.Test.YtahfljfikfkpnaaGreatDoorM5
set_option linter.unusedSectionVars false
set_option linter.unusedSimpArgs false
set_option linter.unusedVariables false
set_option maxHeartbeats 64000000
noncomputable section
namespace Go.Proofs.YtahfljfikfkpnaaGreatDoor.bf
section
open Go Go.RowKit
variable [Lay]
theorem fe.room {B:Nat} {h:ae} {size:Nat} {v:V} {n:Nat} {af:List V} (H:fe B h size v n af):Df v:=by intro b o l c e;subst e;have q:=H.2;simp only at q;omega
theorem Has.mod {M:aN->Prop} {h ab:ae} {n:Nat} {l:List V} (B:Has h n l) (m:Mod M h ab) (aL:¬M (aE n)):Has ab n l:=⟨ar0 B.lt m.next,(m.get _ (kf B.lt) aL).trans B.g⟩
structure ec (B:Nat) (G:aN->Prop) (h:ae) (size:Nat) (es:List (List D)) (v:V):Prop where
 ex:∃us:List (List V),fe B h size v es.length us.flatten/\us.length=es.length/\(∀u ∈ us,u.length=size)/\∀(i:Nat) (e:List D) (u:List V),es[i]? =some e->us[i]? =some u->dX (fun b=>G b/\¬v.bd b) h e u
section
variable {B:Nat} {G:aN->Prop} {h ab:ae} {size:Nat} {es:List (List D)} {v:V}
theorem ec.nil (B:Nat) (G:aN->Prop) (h:ae) (size:Nat):ec B G h size [] .cn:=⟨⟨[],⟨by simp,rfl⟩,rfl,fun u hu=>(by cases hu),fun i e u q=>(by simp at q)⟩⟩
theorem ec.one (H:ec B G h size es v):v.one=true/\v.cells=[v]/\v.hK=true:=by obtain ⟨us,a,_⟩:=H.ex;exact a.v.one
theorem ec.base (H:ec B G h size es v) {b:aN} (ah:v.bd b):B<=cM b:=by obtain ⟨us,a,_⟩:=H.ex;exact a.base ah
theorem ec.akp (H:ec B G h size es v) {b:aN} (ah:v.bd b):Old h b:=by obtain ⟨us,a,_⟩:=H.ex;exact a.v.cA ah
theorem ec.len (H:ec B G h size es v):ju v=some (.int .i64 es.length):=by obtain ⟨us,a,_⟩:=H.ex;exact a.v.len
theorem ec.ext (H:ec B G h size es v) (e:Ext h ab):ec B G ab size es v:=by obtain ⟨us,a,b,c,d⟩:=H.ex;exact ⟨us,a.ext e,b,c,fun i x u an av=>(d i x u an av).ext e⟩
theorem ec.mod {M:aN->Prop} (H:ec B G h size es v) (m:Mod M h ab) (bE:∀b,v.bd b->¬M b) (j0:∀b,G b->Old h b->¬v.bd b->¬M b):ec B G ab size es v:=by obtain ⟨us,a,b,c,d⟩:=H.ex;exact ⟨us,a.mod m bE,b,c,fun i x u an av=>(d i x u an av).mod m fun b q o=>⟨j0 b q.1 o q.2,q⟩⟩
theorem ec.fQ {O4:aN->Prop} (H:ec B G h size es v) (w:∀b,G b->O4 b):ec B O4 h size es v:=by obtain ⟨us,a,b,c,d⟩:=H.ex;exact ⟨us,a,b,c,fun i x u an av=>(d i x u an av).fQ fun b q=>⟨w b q.1,q.2⟩⟩
theorem ec.e6 {F:aN->Prop} (H:ec B G h size es v) (aD:es.length<=top) (j0:∀b,G b->F b) (cU:∀b,B<=cM b->F b):e1 F h size es v:=by obtain ⟨us,a,b,c,d⟩:=H.ex;exact ⟨a.room,aD,⟨us,a.v,b,c,fun i x u an av=>(d i x u an av).fQ fun b q=>j0 b q.1⟩,fun b q=>cU b (a.base q)⟩
theorem zg {α:Type} {l:List α} {x y:α} {i:Nat} (q:(l++[x])[i]? =some y):(i<l.length/\l[i]? =some y)\/(i=l.length/\y=x):=by
 by_cases aG:i<l.length
 . rw [aqG aG] at q;exact .inl ⟨aG,q⟩
 . rw [aqH (by omega)] at q;obtain ⟨a',_⟩:=aqD.1 q;simp only [aqp,aqB] at a';have:i=l.length:=by omega
   subst this;simp only [ar7,aqz,aqj] at q;exact .inr ⟨rfl,q.symm⟩
theorem ec.add {ds:List D} {cs:List V} (H:ec B G h size es v) (E:dX (fun b=>G b/\¬v.bd b) h ds cs) (cX:1<=size) (cU:B<=h.next) (hlen:(es.length+1) * size<=top) (h0:cs.length=size):
 ∃ej ab,ml size v (.slice (aE h.next) 0 1 1) (h.new (.bz cs 0 false))=.val ej ab/\ec B G ab size (es++[ds]) ej/\Mod v.bd h ab/\h.next+1<=ab.next/\∀b,ej.bd b->v.bd b\/h.next<cM b:=by
 obtain ⟨us,a,b,c,d⟩:=H.ex;obtain ⟨ej,ab,an,av,aH,bP,cE⟩:=Ip cX a cU hlen h0 E.fs
 have gy:∀b,(G b/\¬v.bd b)->Old h b->¬v.bd b/\(G b/\¬ej.bd b):=fun b q o=>⟨q.2,q.1,fun z=>by
  rcases cE b z with z | z
  . exact q.2 z
  . unfold Old at o;omega⟩
 refine ⟨ej,ab,an,⟨us++[cs],?_,by simp [b],?_,?_⟩,aH,bP,cE⟩
 . rw [aqC,arT,asc];simpa using av
 . intro u hu;rcases arH.1 hu with hu | hu
   . exact c u hu
   . rw [aqV] at hu;subst hu;exact h0
 . intro i e u aM bh;rcases zg aM with ⟨U,aM⟩ | ⟨U,rfl⟩
   . rcases zg bh with ⟨ad,bh⟩ | ⟨ad,rfl⟩
     . exact (d i e u aM bh).mod aH gy
     . omega
   . rcases zg bh with ⟨ad,bh⟩ | ⟨ad,rfl⟩
     . omega
     . exact E.mod aH gy
end
def zN (l:List Int):List V:=l.map (V.int .i64)
theorem akK:∀l:List Int,fs (zN l)=true
 | []=>rfl
 | i::l=>by simpa [zN,fs,V.one] using akK l
theorem SQ:∀l:List Int,(l.map fun i=>[V.int .i64 i]).flatten=zN l
 | []=>rfl
 | i::l=>by rw [arE,arq,SQ l];rfl
theorem fD.am3 {h:ae} {v:V} {l:List Int} (H:fD h 1 v l.length (zN l)) (aa:Df v) (aD:l.length<=top):e1 Any h 1 (l.map pQ) v:=
 ⟨aa,by rw [aqJ];exact aD,⟨l.map fun i=>[V.int .i64 i],by rw [aqJ,SQ];exact H,by simp,fun u hu=>by
   obtain ⟨i,_,rfl⟩:=List.mem_map.1 hu;rfl,fun i e u an av=>by
   rw [aq3] at an av;cases aG:l[i]? with
   | none=>rw [aG] at an;cases an
   | some y=>
     rw [aG] at an av;simp only [arj,aqj] at an av;subst an av
     exact .i .nil⟩,fun _ _=>trivial⟩
theorem F6 (h:ae) (size n:Nat) (af:List V) (aD:af.length=n * size) (aL:n<=top):∃H,h.new (.bz af 0 false)=H/\Ext h H/\fe h.next H size (.slice (aE h.next) 0 n n) n af:=
 ⟨_,rfl,(Ext.refl h).new _,aD,rfl,by rw [dj];exact aqh _,kf (by rw [jK];omega),aqh _,aL,af,0,false,ti _,by omega,by rw [arp,ar_]⟩
theorem LP {F:aN->Prop} {h:ae} {size:Nat} (w5:List (List D)) (wV:List (List V)) (aD:wV.length=w5.length) (bK:∀cs ∈ wV,cs.length=size) (gP:∀(i:Nat) (e:List D) (u:List V),w5[i]? =some e->wV[i]? =some u->dX F h e u)
 (lL:F (aE h.next)) (aL:w5.length<=top):∃H,h.new (.bz wV.flatten 0 false)=H/\Ext h H/\e1 F H size w5 (.slice (aE h.next) 0 w5.length w5.length):=by
 have kC:=JO wV bK;obtain ⟨H,an,av,aH⟩:=F6 h size w5.length wV.flatten (by rw [kC,aD]) aL;exact ⟨H,an,av,aH.room,aL,⟨wV,aH.v,aD,bK,fun i e u a b=>(gP i e u a b).ext av⟩,fun b q=>by rw [show b=aE h.next from q];exact lL⟩
theorem vx {F:aN->Prop} {h:ae} {size:Nat} {ds:List D} {cs:List V} (bK:cs.length=size) (H:dX F h ds cs) (lL:F (aE h.next)):∃g,h.new (.bz cs 0 false)=g/\Ext h g/\e1 F g size [ds] (.slice (aE h.next) 0 1 1):=by
 have:=LP (F:=F) (h:=h) (size:=size) [ds] [cs] rfl (fun c q=>by rw [aqV] at q;subst q;exact bK) (fun i e u a b=>by
  cases i with
  | zero=>simp only [aqz,aqj] at a b;subst a b;exact H
  | succ i=>simp at a) lL (by show _<=top;unfold top;simp)
 simpa using this
theorem LQ {F:aN->Prop} {h:ae} {size:Nat} {ds m':List D} {cs mr:List V} (bK:cs.length=size) (af6:mr.length=size) (H:dX F h ds cs) (jC:dX F h m' mr) (lL:F (aE h.next)):∃g,h.new (.bz (cs++mr) 0 false)=g/\Ext h g/\e1 F g size [ds,m'] (.slice (aE h.next) 0 2 2):=by
 have:=LP (F:=F) (h:=h) (size:=size) [ds,m'] [cs,mr] rfl (fun c q=>by
  rcases aqN.1 q with rfl | q
  . exact bK
  . rw [aqV] at q;subst q;exact af6) (fun i e u a b=>by
  match i with
  | 0=>simp only [aqz,aqj] at a b;subst a b;exact H
  | 1=>simp only [aq6,aqz,aqj] at a b;subst a b;exact jC
  | i+2=>simp at a) lL (by show _<=top;unfold top;simp)
 simpa using this
end
end Go.Proofs.YtahfljfikfkpnaaGreatDoor.bf
