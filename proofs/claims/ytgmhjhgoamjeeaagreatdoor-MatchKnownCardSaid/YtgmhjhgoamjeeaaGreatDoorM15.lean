/- The abstract machine and its walks (a verified interpreter of the model's code: plain definitions and lemmas, no condition). Printed by a program from longer texts: names made short. -/
import Derived.Test.YtgmhjhgoamjeeaaGreatDoorM11
import Derived.Test.YtgmhjhgoamjeeaaGreatDoorM3
import Derived.Shelf.SlIter.Sorted
import Derived.Shelf.SlIter.Nil
import Derived.StringKeys
import Derived.WideShapes
import Derived.Test.YtgmhjhgoamjeeaaGreatDoorM7
set_option linter.unusedSectionVars false
set_option linter.unusedSimpArgs false
set_option linter.unusedVariables false
set_option maxHeartbeats 64000000
noncomputable section
namespace Go.Proofs.YtgmhjhgoamjeeaaGreatDoor.aX
section
open Go Go.RowKit
variable [Lay]
theorem S5 {F:aL->Prop} {h:ae} {size:Nat} (vB:List (List D)) (vt:List (List V)) (aA:vt.length=vB.length) (bk:∀cs ∈ vt,cs.length=size) (dI:∀(i:Nat) (e:List D) (u:List V),vB[i]? =some e->vt[i]? =some u->bN F h e u)
 (hD:F (aw h.next)) (aV:vB.length<=top):∃H,h.new (.bQ vt.flatten 0 false)=H/\Ext h H/\b0 F H size vB (.slice (aw h.next) 0 vB.length vB.length):=by
 have iK:=x5 vt bk;obtain ⟨H,ak,al,aI⟩:=Fm h size vB.length vt.flatten (by rw [iK,aA]) aV;exact ⟨H,ak,al,aI.room,aV,⟨vt,aI.v,aA,bk,fun i e u a b=>(dI i e u a b).ext al⟩,fun b q=>by rw [show b=aw h.next from q];exact hD⟩
theorem wG {F:aL->Prop} {h:ae} {size:Nat} {ds:List D} {cs:List V} (bk:cs.length=size) (H:bN F h ds cs) (hD:F (aw h.next)):∃g,h.new (.bQ cs 0 false)=g/\Ext h g/\b0 F g size [ds] (.slice (aw h.next) 0 1 1):=by
 have:=S5 (F:=F) (h:=h) (size:=size) [ds] [cs] rfl (fun c q=>by rw [aqp] at q;subst q;exact bk) (fun i e u a b=>by
  cases i with
  | zero=>simp only [apK,aps] at a b;subst a b;exact H
  | succ i=>simp at a) hD (by show _<=top;unfold top;simp)
 simpa using this
theorem Fl {F:aL->Prop} {h:ae} {size:Nat} {ds l3:List D} {cs nF:List V} (bk:cs.length=size) (ae_:nF.length=size) (H:bN F h ds cs) (eg:bN F h l3 nF) (hD:F (aw h.next)):∃g,h.new (.bQ (cs++nF) 0 false)=g/\Ext h g/\b0 F g size [ds,l3] (.slice (aw h.next) 0 2 2):=by
 have:=S5 (F:=F) (h:=h) (size:=size) [ds,l3] [cs,nF] rfl (fun c q=>by
  rcases apJ.1 q with rfl | q
  . exact bk
  . rw [aqp] at q;subst q;exact ae_) (fun i e u a b=>by
  match i with
  | 0=>simp only [apK,aps] at a b;subst a b;exact H
  | 1=>simp only [aqr,apK,aps] at a b;subst a b;exact eg
  | i+2=>simp at a) hD (by show _<=top;unfold top;simp)
 simpa using this
end
section
open Go Go.RowKit Go.Maps Go.Sort Go.Shelf
open Go.Proofs (encStr)
variable [Lay]
def fV (clock:Nat):Nat->List b3->Bool
 | _,[]=>true
 | bP,m::ms=>Nat.ble bP m.born&&Nat.blt m.born clock&&fV clock (m.born+1) ms
end
section
open Go Go.RowKit
variable [Lay]
section
variable {α:Type}
def tu (e:α->V):List (List UInt8 × α)->List b3->Prop
 | [],[]=>True
 | (s,a)::aN,m::es=>m.k=.str s/\m.v=e a/\tu e aN es
 | _,_=>False
def ij (s:List UInt8):List (List UInt8 × α)->Option α
 | []=>none
 | (n,a)::aN=>if s=n then some a else ij s aN
def rA (s:List UInt8) (x:α):List (List UInt8 × α)->List (List UInt8 × α)
 | []=>[(s,x)]
 | (n,a)::aN=>if s=n then (s,x)::aN else (n,a)::rA s x aN
structure jC (e:α->V) (h:ae) (b:aL) (aN:List (List UInt8 × α)):Prop where
 ex:∃es clock,h.get b=.mp es clock/\tu e aN es/\fV clock 0 es=true
 bG:Old h b
theorem Nw (a b:List UInt8):lC a b=decide (a=b):=by
 induction a generalizing b with
 | nil=>cases b<;>simp [lC]
 | cons x a bb=>
   cases b with
   | nil=>simp [lC]
   | cons y b=>
     simp only [lC,bb];have aS:Nat.beq x.toNat y.toNat=decide (x=y):=by rw [aqm,apV,apF];exact ⟨fun q=>UInt8.toNat.inj q,fun q=>by rw [q]⟩
     rw [aS];by_cases c:x=y
     . subst c;simp
     . simp [c]
theorem Gm (s n:List UInt8):jh.run (.str s) (.str n)=some (decide (s=n)):=by simp only [jh,Nw]
variable {e:α->V} {h ab:ae} {b:aL} {aN:List (List UInt8 × α)} {es:List b3}
theorem tu.find (H:tu e aN es) (s:List UInt8):j2 jh (.str s) es=some ((ij s aN).map e):=by
 induction aN generalizing es with
 | nil=>
   cases es with
   | nil=>rfl
   | cons m es=>exact H.elim
 | cons p aN bb=>
   obtain ⟨n,a⟩:=p;cases es with
   | nil=>exact H.elim
   | cons m es=>
     obtain ⟨aa,ad,aJ⟩:=H;simp only [j2,aa,Gm,ij];by_cases q:s=n
     . subst q;simp [ad]
     . simp only [q,aq8,apA,ap9];exact bb aJ
theorem tu.put (H:tu e aN es) (s:List UInt8) (x:α) (clock:Nat) (bP:Nat) (ep:bP<=clock) (B:fV clock bP es=true):
 ∃fr f,kP jh (.str s) (e x) clock es=some (fr,f)/\tu e (rA s x aN) fr/\fV (bif f then clock+1 else clock) bP fr=true:=by
 induction aN generalizing es bP with
 | nil=>
   cases es with
   | nil=>
     refine ⟨_,true,rfl,⟨rfl,rfl,trivial⟩,?_⟩;simp only [fV,apu,aqt,apq,apE,apR];omega
   | cons m es=>exact H.elim
 | cons p aN bb=>
   obtain ⟨n,a⟩:=p;cases es with
   | nil=>exact H.elim
   | cons m es=>
     obtain ⟨aa,ad,aJ⟩:=H;simp only [fV,apq,apE,apR] at B;obtain ⟨⟨b8,cg⟩,eM⟩:=B;simp only [kP,aa,Gm,rA];by_cases q:s=n
     . subst q;refine ⟨⟨.str s,e x,m.born⟩::es,false,by simp only [aq3,apu],?_,?_⟩
       . rw [apz rfl];exact ⟨rfl,rfl,aJ⟩
       . simp only [apA,fV,eM,aqt,apq,apE,apR];exact ⟨b8,cg⟩
     . obtain ⟨fr,f,ak,al,aI⟩:=bb (bP:=m.born+1) aJ (by omega) eM;refine ⟨m::fr,f,by simp only [q,aq8,apA,ak],by rw [apw q];exact ⟨aa,ad,al⟩,?_⟩;simp only [fV,aI,aqt,apq,apE,apR];refine ⟨b8,?_⟩;cases f<;>simp only [apu,apA]<;>omega
theorem jC.ext (H:jC e h b aN) (x:Ext h ab):jC e ab b aN:=by obtain ⟨es,clock,ak,al,aI⟩:=H.ex;exact ⟨⟨es,clock,by rw [x.get b H.bG];exact ak,al,aI⟩,x.bG H.bG⟩
theorem jC.mod {M:aL->Prop} (H:jC e h b aN) (m:Mod M h ab) (ah:¬M b):jC e ab b aN:=by obtain ⟨es,clock,ak,al,aI⟩:=H.ex;exact ⟨⟨es,clock,by rw [m.get b H.bG ah];exact ak,al,aI⟩,m.bG H.bG⟩
theorem jC.look (H:jC e h b aN) (s:List UInt8) (z:V) (ok:Bool):gk jh z ok h (.map b) (.str s)=some (match ij s aN with
 | some a=>(bif ok then .tuple [e a,.bool true] else e a)
 | none=>(bif ok then .tuple [z,.bool false] else z)):=by
 obtain ⟨es,clock,ak,al,aI⟩:=H.ex;simp only [gk,ak,ha,qa,b1.hx,al.find];cases ij s aN<;>rfl
theorem jC.o_ (H:jC e h b aN) (s:List UInt8) (x:α):∃ab,jT jh h (.map b) (.str s) (e x)=some ab/\jC e ab b (rA s x aN)/\Mod (fun p=>p=b) h ab/\ab.next=h.next:=by obtain ⟨es,clock,ak,al,aI⟩:=H.ex;obtain ⟨fr,f,bM,dc,ct⟩:=al.put s x clock 0 (aqS _) aI;refine ⟨h.set b (.mp fr (bif f then clock+1 else clock)),by simp only [jT,ak,b1.hx,bM],⟨⟨fr,_,by rw [dV,apz rfl],dc,ct⟩,?_⟩,(Mod.refl (fun p=>p=b) h).set (fun _=>rfl) _,rfl⟩;exact ((Mod.refl (fun p=>p=b) h).set (fun _=>rfl) _).bG H.bG
theorem jC.new (e:α->V) (h:ae):jC e (h.new (.mp [] 0)) (aw h.next) []:=
 ⟨⟨[],0,qY _,trivial,rfl⟩,hv (by rw [f_];omega)⟩
theorem KB (s:List UInt8) (x:α) (t:List UInt8):∀aN:List (List UInt8 × α),ij t (rA s x aN)=if t=s then some x else ij t aN
 | []=>by simp only [rA,ij]
 | (n,a)::aN=>by
   simp only [rA];by_cases q:s=n
   . subst q;simp only [ap3,ij]
     split<;>rfl
   . rw [apw q];simp only [ij,KB s x t aN];by_cases r:t=n
     . rw [apz r,apw (fun z=>q (z.symm.trans r)),apz r]
     . rw [apw r,apw r]
theorem SB (s:List UInt8) (x:α):∀aN:List (List UInt8 × α),(rA s x aN).map Prod.fst=if s ∈ aN.map Prod.fst then aN.map Prod.fst else aN.map Prod.fst++[s]
 | []=>by simp [rA]
 | (n,a)::aN=>by
   simp only [rA];by_cases q:s=n
   . subst q;simp
   . rw [apw q,aqu,SB s x aN,aqu];simp only [apJ,q,false_or]
     split<;>simp
end
section
variable {κ:Type} [DecidableEq κ]
def jV (dy:κ->V):List (κ × V)->List b3->Prop
 | [],[]=>True
 | (n,a)::aN,m::es=>m.k=dy n/\m.v=a/\jV dy aN es
 | _,_=>False
def d_ (s:κ):List (κ × V)->Option V
 | []=>none
 | (n,a)::aN=>if s=n then some a else d_ s aN
def jP (s:κ) (x:V):List (κ × V)->List (κ × V)
 | []=>[(s,x)]
 | (n,a)::aN=>if s=n then (s,x)::aN else (n,a)::jP s x aN
structure gS (dy:κ->V) (h:ae) (b:aL) (aN:List (κ × V)):Prop where
 ex:∃es clock,h.get b=.mp es clock/\jV dy aN es/\fV clock 0 es=true
 bG:Old h b
abbrev tJ (E:dD) (dy:κ->V):Prop:=∀a b,E.run (dy a) (dy b)=some (decide (a=b))
variable {E:dD} {dy:κ->V} {h ab:ae} {b:aL} {aN:List (κ × V)} {es:List b3}
theorem jV.find (T:tJ E dy) (H:jV dy aN es) (s:κ):j2 E (dy s) es=some (d_ s aN):=by
 induction aN generalizing es with
 | nil=>
   cases es with
   | nil=>rfl
   | cons m es=>exact H.elim
 | cons p aN bb=>
   obtain ⟨n,a⟩:=p;cases es with
   | nil=>exact H.elim
   | cons m es=>
     obtain ⟨aa,ad,aJ⟩:=H;simp only [j2,aa,T s n,d_];by_cases q:s=n
     . subst q;simp [ad]
     . simp only [q,aq8,apA,ap9];exact bb aJ
theorem jV.put (T:tJ E dy) (H:jV dy aN es) (s:κ) (x:V) (clock:Nat) (bP:Nat) (ep:bP<=clock) (B:fV clock bP es=true):
 ∃fr f,kP E (dy s) x clock es=some (fr,f)/\jV dy (jP s x aN) fr/\fV (bif f then clock+1 else clock) bP fr=true:=by
 induction aN generalizing es bP with
 | nil=>
   cases es with
   | nil=>
     refine ⟨_,true,rfl,⟨rfl,rfl,trivial⟩,?_⟩;simp only [fV,apu,aqt,apq,apE,apR];omega
   | cons m es=>exact H.elim
 | cons p aN bb=>
   obtain ⟨n,a⟩:=p;cases es with
   | nil=>exact H.elim
   | cons m es=>
     obtain ⟨aa,ad,aJ⟩:=H;simp only [fV,apq,apE,apR] at B;obtain ⟨⟨b8,cg⟩,eM⟩:=B;simp only [kP,aa,T s n,jP];by_cases q:s=n
     . subst q;refine ⟨⟨dy s,x,m.born⟩::es,false,by simp only [aq3,apu],?_,?_⟩
       . rw [apz rfl];exact ⟨rfl,rfl,aJ⟩
       . simp only [apA,fV,eM,aqt,apq,apE,apR];exact ⟨b8,cg⟩
     . obtain ⟨fr,f,ak,al,aI⟩:=bb (bP:=m.born+1) aJ (by omega) eM;refine ⟨m::fr,f,by simp only [q,aq8,apA,ak],by rw [apw q];exact ⟨aa,ad,al⟩,?_⟩;simp only [fV,aI,aqt,apq,apE,apR];refine ⟨b8,?_⟩;cases f<;>simp only [apu,apA]<;>omega
theorem gS.ext (H:gS dy h b aN) (x:Ext h ab):gS dy ab b aN:=by obtain ⟨es,clock,ak,al,aI⟩:=H.ex;exact ⟨⟨es,clock,by rw [x.get b H.bG];exact ak,al,aI⟩,x.bG H.bG⟩
theorem gS.mod {M:aL->Prop} (H:gS dy h b aN) (m:Mod M h ab) (ah:¬M b):gS dy ab b aN:=by obtain ⟨es,clock,ak,al,aI⟩:=H.ex;exact ⟨⟨es,clock,by rw [m.get b H.bG ah];exact ak,al,aI⟩,m.bG H.bG⟩
theorem gS.look (T:tJ E dy) (H:gS dy h b aN) (s:κ) (z:V) (ok:Bool):ha E z ok h (.map b) (dy s)=some (match d_ s aN with
 | some a=>(bif ok then .tuple [a,.bool true] else a)
 | none=>(bif ok then .tuple [z,.bool false] else z)):=by
 obtain ⟨es,clock,ak,al,aI⟩:=H.ex;simp only [ha,ak,qa,b1.hx,al.find T];cases d_ s aN<;>rfl
theorem gS.o_ (T:tJ E dy) (H:gS dy h b aN) (s:κ) (x:V):∃ab,jT E h (.map b) (dy s) x=some ab/\gS dy ab b (jP s x aN)/\Mod (fun p=>p=b) h ab/\ab.next=h.next:=by obtain ⟨es,clock,ak,al,aI⟩:=H.ex;obtain ⟨fr,f,bM,dc,ct⟩:=al.put T s x clock 0 (aqS _) aI;refine ⟨h.set b (.mp fr (bif f then clock+1 else clock)),by simp only [jT,ak,b1.hx,bM],⟨⟨fr,_,by rw [dV,apz rfl],dc,ct⟩,?_⟩,(Mod.refl (fun p=>p=b) h).set (fun _=>rfl) _,rfl⟩;exact ((Mod.refl (fun p=>p=b) h).set (fun _=>rfl) _).bG H.bG
theorem gS.new (dy:κ->V) (h:ae):gS dy (h.new (.mp [] 0)) (aw h.next) []:=
 ⟨⟨[],0,qY _,trivial,rfl⟩,hv (by rw [f_];omega)⟩
theorem jV.nI (T:tJ E dy) (H:jV dy aN es) (s:κ) (bP c:Nat) (B:fV c bP es=true):(d_ s aN=none/\aX.nI E (dy s) es=some none)\/
 ∃m,aX.nI E (dy s) es=some (some m)/\d_ s aN=some m.v/\bP<=m.born/\∀x,∃fr,oF m.born x es=some fr/\jV dy (jP s x aN) fr/\fV c bP fr=true:=by
 induction aN generalizing es bP with
 | nil=>
   cases es with
   | nil=>exact .inl ⟨rfl,rfl⟩
   | cons m es=>exact H.elim
 | cons p aN bb=>
   obtain ⟨n,a⟩:=p;cases es with
   | nil=>exact H.elim
   | cons m es=>
     obtain ⟨aa,ad,aJ⟩:=H;simp only [fV,apq,apE,apR] at B;obtain ⟨⟨b8,cg⟩,eM⟩:=B;by_cases q:s=n
     . subst q;refine .inr ⟨m,by simp only [aX.nI,aa,T s s,aq3,apu],by simp [d_,ad],b8,fun x=>⟨⟨m.k,x,m.born⟩::es,by simp only [oF,ari,apu],?_,?_⟩⟩
       . simp only [jP,ap3];exact ⟨aa,rfl,aJ⟩
       . simp only [fV,eM,aqt,apq,apE,apR];exact ⟨b8,cg⟩
     . rcases bb aJ (m.born+1) eM with ⟨aK,aS⟩ | ⟨dj,aK,aS,bU,b9⟩
       . exact .inl ⟨by simp only [d_,apw q,aK],by simp only [aX.nI,aa,T s n,q,aq8,apA,aS]⟩
       . refine .inr ⟨dj,by simp only [aX.nI,aa,T s n,q,aq8,apA,aK],by simp only [d_,apw q,aS],by omega,fun x=>?_⟩;obtain ⟨fr,f1,f2,f3⟩:=b9 x;have c4:Nat.beq m.born dj.born=false:=by rw [<-ap2,apV];omega
         refine ⟨m::fr,by simp only [oF,c4,apA,f1],?_,?_⟩
         . simp only [jP,apw q];exact ⟨aa,ad,f2⟩
         . simp only [fV,f3,aqt,apq,apE,apR];exact ⟨b8,cg⟩
theorem jV.snoc (H:jV dy aN es) {s:κ} (aV:d_ s aN=none) (x:V) (c:Nat):jV dy (jP s x aN) (es++[⟨dy s,x,c⟩]):=by
 induction aN generalizing es with
 | nil=>
   cases es with
   | nil=>exact ⟨rfl,rfl,trivial⟩
   | cons m es=>exact H.elim
 | cons p aN bb=>
   cases es with
   | nil=>exact H.elim
   | cons m es=>
     simp only [d_] at aV
     split at aV
     . cases aV
     . rename_i q;simp only [jP,apw q];exact ⟨H.1,H.2.1,bb H.2.2 aV⟩
theorem NB {c:Nat} {k v:V}:∀{es:List b3} {bP:Nat},bP<=c->fV c bP es=true->fV (c+1) bP (es++[⟨k,v,c⟩])=true
 | [],bP,h,_=>by simp only [aqk,fV,aqt,apq,apE,apR];omega
 | m::es,bP,h,B=>by simp only [fV,apq,apE,apR] at B;simp only [apS,fV,apq,apE,apR];exact ⟨⟨B.1.1,by omega⟩,NB (by omega) B.2⟩
theorem Qr {c:Nat} {k v x:V}:∀{es:List b3} {bP:Nat},fV c bP es=true->oF c x (es++[⟨k,v,c⟩])=some (es++[⟨k,x,c⟩])
 | [],bP,_=>by simp [oF]
 | m::es,bP,B=>by
   simp only [fV,apq,apE,apR] at B;have:Nat.beq m.born c=false:=by rw [<-ap2,apV];omega
   simp only [apS,oF,this,apA,Qr B.2]
theorem gS.entry (T:tJ E dy) (H:gS dy h b aN) (s:κ) (z:V):∃(c:Nat) (aa:ae),sU E z h (.map b) (dy s)=some (.tuple [(d_ s aN).getD z,.int .i64 c],aa)/\Mod (fun p=>p=b) h aa/\aa.next=h.next/\
 ∀(ad:ae),ad.get b=aa.get b->Old ad b->∀x,∃aJ,qP ad (.map b) (.int .i64 c) x=some aJ/\gS dy aJ b (jP s x aN)/\Mod (fun p=>p=b) ad aJ/\aJ.next=ad.next:=by
 obtain ⟨es,clock,ak,al,aI⟩:=H.ex;have m1:∀(h:ae) k,Mod (fun p=>p=b) h (h.set b k):=fun h k=>(Mod.refl (fun p=>p=b) h).set (fun _=>rfl) _;rcases al.nI T s 0 clock aI with ⟨aK,aS⟩ | ⟨m,aK,aS,_,b9⟩
 . refine ⟨clock,h.set b (.mp (es++[⟨dy s,z,clock⟩]) (clock+1)),by simp only [sU,ak,b1.hx,aS,aK,Option.getD_none],m1 _ _,rfl,fun ad g2 ck x=>?_⟩;rw [dV,apz rfl] at g2;refine ⟨ad.set b (.mp (es++[⟨dy s,x,clock⟩]) (clock+1)),by simp only [qP,g2,b1.hx,Qr aI],⟨⟨_,_,by rw [dV,apz rfl],al.snoc aK x clock,NB (aqS _) aI⟩,(m1 ad _).bG ck⟩,m1 _ _,rfl⟩
 . refine ⟨m.born,h.set b (.mp es clock),by simp only [sU,ak,b1.hx,aK,aS,apX],m1 _ _,rfl,fun ad g2 ck x=>?_⟩;rw [dV,apz rfl] at g2;obtain ⟨fr,f1,f2,f3⟩:=b9 x;exact ⟨ad.set b (.mp fr clock),by simp only [qP,g2,b1.hx,f1],⟨⟨_,_,by rw [dV,apz rfl],f2,f3⟩,(m1 ad _).bG ck⟩,m1 _ _,rfl⟩
theorem S6 (s:κ) (x:V) (t:κ):∀aN:List (κ × V),d_ t (jP s x aN)=if t=s then some x else d_ t aN
 | []=>by simp only [jP,d_]
 | (n,a)::aN=>by
   simp only [jP];by_cases q:s=n
   . subst q;simp only [ap3,d_]
     split<;>rfl
   . rw [apw q];simp only [d_,S6 s x t aN];by_cases r:t=n
     . rw [apz r,apw (fun z=>q (z.symm.trans r)),apz r]
     . rw [apw r,apw r]
def gC (seen:List Nat):List (κ × V)->List b3->List (κ × V)
 | p::aN,m::es=>if m.born ∈ seen then gC seen aN es else p::gC seen aN es
 | _,_=>[]
structure nB (dy:κ->V) (h:ae) (b:aL) (it:Nat) (aN hK:List (κ × V)):Prop where
 ex:∃es clock seen,h.get b=.mp es clock/\jV dy aN es/\fV clock 0 es=true/\h.get (aw it)=.gD (some b) clock seen clock/\hK=gC seen aN es
 ne:b≠aw it
 cF:Old h b
 lt:it<h.next
theorem nB.mod {M:aL->Prop} {it:Nat} {hK:List (κ × V)} (R:nB dy h b it aN hK) (m:Mod M h ab) (ah:¬M b) (ax:¬M (aw it)):nB dy ab b it aN hK:=by obtain ⟨es,clock,seen,ak,al,aI,bB,cG⟩:=R.ex;exact ⟨⟨es,clock,seen,by rw [m.get b R.cF ah];exact ak,al,aI,by rw [m.get _ (hv R.lt) ax];exact bB,cG⟩,R.ne,m.bG R.cF,arv R.lt m.next⟩
theorem nB.ext {it:Nat} {hK:List (κ × V)} (R:nB dy h b it aN hK) (x:Ext h ab):nB dy ab b it aN hK:=R.mod (x.mod fun _=>False) (fun f=>f) (fun f=>f)
theorem SX:∀{aN:List (κ × V)} {es:List b3},jV dy aN es->gC [] aN es=aN
 | [],[],_=>rfl
 | p::aN,m::es,H=>by simp only [gC,List.not_mem_nil,ap9];rw [SX H.2.2]
 | [],_::_,H=>H.elim
 | _::_,[],H=>H.elim
theorem gS.range (H:gS dy h b aN):∃k,rangeMap (.map b) h=.val (.ptr (aw h.next) 0) (h.new k)/\nB dy (h.new k) b h.next aN aN:=by
 obtain ⟨es,clock,ak,al,aI⟩:=H.ex;have c4:b≠aw h.next:=fun e=>by have:=H.bG;rw [e] at this;unfold Old at this;rw [c1] at this;omega
 refine ⟨.gD (some b) clock [] clock,by simp only [rangeMap,ak,b1.hx],⟨es,clock,[],?_,al,aI,qY _,(SX al).symm⟩,c4,ajL H.bG,by rw [f_];omega⟩;rw [hV,apw (fun e=>c4 e.symm)];exact ak
theorem HJ {c:Nat}:∀{es:List b3} {bP:Nat},fV c bP es=true->∀m ∈ es,bP<=m.born/\m.born<c
 | m::es,bP,B,x,aj=>by
   simp only [fV,apq,apE,apR] at B;rcases apJ.1 aj with rfl | aj
   . exact ⟨B.1.1,B.1.2⟩
   . have:=HJ B.2 x aj;omega
 | [],_,_,_,aj=>by cases aj
theorem SW {seen:List Nat}:∀{aN:List (κ × V)} {es:List b3},jV dy aN es->leftOf seen es=[]->gC seen aN es=[]
 | [],[],_,_=>rfl
 | p::aN,m::es,H,e=>by
   simp only [leftOf] at e;cases ah:pK seen m.born<;>rw [ah] at e
   . cases e
   . simp only [gC,(AX _ _).1 ah,ap3];exact SW H.2.2 e
 | [],_::_,H,_=>H.elim
 | _::_,[],H,_=>H.elim
theorem Kw {seen:List Nat} {c:Nat}:∀{aN:List (κ × V)} {es:List b3} {bP:Nat},jV dy aN es->fV c bP es=true->∀m ∈ leftOf seen es,r_ m.born es=some m/\∃p,p ∈ gC seen aN es/\m.k=dy p.1/\m.v=p.2/\
 (gC (m.born::seen) aN es).length < (gC seen aN es).length/\(∀x ∈ gC (m.born::seen) aN es,x ∈ gC seen aN es)/\∀x ∈ gC seen aN es,x=p\/x ∈ gC (m.born::seen) aN es
 | [],[],_,_,_,m,hm=>by simp [leftOf] at hm
 | p::aN,y::es,bP,H,B,m,hm=>by
   simp only [fV,apq,apE,apR] at B;have aU:=HJ B.2;simp only [leftOf] at hm;have same:∀(aN:List (κ × V)) (es:List b3),jV dy aN es->(∀m ∈ es,y.born<m.born)->gC (y.born::seen) aN es=gC seen aN es:=by
    intro aN
    induction aN with
    | nil=>intro es H _;cases es<;>rfl
    | cons p aN bb=>
      intro es H aA;cases es with
      | nil=>rfl
      | cons z es=>
        have bk:=aA z aqb;have:z.born ∈ y.born::seen↔z.born ∈ seen:=by simp only [apJ];exact ⟨fun q=>q.resolve_left (by omega),.inr⟩
        simp only [gC,this,bb es H.2.2 fun m hm=>aA m (apZ _ hm)]
   cases ah:pK seen y.born<;>rw [ah] at hm
   . have uh:y.born ∉ seen:=fun q=>by rw [(AX _ _).2 q] at ah;cases ah
     simp only [apA,apJ] at hm;rcases hm with rfl | hm
     . refine ⟨by simp only [r_,ari,apu],p,?_⟩;have aK:gC (m.born::seen) (p::aN) (m::es)=gC seen aN es:=by
        simp only [gC,apJ,true_or,ap3];exact same aN es H.2.2 fun z bk=>by have:=aU z bk;omega
       have aS:gC seen (p::aN) (m::es)=p::gC seen aN es:=by simp only [gC,uh,ap9]
       rw [aK,aS];exact ⟨aqb,H.1,H.2.1,by simp,fun x aj=>apZ _ aj,fun x aj=>apJ.1 aj⟩
     . obtain ⟨f1,p',f2,f3,f4,f5,f6,f7⟩:=Kw H.2.2 B.2 m hm;have aR:y.born<m.born:=by have:=aU m (BO hm);omega
       have c4:Nat.beq y.born m.born=false:=by rw [<-ap2,apV];omega
       have aee:y.born ∉ m.born::seen:=fun q=>by
        rcases apJ.1 q with q | q
        . omega
        . exact uh q
       refine ⟨by simp only [r_,c4,apA,f1],p',?_⟩;simp only [gC,uh,aee,ap9,apB,apJ]
       exact ⟨.inr f2,f3,f4,by omega,fun x aj=>aj.imp_right (f6 x),fun x aj=>by
        rcases aj with rfl | aj
        . exact .inr (.inl rfl)
        . exact (f7 x aj).imp_right .inr⟩
   . have uh:y.born ∈ seen:=(AX _ _).1 ah;simp only [apu] at hm;obtain ⟨f1,p',f2,f3,f4,f5,f6,f7⟩:=Kw H.2.2 B.2 m hm;have aR:y.born<m.born:=by have:=aU m (BO hm);omega
     have c4:Nat.beq y.born m.born=false:=by rw [<-ap2,apV];omega
     refine ⟨by simp only [r_,c4,apA,f1],p',?_⟩;simp only [gC,uh,apZ m.born uh,ap3];exact ⟨f2,f3,f4,f5,f6,f7⟩
 | [],_::_,_,H,_,_,_=>H.elim
 | _::_,[],_,H,_,_,_=>H.elim
theorem XK {c:Nat}:∀{es:List b3},es≠[]->(∀m ∈ es,m.born<c)->qI c es=false
 | [],h,_=>absurd rfl h
 | m::es,_,h=>by
   have:=h m aqb;have q:Nat.ble c m.born=false:=by rw [<-ap2,apE];omega
   simp only [qI,q,apA]
theorem nB.next {it:Nat} {hK:List (κ × V)} (R:nB dy h b it aN hK) {K:V->ae->Prop} (Ww:hK=[]->K (.tuple [.bool false]) h)
 (tA:∀p ∈ hK,∀aa p9,so (.ptr (aw it) 0) aa=.val (.tuple [dy p.1,p.2]) aa->nB dy aa b it aN p9->p9.length<hK.length->(∀x ∈ p9,x ∈ hK)->(∀x ∈ hK,x=p\/x ∈ p9)->Mod (fun q=>q=aw it) h aa->aa.next=h.next->K (.tuple [.bool true,dy p.1,p.2]) aa):
 C9 (.ptr (aw it) 0) h K:=by
 obtain ⟨es,clock,seen,ak,al,aI,bB,cG⟩:=R.ex;have aR:=HJ aI;refine ⟨aw it,clock,seen,clock,b,es,clock,rfl,bB,ak,fun m hm=>(aR m hm).2,?_,fun e=>Ww (cG.trans (SW al e)),fun m hm=>?_⟩
 . cases es with
   | nil=>simp
   | cons x xs=>rw [XK (by simp) fun m hm=>(aR m hm).2];simp
 . obtain ⟨f1,p,f2,f3,f4,f5,f6,f7⟩:=Kw al aI m hm;rw [<-cG] at f2 f5 f6 f7;rw [f3,f4];have m1:Mod (fun q=>q=aw it) h (h.set (aw it) (.gD (some b) clock (m.born::seen) clock)):=(Mod.refl (fun q=>q=aw it) h).set (fun _=>rfl) _;have fN:(h.set (aw it) (.gD (some b) clock (m.born::seen) clock)).get b=.mp es clock:=by rw [dV,apw (fun e=>R.ne e.symm)];exact ak
   refine tA p f2 _ _ ?_ ⟨⟨es,clock,m.born::seen,fN,al,aI,by rw [dV,apz rfl],rfl⟩,R.ne,m1.bG R.cF,R.lt⟩ f5 f6 f7 m1 rfl;simp only [so,V.iQ,dV,ap3,ari,apu];rw [apw (fun e=>R.ne e.symm),ak];simp only [b1.hx,ari,apu,f1,f3,f4]
end
section
variable {P:Program}
theorem PU:∀(os:List bw) (r:bc) (h:ae) (K:bc->ae->Prop),(∀o ∈ os,∀x,o.g≠.lS x)->oc P os r h K->xT P os r h K
 | [],r,h,K,_,H=>H
 | o::os,r,h,K,aV,H=>by
   have q:o.sl P r h fun a_ ab=>oc P os a_ ab K:=by
    unfold bw.sl
    split
    . rename_i x _ e;exact absurd e (aV o aqb x)
    . exact H
   have mono:∀{A B:bc->ae->Prop},(∀r h,A r h->B r h)->o.sl P r h A->o.sl P r h B:=by
    intro A B pJ z;unfold bw.sl at z ⊢
    split at z
    . obtain ⟨b,since,seen,last,c,es,clock,aK,aS,bU,b9,dP,gV,k2⟩:=z;exact ⟨b,since,seen,last,c,es,clock,aK,aS,bU,b9,dP,fun w=>pJ _ _ (gV w),fun m hm=>pJ _ _ (k2 m hm)⟩
    . unfold bw.wp at z ⊢;have Ef:∀(g:G) (a_:bc) (C D:V->ae->Prop),(∀v h,C v h->D v h)->g.wp P a_ h C->g.wp P a_ h D:=by
       intro g a_ C D ss w;cases g
       case call f args=>exact c9.mono w ss
       case lD f args=>
        obtain ⟨g,xs,bW,bx⟩:=w;refine ⟨g,xs,bW,?_⟩;unfold CJ at bx ⊢
        split at bx
        . rename_i q;rw [apz q];obtain ⟨cp,b,e,v,ab,t1,t2⟩:=bx;exact ⟨cp,b,e,v,ab,t1,ss _ _ t2⟩
        . rename_i q;rw [apw q];exact c9.mono bx ss
       all_goals
        obtain ⟨v,ab,bW,bx⟩:=w;exact ⟨v,ab,bW,ss _ _ bx⟩
      split at z
      . exact Ef _ _ _ _ (fun v ab t=>pJ _ _ t) z
      . rename_i d w e;unfold gate at z ⊢
        split at z
        . exact ⟨fun t=>Ef _ _ _ _ (fun v ab t=>pJ _ _ t) (z.1 t),fun t=>pJ _ _ (z.2 t)⟩
        . exact pJ _ _ z
        . exact z
   exact mono (fun a_ ab z=>PU os a_ ab K (fun o aU=>aV o (apZ _ aU)) z) q
end
end
end Go.Proofs.YtgmhjhgoamjeeaaGreatDoor.aX
