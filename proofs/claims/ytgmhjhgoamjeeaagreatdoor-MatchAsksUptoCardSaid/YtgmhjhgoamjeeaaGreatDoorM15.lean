/- The abstract machine and its walks (a verified interpreter of the model's code: plain definitions and lemmas, no condition). Printed by a program from longer texts: names made short. -/
import Derived.Test.YtgmhjhgoamjeeaaGreatDoorM11
import Derived.Test.YtgmhjhgoamjeeaaGreatDoorM3
import Derived.Shelf.SlIter.Sorted
import Derived.Shelf.SlIter.Nil
import Derived.StringKeys
import Derived.WideShapes
import Derived.Test.YtgmhjhgoamjeeaaGreatDoorM7
set_option linter.unusedSectionVars false
set_option linter.unusedSimpArgs false
set_option linter.unusedVariables false
set_option maxHeartbeats 64000000
noncomputable section
namespace Go.Proofs.YtgmhjhgoamjeeaaGreatDoor.aZ
section
open Go Go.RowKit
variable [Lay]
theorem Th {F:aO->Prop} {h:ae} {size:Nat} (vY:List (List D)) (vP:List (List V)) (ar:vP.length=vY.length) (bm:∀cs ∈ vP,cs.length=size) (eb:∀(i:Nat) (e:List D) (u:List V),vY[i]? =some e->vP[i]? =some u->b6 F h e u)
 (eX:F (aC h.next)) (aV:vY.length<=top):∃H,h.new (.bT vP.flatten 0 false)=H/\Ext h H/\bN F H size vY (.slice (aC h.next) 0 vY.length vY.length):=by
 have jP:=AP vP bm;obtain ⟨H,aj,an,aJ⟩:=qo h size vY.length vP.flatten (by rw [jP,ar]) aV;exact ⟨H,aj,an,aJ.room,aV,⟨vP,aJ.v,ar,bm,fun i e u a b=>(eb i e u a b).ext an⟩,fun b q=>by rw [show b=aC h.next from q];exact eX⟩
theorem Fh {F:aO->Prop} {h:ae} {size:Nat} {ds:List D} {cs:List V} (bm:cs.length=size) (H:b6 F h ds cs) (eX:F (aC h.next)):∃g,h.new (.bT cs 0 false)=g/\Ext h g/\bN F g size [ds] (.slice (aC h.next) 0 1 1):=by
 have:=Th (F:=F) (h:=h) (size:=size) [ds] [cs] rfl (fun c q=>by rw [aqa] at q;subst q;exact bm) (fun i e u a b=>by
  cases i with
  | zero=>simp only [apH,apq] at a b;subst a b;exact H
  | succ i=>simp at a) eX (by show _<=top;unfold top;simp)
 simpa using this
theorem aiz {F:aO->Prop} {h:ae} {size:Nat} {ds nR:List D} {cs pM:List V} (bm:cs.length=size) (ae9:pM.length=size) (H:b6 F h ds cs) (gm:b6 F h nR pM) (eX:F (aC h.next)):∃g,h.new (.bT (cs++pM) 0 false)=g/\Ext h g/\bN F g size [ds,nR] (.slice (aC h.next) 0 2 2):=by
 have:=Th (F:=F) (h:=h) (size:=size) [ds,nR] [cs,pM] rfl (fun c q=>by
  rcases apI.1 q with rfl | q
  . exact bm
  . rw [aqa] at q;subst q;exact ae9) (fun i e u a b=>by
  match i with
  | 0=>simp only [apH,apq] at a b;subst a b;exact H
  | 1=>simp only [aqq,apH,apq] at a b;subst a b;exact gm
  | i+2=>simp at a) eX (by show _<=top;unfold top;simp)
 simpa using this
end
section
open Go Go.RowKit Go.Maps Go.Sort Go.Shelf
open Go.Proofs (encStr)
variable [Lay]
def gp (clock:Nat):Nat->List cb->Bool
 | _,[]=>true
 | br,m::ms=>Nat.ble br m.born&&Nat.blt m.born clock&&gp clock (m.born+1) ms
end
section
open Go Go.RowKit
variable [Lay]
section
variable {α:Type}
def vg (e:α->V):List (List UInt8 × α)->List cb->Prop
 | [],[]=>True
 | (s,a)::aR,m::es=>m.k=.str s/\m.v=e a/\vg e aR es
 | _,_=>False
def kj (s:List UInt8):List (List UInt8 × α)->Option α
 | []=>none
 | (n,a)::aR=>if s=n then some a else kj s aR
def rO (s:List UInt8) (x:α):List (List UInt8 × α)->List (List UInt8 × α)
 | []=>[(s,x)]
 | (n,a)::aR=>if s=n then (s,x)::aR else (n,a)::rO s x aR
structure j7 (e:α->V) (h:ae) (b:aO) (aR:List (List UInt8 × α)):Prop where
 ex:∃es clock,h.get b=.mp es clock/\vg e aR es/\gp clock 0 es=true
 bG:Old h b
theorem Nq (a b:List UInt8):lJ a b=decide (a=b):=by
 induction a generalizing b with
 | nil=>cases b<;>simp [lJ]
 | cons x a bh=>
   cases b with
   | nil=>simp [lJ]
   | cons y b=>
     simp only [lJ,bh];have aK:Nat.beq x.toNat y.toNat=decide (x=y):=by rw [aqg,apT,apE];exact ⟨fun q=>UInt8.toNat.inj q,fun q=>by rw [q]⟩
     rw [aK];by_cases c:x=y
     . subst c;simp
     . simp [c]
theorem Gg (s n:List UInt8):jN.run (.str s) (.str n)=some (decide (s=n)):=by simp only [jN,Nq]
variable {e:α->V} {h aa:ae} {b:aO} {aR:List (List UInt8 × α)} {es:List cb}
theorem vg.find (H:vg e aR es) (s:List UInt8):j_ jN (.str s) es=some ((kj s aR).map e):=by
 induction aR generalizing es with
 | nil=>
   cases es with
   | nil=>rfl
   | cons m es=>exact H.elim
 | cons p aR bh=>
   obtain ⟨n,a⟩:=p;cases es with
   | nil=>exact H.elim
   | cons m es=>
     obtain ⟨U,ab,aI⟩:=H;simp only [j_,U,Gg,kj];by_cases q:s=n
     . subst q;simp [ab]
     . simp only [q,aq2,apA,ap2];exact bh aI
theorem vg.put (H:vg e aR es) (s:List UInt8) (x:α) (clock:Nat) (br:Nat) (dZ:br<=clock) (B:gp clock br es=true):
 ∃fF f,k1 jN (.str s) (e x) clock es=some (fF,f)/\vg e (rO s x aR) fF/\gp (bif f then clock+1 else clock) br fF=true:=by
 induction aR generalizing es br with
 | nil=>
   cases es with
   | nil=>
     refine ⟨_,true,rfl,⟨rfl,rfl,trivial⟩,?_⟩;simp only [gp,apt,aqn,apn,apF,apQ];omega
   | cons m es=>exact H.elim
 | cons p aR bh=>
   obtain ⟨n,a⟩:=p;cases es with
   | nil=>exact H.elim
   | cons m es=>
     obtain ⟨U,ab,aI⟩:=H;simp only [gp,apn,apF,apQ] at B;obtain ⟨⟨bR,b7⟩,eL⟩:=B;simp only [k1,U,Gg,rO];by_cases q:s=n
     . subst q;refine ⟨⟨.str s,e x,m.born⟩::es,false,by simp only [aq8,apt],?_,?_⟩
       . rw [apB rfl];exact ⟨rfl,rfl,aI⟩
       . simp only [apA,gp,eL,aqn,apn,apF,apQ];exact ⟨bR,b7⟩
     . obtain ⟨fF,f,aj,an,aJ⟩:=bh (br:=m.born+1) aI (by omega) eL;refine ⟨m::fF,f,by simp only [q,aq2,apA,aj],by rw [apu q];exact ⟨U,ab,an⟩,?_⟩;simp only [gp,aJ,aqn,apn,apF,apQ];refine ⟨bR,?_⟩;cases f<;>simp only [apt,apA]<;>omega
theorem j7.ext (H:j7 e h b aR) (x:Ext h aa):j7 e aa b aR:=by obtain ⟨es,clock,aj,an,aJ⟩:=H.ex;exact ⟨⟨es,clock,by rw [x.get b H.bG];exact aj,an,aJ⟩,x.bG H.bG⟩
theorem j7.mod {M:aO->Prop} (H:j7 e h b aR) (m:Mod M h aa) (ah:¬M b):j7 e aa b aR:=by obtain ⟨es,clock,aj,an,aJ⟩:=H.ex;exact ⟨⟨es,clock,by rw [m.get b H.bG ah];exact aj,an,aJ⟩,m.bG H.bG⟩
theorem j7.look (H:j7 e h b aR) (s:List UInt8) (z:V) (ok:Bool):g' jN z ok h (.map b) (.str s)=some (match kj s aR with
 | some a=>(bif ok then .tuple [e a,.bool true] else e a)
 | none=>(bif ok then .tuple [z,.bool false] else z)):=by
 obtain ⟨es,clock,aj,an,aJ⟩:=H.ex;simp only [g',aj,hq,qq,b'.hN,an.find];cases kj s aR<;>rfl
theorem j7.pt (H:j7 e h b aR) (s:List UInt8) (x:α):∃aa,j2 jN h (.map b) (.str s) (e x)=some aa/\j7 e aa b (rO s x aR)/\Mod (fun p=>p=b) h aa/\aa.next=h.next:=by obtain ⟨es,clock,aj,an,aJ⟩:=H.ex;obtain ⟨fF,f,a',cG,b3⟩:=an.put s x clock 0 (aqL _) aJ;refine ⟨h.set b (.mp fF (bif f then clock+1 else clock)),by simp only [j2,aj,b'.hN,a'],⟨⟨fF,_,by rw [dV,apB rfl],cG,b3⟩,?_⟩,(Mod.refl (fun p=>p=b) h).set (fun _=>rfl) _,rfl⟩;exact ((Mod.refl (fun p=>p=b) h).set (fun _=>rfl) _).bG H.bG
theorem j7.new (e:α->V) (h:ae):j7 e (h.new (.mp [] 0)) (aC h.next) []:=
 ⟨⟨[],0,nU _,trivial,rfl⟩,h5 (by rw [ga];omega)⟩
theorem KC (s:List UInt8) (x:α) (t:List UInt8):∀aR:List (List UInt8 × α),kj t (rO s x aR)=if t=s then some x else kj t aR
 | []=>by simp only [rO,kj]
 | (n,a)::aR=>by
   simp only [rO];by_cases q:s=n
   . subst q;simp only [ap0,kj]
     split<;>rfl
   . rw [apu q];simp only [kj,KC s x t aR];by_cases r:t=n
     . rw [apB r,apu (fun z=>q (z.symm.trans r)),apB r]
     . rw [apu r,apu r]
theorem SL (s:List UInt8) (x:α):∀aR:List (List UInt8 × α),(rO s x aR).map Prod.fst=if s ∈ aR.map Prod.fst then aR.map Prod.fst else aR.map Prod.fst++[s]
 | []=>by simp [rO]
 | (n,a)::aR=>by
   simp only [rO];by_cases q:s=n
   . subst q;simp
   . rw [apu q,aqt,SL s x aR,aqt];simp only [apI,q,false_or]
     split<;>simp
end
section
variable {κ:Type} [DecidableEq κ]
def kv (dQ:κ->V):List (κ × V)->List cb->Prop
 | [],[]=>True
 | (n,a)::aR,m::es=>m.k=dQ n/\m.v=a/\kv dQ aR es
 | _,_=>False
def eu (s:κ):List (κ × V)->Option V
 | []=>none
 | (n,a)::aR=>if s=n then some a else eu s aR
def jY (s:κ) (x:V):List (κ × V)->List (κ × V)
 | []=>[(s,x)]
 | (n,a)::aR=>if s=n then (s,x)::aR else (n,a)::jY s x aR
structure hT (dQ:κ->V) (h:ae) (b:aO) (aR:List (κ × V)):Prop where
 ex:∃es clock,h.get b=.mp es clock/\kv dQ aR es/\gp clock 0 es=true
 bG:Old h b
abbrev tS (E:dJ) (dQ:κ->V):Prop:=∀a b,E.run (dQ a) (dQ b)=some (decide (a=b))
variable {E:dJ} {dQ:κ->V} {h aa:ae} {b:aO} {aR:List (κ × V)} {es:List cb}
theorem kv.find (T:tS E dQ) (H:kv dQ aR es) (s:κ):j_ E (dQ s) es=some (eu s aR):=by
 induction aR generalizing es with
 | nil=>
   cases es with
   | nil=>rfl
   | cons m es=>exact H.elim
 | cons p aR bh=>
   obtain ⟨n,a⟩:=p;cases es with
   | nil=>exact H.elim
   | cons m es=>
     obtain ⟨U,ab,aI⟩:=H;simp only [j_,U,T s n,eu];by_cases q:s=n
     . subst q;simp [ab]
     . simp only [q,aq2,apA,ap2];exact bh aI
theorem kv.put (T:tS E dQ) (H:kv dQ aR es) (s:κ) (x:V) (clock:Nat) (br:Nat) (dZ:br<=clock) (B:gp clock br es=true):
 ∃fF f,k1 E (dQ s) x clock es=some (fF,f)/\kv dQ (jY s x aR) fF/\gp (bif f then clock+1 else clock) br fF=true:=by
 induction aR generalizing es br with
 | nil=>
   cases es with
   | nil=>
     refine ⟨_,true,rfl,⟨rfl,rfl,trivial⟩,?_⟩;simp only [gp,apt,aqn,apn,apF,apQ];omega
   | cons m es=>exact H.elim
 | cons p aR bh=>
   obtain ⟨n,a⟩:=p;cases es with
   | nil=>exact H.elim
   | cons m es=>
     obtain ⟨U,ab,aI⟩:=H;simp only [gp,apn,apF,apQ] at B;obtain ⟨⟨bR,b7⟩,eL⟩:=B;simp only [k1,U,T s n,jY];by_cases q:s=n
     . subst q;refine ⟨⟨dQ s,x,m.born⟩::es,false,by simp only [aq8,apt],?_,?_⟩
       . rw [apB rfl];exact ⟨rfl,rfl,aI⟩
       . simp only [apA,gp,eL,aqn,apn,apF,apQ];exact ⟨bR,b7⟩
     . obtain ⟨fF,f,aj,an,aJ⟩:=bh (br:=m.born+1) aI (by omega) eL;refine ⟨m::fF,f,by simp only [q,aq2,apA,aj],by rw [apu q];exact ⟨U,ab,an⟩,?_⟩;simp only [gp,aJ,aqn,apn,apF,apQ];refine ⟨bR,?_⟩;cases f<;>simp only [apt,apA]<;>omega
theorem hT.ext (H:hT dQ h b aR) (x:Ext h aa):hT dQ aa b aR:=by obtain ⟨es,clock,aj,an,aJ⟩:=H.ex;exact ⟨⟨es,clock,by rw [x.get b H.bG];exact aj,an,aJ⟩,x.bG H.bG⟩
theorem hT.mod {M:aO->Prop} (H:hT dQ h b aR) (m:Mod M h aa) (ah:¬M b):hT dQ aa b aR:=by obtain ⟨es,clock,aj,an,aJ⟩:=H.ex;exact ⟨⟨es,clock,by rw [m.get b H.bG ah];exact aj,an,aJ⟩,m.bG H.bG⟩
theorem hT.look (T:tS E dQ) (H:hT dQ h b aR) (s:κ) (z:V) (ok:Bool):hq E z ok h (.map b) (dQ s)=some (match eu s aR with
 | some a=>(bif ok then .tuple [a,.bool true] else a)
 | none=>(bif ok then .tuple [z,.bool false] else z)):=by
 obtain ⟨es,clock,aj,an,aJ⟩:=H.ex;simp only [hq,aj,qq,b'.hN,an.find T];cases eu s aR<;>rfl
theorem hT.pt (T:tS E dQ) (H:hT dQ h b aR) (s:κ) (x:V):∃aa,j2 E h (.map b) (dQ s) x=some aa/\hT dQ aa b (jY s x aR)/\Mod (fun p=>p=b) h aa/\aa.next=h.next:=by obtain ⟨es,clock,aj,an,aJ⟩:=H.ex;obtain ⟨fF,f,a',cG,b3⟩:=an.put T s x clock 0 (aqL _) aJ;refine ⟨h.set b (.mp fF (bif f then clock+1 else clock)),by simp only [j2,aj,b'.hN,a'],⟨⟨fF,_,by rw [dV,apB rfl],cG,b3⟩,?_⟩,(Mod.refl (fun p=>p=b) h).set (fun _=>rfl) _,rfl⟩;exact ((Mod.refl (fun p=>p=b) h).set (fun _=>rfl) _).bG H.bG
theorem hT.new (dQ:κ->V) (h:ae):hT dQ (h.new (.mp [] 0)) (aC h.next) []:=
 ⟨⟨[],0,nU _,trivial,rfl⟩,h5 (by rw [ga];omega)⟩
theorem kv.nT (T:tS E dQ) (H:kv dQ aR es) (s:κ) (br c:Nat) (B:gp c br es=true):(eu s aR=none/\aZ.nT E (dQ s) es=some none)\/
 ∃m,aZ.nT E (dQ s) es=some (some m)/\eu s aR=some m.v/\br<=m.born/\∀x,∃fF,oU m.born x es=some fF/\kv dQ (jY s x aR) fF/\gp c br fF=true:=by
 induction aR generalizing es br with
 | nil=>
   cases es with
   | nil=>exact .inl ⟨rfl,rfl⟩
   | cons m es=>exact H.elim
 | cons p aR bh=>
   obtain ⟨n,a⟩:=p;cases es with
   | nil=>exact H.elim
   | cons m es=>
     obtain ⟨U,ab,aI⟩:=H;simp only [gp,apn,apF,apQ] at B;obtain ⟨⟨bR,b7⟩,eL⟩:=B;by_cases q:s=n
     . subst q;refine .inr ⟨m,by simp only [aZ.nT,U,T s s,aq8,apt],by simp [eu,ab],bR,fun x=>⟨⟨m.k,x,m.born⟩::es,by simp only [oU,arh,apt],?_,?_⟩⟩
       . simp only [jY,ap0];exact ⟨U,rfl,aI⟩
       . simp only [gp,eL,aqn,apn,apF,apQ];exact ⟨bR,b7⟩
     . rcases bh aI (m.born+1) eL with ⟨av,aK⟩ | ⟨cZ,av,aK,bF,bZ⟩
       . exact .inl ⟨by simp only [eu,apu q,av],by simp only [aZ.nT,U,T s n,q,aq2,apA,aK]⟩
       . refine .inr ⟨cZ,by simp only [aZ.nT,U,T s n,q,aq2,apA,av],by simp only [eu,apu q,aK],by omega,fun x=>?_⟩;obtain ⟨fF,f1,f2,f3⟩:=bZ x;have cT:Nat.beq m.born cZ.born=false:=by rw [<-ap1,apT];omega
         refine ⟨m::fF,by simp only [oU,cT,apA,f1],?_,?_⟩
         . simp only [jY,apu q];exact ⟨U,ab,f2⟩
         . simp only [gp,f3,aqn,apn,apF,apQ];exact ⟨bR,b7⟩
theorem kv.snoc (H:kv dQ aR es) {s:κ} (aV:eu s aR=none) (x:V) (c:Nat):kv dQ (jY s x aR) (es++[⟨dQ s,x,c⟩]):=by
 induction aR generalizing es with
 | nil=>
   cases es with
   | nil=>exact ⟨rfl,rfl,trivial⟩
   | cons m es=>exact H.elim
 | cons p aR bh=>
   cases es with
   | nil=>exact H.elim
   | cons m es=>
     simp only [eu] at aV
     split at aV
     . cases aV
     . rename_i q;simp only [jY,apu q];exact ⟨H.1,H.2.1,bh H.2.2 aV⟩
theorem Nv {c:Nat} {k v:V}:∀{es:List cb} {br:Nat},br<=c->gp c br es=true->gp (c+1) br (es++[⟨k,v,c⟩])=true
 | [],br,h,_=>by simp only [aql,gp,aqn,apn,apF,apQ];omega
 | m::es,br,h,B=>by simp only [gp,apn,apF,apQ] at B;simp only [ap3,gp,apn,apF,apQ];exact ⟨⟨B.1.1,by omega⟩,Nv (by omega) B.2⟩
theorem Qu {c:Nat} {k v x:V}:∀{es:List cb} {br:Nat},gp c br es=true->oU c x (es++[⟨k,v,c⟩])=some (es++[⟨k,x,c⟩])
 | [],br,_=>by simp [oU]
 | m::es,br,B=>by
   simp only [gp,apn,apF,apQ] at B;have:Nat.beq m.born c=false:=by rw [<-ap1,apT];omega
   simp only [ap3,oU,this,apA,Qu B.2]
theorem hT.entry (T:tS E dQ) (H:hT dQ h b aR) (s:κ) (z:V):∃(c:Nat) (U:ae),s5 E z h (.map b) (dQ s)=some (.tuple [(eu s aR).getD z,.int .i64 c],U)/\Mod (fun p=>p=b) h U/\U.next=h.next/\
 ∀(ab:ae),ab.get b=U.get b->Old ab b->∀x,∃aI,q8 ab (.map b) (.int .i64 c) x=some aI/\hT dQ aI b (jY s x aR)/\Mod (fun p=>p=b) ab aI/\aI.next=ab.next:=by
 obtain ⟨es,clock,aj,an,aJ⟩:=H.ex;have m1:∀(h:ae) k,Mod (fun p=>p=b) h (h.set b k):=fun h k=>(Mod.refl (fun p=>p=b) h).set (fun _=>rfl) _;rcases an.nT T s 0 clock aJ with ⟨av,aK⟩ | ⟨m,av,aK,_,bZ⟩
 . refine ⟨clock,h.set b (.mp (es++[⟨dQ s,z,clock⟩]) (clock+1)),by simp only [s5,aj,b'.hN,aK,av,Option.getD_none],m1 _ _,rfl,fun ab g2 cy x=>?_⟩;rw [dV,apB rfl] at g2;refine ⟨ab.set b (.mp (es++[⟨dQ s,x,clock⟩]) (clock+1)),by simp only [q8,g2,b'.hN,Qu aJ],⟨⟨_,_,by rw [dV,apB rfl],an.snoc av x clock,Nv (aqL _) aJ⟩,(m1 ab _).bG cy⟩,m1 _ _,rfl⟩
 . refine ⟨m.born,h.set b (.mp es clock),by simp only [s5,aj,b'.hN,av,aK,aqe],m1 _ _,rfl,fun ab g2 cy x=>?_⟩;rw [dV,apB rfl] at g2;obtain ⟨fF,f1,f2,f3⟩:=bZ x;exact ⟨ab.set b (.mp fF clock),by simp only [q8,g2,b'.hN,f1],⟨⟨_,_,by rw [dV,apB rfl],f2,f3⟩,(m1 ab _).bG cy⟩,m1 _ _,rfl⟩
theorem Ti (s:κ) (x:V) (t:κ):∀aR:List (κ × V),eu t (jY s x aR)=if t=s then some x else eu t aR
 | []=>by simp only [jY,eu]
 | (n,a)::aR=>by
   simp only [jY];by_cases q:s=n
   . subst q;simp only [ap0,eu]
     split<;>rfl
   . rw [apu q];simp only [eu,Ti s x t aR];by_cases r:t=n
     . rw [apB r,apu (fun z=>q (z.symm.trans r)),apB r]
     . rw [apu r,apu r]
def gQ (seen:List Nat):List (κ × V)->List cb->List (κ × V)
 | p::aR,m::es=>if m.born ∈ seen then gQ seen aR es else p::gQ seen aR es
 | _,_=>[]
structure xI (dQ:κ->V) (h:ae) (b:aO) (it:Nat) (aR mE:List (κ × V)):Prop where
 ex:∃es clock seen,h.get b=.mp es clock/\kv dQ aR es/\gp clock 0 es=true/\h.get (aC it)=.gR (some b) clock seen clock/\mE=gQ seen aR es
 ne:b≠aC it
 cM:Old h b
 lt:it<h.next
theorem S':∀{aR:List (κ × V)} {es:List cb},kv dQ aR es->gQ [] aR es=aR
 | [],[],_=>rfl
 | p::aR,m::es,H=>by simp only [gQ,List.not_mem_nil,ap2];rw [S' H.2.2]
 | [],_::_,H=>H.elim
 | _::_,[],H=>H.elim
theorem hT.range (H:hT dQ h b aR):∃k,rangeMap (.map b) h=.val (.ptr (aC h.next) 0) (h.new k)/\xI dQ (h.new k) b h.next aR aR:=by
 obtain ⟨es,clock,aj,an,aJ⟩:=H.ex;have cT:b≠aC h.next:=fun e=>by have:=H.bG;rw [e] at this;unfold Old at this;rw [cV] at this;omega
 refine ⟨.gR (some b) clock [] clock,by simp only [rangeMap,aj,b'.hN],⟨es,clock,[],?_,an,aJ,nU _,(S' an).symm⟩,cT,ajI H.bG,by rw [ga];omega⟩;rw [iz,apu (fun e=>cT e.symm)];exact aj
theorem HK {c:Nat}:∀{es:List cb} {br:Nat},gp c br es=true->∀m ∈ es,br<=m.born/\m.born<c
 | m::es,br,B,x,ao=>by
   simp only [gp,apn,apF,apQ] at B;rcases apI.1 ao with rfl | ao
   . exact ⟨B.1.1,B.1.2⟩
   . have:=HK B.2 x ao;omega
 | [],_,_,_,ao=>by cases ao
theorem S9 {seen:List Nat}:∀{aR:List (κ × V)} {es:List cb},kv dQ aR es->leftOf seen es=[]->gQ seen aR es=[]
 | [],[],_,_=>rfl
 | p::aR,m::es,H,e=>by
   simp only [leftOf] at e;cases ah:pX seen m.born<;>rw [ah] at e
   . cases e
   . simp only [gQ,(AX _ _).1 ah,ap0];exact S9 H.2.2 e
 | [],_::_,H,_=>H.elim
 | _::_,[],H,_=>H.elim
theorem Ky {seen:List Nat} {c:Nat}:∀{aR:List (κ × V)} {es:List cb} {br:Nat},kv dQ aR es->gp c br es=true->∀m ∈ leftOf seen es,ss m.born es=some m/\∃p,p ∈ gQ seen aR es/\m.k=dQ p.1/\m.v=p.2/\
 (gQ (m.born::seen) aR es).length < (gQ seen aR es).length/\(∀x ∈ gQ (m.born::seen) aR es,x ∈ gQ seen aR es)/\∀x ∈ gQ seen aR es,x=p\/x ∈ gQ (m.born::seen) aR es
 | [],[],_,_,_,m,hm=>by simp [leftOf] at hm
 | p::aR,y::es,br,H,B,m,hm=>by
   simp only [gp,apn,apF,apQ] at B;have aT:=HK B.2;simp only [leftOf] at hm;have same:∀(aR:List (κ × V)) (es:List cb),kv dQ aR es->(∀m ∈ es,y.born<m.born)->gQ (y.born::seen) aR es=gQ seen aR es:=by
    intro aR
    induction aR with
    | nil=>intro es H _;cases es<;>rfl
    | cons p aR bh=>
      intro es H ar;cases es with
      | nil=>rfl
      | cons z es=>
        have bm:=ar z aqo;have:z.born ∈ y.born::seen↔z.born ∈ seen:=by simp only [apI];exact ⟨fun q=>q.resolve_left (by omega),.inr⟩
        simp only [gQ,this,bh es H.2.2 fun m hm=>ar m (ap6 _ hm)]
   cases ah:pX seen y.born<;>rw [ah] at hm
   . have rv:y.born ∉ seen:=fun q=>by rw [(AX _ _).2 q] at ah;cases ah
     simp only [apA,apI] at hm;rcases hm with rfl | hm
     . refine ⟨by simp only [ss,arh,apt],p,?_⟩;have av:gQ (m.born::seen) (p::aR) (m::es)=gQ seen aR es:=by
        simp only [gQ,apI,true_or,ap0];exact same aR es H.2.2 fun z bm=>by have:=aT z bm;omega
       have aK:gQ seen (p::aR) (m::es)=p::gQ seen aR es:=by simp only [gQ,rv,ap2]
       rw [av,aK];exact ⟨aqo,H.1,H.2.1,by simp,fun x ao=>ap6 _ ao,fun x ao=>apI.1 ao⟩
     . obtain ⟨f1,p',f2,f3,f4,f5,f6,f7⟩:=Ky H.2.2 B.2 m hm;have aL:y.born<m.born:=by have:=aT m (BQ hm);omega
       have cT:Nat.beq y.born m.born=false:=by rw [<-ap1,apT];omega
       have aeg:y.born ∉ m.born::seen:=fun q=>by
        rcases apI.1 q with q | q
        . omega
        . exact rv q
       refine ⟨by simp only [ss,cT,apA,f1],p',?_⟩;simp only [gQ,rv,aeg,ap2,apz,apI]
       exact ⟨.inr f2,f3,f4,by omega,fun x ao=>ao.imp_right (f6 x),fun x ao=>by
        rcases ao with rfl | ao
        . exact .inr (.inl rfl)
        . exact (f7 x ao).imp_right .inr⟩
   . have rv:y.born ∈ seen:=(AX _ _).1 ah;simp only [apt] at hm;obtain ⟨f1,p',f2,f3,f4,f5,f6,f7⟩:=Ky H.2.2 B.2 m hm;have aL:y.born<m.born:=by have:=aT m (BQ hm);omega
     have cT:Nat.beq y.born m.born=false:=by rw [<-ap1,apT];omega
     refine ⟨by simp only [ss,cT,apA,f1],p',?_⟩;simp only [gQ,rv,ap6 m.born rv,ap0];exact ⟨f2,f3,f4,f5,f6,f7⟩
 | [],_::_,_,H,_,_,_=>H.elim
 | _::_,[],_,H,_,_,_=>H.elim
theorem XM {c:Nat}:∀{es:List cb},es≠[]->(∀m ∈ es,m.born<c)->qZ c es=false
 | [],h,_=>absurd rfl h
 | m::es,_,h=>by
   have:=h m aqo;have q:Nat.ble c m.born=false:=by rw [<-ap1,apF];omega
   simp only [qZ,q,apA]
theorem xI.next {it:Nat} {mE:List (κ × V)} (R:xI dQ h b it aR mE) {K:V->ae->Prop} (WN:mE=[]->K (.tuple [.bool false]) h)
 (tK:∀p ∈ mE,∀U yS,t_ (.ptr (aC it) 0) U=.val (.tuple [dQ p.1,p.2]) U->xI dQ U b it aR yS->yS.length<mE.length->(∀x ∈ yS,x ∈ mE)->(∀x ∈ mE,x=p\/x ∈ yS)->Mod (fun q=>q=aC it) h U->U.next=h.next->K (.tuple [.bool true,dQ p.1,p.2]) U):
 C_ (.ptr (aC it) 0) h K:=by
 obtain ⟨es,clock,seen,aj,an,aJ,bE,cO⟩:=R.ex;have aL:=HK aJ;refine ⟨aC it,clock,seen,clock,b,es,clock,rfl,bE,aj,fun m hm=>(aL m hm).2,?_,fun e=>WN (cO.trans (S9 an e)),fun m hm=>?_⟩
 . cases es with
   | nil=>simp
   | cons x xs=>rw [XM (by simp) fun m hm=>(aL m hm).2];simp
 . obtain ⟨f1,p,f2,f3,f4,f5,f6,f7⟩:=Ky an aJ m hm;rw [<-cO] at f2 f5 f6 f7;rw [f3,f4];have m1:Mod (fun q=>q=aC it) h (h.set (aC it) (.gR (some b) clock (m.born::seen) clock)):=(Mod.refl (fun q=>q=aC it) h).set (fun _=>rfl) _;have eA:(h.set (aC it) (.gR (some b) clock (m.born::seen) clock)).get b=.mp es clock:=by rw [dV,apu (fun e=>R.ne e.symm)];exact aj
   refine tK p f2 _ _ ?_ ⟨⟨es,clock,m.born::seen,eA,an,aJ,by rw [dV,apB rfl],rfl⟩,R.ne,m1.bG R.cM,R.lt⟩ f5 f6 f7 m1 rfl;simp only [t_,V.iV,dV,ap0,arh,apt];rw [apu (fun e=>R.ne e.symm),aj];simp only [b'.hN,arh,apt,f1,f3,f4]
end
section
variable {P:Program}
theorem P7:∀(os:List bs) (r:bd) (h:ae) (K:bd->ae->Prop),(∀o ∈ os,∀x,o.g≠.mG x)->ow P os r h K->xU P os r h K
 | [],r,h,K,_,H=>H
 | o::os,r,h,K,aV,H=>by
   have q:o.sB P r h fun bb aa=>ow P os bb aa K:=by
    unfold bs.sB
    split
    . rename_i x _ e;exact absurd e (aV o aqo x)
    . exact H
   have mono:∀{A B:bd->ae->Prop},(∀r h,A r h->B r h)->o.sB P r h A->o.sB P r h B:=by
    intro A B pV z;unfold bs.sB at z ⊢
    split at z
    . obtain ⟨b,since,seen,last,c,es,clock,av,aK,bF,bZ,df,hg,jv⟩:=z;exact ⟨b,since,seen,last,c,es,clock,av,aK,bF,bZ,df,fun w=>pV _ _ (hg w),fun m hm=>pV _ _ (jv m hm)⟩
    . unfold bs.wp at z ⊢;have Ej:∀(g:G) (bb:bd) (C D:V->ae->Prop),(∀v h,C v h->D v h)->g.wp P bb h C->g.wp P bb h D:=by
       intro g bb C D sE w;cases g
       case call f args=>exact cv.mono w sE
       case ma f args=>
        obtain ⟨g,xs,bP,bH⟩:=w;refine ⟨g,xs,bP,?_⟩;unfold CL at bH ⊢
        split at bH
        . rename_i q;rw [apB q];obtain ⟨cu,b,e,v,aa,t1,t2⟩:=bH;exact ⟨cu,b,e,v,aa,t1,sE _ _ t2⟩
        . rename_i q;rw [apu q];exact cv.mono bH sE
       all_goals
        obtain ⟨v,aa,bP,bH⟩:=w;exact ⟨v,aa,bP,sE _ _ bH⟩
      split at z
      . exact Ej _ _ _ _ (fun v aa t=>pV _ _ t) z
      . rename_i d w e;unfold gate at z ⊢
        split at z
        . exact ⟨fun t=>Ej _ _ _ _ (fun v aa t=>pV _ _ t) (z.1 t),fun t=>pV _ _ (z.2 t)⟩
        . exact pV _ _ z
        . exact z
   exact mono (fun bb aa z=>P7 os bb aa K (fun o aT=>aV o (ap6 _ aT)) z) q
end
end
end Go.Proofs.YtgmhjhgoamjeeaaGreatDoor.aZ
