/- The abstract machine and its walks (a verified interpreter of the model's code: plain definitions and lemmas, no condition). Printed by a program from longer texts: names made short. -/
import Derived.Test.YtgmhjhgoamjeeaaGreatDoorM11
import Derived.Test.YtgmhjhgoamjeeaaGreatDoorM3
import Derived.Shelf.SlIter.Sorted
import Derived.Shelf.SlIter.Nil
import Derived.StringKeys
import Derived.WideShapes
import Derived.Test.YtgmhjhgoamjeeaaGreatDoorM7
set_option linter.unusedSectionVars false
set_option linter.unusedSimpArgs false
set_option linter.unusedVariables false
set_option maxHeartbeats 64000000
noncomputable section
namespace Go.Proofs.YtgmhjhgoamjeeaaGreatDoor.aX
section
open Go Go.RowKit
variable [Lay]
theorem Un {F:aM->Prop} {h:ae} {size:Nat} (wi:List (List D)) (v8:List (List V)) (ax:v8.length=wi.length) (bk:∀cs ∈ v8,cs.length=size) (dc:∀(i:Nat) (e:List D) (u:List V),wi[i]? =some e->v8[i]? =some u->bM F h e u)
 (hd:F (az h.next)) (aV:wi.length<=top):∃H,h.new (.bU v8.flatten 0 false)=H/\Ext h H/\bY F H size wi (.slice (az h.next) 0 wi.length wi.length):=by
 have jd:=yw v8 bk;obtain ⟨H,al,ao,aK⟩:=F6 h size wi.length v8.flatten (by rw [jd,ax]) aV;exact ⟨H,al,ao,aK.room,aV,⟨v8,aK.v,ax,bk,fun i e u a b=>(dc i e u a b).ext ao⟩,fun b q=>by rw [show b=az h.next from q];exact hd⟩
theorem u7 {F:aM->Prop} {h:ae} {size:Nat} {ds:List D} {cs:List V} (bk:cs.length=size) (H:bM F h ds cs) (hd:F (az h.next)):∃g,h.new (.bU cs 0 false)=g/\Ext h g/\bY F g size [ds] (.slice (az h.next) 0 1 1):=by
 have:=Un (F:=F) (h:=h) (size:=size) [ds] [cs] rfl (fun c q=>by rw [asl] at q;subst q;exact bk) (fun i e u a b=>by
  cases i with
  | zero=>simp only [arG,arq] at a b;subst a b;exact H
  | succ i=>simp at a) hd (by show _<=top;unfold top;simp)
 simpa using this
theorem F5 {F:aM->Prop} {h:ae} {size:Nat} {ds mC:List D} {cs oq:List V} (bk:cs.length=size) (agW:oq.length=size) (H:bM F h ds cs) (ef:bM F h mC oq) (hd:F (az h.next)):∃g,h.new (.bU (cs++oq) 0 false)=g/\Ext h g/\bY F g size [ds,mC] (.slice (az h.next) 0 2 2):=by
 have:=Un (F:=F) (h:=h) (size:=size) [ds,mC] [cs,oq] rfl (fun c q=>by
  rcases arM.1 q with rfl | q
  . exact bk
  . rw [asl] at q;subst q;exact agW) (fun i e u a b=>by
  match i with
  | 0=>simp only [arG,arq] at a b;subst a b;exact H
  | 1=>simp only [ash,arG,arq] at a b;subst a b;exact ef
  | i+2=>simp at a) hd (by show _<=top;unfold top;simp)
 simpa using this
end
section
open Go Go.RowKit Go.Maps Go.Sort Go.Shelf
open Go.Proofs (encStr)
variable [Lay]
def gl (clock:Nat):Nat->List b_->Bool
 | _,[]=>true
 | bS,m::ms=>Nat.ble bS m.born&&Nat.blt m.born clock&&gl clock (m.born+1) ms
end
section
open Go Go.RowKit
variable [Lay]
section
variable {α:Type}
def tW (e:α->V):List (List UInt8 × α)->List b_->Prop
 | [],[]=>True
 | (s,a)::aO,m::es=>m.k=.str s/\m.v=e a/\tW e aO es
 | _,_=>False
def iK (s:List UInt8):List (List UInt8 × α)->Option α
 | []=>none
 | (n,a)::aO=>if s=n then some a else iK s aO
def rZ (s:List UInt8) (x:α):List (List UInt8 × α)->List (List UInt8 × α)
 | []=>[(s,x)]
 | (n,a)::aO=>if s=n then (s,x)::aO else (n,a)::rZ s x aO
structure jV (e:α->V) (h:ae) (b:aM) (aO:List (List UInt8 × α)):Prop where
 ex:∃es clock,h.get b=.mp es clock/\tW e aO es/\gl clock 0 es=true
 bL:Old h b
theorem OD (a b:List UInt8):l2 a b=decide (a=b):=by
 induction a generalizing b with
 | nil=>cases b<;>simp [l2]
 | cons x a bc=>
   cases b with
   | nil=>simp [l2]
   | cons y b=>
     simp only [l2,bc];have aR:Nat.beq x.toNat y.toNat=decide (x=y):=by rw [ass,arZ,arF];exact ⟨fun q=>UInt8.toNat.inj q,fun q=>by rw [q]⟩
     rw [aR];by_cases c:x=y
     . subst c;simp
     . simp [c]
theorem G6 (s n:List UInt8):jE.run (.str s) (.str n)=some (decide (s=n)):=by simp only [jE,OD]
variable {e:α->V} {h ab:ae} {b:aM} {aO:List (List UInt8 × α)} {es:List b_}
theorem tW.find (H:tW e aO es) (s:List UInt8):kk jE (.str s) es=some ((iK s aO).map e):=by
 induction aO generalizing es with
 | nil=>
   cases es with
   | nil=>rfl
   | cons m es=>exact H.elim
 | cons p aO bc=>
   obtain ⟨n,a⟩:=p;cases es with
   | nil=>exact H.elim
   | cons m es=>
     obtain ⟨aa,ad,aH⟩:=H;simp only [kk,aa,G6,iK];by_cases q:s=n
     . subst q;simp [ad]
     . simp only [q,atc,arB,ar5];exact bc aH
theorem tW.put (H:tW e aO es) (s:List UInt8) (x:α) (clock:Nat) (bS:Nat) (eA:bS<=clock) (B:gl clock bS es=true):
 ∃fA f,k_ jE (.str s) (e x) clock es=some (fA,f)/\tW e (rZ s x aO) fA/\gl (bif f then clock+1 else clock) bS fA=true:=by
 induction aO generalizing es bS with
 | nil=>
   cases es with
   | nil=>
     refine ⟨_,true,rfl,⟨rfl,rfl,trivial⟩,?_⟩;simp only [gl,aru,asx,arp,arH,arS];omega
   | cons m es=>exact H.elim
 | cons p aO bc=>
   obtain ⟨n,a⟩:=p;cases es with
   | nil=>exact H.elim
   | cons m es=>
     obtain ⟨aa,ad,aH⟩:=H;simp only [gl,arp,arH,arS] at B;obtain ⟨⟨cc,cj⟩,eI⟩:=B;simp only [k_,aa,G6,rZ];by_cases q:s=n
     . subst q;refine ⟨⟨.str s,e x,m.born⟩::es,false,by simp only [as7,aru],?_,?_⟩
       . rw [arz rfl];exact ⟨rfl,rfl,aH⟩
       . simp only [arB,gl,eI,asx,arp,arH,arS];exact ⟨cc,cj⟩
     . obtain ⟨fA,f,al,ao,aK⟩:=bc (bS:=m.born+1) aH (by omega) eI;refine ⟨m::fA,f,by simp only [q,atc,arB,al],by rw [arw q];exact ⟨aa,ad,ao⟩,?_⟩;simp only [gl,aK,asx,arp,arH,arS];refine ⟨cc,?_⟩;cases f<;>simp only [aru,arB]<;>omega
theorem jV.ext (H:jV e h b aO) (x:Ext h ab):jV e ab b aO:=by obtain ⟨es,clock,al,ao,aK⟩:=H.ex;exact ⟨⟨es,clock,by rw [x.get b H.bL];exact al,ao,aK⟩,x.bL H.bL⟩
theorem jV.mod {M:aM->Prop} (H:jV e h b aO) (m:Mod M h ab) (ah:¬M b):jV e ab b aO:=by obtain ⟨es,clock,al,ao,aK⟩:=H.ex;exact ⟨⟨es,clock,by rw [m.get b H.bL ah];exact al,ao,aK⟩,m.bL H.bL⟩
theorem jV.look (H:jV e h b aO) (s:List UInt8) (z:V) (ok:Bool):gK jE z ok h (.map b) (.str s)=some (match iK s aO with
 | some a=>(bif ok then .tuple [e a,.bool true] else e a)
 | none=>(bif ok then .tuple [z,.bool false] else z)):=by
 obtain ⟨es,clock,al,ao,aK⟩:=H.ex;simp only [gK,al,hv,qA,b6.hQ,ao.find];cases iK s aO<;>rfl
theorem jV.pN (H:jV e h b aO) (s:List UInt8) (x:α):∃ab,kc jE h (.map b) (.str s) (e x)=some ab/\jV e ab b (rZ s x aO)/\Mod (fun p=>p=b) h ab/\ab.next=h.next:=by obtain ⟨es,clock,al,ao,aK⟩:=H.ex;obtain ⟨fA,f,bH,c2,cz⟩:=ao.put s x clock 0 (asP _) aK;refine ⟨h.set b (.mp fA (bif f then clock+1 else clock)),by simp only [kc,al,b6.hQ,bH],⟨⟨fA,_,by rw [ea,arz rfl],c2,cz⟩,?_⟩,(Mod.refl (fun p=>p=b) h).set (fun _=>rfl) _,rfl⟩;exact ((Mod.refl (fun p=>p=b) h).set (fun _=>rfl) _).bL H.bL
theorem jV.new (e:α->V) (h:ae):jV e (h.new (.mp [] 0)) (az h.next) []:=
 ⟨⟨[],0,rq _,trivial,rfl⟩,hP (by rw [gv];omega)⟩
theorem Ls (s:List UInt8) (x:α) (t:List UInt8):∀aO:List (List UInt8 × α),iK t (rZ s x aO)=if t=s then some x else iK t aO
 | []=>by simp only [rZ,iK]
 | (n,a)::aO=>by
   simp only [rZ];by_cases q:s=n
   . subst q;simp only [ar2,iK]
     split<;>rfl
   . rw [arw q];simp only [iK,Ls s x t aO];by_cases r:t=n
     . rw [arz r,arw (fun z=>q (z.symm.trans r)),arz r]
     . rw [arw r,arw r]
theorem TT (s:List UInt8) (x:α):∀aO:List (List UInt8 × α),(rZ s x aO).map Prod.fst=if s ∈ aO.map Prod.fst then aO.map Prod.fst else aO.map Prod.fst++[s]
 | []=>by simp [rZ]
 | (n,a)::aO=>by
   simp only [rZ];by_cases q:s=n
   . subst q;simp
   . rw [arw q,ast,TT s x aO,ast];simp only [arM,q,false_or]
     split<;>simp
end
section
variable {κ:Type} [DecidableEq κ]
def kd (dK:κ->V):List (κ × V)->List b_->Prop
 | [],[]=>True
 | (n,a)::aO,m::es=>m.k=dK n/\m.v=a/\kd dK aO es
 | _,_=>False
def ek (s:κ):List (κ × V)->Option V
 | []=>none
 | (n,a)::aO=>if s=n then some a else ek s aO
def j' (s:κ) (x:V):List (κ × V)->List (κ × V)
 | []=>[(s,x)]
 | (n,a)::aO=>if s=n then (s,x)::aO else (n,a)::j' s x aO
structure hk (dK:κ->V) (h:ae) (b:aM) (aO:List (κ × V)):Prop where
 ex:∃es clock,h.get b=.mp es clock/\kd dK aO es/\gl clock 0 es=true
 bL:Old h b
abbrev uj (E:dN) (dK:κ->V):Prop:=∀a b,E.run (dK a) (dK b)=some (decide (a=b))
variable {E:dN} {dK:κ->V} {h ab:ae} {b:aM} {aO:List (κ × V)} {es:List b_}
theorem kd.find (T:uj E dK) (H:kd dK aO es) (s:κ):kk E (dK s) es=some (ek s aO):=by
 induction aO generalizing es with
 | nil=>
   cases es with
   | nil=>rfl
   | cons m es=>exact H.elim
 | cons p aO bc=>
   obtain ⟨n,a⟩:=p;cases es with
   | nil=>exact H.elim
   | cons m es=>
     obtain ⟨aa,ad,aH⟩:=H;simp only [kk,aa,T s n,ek];by_cases q:s=n
     . subst q;simp [ad]
     . simp only [q,atc,arB,ar5];exact bc aH
theorem kd.put (T:uj E dK) (H:kd dK aO es) (s:κ) (x:V) (clock:Nat) (bS:Nat) (eA:bS<=clock) (B:gl clock bS es=true):
 ∃fA f,k_ E (dK s) x clock es=some (fA,f)/\kd dK (j' s x aO) fA/\gl (bif f then clock+1 else clock) bS fA=true:=by
 induction aO generalizing es bS with
 | nil=>
   cases es with
   | nil=>
     refine ⟨_,true,rfl,⟨rfl,rfl,trivial⟩,?_⟩;simp only [gl,aru,asx,arp,arH,arS];omega
   | cons m es=>exact H.elim
 | cons p aO bc=>
   obtain ⟨n,a⟩:=p;cases es with
   | nil=>exact H.elim
   | cons m es=>
     obtain ⟨aa,ad,aH⟩:=H;simp only [gl,arp,arH,arS] at B;obtain ⟨⟨cc,cj⟩,eI⟩:=B;simp only [k_,aa,T s n,j'];by_cases q:s=n
     . subst q;refine ⟨⟨dK s,x,m.born⟩::es,false,by simp only [as7,aru],?_,?_⟩
       . rw [arz rfl];exact ⟨rfl,rfl,aH⟩
       . simp only [arB,gl,eI,asx,arp,arH,arS];exact ⟨cc,cj⟩
     . obtain ⟨fA,f,al,ao,aK⟩:=bc (bS:=m.born+1) aH (by omega) eI;refine ⟨m::fA,f,by simp only [q,atc,arB,al],by rw [arw q];exact ⟨aa,ad,ao⟩,?_⟩;simp only [gl,aK,asx,arp,arH,arS];refine ⟨cc,?_⟩;cases f<;>simp only [aru,arB]<;>omega
theorem hk.ext (H:hk dK h b aO) (x:Ext h ab):hk dK ab b aO:=by obtain ⟨es,clock,al,ao,aK⟩:=H.ex;exact ⟨⟨es,clock,by rw [x.get b H.bL];exact al,ao,aK⟩,x.bL H.bL⟩
theorem hk.mod {M:aM->Prop} (H:hk dK h b aO) (m:Mod M h ab) (ah:¬M b):hk dK ab b aO:=by obtain ⟨es,clock,al,ao,aK⟩:=H.ex;exact ⟨⟨es,clock,by rw [m.get b H.bL ah];exact al,ao,aK⟩,m.bL H.bL⟩
theorem hk.look (T:uj E dK) (H:hk dK h b aO) (s:κ) (z:V) (ok:Bool):hv E z ok h (.map b) (dK s)=some (match ek s aO with
 | some a=>(bif ok then .tuple [a,.bool true] else a)
 | none=>(bif ok then .tuple [z,.bool false] else z)):=by
 obtain ⟨es,clock,al,ao,aK⟩:=H.ex;simp only [hv,al,qA,b6.hQ,ao.find T];cases ek s aO<;>rfl
theorem hk.pN (T:uj E dK) (H:hk dK h b aO) (s:κ) (x:V):∃ab,kc E h (.map b) (dK s) x=some ab/\hk dK ab b (j' s x aO)/\Mod (fun p=>p=b) h ab/\ab.next=h.next:=by obtain ⟨es,clock,al,ao,aK⟩:=H.ex;obtain ⟨fA,f,bH,c2,cz⟩:=ao.put T s x clock 0 (asP _) aK;refine ⟨h.set b (.mp fA (bif f then clock+1 else clock)),by simp only [kc,al,b6.hQ,bH],⟨⟨fA,_,by rw [ea,arz rfl],c2,cz⟩,?_⟩,(Mod.refl (fun p=>p=b) h).set (fun _=>rfl) _,rfl⟩;exact ((Mod.refl (fun p=>p=b) h).set (fun _=>rfl) _).bL H.bL
theorem hk.new (dK:κ->V) (h:ae):hk dK (h.new (.mp [] 0)) (az h.next) []:=
 ⟨⟨[],0,rq _,trivial,rfl⟩,hP (by rw [gv];omega)⟩
theorem kd.ox (T:uj E dK) (H:kd dK aO es) (s:κ) (bS c:Nat) (B:gl c bS es=true):(ek s aO=none/\aX.ox E (dK s) es=some none)\/
 ∃m,aX.ox E (dK s) es=some (some m)/\ek s aO=some m.v/\bS<=m.born/\∀x,∃fA,pf m.born x es=some fA/\kd dK (j' s x aO) fA/\gl c bS fA=true:=by
 induction aO generalizing es bS with
 | nil=>
   cases es with
   | nil=>exact .inl ⟨rfl,rfl⟩
   | cons m es=>exact H.elim
 | cons p aO bc=>
   obtain ⟨n,a⟩:=p;cases es with
   | nil=>exact H.elim
   | cons m es=>
     obtain ⟨aa,ad,aH⟩:=H;simp only [gl,arp,arH,arS] at B;obtain ⟨⟨cc,cj⟩,eI⟩:=B;by_cases q:s=n
     . subst q;refine .inr ⟨m,by simp only [aX.ox,aa,T s s,as7,aru],by simp [ek,ad],cc,fun x=>⟨⟨m.k,x,m.born⟩::es,by simp only [pf,atm,aru],?_,?_⟩⟩
       . simp only [j',ar2];exact ⟨aa,rfl,aH⟩
       . simp only [gl,eI,asx,arp,arH,arS];exact ⟨cc,cj⟩
     . rcases bc aH (m.born+1) eI with ⟨aJ,aR⟩ | ⟨dj,aJ,aR,bP,b4⟩
       . exact .inl ⟨by simp only [ek,arw q,aJ],by simp only [aX.ox,aa,T s n,q,atc,arB,aR]⟩
       . refine .inr ⟨dj,by simp only [aX.ox,aa,T s n,q,atc,arB,aJ],by simp only [ek,arw q,aR],by omega,fun x=>?_⟩;obtain ⟨fA,f1,f2,f3⟩:=b4 x;have c_:Nat.beq m.born dj.born=false:=by rw [<-ar4,arZ];omega
         refine ⟨m::fA,by simp only [pf,c_,arB,f1],?_,?_⟩
         . simp only [j',arw q];exact ⟨aa,ad,f2⟩
         . simp only [gl,f3,asx,arp,arH,arS];exact ⟨cc,cj⟩
theorem kd.snoc (H:kd dK aO es) {s:κ} (aV:ek s aO=none) (x:V) (c:Nat):kd dK (j' s x aO) (es++[⟨dK s,x,c⟩]):=by
 induction aO generalizing es with
 | nil=>
   cases es with
   | nil=>exact ⟨rfl,rfl,trivial⟩
   | cons m es=>exact H.elim
 | cons p aO bc=>
   cases es with
   | nil=>exact H.elim
   | cons m es=>
     simp only [ek] at aV
     split at aV
     . cases aV
     . rename_i q;simp only [j',arw q];exact ⟨H.1,H.2.1,bc H.2.2 aV⟩
theorem OI {c:Nat} {k v:V}:∀{es:List b_} {bS:Nat},bS<=c->gl c bS es=true->gl (c+1) bS (es++[⟨k,v,c⟩])=true
 | [],bS,h,_=>by simp only [asb,gl,asx,arp,arH,arS];omega
 | m::es,bS,h,B=>by simp only [gl,arp,arH,arS] at B;simp only [arR,gl,arp,arH,arS];exact ⟨⟨B.1.1,by omega⟩,OI (by omega) B.2⟩
theorem RJ {c:Nat} {k v x:V}:∀{es:List b_} {bS:Nat},gl c bS es=true->pf c x (es++[⟨k,v,c⟩])=some (es++[⟨k,x,c⟩])
 | [],bS,_=>by simp [pf]
 | m::es,bS,B=>by
   simp only [gl,arp,arH,arS] at B;have:Nat.beq m.born c=false:=by rw [<-ar4,arZ];omega
   simp only [arR,pf,this,arB,RJ B.2]
theorem hk.entry (T:uj E dK) (H:hk dK h b aO) (s:κ) (z:V):∃(c:Nat) (aa:ae),tl E z h (.map b) (dK s)=some (.tuple [(ek s aO).getD z,.int .i64 c],aa)/\Mod (fun p=>p=b) h aa/\aa.next=h.next/\
 ∀(ad:ae),ad.get b=aa.get b->Old ad b->∀x,∃aH,ri ad (.map b) (.int .i64 c) x=some aH/\hk dK aH b (j' s x aO)/\Mod (fun p=>p=b) ad aH/\aH.next=ad.next:=by
 obtain ⟨es,clock,al,ao,aK⟩:=H.ex;have m1:∀(h:ae) k,Mod (fun p=>p=b) h (h.set b k):=fun h k=>(Mod.refl (fun p=>p=b) h).set (fun _=>rfl) _;rcases ao.ox T s 0 clock aK with ⟨aJ,aR⟩ | ⟨m,aJ,aR,_,b4⟩
 . refine ⟨clock,h.set b (.mp (es++[⟨dK s,z,clock⟩]) (clock+1)),by simp only [tl,al,b6.hQ,aR,aJ,Option.getD_none],m1 _ _,rfl,fun ad g2 cw x=>?_⟩;rw [ea,arz rfl] at g2;refine ⟨ad.set b (.mp (es++[⟨dK s,x,clock⟩]) (clock+1)),by simp only [ri,g2,b6.hQ,RJ aK],⟨⟨_,_,by rw [ea,arz rfl],ao.snoc aJ x clock,OI (asP _) aK⟩,(m1 ad _).bL cw⟩,m1 _ _,rfl⟩
 . refine ⟨m.born,h.set b (.mp es clock),by simp only [tl,al,b6.hQ,aJ,aR,ar0],m1 _ _,rfl,fun ad g2 cw x=>?_⟩;rw [ea,arz rfl] at g2;obtain ⟨fA,f1,f2,f3⟩:=b4 x;exact ⟨ad.set b (.mp fA clock),by simp only [ri,g2,b6.hQ,f1],⟨⟨_,_,by rw [ea,arz rfl],f2,f3⟩,(m1 ad _).bL cw⟩,m1 _ _,rfl⟩
theorem Uo (s:κ) (x:V) (t:κ):∀aO:List (κ × V),ek t (j' s x aO)=if t=s then some x else ek t aO
 | []=>by simp only [j',ek]
 | (n,a)::aO=>by
   simp only [j'];by_cases q:s=n
   . subst q;simp only [ar2,ek]
     split<;>rfl
   . rw [arw q];simp only [ek,Uo s x t aO];by_cases r:t=n
     . rw [arz r,arw (fun z=>q (z.symm.trans r)),arz r]
     . rw [arw r,arw r]
def gV (seen:List Nat):List (κ × V)->List b_->List (κ × V)
 | p::aO,m::es=>if m.born ∈ seen then gV seen aO es else p::gV seen aO es
 | _,_=>[]
structure od (dK:κ->V) (h:ae) (b:aM) (it:Nat) (aO h2:List (κ × V)):Prop where
 ex:∃es clock seen,h.get b=.mp es clock/\kd dK aO es/\gl clock 0 es=true/\h.get (az it)=.gW (some b) clock seen clock/\h2=gV seen aO es
 ne:b≠az it
 cJ:Old h b
 lt:it<h.next
theorem od.mod {M:aM->Prop} {it:Nat} {h2:List (κ × V)} (R:od dK h b it aO h2) (m:Mod M h ab) (ah:¬M b) (aw:¬M (az it)):od dK ab b it aO h2:=by obtain ⟨es,clock,seen,al,ao,aK,bG,cK⟩:=R.ex;exact ⟨⟨es,clock,seen,by rw [m.get b R.cJ ah];exact al,ao,aK,by rw [m.get _ (hP R.lt) aw];exact bG,cK⟩,R.ne,m.bL R.cJ,aty R.lt m.next⟩
theorem od.ext {it:Nat} {h2:List (κ × V)} (R:od dK h b it aO h2) (x:Ext h ab):od dK ab b it aO h2:=R.mod (x.mod fun _=>False) (fun f=>f) (fun f=>f)
theorem Ue:∀{aO:List (κ × V)} {es:List b_},kd dK aO es->gV [] aO es=aO
 | [],[],_=>rfl
 | p::aO,m::es,H=>by simp only [gV,List.not_mem_nil,ar5];rw [Ue H.2.2]
 | [],_::_,H=>H.elim
 | _::_,[],H=>H.elim
theorem hk.range (H:hk dK h b aO):∃k,rangeMap (.map b) h=.val (.ptr (az h.next) 0) (h.new k)/\od dK (h.new k) b h.next aO aO:=by
 obtain ⟨es,clock,al,ao,aK⟩:=H.ex;have c_:b≠az h.next:=fun e=>by have:=H.bL;rw [e] at this;unfold Old at this;rw [c7] at this;omega
 refine ⟨.gW (some b) clock [] clock,by simp only [rangeMap,al,b6.hQ],⟨es,clock,[],?_,ao,aK,rq _,(Ue ao).symm⟩,c_,alw H.bL,by rw [gv];omega⟩;rw [ig,arw (fun e=>c_ e.symm)];exact al
theorem Iz {c:Nat}:∀{es:List b_} {bS:Nat},gl c bS es=true->∀m ∈ es,bS<=m.born/\m.born<c
 | m::es,bS,B,x,ak=>by
   simp only [gl,arp,arH,arS] at B;rcases arM.1 ak with rfl | ak
   . exact ⟨B.1.1,B.1.2⟩
   . have:=Iz B.2 x ak;omega
 | [],_,_,_,ak=>by cases ak
theorem Ud {seen:List Nat}:∀{aO:List (κ × V)} {es:List b_},kd dK aO es->leftOf seen es=[]->gV seen aO es=[]
 | [],[],_,_=>rfl
 | p::aO,m::es,H,e=>by
   simp only [leftOf] at e;cases ah:p9 seen m.born<;>rw [ah] at e
   . cases e
   . simp only [gV,(BA _ _).1 ah,ar2];exact Ud H.2.2 e
 | [],_::_,H,_=>H.elim
 | _::_,[],H,_=>H.elim
theorem Ln {seen:List Nat} {c:Nat}:∀{aO:List (κ × V)} {es:List b_} {bS:Nat},kd dK aO es->gl c bS es=true->∀m ∈ leftOf seen es,sB m.born es=some m/\∃p,p ∈ gV seen aO es/\m.k=dK p.1/\m.v=p.2/\
 (gV (m.born::seen) aO es).length < (gV seen aO es).length/\(∀x ∈ gV (m.born::seen) aO es,x ∈ gV seen aO es)/\∀x ∈ gV seen aO es,x=p\/x ∈ gV (m.born::seen) aO es
 | [],[],_,_,_,m,hm=>by simp [leftOf] at hm
 | p::aO,y::es,bS,H,B,m,hm=>by
   simp only [gl,arp,arH,arS] at B;have aW:=Iz B.2;simp only [leftOf] at hm;have same:∀(aO:List (κ × V)) (es:List b_),kd dK aO es->(∀m ∈ es,y.born<m.born)->gV (y.born::seen) aO es=gV seen aO es:=by
    intro aO
    induction aO with
    | nil=>intro es H _;cases es<;>rfl
    | cons p aO bc=>
      intro es H ax;cases es with
      | nil=>rfl
      | cons z es=>
        have bk:=ax z ar1;have:z.born ∈ y.born::seen↔z.born ∈ seen:=by simp only [arM];exact ⟨fun q=>q.resolve_left (by omega),.inr⟩
        simp only [gV,this,bc es H.2.2 fun m hm=>ax m (arT _ hm)]
   cases ah:p9 seen y.born<;>rw [ah] at hm
   . have uP:y.born ∉ seen:=fun q=>by rw [(BA _ _).2 q] at ah;cases ah
     simp only [arB,arM] at hm;rcases hm with rfl | hm
     . refine ⟨by simp only [sB,atm,aru],p,?_⟩;have aJ:gV (m.born::seen) (p::aO) (m::es)=gV seen aO es:=by
        simp only [gV,arM,true_or,ar2];exact same aO es H.2.2 fun z bk=>by have:=aW z bk;omega
       have aR:gV seen (p::aO) (m::es)=p::gV seen aO es:=by simp only [gV,uP,ar5]
       rw [aJ,aR];exact ⟨ar1,H.1,H.2.1,by simp,fun x ak=>arT _ ak,fun x ak=>arM.1 ak⟩
     . obtain ⟨f1,p',f2,f3,f4,f5,f6,f7⟩:=Ln H.2.2 B.2 m hm;have aS:y.born<m.born:=by have:=aW m (Cq hm);omega
       have c_:Nat.beq y.born m.born=false:=by rw [<-ar4,arZ];omega
       have afY:y.born ∉ m.born::seen:=fun q=>by
        rcases arM.1 q with q | q
        . omega
        . exact uP q
       refine ⟨by simp only [sB,c_,arB,f1],p',?_⟩;simp only [gV,uP,afY,ar5,arA,arM]
       exact ⟨.inr f2,f3,f4,by omega,fun x ak=>ak.imp_right (f6 x),fun x ak=>by
        rcases ak with rfl | ak
        . exact .inr (.inl rfl)
        . exact (f7 x ak).imp_right .inr⟩
   . have uP:y.born ∈ seen:=(BA _ _).1 ah;simp only [aru] at hm;obtain ⟨f1,p',f2,f3,f4,f5,f6,f7⟩:=Ln H.2.2 B.2 m hm;have aS:y.born<m.born:=by have:=aW m (Cq hm);omega
     have c_:Nat.beq y.born m.born=false:=by rw [<-ar4,arZ];omega
     refine ⟨by simp only [sB,c_,arB,f1],p',?_⟩;simp only [gV,uP,arT m.born uP,ar2];exact ⟨f2,f3,f4,f5,f6,f7⟩
 | [],_::_,_,H,_,_,_=>H.elim
 | _::_,[],_,H,_,_,_=>H.elim
theorem Zf {c:Nat}:∀{es:List b_},es≠[]->(∀m ∈ es,m.born<c)->q9 c es=false
 | [],h,_=>absurd rfl h
 | m::es,_,h=>by
   have:=h m ar1;have q:Nat.ble c m.born=false:=by rw [<-ar4,arH];omega
   simp only [q9,q,arB]
theorem od.next {it:Nat} {h2:List (κ × V)} (R:od dK h b it aO h2) {K:V->ae->Prop} (X5:h2=[]->K (.tuple [.bool false]) h)
 (ua:∀p ∈ h2,∀aa qy,sM (.ptr (az it) 0) aa=.val (.tuple [dK p.1,p.2]) aa->od dK aa b it aO qy->qy.length<h2.length->(∀x ∈ qy,x ∈ h2)->(∀x ∈ h2,x=p\/x ∈ qy)->Mod (fun q=>q=az it) h aa->aa.next=h.next->K (.tuple [.bool true,dK p.1,p.2]) aa):
 DP (.ptr (az it) 0) h K:=by
 obtain ⟨es,clock,seen,al,ao,aK,bG,cK⟩:=R.ex;have aS:=Iz aK;refine ⟨az it,clock,seen,clock,b,es,clock,rfl,bG,al,fun m hm=>(aS m hm).2,?_,fun e=>X5 (cK.trans (Ud ao e)),fun m hm=>?_⟩
 . cases es with
   | nil=>simp
   | cons x xs=>rw [Zf (by simp) fun m hm=>(aS m hm).2];simp
 . obtain ⟨f1,p,f2,f3,f4,f5,f6,f7⟩:=Ln ao aK m hm;rw [<-cK] at f2 f5 f6 f7;rw [f3,f4];have m1:Mod (fun q=>q=az it) h (h.set (az it) (.gW (some b) clock (m.born::seen) clock)):=(Mod.refl (fun q=>q=az it) h).set (fun _=>rfl) _;have ga:(h.set (az it) (.gW (some b) clock (m.born::seen) clock)).get b=.mp es clock:=by rw [ea,arw (fun e=>R.ne e.symm)];exact al
   refine ua p f2 _ _ ?_ ⟨⟨es,clock,m.born::seen,ga,ao,aK,by rw [ea,arz rfl],rfl⟩,R.ne,m1.bL R.cJ,R.lt⟩ f5 f6 f7 m1 rfl;simp only [sM,V.jh,ea,ar2,atm,aru];rw [arw (fun e=>R.ne e.symm),al];simp only [b6.hQ,atm,aru,f1,f3,f4]
end
section
variable {P:Program}
theorem Q':∀(os:List bx) (r:bf) (h:ae) (K:bf->ae->Prop),(∀o ∈ os,∀x,o.g≠.mj x)->oV P os r h K->yi P os r h K
 | [],r,h,K,_,H=>H
 | o::os,r,h,K,aV,H=>by
   have q:o.sL P r h fun a7 ab=>oV P os a7 ab K:=by
    unfold bx.sL
    split
    . rename_i x _ e;exact absurd e (aV o ar1 x)
    . exact H
   have mono:∀{A B:bf->ae->Prop},(∀r h,A r h->B r h)->o.sL P r h A->o.sL P r h B:=by
    intro A B p7 z;unfold bx.sL at z ⊢
    split at z
    . obtain ⟨b,since,seen,last,c,es,clock,aJ,aR,bP,b4,dD,gA,jB⟩:=z;exact ⟨b,since,seen,last,c,es,clock,aJ,aR,bP,b4,dD,fun w=>p7 _ _ (gA w),fun m hm=>p7 _ _ (jB m hm)⟩
    . unfold bx.wp at z ⊢;have E0:∀(g:G) (a7:bf) (C D:V->ae->Prop),(∀v h,C v h->D v h)->g.wp P a7 h C->g.wp P a7 h D:=by
       intro g a7 C D sR w;cases g
       case call f args=>exact cR.mono w sR
       case l3 f args=>
        obtain ⟨g,xs,bX,bA⟩:=w;refine ⟨g,xs,bX,?_⟩;unfold Dl at bA ⊢
        split at bA
        . rename_i q;rw [arz q];obtain ⟨cx,b,e,v,ab,t1,t2⟩:=bA;exact ⟨cx,b,e,v,ab,t1,sR _ _ t2⟩
        . rename_i q;rw [arw q];exact cR.mono bA sR
       all_goals
        obtain ⟨v,ab,bX,bA⟩:=w;exact ⟨v,ab,bX,sR _ _ bA⟩
      split at z
      . exact E0 _ _ _ _ (fun v ab t=>p7 _ _ t) z
      . rename_i d w e;unfold gate at z ⊢
        split at z
        . exact ⟨fun t=>E0 _ _ _ _ (fun v ab t=>p7 _ _ t) (z.1 t),fun t=>p7 _ _ (z.2 t)⟩
        . exact p7 _ _ z
        . exact z
   exact mono (fun a7 ab z=>Q' os a7 ab K (fun o aW=>aV o (arT _ aW)) z) q
end
end
end Go.Proofs.YtgmhjhgoamjeeaaGreatDoor.aX
