/- The abstract machine and its walks (a verified interpreter of the model's code: plain definitions and lemmas, no condition). Printed by a program from longer texts: names made short. -/
import Derived.Test.YtgmhjhgoamjeeaaGreatDoorM11
import Derived.Test.YtgmhjhgoamjeeaaGreatDoorM3
import Derived.Shelf.SlIter.Sorted
import Derived.Shelf.SlIter.Nil
import Derived.StringKeys
import Derived.WideShapes
import Derived.Test.YtgmhjhgoamjeeaaGreatDoorM7
set_option linter.unusedSectionVars false
set_option linter.unusedSimpArgs false
set_option linter.unusedVariables false
set_option maxHeartbeats 64000000
noncomputable section
namespace Go.Proofs.YtgmhjhgoamjeeaaGreatDoor.a7
section
open Go Go.RowKit
variable [Lay]
theorem T4 {F:aQ->Prop} {h:ag} {size:Nat} (wo:List (List D)) (wb:List (List V)) (aw:wb.length=wo.length) (bl:∀cs ∈ wb,cs.length=size) (ez:∀(i:Nat) (e:List D) (u:List V),wo[i]? =some e->wb[i]? =some u->cb F h e u)
 (ji:F (aG h.next)) (aW:wo.length<=top):∃H,h.new (.bU wb.flatten 0 false)=H/\Ext h H/\bB F H size wo (.slice (aG h.next) 0 wo.length wo.length):=by
 have hh:=EN wb bl;obtain ⟨H,al,au,aJ⟩:=r4 h size wo.length wb.flatten (by rw [hh,aw]) aW;exact ⟨H,al,au,aJ.room,aW,⟨wb,aJ.v,aw,bl,fun i e u a b=>(ez i e u a b).ext au⟩,fun b q=>by rw [show b=aG h.next from q];exact ji⟩
theorem ti {F:aQ->Prop} {h:ag} {size:Nat} {ds:List D} {cs:List V} (bl:cs.length=size) (H:cb F h ds cs) (ji:F (aG h.next)):∃g,h.new (.bU cs 0 false)=g/\Ext h g/\bB F g size [ds] (.slice (aG h.next) 0 1 1):=by
 have:=T4 (F:=F) (h:=h) (size:=size) [ds] [cs] rfl (fun c q=>by rw [aqU] at q;subst q;exact bl) (fun i e u a b=>by
  cases i with
  | zero=>simp only [aqm,ap3] at a b;subst a b;exact H
  | succ i=>simp at a) ji (by show _<=top;unfold top;simp)
 simpa using this
theorem K0 {F:aQ->Prop} {h:ag} {size:Nat} {ds ox:List D} {cs qd:List V} (bl:cs.length=size) (afT:qd.length=size) (H:cb F h ds cs) (gL:cb F h ox qd) (ji:F (aG h.next)):∃g,h.new (.bU (cs++qd) 0 false)=g/\Ext h g/\bB F g size [ds,ox] (.slice (aG h.next) 0 2 2):=by
 have:=T4 (F:=F) (h:=h) (size:=size) [ds,ox] [cs,qd] rfl (fun c q=>by
  rcases aql.1 q with rfl | q
  . exact bl
  . rw [aqU] at q;subst q;exact afT) (fun i e u a b=>by
  match i with
  | 0=>simp only [aqm,ap3] at a b;subst a b;exact H
  | 1=>simp only [aq6,aqm,ap3] at a b;subst a b;exact gL
  | i+2=>simp at a) ji (by show _<=top;unfold top;simp)
 simpa using this
end
section
open Go Go.RowKit Go.Maps Go.Sort Go.Shelf
open Go.Proofs (encStr)
variable [Lay]
def gM (clock:Nat):Nat->List ca->Bool
 | _,[]=>true
 | bu,m::ms=>Nat.ble bu m.born&&Nat.blt m.born clock&&gM clock (m.born+1) ms
end
section
open Go Go.RowKit
variable [Lay]
section
variable {α:Type}
def vA (e:α->V):List (List UInt8 × α)->List ca->Prop
 | [],[]=>True
 | (s,a)::aV,m::es=>m.k=.str s/\m.v=e a/\vA e aV es
 | _,_=>False
def mA (s:List UInt8):List (List UInt8 × α)->Option α
 | []=>none
 | (n,a)::aV=>if s=n then some a else mA s aV
def xu (s:List UInt8) (x:α):List (List UInt8 × α)->List (List UInt8 × α)
 | []=>[(s,x)]
 | (n,a)::aV=>if s=n then (s,x)::aV else (n,a)::xu s x aV
structure mb (e:α->V) (h:ag) (b:aQ) (aV:List (List UInt8 × α)):Prop where
 ex:∃es clock,h.get b=.mp es clock/\vA e aV es/\gM clock 0 es=true
 bY:Old h b
theorem N3 (a b:List UInt8):mg a b=decide (a=b):=by
 induction a generalizing b with
 | nil=>cases b<;>simp [mg]
 | cons x a bd=>
   cases b with
   | nil=>simp [mg]
   | cons y b=>
     simp only [mg,bd];have aH:Nat.beq x.toNat y.toNat=decide (x=y):=by rw [aqX,aqE,aqg];exact ⟨fun q=>UInt8.toNat.inj q,fun q=>by rw [q]⟩
     rw [aH];by_cases c:x=y
     . subst c;simp
     . simp [c]
theorem z8 (s n:List UInt8):kb.run (.str s) (.str n)=some (decide (s=n)):=by simp only [kb,N3]
variable {e:α->V} {h ab:ag} {b:aQ} {aV:List (List UInt8 × α)} {es:List ca}
theorem vA.find (H:vA e aV es) (s:List UInt8):kz kb (.str s) es=some ((mA s aV).map e):=by
 induction aV generalizing es with
 | nil=>
   cases es with
   | nil=>rfl
   | cons m es=>exact H.elim
 | cons p aV bd=>
   obtain ⟨n,a⟩:=p;cases es with
   | nil=>exact H.elim
   | cons m es=>
     obtain ⟨aa,ae,aM⟩:=H;simp only [kz,aa,z8,mA];by_cases q:s=n
     . subst q;simp [ae]
     . simp only [q,arN,aqe,aqD];exact bd aM
theorem vA.put (H:vA e aV es) (s:List UInt8) (x:α) (clock:Nat) (bu:Nat) (d':bu<=clock) (B:gM clock bu es=true):
 ∃fg f,ln kb (.str s) (e x) clock es=some (fg,f)/\vA e (xu s x aV) fg/\gM (bif f then clock+1 else clock) bu fg=true:=by
 induction aV generalizing es bu with
 | nil=>
   cases es with
   | nil=>
     refine ⟨_,true,rfl,⟨rfl,rfl,trivial⟩,?_⟩;simp only [gM,ap8,aq1,ap2,aqj,aqA];omega
   | cons m es=>exact H.elim
 | cons p aV bd=>
   obtain ⟨n,a⟩:=p;cases es with
   | nil=>exact H.elim
   | cons m es=>
     obtain ⟨aa,ae,aM⟩:=H;simp only [gM,ap2,aqj,aqA] at B;obtain ⟨⟨bM,b1⟩,dR⟩:=B;simp only [ln,aa,z8,xu];by_cases q:s=n
     . subst q;refine ⟨⟨.str s,e x,m.born⟩::es,false,by simp only [arP,ap8],?_,?_⟩
       . rw [aqf rfl];exact ⟨rfl,rfl,aM⟩
       . simp only [aqe,gM,dR,aq1,ap2,aqj,aqA];exact ⟨bM,b1⟩
     . obtain ⟨fg,f,al,au,aJ⟩:=bd (bu:=m.born+1) aM (by omega) dR;refine ⟨m::fg,f,by simp only [q,arN,aqe,al],by rw [aqa q];exact ⟨aa,ae,au⟩,?_⟩;simp only [gM,aJ,aq1,ap2,aqj,aqA];refine ⟨bM,?_⟩;cases f<;>simp only [ap8,aqe]<;>omega
theorem mb.ext (H:mb e h b aV) (x:Ext h ab):mb e ab b aV:=by obtain ⟨es,clock,al,au,aJ⟩:=H.ex;exact ⟨⟨es,clock,by rw [x.get b H.bY];exact al,au,aJ⟩,x.bY H.bY⟩
theorem mb.mod {M:aQ->Prop} (H:mb e h b aV) (m:Mod M h ab) (ak:¬M b):mb e ab b aV:=by obtain ⟨es,clock,al,au,aJ⟩:=H.ex;exact ⟨⟨es,clock,by rw [m.get b H.bY ak];exact al,au,aJ⟩,m.bY H.bY⟩
theorem mb.look (H:mb e h b aV) (s:List UInt8) (z:V) (ok:Bool):iq kb z ok h (.map b) (.str s)=some (match mA s aV with
 | some a=>(bif ok then .tuple [e a,.bool true] else e a)
 | none=>(bif ok then .tuple [z,.bool false] else z)):=by
 obtain ⟨es,clock,al,au,aJ⟩:=H.ex;simp only [iq,al,hI,pO,b8.hU,au.find];cases mA s aV<;>rfl
theorem mb.q5 (H:mb e h b aV) (s:List UInt8) (x:α):∃ab,kO kb h (.map b) (.str s) (e x)=some ab/\mb e ab b (xu s x aV)/\Mod (fun p=>p=b) h ab/\ab.next=h.next:=by obtain ⟨es,clock,al,au,aJ⟩:=H.ex;obtain ⟨fg,f,a8,b',bP⟩:=au.put s x clock 0 (arj _) aJ;refine ⟨h.set b (.mp fg (bif f then clock+1 else clock)),by simp only [kO,al,b8.hU,a8],⟨⟨fg,_,by rw [ej,aqf rfl],b',bP⟩,?_⟩,(Mod.refl (fun p=>p=b) h).set (fun _=>rfl) _,rfl⟩;exact ((Mod.refl (fun p=>p=b) h).set (fun _=>rfl) _).bY H.bY
theorem mb.new (e:α->V) (h:ag):mb e (h.new (.mp [] 0)) (aG h.next) []:=
 ⟨⟨[],0,oA _,trivial,rfl⟩,iJ (by rw [ir];omega)⟩
theorem T5 (s:List UInt8) (x:α) (t:List UInt8):∀aV:List (List UInt8 × α),mA t (xu s x aV)=if t=s then some x else mA t aV
 | []=>by simp only [xu,mA]
 | (n,a)::aV=>by
   simp only [xu];by_cases q:s=n
   . subst q;simp only [aqB,mA]
     split<;>rfl
   . rw [aqa q];simp only [mA,T5 s x t aV];by_cases r:t=n
     . rw [aqf r,aqa (fun z=>q (z.symm.trans r)),aqf r]
     . rw [aqa r,aqa r]
end
section
variable {κ:Type} [DecidableEq κ]
def jz (dF:κ->V):List (κ × V)->List ca->Prop
 | [],[]=>True
 | (n,a)::aV,m::es=>m.k=dF n/\m.v=a/\jz dF aV es
 | _,_=>False
def ev (s:κ):List (κ × V)->Option V
 | []=>none
 | (n,a)::aV=>if s=n then some a else ev s aV
def jt (s:κ) (x:V):List (κ × V)->List (κ × V)
 | []=>[(s,x)]
 | (n,a)::aV=>if s=n then (s,x)::aV else (n,a)::jt s x aV
structure hz (dF:κ->V) (h:ag) (b:aQ) (aV:List (κ × V)):Prop where
 ex:∃es clock,h.get b=.mp es clock/\jz dF aV es/\gM clock 0 es=true
 bY:Old h b
abbrev ui (E:dL) (dF:κ->V):Prop:=∀a b,E.run (dF a) (dF b)=some (decide (a=b))
variable {E:dL} {dF:κ->V} {h ab:ag} {b:aQ} {aV:List (κ × V)} {es:List ca}
theorem jz.find (T:ui E dF) (H:jz dF aV es) (s:κ):kz E (dF s) es=some (ev s aV):=by
 induction aV generalizing es with
 | nil=>
   cases es with
   | nil=>rfl
   | cons m es=>exact H.elim
 | cons p aV bd=>
   obtain ⟨n,a⟩:=p;cases es with
   | nil=>exact H.elim
   | cons m es=>
     obtain ⟨aa,ae,aM⟩:=H;simp only [kz,aa,T s n,ev];by_cases q:s=n
     . subst q;simp [ae]
     . simp only [q,arN,aqe,aqD];exact bd aM
theorem jz.put (T:ui E dF) (H:jz dF aV es) (s:κ) (x:V) (clock:Nat) (bu:Nat) (d':bu<=clock) (B:gM clock bu es=true):
 ∃fg f,ln E (dF s) x clock es=some (fg,f)/\jz dF (jt s x aV) fg/\gM (bif f then clock+1 else clock) bu fg=true:=by
 induction aV generalizing es bu with
 | nil=>
   cases es with
   | nil=>
     refine ⟨_,true,rfl,⟨rfl,rfl,trivial⟩,?_⟩;simp only [gM,ap8,aq1,ap2,aqj,aqA];omega
   | cons m es=>exact H.elim
 | cons p aV bd=>
   obtain ⟨n,a⟩:=p;cases es with
   | nil=>exact H.elim
   | cons m es=>
     obtain ⟨aa,ae,aM⟩:=H;simp only [gM,ap2,aqj,aqA] at B;obtain ⟨⟨bM,b1⟩,dR⟩:=B;simp only [ln,aa,T s n,jt];by_cases q:s=n
     . subst q;refine ⟨⟨dF s,x,m.born⟩::es,false,by simp only [arP,ap8],?_,?_⟩
       . rw [aqf rfl];exact ⟨rfl,rfl,aM⟩
       . simp only [aqe,gM,dR,aq1,ap2,aqj,aqA];exact ⟨bM,b1⟩
     . obtain ⟨fg,f,al,au,aJ⟩:=bd (bu:=m.born+1) aM (by omega) dR;refine ⟨m::fg,f,by simp only [q,arN,aqe,al],by rw [aqa q];exact ⟨aa,ae,au⟩,?_⟩;simp only [gM,aJ,aq1,ap2,aqj,aqA];refine ⟨bM,?_⟩;cases f<;>simp only [ap8,aqe]<;>omega
theorem hz.ext (H:hz dF h b aV) (x:Ext h ab):hz dF ab b aV:=by obtain ⟨es,clock,al,au,aJ⟩:=H.ex;exact ⟨⟨es,clock,by rw [x.get b H.bY];exact al,au,aJ⟩,x.bY H.bY⟩
theorem hz.mod {M:aQ->Prop} (H:hz dF h b aV) (m:Mod M h ab) (ak:¬M b):hz dF ab b aV:=by obtain ⟨es,clock,al,au,aJ⟩:=H.ex;exact ⟨⟨es,clock,by rw [m.get b H.bY ak];exact al,au,aJ⟩,m.bY H.bY⟩
theorem hz.look (T:ui E dF) (H:hz dF h b aV) (s:κ) (z:V) (ok:Bool):hI E z ok h (.map b) (dF s)=some (match ev s aV with
 | some a=>(bif ok then .tuple [a,.bool true] else a)
 | none=>(bif ok then .tuple [z,.bool false] else z)):=by
 obtain ⟨es,clock,al,au,aJ⟩:=H.ex;simp only [hI,al,pO,b8.hU,au.find T];cases ev s aV<;>rfl
theorem hz.q5 (T:ui E dF) (H:hz dF h b aV) (s:κ) (x:V):∃ab,kO E h (.map b) (dF s) x=some ab/\hz dF ab b (jt s x aV)/\Mod (fun p=>p=b) h ab/\ab.next=h.next:=by obtain ⟨es,clock,al,au,aJ⟩:=H.ex;obtain ⟨fg,f,a8,b',bP⟩:=au.put T s x clock 0 (arj _) aJ;refine ⟨h.set b (.mp fg (bif f then clock+1 else clock)),by simp only [kO,al,b8.hU,a8],⟨⟨fg,_,by rw [ej,aqf rfl],b',bP⟩,?_⟩,(Mod.refl (fun p=>p=b) h).set (fun _=>rfl) _,rfl⟩;exact ((Mod.refl (fun p=>p=b) h).set (fun _=>rfl) _).bY H.bY
theorem hz.new (dF:κ->V) (h:ag):hz dF (h.new (.mp [] 0)) (aG h.next) []:=
 ⟨⟨[],0,oA _,trivial,rfl⟩,iJ (by rw [ir];omega)⟩
theorem jz.oz (T:ui E dF) (H:jz dF aV es) (s:κ) (bu c:Nat) (B:gM c bu es=true):(ev s aV=none/\a7.oz E (dF s) es=some none)\/
 ∃m,a7.oz E (dF s) es=some (some m)/\ev s aV=some m.v/\bu<=m.born/\∀x,∃fg,ps m.born x es=some fg/\jz dF (jt s x aV) fg/\gM c bu fg=true:=by
 induction aV generalizing es bu with
 | nil=>
   cases es with
   | nil=>exact .inl ⟨rfl,rfl⟩
   | cons m es=>exact H.elim
 | cons p aV bd=>
   obtain ⟨n,a⟩:=p;cases es with
   | nil=>exact H.elim
   | cons m es=>
     obtain ⟨aa,ae,aM⟩:=H;simp only [gM,ap2,aqj,aqA] at B;obtain ⟨⟨bM,b1⟩,dR⟩:=B;by_cases q:s=n
     . subst q;refine .inr ⟨m,by simp only [a7.oz,aa,T s s,arP,ap8],by simp [ev,ae],bM,fun x=>⟨⟨m.k,x,m.born⟩::es,by simp only [ps,ar5,ap8],?_,?_⟩⟩
       . simp only [jt,aqB];exact ⟨aa,rfl,aM⟩
       . simp only [gM,dR,aq1,ap2,aqj,aqA];exact ⟨bM,b1⟩
     . rcases bd aM (m.born+1) dR with ⟨ax,aH⟩ | ⟨dd,ax,aH,bA,b5⟩
       . exact .inl ⟨by simp only [ev,aqa q,ax],by simp only [a7.oz,aa,T s n,q,arN,aqe,aH]⟩
       . refine .inr ⟨dd,by simp only [a7.oz,aa,T s n,q,arN,aqe,ax],by simp only [ev,aqa q,aH],by omega,fun x=>?_⟩;obtain ⟨fg,f1,f2,f3⟩:=b5 x;have cK:Nat.beq m.born dd.born=false:=by rw [<-aqF,aqE];omega
         refine ⟨m::fg,by simp only [ps,cK,aqe,f1],?_,?_⟩
         . simp only [jt,aqa q];exact ⟨aa,ae,f2⟩
         . simp only [gM,f3,aq1,ap2,aqj,aqA];exact ⟨bM,b1⟩
theorem jz.snoc (H:jz dF aV es) {s:κ} (aW:ev s aV=none) (x:V) (c:Nat):jz dF (jt s x aV) (es++[⟨dF s,x,c⟩]):=by
 induction aV generalizing es with
 | nil=>
   cases es with
   | nil=>exact ⟨rfl,rfl,trivial⟩
   | cons m es=>exact H.elim
 | cons p aV bd=>
   cases es with
   | nil=>exact H.elim
   | cons m es=>
     simp only [ev] at aW
     split at aW
     . cases aW
     . rename_i q;simp only [jt,aqa q];exact ⟨H.1,H.2.1,bd H.2.2 aW⟩
theorem N8 {c:Nat} {k v:V}:∀{es:List ca} {bu:Nat},bu<=c->gM c bu es=true->gM (c+1) bu (es++[⟨k,v,c⟩])=true
 | [],bu,h,_=>by simp only [aq8,gM,aq1,ap2,aqj,aqA];omega
 | m::es,bu,h,B=>by simp only [gM,ap2,aqj,aqA] at B;simp only [aqM,gM,ap2,aqj,aqA];exact ⟨⟨B.1.1,by omega⟩,N8 (by omega) B.2⟩
theorem Rn {c:Nat} {k v x:V}:∀{es:List ca} {bu:Nat},gM c bu es=true->ps c x (es++[⟨k,v,c⟩])=some (es++[⟨k,x,c⟩])
 | [],bu,_=>by simp [ps]
 | m::es,bu,B=>by
   simp only [gM,ap2,aqj,aqA] at B;have:Nat.beq m.born c=false:=by rw [<-aqF,aqE];omega
   simp only [aqM,ps,this,aqe,Rn B.2]
theorem hz.entry (T:ui E dF) (H:hz dF h b aV) (s:κ) (z:V):∃(c:Nat) (aa:ag),tl E z h (.map b) (dF s)=some (.tuple [(ev s aV).getD z,.int .i64 c],aa)/\Mod (fun p=>p=b) h aa/\aa.next=h.next/\
 ∀(ae:ag),ae.get b=aa.get b->Old ae b->∀x,∃aM,rA ae (.map b) (.int .i64 c) x=some aM/\hz dF aM b (jt s x aV)/\Mod (fun p=>p=b) ae aM/\aM.next=ae.next:=by
 obtain ⟨es,clock,al,au,aJ⟩:=H.ex;have m1:∀(h:ag) k,Mod (fun p=>p=b) h (h.set b k):=fun h k=>(Mod.refl (fun p=>p=b) h).set (fun _=>rfl) _;rcases au.oz T s 0 clock aJ with ⟨ax,aH⟩ | ⟨m,ax,aH,_,b5⟩
 . refine ⟨clock,h.set b (.mp (es++[⟨dF s,z,clock⟩]) (clock+1)),by simp only [tl,al,b8.hU,aH,ax,Option.getD_none],m1 _ _,rfl,fun ae g2 cY x=>?_⟩;rw [ej,aqf rfl] at g2;refine ⟨ae.set b (.mp (es++[⟨dF s,x,clock⟩]) (clock+1)),by simp only [rA,g2,b8.hU,Rn aJ],⟨⟨_,_,by rw [ej,aqf rfl],au.snoc ax x clock,N8 (arj _) aJ⟩,(m1 ae _).bY cY⟩,m1 _ _,rfl⟩
 . refine ⟨m.born,h.set b (.mp es clock),by simp only [tl,al,b8.hU,ax,aH,aqL],m1 _ _,rfl,fun ae g2 cY x=>?_⟩;rw [ej,aqf rfl] at g2;obtain ⟨fg,f1,f2,f3⟩:=b5 x;exact ⟨ae.set b (.mp fg clock),by simp only [rA,g2,b8.hU,f1],⟨⟨_,_,by rw [ej,aqf rfl],f2,f3⟩,(m1 ae _).bY cY⟩,m1 _ _,rfl⟩
theorem K1 (s:κ) (x:V) (t:κ):∀aV:List (κ × V),ev t (jt s x aV)=if t=s then some x else ev t aV
 | []=>by simp only [jt,ev]
 | (n,a)::aV=>by
   simp only [jt];by_cases q:s=n
   . subst q;simp only [aqB,ev]
     split<;>rfl
   . rw [aqa q];simp only [ev,K1 s x t aV];by_cases r:t=n
     . rw [aqf r,aqa (fun z=>q (z.symm.trans r)),aqf r]
     . rw [aqa r,aqa r]
def hk (seen:List Nat):List (κ × V)->List ca->List (κ × V)
 | p::aV,m::es=>if m.born ∈ seen then hk seen aV es else p::hk seen aV es
 | _,_=>[]
structure x8 (dF:κ->V) (h:ag) (b:aQ) (it:Nat) (aV nn:List (κ × V)):Prop where
 ex:∃es clock seen,h.get b=.mp es clock/\jz dF aV es/\gM clock 0 es=true/\h.get (aG it)=.hl (some b) clock seen clock/\nn=hk seen aV es
 ne:b≠aG it
 zJ:Old h b
 lt:it<h.next
theorem TU:∀{aV:List (κ × V)} {es:List ca},jz dF aV es->hk [] aV es=aV
 | [],[],_=>rfl
 | p::aV,m::es,H=>by simp only [hk,asn,aqD];rw [TU H.2.2]
 | [],_::_,H=>H.elim
 | _::_,[],H=>H.elim
theorem hz.range (H:hz dF h b aV):∃k,rangeMap (.map b) h=.val (.ptr (aG h.next) 0) (h.new k)/\x8 dF (h.new k) b h.next aV aV:=by
 obtain ⟨es,clock,al,au,aJ⟩:=H.ex;have cK:b≠aG h.next:=fun e=>by have:=H.bY;rw [e] at this;unfold Old at this;rw [dx] at this;omega
 refine ⟨.hl (some b) clock [] clock,by simp only [rangeMap,al,b8.hU],⟨es,clock,[],?_,au,aJ,oA _,(TU au).symm⟩,cK,akj H.bY,by rw [ir];omega⟩;rw [iR,aqa (fun e=>cK e.symm)];exact al
theorem H8 {c:Nat}:∀{es:List ca} {bu:Nat},gM c bu es=true->∀m ∈ es,bu<=m.born/\m.born<c
 | m::es,bu,B,x,ao=>by
   simp only [gM,ap2,aqj,aqA] at B;rcases aql.1 ao with rfl | ao
   . exact ⟨B.1.1,B.1.2⟩
   . have:=H8 B.2 x ao;omega
 | [],_,_,_,ao=>by cases ao
theorem TT {seen:List Nat}:∀{aV:List (κ × V)} {es:List ca},jz dF aV es->leftOf seen es=[]->hk seen aV es=[]
 | [],[],_,_=>rfl
 | p::aV,m::es,H,e=>by
   simp only [leftOf] at e;cases ak:qo seen m.born<;>rw [ak] at e
   . cases e
   . simp only [hk,(Bv _ _).1 ak,aqB];exact TT H.2.2 e
 | [],_::_,H,_=>H.elim
 | _::_,[],H,_=>H.elim
theorem KW {seen:List Nat} {c:Nat}:∀{aV:List (κ × V)} {es:List ca} {bu:Nat},jz dF aV es->gM c bu es=true->∀m ∈ leftOf seen es,sK m.born es=some m/\∃p,p ∈ hk seen aV es/\m.k=dF p.1/\m.v=p.2/\
 (hk (m.born::seen) aV es).length < (hk seen aV es).length/\(∀x ∈ hk (m.born::seen) aV es,x ∈ hk seen aV es)/\∀x ∈ hk seen aV es,x=p\/x ∈ hk (m.born::seen) aV es
 | [],[],_,_,_,m,hm=>by simp [leftOf] at hm
 | p::aV,y::es,bu,H,B,m,hm=>by
   simp only [gM,ap2,aqj,aqA] at B;have aY:=H8 B.2;simp only [leftOf] at hm;have same:∀(aV:List (κ × V)) (es:List ca),jz dF aV es->(∀m ∈ es,y.born<m.born)->hk (y.born::seen) aV es=hk seen aV es:=by
    intro aV
    induction aV with
    | nil=>intro es H _;cases es<;>rfl
    | cons p aV bd=>
      intro es H aw;cases es with
      | nil=>rfl
      | cons z es=>
        have bl:=aw z aqy;have:z.born ∈ y.born::seen↔z.born ∈ seen:=by simp only [aql];exact ⟨fun q=>q.resolve_left (by omega),.inr⟩
        simp only [hk,this,bd es H.2.2 fun m hm=>aw m (aqs _ hm)]
   cases ak:qo seen y.born<;>rw [ak] at hm
   . have nS:y.born ∉ seen:=fun q=>by rw [(Bv _ _).2 q] at ak;cases ak
     simp only [aqe,aql] at hm;rcases hm with rfl | hm
     . refine ⟨by simp only [sK,ar5,ap8],p,?_⟩;have ax:hk (m.born::seen) (p::aV) (m::es)=hk seen aV es:=by
        simp only [hk,aql,true_or,aqB];exact same aV es H.2.2 fun z bl=>by have:=aY z bl;omega
       have aH:hk seen (p::aV) (m::es)=p::hk seen aV es:=by simp only [hk,nS,aqD]
       rw [ax,aH];exact ⟨aqy,H.1,H.2.1,by simp,fun x ao=>aqs _ ao,fun x ao=>aql.1 ao⟩
     . obtain ⟨f1,p',f2,f3,f4,f5,f6,f7⟩:=KW H.2.2 B.2 m hm;have aN:y.born<m.born:=by have:=aY m (Cp hm);omega
       have cK:Nat.beq y.born m.born=false:=by rw [<-aqF,aqE];omega
       have ae2:y.born ∉ m.born::seen:=fun q=>by
        rcases aql.1 q with q | q
        . omega
        . exact nS q
       refine ⟨by simp only [sK,cK,aqe,f1],p',?_⟩;simp only [hk,nS,ae2,aqD,aqb,aql]
       exact ⟨.inr f2,f3,f4,by omega,fun x ao=>ao.imp_right (f6 x),fun x ao=>by
        rcases ao with rfl | ao
        . exact .inr (.inl rfl)
        . exact (f7 x ao).imp_right .inr⟩
   . have nS:y.born ∈ seen:=(Bv _ _).1 ak;simp only [ap8] at hm;obtain ⟨f1,p',f2,f3,f4,f5,f6,f7⟩:=KW H.2.2 B.2 m hm;have aN:y.born<m.born:=by have:=aY m (Cp hm);omega
     have cK:Nat.beq y.born m.born=false:=by rw [<-aqF,aqE];omega
     refine ⟨by simp only [sK,cK,aqe,f1],p',?_⟩;simp only [hk,nS,aqs m.born nS,aqB];exact ⟨f2,f3,f4,f5,f6,f7⟩
 | [],_::_,_,H,_,_,_=>H.elim
 | _::_,[],_,H,_,_,_=>H.elim
theorem Yr {c:Nat}:∀{es:List ca},es≠[]->(∀m ∈ es,m.born<c)->rl c es=false
 | [],h,_=>absurd rfl h
 | m::es,_,h=>by
   have:=h m aqy;have q:Nat.ble c m.born=false:=by rw [<-aqF,aqj];omega
   simp only [rl,q,aqe]
theorem x8.next {it:Nat} {nn:List (κ × V)} (R:x8 dF h b it aV nn) {K:V->ag->Prop} (Xz:nn=[]->K (.tuple [.bool false]) h)
 (rh:∀p ∈ nn,∀aa zv,ux (.ptr (aG it) 0) aa=.val (.tuple [dF p.1,p.2]) aa->x8 dF aa b it aV zv->zv.length<nn.length->(∀x ∈ zv,x ∈ nn)->(∀x ∈ nn,x=p\/x ∈ zv)->Mod (fun q=>q=aG it) h aa->aa.next=h.next->K (.tuple [.bool true,dF p.1,p.2]) aa):
 DM (.ptr (aG it) 0) h K:=by
 obtain ⟨es,clock,seen,al,au,aJ,bE,c1⟩:=R.ex;have aN:=H8 aJ;refine ⟨aG it,clock,seen,clock,b,es,clock,rfl,bE,al,fun m hm=>(aN m hm).2,?_,fun e=>Xz (c1.trans (TT au e)),fun m hm=>?_⟩
 . cases es with
   | nil=>simp
   | cons x xs=>rw [Yr (by simp) fun m hm=>(aN m hm).2];simp
 . obtain ⟨f1,p,f2,f3,f4,f5,f6,f7⟩:=KW au aJ m hm;rw [<-c1] at f2 f5 f6 f7;rw [f3,f4];have m1:Mod (fun q=>q=aG it) h (h.set (aG it) (.hl (some b) clock (m.born::seen) clock)):=(Mod.refl (fun q=>q=aG it) h).set (fun _=>rfl) _;have RO:(h.set (aG it) (.hl (some b) clock (m.born::seen) clock)).get b=.mp es clock:=by rw [ej,aqa (fun e=>R.ne e.symm)];exact al
   refine rh p f2 _ _ ?_ ⟨⟨es,clock,m.born::seen,RO,au,aJ,by rw [ej,aqf rfl],rfl⟩,R.ne,m1.bY R.zJ,R.lt⟩ f5 f6 f7 m1 rfl;simp only [ux,V.jK,ej,aqB,ar5,ap8];rw [aqa (fun e=>R.ne e.symm),al];simp only [b8.hU,ar5,ap8,f1,f3,f4]
end
section
variable {P:Program}
theorem QZ:∀(os:List br) (r:bg) (h:ag) (K:bg->ag->Prop),(∀o ∈ os,∀x,o.g≠.nq x)->o3 P os r h K->ym P os r h K
 | [],r,h,K,_,H=>H
 | o::os,r,h,K,aW,H=>by
   have q:o.sS P r h fun bb ab=>o3 P os bb ab K:=by
    unfold br.sS
    split
    . rename_i x _ e;exact absurd e (aW o aqy x)
    . exact H
   have mono:∀{A B:bg->ag->Prop},(∀r h,A r h->B r h)->o.sS P r h A->o.sS P r h B:=by
    intro A B qm z;unfold br.sS at z ⊢
    split at z
    . obtain ⟨b,since,seen,last,c,es,clock,ax,aH,bA,b5,cW,e7,hM⟩:=z;exact ⟨b,since,seen,last,c,es,clock,ax,aH,bA,b5,cW,fun w=>qm _ _ (e7 w),fun m hm=>qm _ _ (hM m hm)⟩
    . unfold br.wp at z ⊢;have EX:∀(g:G) (bb:bg) (C D:V->ag->Prop),(∀v h,C v h->D v h)->g.wp P bb h C->g.wp P bb h D:=by
       intro g bb C D sW w;cases g
       case call f args=>exact cr.mono w sW
       case qb f args=>
        obtain ⟨g,xs,bT,bN⟩:=w;refine ⟨g,xs,bT,?_⟩;unfold Dk at bN ⊢
        split at bN
        . rename_i q;rw [aqf q];obtain ⟨cy,b,e,v,ab,t1,t2⟩:=bN;exact ⟨cy,b,e,v,ab,t1,sW _ _ t2⟩
        . rename_i q;rw [aqa q];exact cr.mono bN sW
       all_goals
        obtain ⟨v,ab,bT,bN⟩:=w;exact ⟨v,ab,bT,sW _ _ bN⟩
      split at z
      . exact EX _ _ _ _ (fun v ab t=>qm _ _ t) z
      . rename_i d w e;unfold gate at z ⊢
        split at z
        . exact ⟨fun t=>EX _ _ _ _ (fun v ab t=>qm _ _ t) (z.1 t),fun t=>qm _ _ (z.2 t)⟩
        . exact qm _ _ z
        . exact z
   exact mono (fun bb ab z=>QZ os bb ab K (fun o aY=>aW o (aqs _ aY)) z) q
end
end
end Go.Proofs.YtgmhjhgoamjeeaaGreatDoor.a7
