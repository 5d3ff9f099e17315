/- The abstract machine and its walks (a verified interpreter of the model's code: plain definitions and lemmas, no condition). Printed by a program from longer texts: names made short. -/
import Derived.Test.YtgmhjhgoamjeeaaGreatDoorM4
import Derived.Test.YtgmhjhgoamjeeaaGreatDoorM3
set_option linter.unusedSectionVars false
set_option linter.unusedSimpArgs false
set_option linter.unusedVariables false
set_option maxHeartbeats 64000000
noncomputable section
namespace Go.Proofs.YtgmhjhgoamjeeaaGreatDoor.aZ
section
open Go Go.RowKit
variable [Lay]
def k4 (n:Nat) (b:aO):aO:=aC (n+b0 b)
mutual
def V.c7 (n:Nat):V->V
 | .ptr b o=>.ptr (k4 n b) o
 | .slice b o l c=>.slice (k4 n b) o l c
 | .dW b o l c=>.dW (k4 n b) o l c
 | .gb b o l c=>.gb (k4 n b) o l c
 | .map b=>.map (k4 n b)
 | .func f cs=>.func f (k3 n cs)
 | .l1 f cs=>.l1 f (k3 n cs)
 | .iface t v=>.iface t (v.c7 n)
 | .agg cs=>.agg (k3 n cs)
 | .tuple cs=>.tuple (k3 n cs)
 | .bad=>.bad | .bool b=>.bool b | .int k i=>.int k i | .str s=>.str s | .km=>.km | .bu=>.bu | .jW=>.jW | .jB=>.jB | .nilIface=>.nilIface
def k3 (n:Nat):List V->List V
 | []=>[]
 | v::af=>v.c7 n::k3 n af
end
theorem Vt (n:Nat):∀l:List V,k3 n l=l.map (V.c7 n)
 | []=>by simp [k3]
 | v::l=>by rw [k3,Vt n l,aqt]
def cb.c7 (n:Nat) (m:cb):cb:=⟨m.k.c7 n,m.v.c7 n,m.born⟩
def b'.c7 (n:Nat):b'->b'
 | .cells m cs ct st=>.bT ((hF cs 0 m).map (V.c7 n)) ct st
 | .iter s pos=>.iter s pos
 | .mp es clock=>.mp (es.map (cb.c7 n)) clock
 | .hM es=>.hM (es.map (cb.c7 n))
 | _=>.dead
def ae.q0 (h au:ae):Nat->ae
 | 0=>h
 | k+1=>(h.q0 au k).new ((au.get (aC k)).c7 h.next)
theorem xM (h au:ae):∀k,(h.q0 au k).next=h.next+k
 | 0=>rfl
 | k+1=>by rw [ae.q0,ga,xM h au k];omega
theorem M8 (h au:ae):∀k,Ext h (h.q0 au k)
 | 0=>Ext.refl h
 | k+1=>(M8 h au k).new _
theorem Hx (h au:ae):∀(k i:Nat),i<k->(h.q0 au k).get (aC (h.next+i))=(au.get (aC i)).c7 h.next
 | 0,i,ax=>absurd ax (by omega)
 | k+1,i,ax=>by
   rw [ae.q0,iz,xM];by_cases e:i=k
   . subst e;rw [apB rfl]
   . rw [apu (fun q=>e (by have:=h7 q;omega)),Hx h au k i (by omega)]
theorem M9 (h au:ae) (b:aO):∀(k:Nat),(b0 b<h.next\/h.next+k<=b0 b)->(h.q0 au k).get b=h.get b
 | 0,_=>rfl
 | k+1,ah=>by rw [ae.q0,iz,xM,apu (fun q=>by subst q;rw [cV] at ah;omega)];exact M9 h au b k (by omega)
def ae.app (h au:ae):ae:=h.q0 au au.next
def oJ (h au:ae) (E bM:Env):Env:=fun b=>if h.next<=b0 b/\b0 b<h.next+au.next then bM (aC (b0 b-h.next)) else E b
section
variable {az:Fr} {E bM:Env} {h au:ae} {w bH:World}
theorem Hw (s:ba az E h w):E.le (oJ h au E bM):=fun b p q=>by
 unfold oJ;rw [apu]
 . exact q
 . rintro ⟨U,_⟩;have:=s.fresh (b0 b) U;rw [uU] at this;rw [this] at q;cases q
theorem sl (s2:ba ⟨w,fun _=>none⟩ bM au bH) {b:aO} {p:js} (q:bM b=some p):oJ h au E bM (k4 h.next b)=some p:=by
 unfold oJ k4;have aL:b0 b<au.next:=by
  rcases aqJ (b0 b) au.next with an | an
  . exact an
  . have:=s2.fresh _ an;rw [uU,q] at this;cases this
 rw [cV,apB ⟨by omega,by omega⟩,show h.next+b0 b-h.next=b0 b from by omega,uU];exact q
mutual
theorem tg (s2:ba ⟨w,fun _=>none⟩ bM au bH):∀(v:V) (x:Value),Rel bM v x->Rel (oJ h au E bM) (v.c7 h.next) x
 | .bad,x,q=>by simp only [V.c7,Rel]
 | .bool _,x,q=>by simpa only [V.c7,Rel] using q
 | .int _ _,x,q=>by simpa only [V.c7,Rel] using q
 | .str _,x,q=>by simpa only [V.c7,Rel] using q
 | .km,x,q=>by simpa only [V.c7,Rel] using q
 | .bu,x,q=>by simpa only [V.c7,Rel] using q
 | .jW,x,q=>by simpa only [V.c7,Rel] using q
 | .jB,x,q=>by simpa only [V.c7,Rel] using q
 | .nilIface,x,q=>by simpa only [V.c7,Rel] using q
 | .ptr b o,x,q=>by simp only [V.c7,Rel] at q ⊢;obtain ⟨p,aj,an⟩:=q;exact ⟨p,sl s2 aj,an⟩
 | .slice b o l c,x,q=>by simp only [V.c7,Rel] at q ⊢;obtain ⟨p,aj,an⟩:=q;exact ⟨p,sl s2 aj,an⟩
 | .dW b o l c,x,q=>by simp only [V.c7,Rel] at q ⊢;obtain ⟨p,aj,an⟩:=q;exact ⟨p,sl s2 aj,an⟩
 | .gb b o l c,x,q=>by simpa only [V.c7,Rel] using q
 | .map b,x,q=>by simp only [V.c7,Rel] at q ⊢;obtain ⟨p,aj,an⟩:=q;exact ⟨p,sl s2 aj,an⟩
 | .func f cs,x,q=>by
   simp only [V.c7,Rel] at q ⊢;rcases q with ⟨aj,a,an,aJ⟩ | ⟨aj,b,p,rfl,aJ,bE⟩
   . exact .inl ⟨aj,a,an,Cs s2 cs _ aJ⟩
   . exact .inr ⟨aj,k4 h.next b,p,by simp only [k3,V.c7],sl s2 aJ,bE⟩
 | .l1 f cs,x,q=>by simp only [V.c7,Rel] at q ⊢;obtain ⟨aj,a,an,aJ⟩:=q;exact ⟨aj,a,an,Cs s2 cs _ aJ⟩
 | .iface t v,x,q=>by simp only [V.c7,Rel] at q ⊢;obtain ⟨y,aj,an⟩:=q;exact ⟨y,aj,tg s2 v y an⟩
 | .agg cs,x,q=>by simp only [V.c7,Rel] at q ⊢;obtain ⟨a,aj,an⟩:=q;exact ⟨a,aj,Cs s2 cs _ an⟩
 | .tuple cs,x,q=>by simp only [V.c7,Rel] at q ⊢;obtain ⟨a,aj,an⟩:=q;exact ⟨a,aj,Cs s2 cs _ an⟩
theorem Cs (s2:ba ⟨w,fun _=>none⟩ bM au bH):∀(v:List V) (x:List Value),bg bM v x->bg (oJ h au E bM) (k3 h.next v) x
 | [],x,q=>by simpa only [k3,bg] using q
 | v::af,x,q=>by simp only [k3,bg] at q ⊢;obtain ⟨y,cu,aj,an,aJ⟩:=q;exact ⟨y,cu,aj,tg s2 v y an,Cs s2 af cu aJ⟩
end
theorem TC (s2:ba ⟨w,fun _=>none⟩ bM au bH):∀(v:List cb) (x:List MapEntry),dq bM v x->dq (oJ h au E bM) (v.map (cb.c7 h.next)) x
 | [],x,q=>by simpa only [List.map_nil,dq] using q
 | v::af,x,q=>by simp only [aqt,dq,cb.c7] at q ⊢;obtain ⟨y,cu,aj,an,aJ,bE,cO⟩:=q;exact ⟨y,cu,aj,tg s2 _ _ an,tg s2 _ _ aJ,bE,TC s2 af cu cO⟩
theorem V6 (s2:ba ⟨w,fun _=>none⟩ bM au bH):∀(v:List cb) (x:List MapEntry),iI bM v x->iI (oJ h au E bM) (v.map (cb.c7 h.next)) x
 | [],x,q=>by simpa only [List.map_nil,iI] using q
 | v::af,x,q=>by simp only [aqt,iI,cb.c7] at q ⊢;obtain ⟨y,cu,aj,an,aJ,cO⟩:=q;exact ⟨y,cu,aj,tg s2 _ _ an,tg s2 _ _ aJ,V6 s2 af cu cO⟩
theorem Eh (cs:T V):∀(n off i:Nat),i<n->(hF cs off n)[i]? =some (T.get .bad (aC (off+i)) cs)
 | 0,_,i,ax=>absurd ax (by omega)
 | n+1,off,0,_=>by simp [hF]
 | n+1,off,i+1,ax=>by rw [hF,aqq,Eh cs n (off+1) i (by omega)];congr 3;omega
theorem Yo (hw:az.w.heap.size<=w.heap.size) (s2:ba ⟨w,fun _=>none⟩ bM au bH) {b:aO} {k:b'} (H:fK w.heap.size bM bH b k):fK az.w.heap.size (oJ h au E bM) bH (k4 h.next b) (k.c7 h.next):=by
 cases k with
 | cells n cs ct st=>
   obtain ⟨aV,p,c,el,b5,U,ab,aI,bq,cF,gu,gN⟩:=H;have ar:((hF cs 0 n).map (V.c7 h.next)).length=n:=by rw [apv,v_]
   refine ⟨by rw [ar];exact aV,p,c,el,b5,sl s2 U,aqc hw ab,aI,bq,cF,gu,by rw [ar];exact gN.1,fun i y ax a8=>?_⟩;rw [ar] at ax;have:=Eg ((hF cs 0 n).map (V.c7 h.next)) 0 i .e;rw [apX,apB (by rw [ar];exact ax),aqb,Eh cs n 0 i ax] at this;rw [this];simp only [aqO,aqe,apX];exact tg s2 _ _ (gN.2 i y ax a8)
 | iter st pos=>
   obtain ⟨p,U,ab,aI⟩:=H;exact ⟨p,sl s2 U,aqc hw ab,aI⟩
 | mp es clock=>
   obtain ⟨p,a,U,ab,aI,bq⟩:=H;exact ⟨p,a,sl s2 U,aqc hw ab,aI,TC s2 _ _ bq⟩
 | hM es=>
   obtain ⟨p,a,c,l,U,ab,aI,bq,cF⟩:=H;exact ⟨p,a,c,l,sl s2 U,aqc hw ab,aI,V6 s2 _ _ bq,cF⟩
 | _=>trivial
theorem FJ {k:b'} {n:Nat} (H:(k.c7 n).own=true):k.own=true:=by cases k<;>simp_all [b'.c7,b'.own]
theorem Uh {B:Nat} {b:aO} {k:b'} {p:js} (H:fK B E w b k) (aT:k.own=true) (q:E b=some p):B<=p.aS/\p.aS<w.heap.size:=by
 have lt:∀{o:Obj},w.heap[p.aS]? =some o->p.aS<w.heap.size:=fun {o} q=>by
  rcases aqJ p.aS w.heap.size with an | an
  . exact an
  . rw [aq_ an] at q;cases q
 cases k with
 | cells n cs ct st=>
   obtain ⟨_,p',c,el,b5,U,ab,aI,_⟩:=H;rw [q] at U;cases U;exact ⟨ab,lt aI⟩
 | iter st pos=>
   obtain ⟨p',U,ab,_,aI⟩:=H;rw [q] at U;cases U;exact ⟨ab,lt aI⟩
 | mp es clock=>
   obtain ⟨p',a,U,ab,aI,_⟩:=H;rw [q] at U;cases U;exact ⟨ab,lt aI⟩
 | hM es=>
   obtain ⟨p',a,c,l,U,ab,aI,_⟩:=H;rw [q] at U;cases U;exact ⟨ab,lt aI⟩
 | fz l=>
   obtain ⟨p',o,U,ab,aI,_⟩:=H;rw [q] at U;cases U;exact ⟨ab,lt aI⟩
 | hC=>
   obtain ⟨p',U,ab,aI⟩:=H;rw [q] at U;cases U;exact ⟨ab,lt aI⟩
 | gR src since seen last=>
   obtain ⟨p',m,a,U,ab,_,aI,_⟩:=H;rw [q] at U;cases U;exact ⟨ab,lt aI⟩
 | dead=>cases aT
 | view n cs=>cases aT
theorem Vv (s:ba az E h w) (s2:ba ⟨w,fun _=>none⟩ bM au bH):ba az (oJ h au E bM) (h.app au) bH:=by
 have Vo:=s.below s2.frame;have hw:az.w.heap.size<=w.heap.size:=s.frame.size;have cs:∀b,(h.next<=b0 b/\b0 b<h.next+au.next/\∃i,i<au.next/\b=k4 h.next (aC i)/\(h.app au).get b=(au.get (aC i)).c7 h.next/\oJ h au E bM b=bM (aC i))\/
  ((b0 b<h.next\/h.next+au.next<=b0 b)/\(h.app au).get b=h.get b/\oJ h au E bM b=E b):=fun b=>by
  by_cases q:h.next<=b0 b/\b0 b<h.next+au.next
  . refine .inl ⟨q.1,q.2,b0 b-h.next,by omega,?_,?_,apB q⟩
    . unfold k4;rw [cV,show h.next + (b0 b-h.next)=b0 b from by omega,uU]
    . have:=Hx h au au.next (b0 b-h.next) (by omega)
      rw [show h.next + (b0 b-h.next)=b0 b from by omega,uU] at this;exact this
  . exact .inr ⟨by omega,M9 h au b _ (by omega),apu q⟩
 have T6:∀b p,(h.get b).own=true->E b=some p->p.aS<w.heap.size:=fun b p aT q=>by have ah:fK az.w.heap.size E w b (h.get b):=s.at q;exact (Uh ah aT q).2
 have TK:∀i p,(au.get (aC i)).own=true->bM (aC i)=some p->w.heap.size<=p.aS:=fun i p aT q=>(Uh (s2.aS _ rfl) aT q).1;refine ⟨fun b ah=>?_,fun b k aA=>?_,fun b bO p p' c8 cy av aK ai=>?_,fun i ax=>?_,Vo.frame,s.laid,fun b p n c st aG he=>?_⟩
 . rcases cs b with ⟨_,_,i,ax,rfl,av,aK⟩ | ⟨_,av,aK⟩
   . rw [av];exact Yo hw s2 (s2.aS _ rfl)
   . rw [av];exact (Vo.aS b ah).mono (Hw s)
 . obtain ⟨aj,an,i,ax,rfl⟩:=s.oh b k aA;rcases cs (aC i) with ⟨bQ,_⟩ | ⟨_,av,aK⟩
   . rw [cV] at bQ;omega
   . refine ⟨av.trans aj,aK.trans an,i,?_,rfl⟩;show i < (h.q0 au au.next).next
     rw [xM];omega
 . rcases cs b with ⟨_,_,i,ax,rfl,g1,g2⟩ | ⟨_,g1,g2⟩<;>rcases cs bO with ⟨_,_,j,bC,rfl,g3,g4⟩ | ⟨_,g3,g4⟩
   . rw [g1] at c8;rw [g3] at cy;rw [g2] at av;rw [g4] at aK;rw [s2.inj _ _ _ _ (FJ c8) (FJ cy) av aK ai]
   . rw [g1] at c8;rw [g3] at cy;rw [g2] at av;rw [g4] at aK;have a:=TK _ _ (FJ c8) av;have b:=T6 _ _ cy aK;omega
   . rw [g1] at c8;rw [g3] at cy;rw [g2] at av;rw [g4] at aK;have a:=TK _ _ (FJ cy) aK;have b:=T6 _ _ c8 av;omega
   . rw [g1] at c8;rw [g3] at cy;rw [g2] at av;rw [g4] at aK;exact s.inj _ _ _ _ c8 cy av aK ai
 . have aV:(h.app au).next=h.next+au.next:=xM h au au.next
   rw [aV] at ax;rcases cs (aC i) with ⟨bQ,b2,_⟩ | ⟨_,av,aK⟩
   . rw [cV] at b2;omega
   . rw [aK];exact s.fresh i (by omega)
 . rcases cs b with ⟨_,_,i,ax,rfl,g1,g2⟩ | ⟨_,g1,g2⟩
   . rw [g2] at he;cases aA:au.get (aC i) with
     | cells gS gL an9 jo=>
       rw [g1,aA] at aG;simp only [b'.c7,b'.bT,b'.cells.injEq] at aG;obtain ⟨_,_,q,_⟩:=aG;subst q;exact s2.base _ _ _ _ _ aA he
     | _=>rw [g1,aA] at aG;simp [b'.c7] at aG
   . rw [g1] at aG;rw [g2] at he;exact s.base _ _ _ _ _ aG he
end
theorem aak {C:Ctx} (cJ:C.P.follows .mixedOrders=true) (bK:ep C.P) (gO:pA C) {n:Nat} {f:FuncId} {au:ae} {v:V} (aB:Nat.beq f dv=false) (ao:C.ext f=none) (ig:∃fn,C.P.funcs[f]? =some fn/\fn.body.isSome=true)
 (he:sx C n f [] ae.empty=.val v au) (h:ae):eZ C.P f [] h (v.c7 h.next) (h.app au):=by
 refine ⟨fun e=>by subst e;simp at aB,.inl ⟨ig,fun az E w xs ar s=>?_⟩⟩;simp only [bg] at ar;subst ar;obtain ⟨_,hV⟩:=H0 cJ bK gO aB ao he (az:=⟨w,fun _=>none⟩) (E:=fun _=>none) (w:=w) (xs:=[]) rfl (Gi w (Lay.ec s.laid s.frame));refine hV.mono fun e w' aq=>?_;obtain ⟨ay,x,rfl,_,an,aJ⟩:=aq;exact ⟨_,x,rfl,Hw s,tg aJ _ _ an,Vv s aJ⟩
theorem XR (h au:ae):Ext h (h.app au):=M8 h au _
theorem M' (h au:ae) {i:Nat} (ax:i<au.next):(h.app au).get (aC (h.next+i))=(au.get (aC i)).c7 h.next:=Hx h au _ i ax
theorem M_ (h au:ae):(h.app au).next=h.next+au.next:=xM h au _
end
section
open Go Go.RowKit
variable [Lay]
def Kn:IntKind->IntKind->Bool
 | .i8,.i8 | .i16,.i16 | .i32,.i32 | .i64,.i64 | .u8,.u8 | .u16,.u16 | .u32,.u32 | .u64,.u64=>true
 | _,_=>false
theorem SG {a b:IntKind} (h:Kn a b=true):a=b:=by cases a<;>cases b<;>first | rfl | cases h
def uz:Int->Int->Bool
 | .ofNat a,.ofNat b=>Nat.beq a b
 | .negSucc a,.negSucc b=>Nat.beq a b
 | _,_=>false
theorem E1 {a b:Int} (h:uz a b=true):a=b:=by cases a<;>cases b<;>simp only [uz] at h<;>first | (rw [aqj h]) | (cases h)
def Nn:Bool->Bool->Bool
 | true,true | false,false=>true
 | _,_=>false
theorem Ye {a b:Bool} (h:Nn a b=true):a=b:=by cases a<;>cases b<;>first | rfl | cases h
def Gh:List UInt8->List UInt8->Bool
 | [],[]=>true
 | a::Nk,b::fb=>Nat.beq a.toNat b.toNat&&Gh Nk fb
 | _,_=>false
theorem Vk:∀{a b:List UInt8},Gh a b=true->a=b
 | [],[],_=>rfl
 | [],_::_,h=>by cases h
 | _::_,[],h=>by cases h
 | a::Nk,b::fb,h=>by simp only [Gh,apn] at h;rw [Vk h.2,arx.1 (aqj h.1)]
def FA (mb:List D->List V->Bool) (size:Nat):List (List D)->List V->Bool
 | [],oV=>(match oV with | []=>true | _=>false)
 | e::es,oV=>Nat.beq (oV.take size).length size&&mb e (oV.take size)&&FA mb size es (oV.drop size)
def K2 (au:ae) (mb:List D->List V->Bool) (size:Nat) (es:List (List D)):V->Bool
 | .bu=>(match es with | []=>true | _=>false)
 | .slice b off len cap=>Nat.beq len es.length&&Nat.ble len cap&&Nat.ble len top&&Nat.blt (b0 b) au.next&&(match au.get b with
   | .cells n cs _ _=>Nat.ble (off+len * size) n&&FA mb size es (hF cs off (len * size))
   | _=>false)
 | _=>false
def B9 (au:ae):Nat->List D->List V->Bool
 | 0,_,_=>false
 | f+1,ds,af=>match ds with
   | []=>(match af with | []=>true | _=>false)
   | d::ds=>match af with
     | []=>false
     | v::af=>(match d with
       | .i k n=>(match v with | .int bp gS=>Kn k bp&&uz n gS | _=>false)
       | .b x=>(match v with | .bool y=>Nn x y | _=>false)
       | .s x=>(match v with | .str y=>Gh x y&&Nat.ble x.length top | _=>false)
       | .l size es=>K2 au (B9 au f) size es v)&&B9 au f ds af
section
variable {h au:ae}
def uQ (h au:ae) (b:aO):Prop:=h.next<=b0 b/\b0 b<h.next+au.next
theorem T1 {mb:List D->List V->Bool} {size:Nat}:∀{es:List (List D)} {oV:List V},FA mb size es oV=true->
 ∃us:List (List V),oV=us.flatten/\us.length=es.length/\(∀u ∈ us,u.length=size)/\∀(i:Nat) (e:List D) (u:List V),es[i]? =some e->us[i]? =some u->mb e u=true
 | [],oV,H=>by
   cases oV with
   | nil=>exact ⟨[],rfl,rfl,fun u q=>(by cases q),fun i e u q=>(by simp at q)⟩
   | cons _ _=>cases H
 | e::es,oV,H=>by
   simp only [FA,apn] at H;obtain ⟨us,aj,an,aJ,bE⟩:=T1 H.2;refine ⟨oV.take size::us,by rw [aqy,<-aj,aqN],by simp [an],fun u hu=>?_,fun i x u av aK=>?_⟩
   . rcases apI.1 hu with rfl | hu
     . exact aqj H.1.1
     . exact aJ u hu
   . cases i with
     | zero=>
       simp only [apH,apq] at av aK;subst av aK;exact H.1.2
     | succ i=>exact bE i x u (by simpa using av) (by simpa using aK)
theorem acf (cs:T V) (n off m:Nat) (hm:off+m<=n):((hF cs 0 n).drop off).take m=hF cs off m:=by
 apply arA;intro i;by_cases ax:i<m
 . rw [aqk ax,aqA,Eh cs n 0 _ (by omega),Eh cs m off i ax,apX]
 . rw [apS (by rw [apU,apY,v_];omega),apS (by rw [v_];omega)]
theorem ajH {mb:List D->List V->Bool} (aA:∀ds af,mb ds af=true->b6 (uQ h au) (h.app au) ds (k3 h.next af)) {size:Nat} {es:List (List D)} {v:V} (H:K2 au mb size es v=true):
 bN (uQ h au) (h.app au) size es (v.c7 h.next):=by
 cases v<;>simp only [K2] at H<;>try (cases H;done)
 case bu=>
  cases es with
  | nil=>exact bN.nil _ _ _
  | cons _ _=>cases H
 case slice b off len cap=>
  simp only [apn] at H;obtain ⟨⟨⟨⟨U,ab⟩,aI⟩,bq⟩,cF⟩:=H;have U:=aqj U;have ab:=ap4 ab;have aI:=ap4 aI;have bq:b0 b<au.next:=ap4 bq
  cases aG:au.get b<;>rw [aG] at cF<;>simp only at cF<;>try (cases cF;done)
  rename_i n cs ct st;simp only [apn] at cF;have gu:=ap4 cF.1;obtain ⟨us,aj,an,aJ,bE⟩:=T1 cF.2;subst U;have sI:(h.app au).get (k4 h.next b)=.bT ((hF cs 0 n).map (V.c7 h.next)) ct st:=by have:=M' h au bq;rw [uU,aG] at this;exact this
  have jP:(us.map (List.map (V.c7 h.next))).flatten=us.flatten.map (V.c7 h.next):=by rw [List.map_flatten]
  have hlen:us.flatten.length=es.length * size:=by rw [<-aj,v_]
  refine ⟨fun bO o l c e=>(by cases e;exact ab),aI,⟨us.map (List.map (V.c7 h.next)),⟨by rw [jP,apv,hlen],rfl,?_,_,.inr ⟨ct,st,sI⟩,?_,?_⟩,by rw [apv,an],fun u hu=>?_,fun i e u av aK=>?_⟩,fun bO q=>?_⟩
  . unfold Old k4;rw [cV,M_];omega
  . rw [jP,apv,apv,v_,hlen];exact gu
  . rw [jP,apv,hlen,<-List.map_drop,<-List.map_take,acf cs n off _ gu,aj]
  . obtain ⟨e7,gZ,rfl⟩:=List.mem_map.1 hu;rw [apv];exact aJ e7 gZ
  . rw [aqb] at aK;cases aq:us[i]? with
    | none=>rw [aq] at aK;cases aK
    | some e7=>
      rw [aq] at aK;simp only [aqO,apq] at aK;subst aK;rw [<-Vt];exact aA _ _ (bE i e e7 av aq)
  . simp only [V.c7,V.aS] at q;subst q;unfold uQ k4;rw [cV];exact ⟨by omega,by omega⟩
theorem K0:∀{f:Nat} {ds:List D} {af:List V},B9 au f ds af=true->b6 (uQ h au) (h.app au) ds (k3 h.next af)
 | 0,_,_,H=>by cases H
 | f+1,ds,af,H=>by
   cases ds with
   | nil=>
     cases af with
     | nil=>exact .nil
     | cons _ _=>cases H
   | cons d ds=>
     cases af with
     | nil=>cases H
     | cons v af=>
       simp only [B9,apn] at H;have t:=K0 (f:=f) H.2;have H1:=H.1;rw [k3];cases d with
       | i k n=>
         cases v<;>simp only at H1<;>try (cases H1;done)
         simp only [apn] at H1;rw [SG H1.1,E1 H1.2];simp only [V.c7];exact .i t
       | b x=>
         cases v<;>simp only at H1<;>try (cases H1;done)
         rw [Ye H1];simp only [V.c7];exact .b t
       | s x=>
         cases v<;>simp only at H1<;>try (cases H1;done)
         simp only [apn] at H1;rw [<-Vk H1.1];simp only [V.c7];exact .s (ap4 H1.2) t
       | l size es=>exact (ajH (fun ds af q=>K0 (f:=f) q) H1).cons t
end
def np (k:Int):List (Int × List D)->Option (List D)
 | []=>none
 | (n,d)::l=>if k=n then some d else np k l
inductive l8 (F:aO->Prop) (h:ae):List (Int × List D)->List cb->Prop
 | nil:l8 F h [] []
 | cons {n:Int} {ds:List D} {y:V} {born:Nat} {aR:List (Int × List D)} {es:List cb} (aH:b6 F h ds y.cells) (t:l8 F h aR es):l8 F h ((n,ds)::aR) (⟨.int .i64 n,y,born⟩::es)
structure oB (F:aO->Prop) (h:ae) (aR:List (Int × List D)) (v:V):Prop where
 ex:∃b es,v=.map b/\Old h b/\((∃clock,h.get b=.mp es clock)\/h.get b=.hM es/\(aR.map Prod.fst).Nodup)/\l8 F h aR es/\F b
section
variable {F:aO->Prop} {h aa:ae} {aR:List (Int × List D)} {es:List cb} {v:V}
theorem l8.ext (H:l8 F h aR es) (e:Ext h aa):l8 F aa aR es:=by
 induction H with
 | nil=>exact .nil
 | cons aH t bh=>exact .cons (aH.ext e) bh
theorem oB.ext (H:oB F h aR v) (e:Ext h aa):oB F aa aR v:=by obtain ⟨b,es,aj,an,aJ,bE,cO⟩:=H.ex;exact ⟨b,es,aj,e.bG an,by rw [e.get b an];exact aJ,bE.ext e,cO⟩
theorem Ge (k n:Int):j'.run (.int .i64 k) (.int .i64 n)=some (decide (k=n)):=by simp only [j',V.ew,oR,apt,DZ]
theorem l8.j_ (H:l8 F h aR es) (k:Int):(np k aR=none/\j_ j' (.int .i64 k) es=some none)\/∃ds y,np k aR=some ds/\b6 F h ds y.cells/\Go.Proofs.YtgmhjhgoamjeeaaGreatDoor.aZ.j_ j' (.int .i64 k) es=some (some y):=by
 induction H with
 | nil=>exact .inl ⟨rfl,rfl⟩
 | @cons n ds y born aR es aH t bh=>
   simp only [np,Go.Proofs.YtgmhjhgoamjeeaaGreatDoor.aZ.j_,Ge];by_cases q:k=n
   . subst q;simp only [ap0,aq8,apt];exact .inr ⟨ds,y,rfl,aH,rfl⟩
   . simp only [q,ap2,aq2,apA];exact bh
theorem Tu {k:Int} {ds:List D}:∀{aR:List (Int × List D)},np k aR=some ds->k ∈ aR.map Prod.fst
 | [],h=>by cases h
 | (n,d)::l,h=>by
   simp only [np] at h;by_cases q:k=n
   . subst q;simp
   . rw [apu q] at h;simp only [aqt,apI];exact .inr (Tu h)
theorem l8.mZ (H:l8 F h aR es) (aV:(aR.map Prod.fst).Nodup) (k:Int):(np k aR=none/\mZ j' (.int .i64 k) es=some none)\/∃ds y,np k aR=some ds/\b6 F h ds y.cells/\Go.Proofs.YtgmhjhgoamjeeaaGreatDoor.aZ.mZ j' (.int .i64 k) es=some (some y):=by
 induction H with
 | nil=>exact .inl ⟨rfl,rfl⟩
 | @cons n ds y born aR es aH t bh=>
   simp only [aqt,arz] at aV;have bh:=bh aV.2;simp only [np,Go.Proofs.YtgmhjhgoamjeeaaGreatDoor.aZ.mZ,Ge];by_cases q:k=n
   . subst q;rcases bh with ⟨_,e⟩ | ⟨_,_,e,_⟩
     . simp only [e,ap0,aq8,apt];exact .inr ⟨ds,y,rfl,aH,rfl⟩
     . exact absurd (Tu e) aV.1
   . rcases bh with ⟨av,e⟩ | ⟨nR,tz,av,aK,e⟩
     . simp only [e,q,ap2,aq2,apA];exact .inl ⟨av,trivial⟩
     . simp only [e,q,ap2,aq2,apA];exact .inr ⟨nR,tz,av,aK,rfl⟩
theorem oB.look (H:oB F h aR v) (k:Int) (z:V) (ok:Bool):(np k aR=none/\g' j' z ok h v (.int .i64 k)=some (bif ok then .tuple [z,.bool false] else z))\/
 ∃ds y,np k aR=some ds/\b6 F h ds y.cells/\g' j' z ok h v (.int .i64 k)=some (bif ok then .tuple [y,.bool true] else y):=by
 obtain ⟨b,es,rfl,_,aJ,bE,_⟩:=H.ex;rcases aJ with ⟨clock,aJ⟩ | ⟨aJ,aV⟩
 . rcases bE.j_ k with ⟨av,e⟩ | ⟨ds,y,av,aK,e⟩
   . exact .inl ⟨av,by simp only [g',aJ,hq,qq,b'.hN,e]⟩
   . exact .inr ⟨ds,y,av,aK,by simp only [g',aJ,hq,qq,b'.hN,e]⟩
 . rcases bE.mZ aV k with ⟨av,e⟩ | ⟨ds,y,av,aK,e⟩
   . exact .inl ⟨av,by simp only [g',aJ,e]⟩
   . exact .inr ⟨ds,y,av,aK,by simp only [g',aJ,e]⟩
end
def B' (au:ae) (f:Nat):List (Int × List D)->List cb->Bool
 | [],es=>(match es with | []=>true | _=>false)
 | (n,ds)::aR,es=>(match es with
   | []=>false
   | m::es=>(match m.k with | .int k i=>Kn k .i64&&uz i n | _=>false)&&B9 au f ds m.v.cells&&B' au f aR es)
def Fw:List Int->Bool
 | []=>true
 | n::l=>(l.all fun m=>!uz n m)&&Fw l
def FB (au:ae) (f:Nat) (aR:List (Int × List D)):V->Bool
 | .map b=>Nat.blt (b0 b) au.next&&Fw (aR.map Prod.fst)&&(match au.get b with
   | .mp es _=>B' au f aR es
   | .hM es=>B' au f aR es
   | _=>false)
 | _=>false
theorem afc:∀n:Int,uz n n=true
 | .ofNat a=>arh a
 | .negSucc a=>arh a
theorem TN:∀{l:List Int},Fw l=true->l.Nodup
 | [],_=>List.nodup_nil
 | n::l,h=>by simp only [Fw,apn] at h;refine arz.2 ⟨fun q=>?_,TN h.2⟩;have:=apP.1 h.1 n q;rw [afc] at this;cases this
theorem aab (n:Nat) (v:V):(v.c7 n).cells=k3 n v.cells:=by cases v<;>simp only [V.c7,V.cells,k3]
section
variable {h au:ae}
theorem K1 {f:Nat}:∀{aR:List (Int × List D)} {es:List cb},B' au f aR es=true->l8 (uQ h au) (h.app au) aR (es.map (cb.c7 h.next))
 | [],es,H=>by
   cases es with
   | nil=>exact .nil
   | cons _ _=>cases H
 | (n,ds)::aR,es,H=>by
   cases es with
   | nil=>cases H
   | cons m es=>
     simp only [B',apn] at H;obtain ⟨⟨U,ab⟩,aI⟩:=H;obtain ⟨mk,cq,born⟩:=m;cases mk<;>simp only at U<;>try (cases U;done)
     simp only [apn] at U;rw [SG U.1,E1 U.2,aqt];simp only [cb.c7,V.c7];exact .cons (by rw [aab];exact K0 ab) (K1 aI)
theorem ajG {f:Nat} {aR:List (Int × List D)} {v:V} (H:FB au f aR v=true):oB (uQ h au) (h.app au) aR (v.c7 h.next):=by
 cases v<;>simp only [FB] at H<;>try (cases H;done)
 rename_i b;simp only [apn] at H;obtain ⟨⟨U,ab⟩,aI⟩:=H;have U:b0 b<au.next:=ap4 U
 have aG:=M' h au U;rw [uU] at aG;have ah:uQ h au (k4 h.next b):=by unfold uQ k4;rw [cV];exact ⟨by omega,by omega⟩
 have aT:Old (h.app au) (k4 h.next b):=by unfold Old k4;rw [cV,M_];omega
 cases aA:au.get b<;>rw [aA] at aI<;>simp only at aI<;>try (cases aI;done)
 . rw [aA] at aG;exact ⟨_,_,rfl,aT,.inl ⟨_,aG⟩,K1 aI,ah⟩
 . rw [aA] at aG;exact ⟨_,_,rfl,aT,.inr ⟨aG,TN ab⟩,K1 aI,ah⟩
end
theorem l8.eQ {F dA:aO->Prop} {h:ae} {aR:List (Int × List D)} {es:List cb} (H:l8 F h aR es) (w:∀b,F b->dA b):l8 dA h aR es:=by
 induction H with
 | nil=>exact .nil
 | cons aH t bh=>exact .cons (aH.eQ w) bh
theorem oB.eQ {F dA:aO->Prop} {h:ae} {aR:List (Int × List D)} {v:V} (H:oB F h aR v) (w:∀b,F b->dA b):oB dA h aR v:=by obtain ⟨b,es,aj,an,aJ,bE,cO⟩:=H.ex;exact ⟨b,es,aj,an,aJ,bE.eQ w,w b cO⟩
def FC (C:Ctx) (n:Nat) (f:FuncId) (mb:ae->V->Bool):Bool:=match sx C n f [] ae.empty with
 | .val v au=>mb au v
 | _=>false
def hU (h:ae) (b:aO):Prop:=h.next<=b0 b
section
variable {C:Ctx} (cJ:C.P.follows .mixedOrders=true) (bK:ep C.P) (gO:pA C) {n:Nat} {f:FuncId} (aB:Nat.beq f dv=false) (ao:C.ext f=none) (ig:∃fn,C.P.funcs[f]? =some fn/\fn.body.isSome=true)
include cJ bK gO aB ao ig
theorem aaj {mb:ae->V->Bool} (H:FC C n f mb=true) (h:ae):∃v au,mb au v=true/\eZ C.P f [] h (v.c7 h.next) (h.app au):=by
 unfold FC at H;cases au:sx C n f [] ae.empty with
 | fail=>rw [au] at H;cases H
 | cI _ _=>rw [au] at H;cases H
 | val v a7=>
   rw [au] at H;exact ⟨v,a7,H,aak cJ bK gO aB ao ig au h⟩
theorem aai {m:Nat} {aR:List (Int × List D)} (H:FC C n f (fun au v=>FB au m aR v)=true) (h:ae):cv C.P f [] h fun x aa=>Ext h aa/\oB (hU h) aa aR x:=by obtain ⟨v,au,q,c⟩:=aaj cJ bK gO aB ao ig H h;exact ⟨_,_,c,XR _ _,(ajG q).eQ fun b q=>q.1⟩
end
end
end Go.Proofs.YtgmhjhgoamjeeaaGreatDoor.aZ
