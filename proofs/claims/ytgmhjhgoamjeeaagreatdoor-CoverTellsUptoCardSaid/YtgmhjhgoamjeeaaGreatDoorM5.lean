/- The abstract machine and its walks (a verified interpreter of the model's code: plain definitions and lemmas, no condition). Printed by a program from longer texts: names made short. -/
import Derived.Test.YtgmhjhgoamjeeaaGreatDoorM4
import Derived.Test.YtgmhjhgoamjeeaaGreatDoorM3
set_option linter.unusedSectionVars false
set_option linter.unusedSimpArgs false
set_option linter.unusedVariables false
set_option maxHeartbeats 64000000
noncomputable section
namespace Go.Proofs.YtgmhjhgoamjeeaaGreatDoor.a7
section
open Go Go.RowKit
variable [Lay]
def lu (n:Nat) (b:aQ):aQ:=aG (n+ck b)
mutual
def V.c9 (n:Nat):V->V
 | .ptr b o=>.ptr (lu n b) o
 | .slice b o l c=>.slice (lu n b) o l c
 | .ee b o l c=>.ee (lu n b) o l c
 | .gB b o l c=>.gB (lu n b) o l c
 | .map b=>.map (lu n b)
 | .func f cs=>.func f (lr n cs)
 | .mC f cs=>.mC f (lr n cs)
 | .iface t v=>.iface t (v.c9 n)
 | .agg cs=>.agg (lr n cs)
 | .tuple cs=>.tuple (lr n cs)
 | .bad=>.bad | .bool b=>.bool b | .int k i=>.int k i | .str s=>.str s | .kI=>.kI | .bL=>.bL | .kj=>.kj | .np=>.np | .nilIface=>.nilIface
def lr (n:Nat):List V->List V
 | []=>[]
 | v::ah=>v.c9 n::lr n ah
end
theorem Wb (n:Nat):∀l:List V,lr n l=l.map (V.c9 n)
 | []=>by simp [lr]
 | v::l=>by rw [lr,Wb n l,are]
def ca.c9 (n:Nat) (m:ca):ca:=⟨m.k.c9 n,m.v.c9 n,m.born⟩
def b8.c9 (n:Nat):b8->b8
 | .cells m cs cI st=>.bU ((h5 cs 0 m).map (V.c9 n)) cI st
 | .iter s pos=>.iter s pos
 | .mp es clock=>.mp (es.map (ca.c9 n)) clock
 | .ia es=>.ia (es.map (ca.c9 n))
 | _=>.dead
def ag.rm (h av:ag):Nat->ag
 | 0=>h
 | k+1=>(h.rm av k).new ((av.get (aG k)).c9 h.next)
theorem yc (h av:ag):∀k,(h.rm av k).next=h.next+k
 | 0=>rfl
 | k+1=>by rw [ag.rm,ir,yc h av k];omega
theorem NL (h av:ag):∀k,Ext h (h.rm av k)
 | 0=>Ext.refl h
 | k+1=>(NL h av k).new _
theorem HX (h av:ag):∀(k i:Nat),i<k->(h.rm av k).get (aG (h.next+i))=(av.get (aG i)).c9 h.next
 | 0,i,aB=>absurd aB (by omega)
 | k+1,i,aB=>by
   rw [ag.rm,iR,yc];by_cases e:i=k
   . subst e;rw [aqf rfl]
   . rw [aqa (fun q=>e (by have:=gZ q;omega)),HX h av k i (by omega)]
theorem NM (h av:ag) (b:aQ):∀(k:Nat),(ck b<h.next\/h.next+k<=ck b)->(h.rm av k).get b=h.get b
 | 0,_=>rfl
 | k+1,ak=>by rw [ag.rm,iR,yc,aqa (fun q=>by subst q;rw [dx] at ak;omega)];exact NM h av b k (by omega)
def ag.app (h av:ag):ag:=h.rm av av.next
def pe (h av:ag) (E bO:Env):Env:=fun b=>if h.next<=ck b/\ck b<h.next+av.next then bO (aG (ck b-h.next)) else E b
section
variable {aC:Fr} {E bO:Env} {h av:ag} {w bN:World}
theorem HW (s:bc aC E h w):E.le (pe h av E bO):=fun b p q=>by
 unfold pe;rw [aqa]
 . exact q
 . rintro ⟨aa,_⟩;have:=s.fresh (ck b) aa;rw [vb] at this;rw [this] at q;cases q
theorem sG (s2:bc ⟨w,fun _=>none⟩ bO av bN) {b:aQ} {p:jW} (q:bO b=some p):pe h av E bO (lu h.next b)=some p:=by
 unfold pe lu;have aN:ck b<av.next:=by
  rcases arv (ck b) av.next with au | au
  . exact au
  . have:=s2.fresh _ au;rw [vb,q] at this;cases this
 rw [dx,aqf ⟨by omega,by omega⟩,show h.next+ck b-h.next=ck b from by omega,vb];exact q
mutual
theorem tA (s2:bc ⟨w,fun _=>none⟩ bO av bN):∀(v:V) (x:Value),Rel bO v x->Rel (pe h av E bO) (v.c9 h.next) x
 | .bad,x,q=>by simp only [V.c9,Rel]
 | .bool _,x,q=>by simpa only [V.c9,Rel] using q
 | .int _ _,x,q=>by simpa only [V.c9,Rel] using q
 | .str _,x,q=>by simpa only [V.c9,Rel] using q
 | .kI,x,q=>by simpa only [V.c9,Rel] using q
 | .bL,x,q=>by simpa only [V.c9,Rel] using q
 | .kj,x,q=>by simpa only [V.c9,Rel] using q
 | .np,x,q=>by simpa only [V.c9,Rel] using q
 | .nilIface,x,q=>by simpa only [V.c9,Rel] using q
 | .ptr b o,x,q=>by simp only [V.c9,Rel] at q ⊢;obtain ⟨p,al,au⟩:=q;exact ⟨p,sG s2 al,au⟩
 | .slice b o l c,x,q=>by simp only [V.c9,Rel] at q ⊢;obtain ⟨p,al,au⟩:=q;exact ⟨p,sG s2 al,au⟩
 | .ee b o l c,x,q=>by simp only [V.c9,Rel] at q ⊢;obtain ⟨p,al,au⟩:=q;exact ⟨p,sG s2 al,au⟩
 | .gB b o l c,x,q=>by simpa only [V.c9,Rel] using q
 | .map b,x,q=>by simp only [V.c9,Rel] at q ⊢;obtain ⟨p,al,au⟩:=q;exact ⟨p,sG s2 al,au⟩
 | .func f cs,x,q=>by
   simp only [V.c9,Rel] at q ⊢;rcases q with ⟨al,a,au,aJ⟩ | ⟨al,b,p,rfl,aJ,bE⟩
   . exact .inl ⟨al,a,au,C2 s2 cs _ aJ⟩
   . exact .inr ⟨al,lu h.next b,p,by simp only [lr,V.c9],sG s2 aJ,bE⟩
 | .mC f cs,x,q=>by simp only [V.c9,Rel] at q ⊢;obtain ⟨al,a,au,aJ⟩:=q;exact ⟨al,a,au,C2 s2 cs _ aJ⟩
 | .iface t v,x,q=>by simp only [V.c9,Rel] at q ⊢;obtain ⟨y,al,au⟩:=q;exact ⟨y,al,tA s2 v y au⟩
 | .agg cs,x,q=>by simp only [V.c9,Rel] at q ⊢;obtain ⟨a,al,au⟩:=q;exact ⟨a,al,C2 s2 cs _ au⟩
 | .tuple cs,x,q=>by simp only [V.c9,Rel] at q ⊢;obtain ⟨a,al,au⟩:=q;exact ⟨a,al,C2 s2 cs _ au⟩
theorem C2 (s2:bc ⟨w,fun _=>none⟩ bO av bN):∀(v:List V) (x:List Value),bj bO v x->bj (pe h av E bO) (lr h.next v) x
 | [],x,q=>by simpa only [lr,bj] using q
 | v::ah,x,q=>by simp only [lr,bj] at q ⊢;obtain ⟨y,cy,al,au,aJ⟩:=q;exact ⟨y,cy,al,tA s2 v y au,C2 s2 ah cy aJ⟩
end
theorem Un (s2:bc ⟨w,fun _=>none⟩ bO av bN):∀(v:List ca) (x:List MapEntry),dr bO v x->dr (pe h av E bO) (v.map (ca.c9 h.next)) x
 | [],x,q=>by simpa only [List.map_nil,dr] using q
 | v::ah,x,q=>by simp only [are,dr,ca.c9] at q ⊢;obtain ⟨y,cy,al,au,aJ,bE,c1⟩:=q;exact ⟨y,cy,al,tA s2 _ _ au,tA s2 _ _ aJ,bE,Un s2 ah cy c1⟩
theorem WQ (s2:bc ⟨w,fun _=>none⟩ bO av bN):∀(v:List ca) (x:List MapEntry),jf bO v x->jf (pe h av E bO) (v.map (ca.c9 h.next)) x
 | [],x,q=>by simpa only [List.map_nil,jf] using q
 | v::ah,x,q=>by simp only [are,jf,ca.c9] at q ⊢;obtain ⟨y,cy,al,au,aJ,c1⟩:=q;exact ⟨y,cy,al,tA s2 _ _ au,tA s2 _ _ aJ,WQ s2 ah cy c1⟩
theorem EV (cs:T V):∀(n off i:Nat),i<n->(h5 cs off n)[i]? =some (T.get .bad (aG (off+i)) cs)
 | 0,_,i,aB=>absurd aB (by omega)
 | n+1,off,0,_=>by simp [h5]
 | n+1,off,i+1,aB=>by rw [h5,aq6,EV cs n (off+1) i (by omega)];congr 3;omega
theorem Y' (hw:aC.w.heap.size<=w.heap.size) (s2:bc ⟨w,fun _=>none⟩ bO av bN) {b:aQ} {k:b8} (H:fR w.heap.size bO bN b k):fR aC.w.heap.size (pe h av E bO) bN (lu h.next b) (k.c9 h.next):=by
 cases k with
 | cells n cs cI st=>
   obtain ⟨aW,p,c,el,b4,aa,ae,aM,bw,cw,e_,hC⟩:=H;have aw:((h5 cs 0 n).map (V.c9 h.next)).length=n:=by rw [ap6,wx]
   refine ⟨by rw [aw];exact aW,p,c,el,b4,sG s2 aa,aqK hw ae,aM,bw,cw,e_,by rw [aw];exact hC.1,fun i y aB a6=>?_⟩;rw [aw] at aB;have:=EU ((h5 cs 0 n).map (V.c9 h.next)) 0 i .e;rw [aqP,aqf (by rw [aw];exact aB),aq2,EV cs n 0 i aB] at this;rw [this];simp only [arL,aqL,aqP];exact tA s2 _ _ (hC.2 i y aB a6)
 | iter st pos=>
   obtain ⟨p,aa,ae,aM⟩:=H;exact ⟨p,sG s2 aa,aqK hw ae,aM⟩
 | mp es clock=>
   obtain ⟨p,a,aa,ae,aM,bw⟩:=H;exact ⟨p,a,sG s2 aa,aqK hw ae,aM,Un s2 _ _ bw⟩
 | ia es=>
   obtain ⟨p,a,c,l,aa,ae,aM,bw,cw⟩:=H;exact ⟨p,a,c,l,sG s2 aa,aqK hw ae,aM,WQ s2 _ _ bw,cw⟩
 | _=>trivial
theorem Gp {k:b8} {n:Nat} (H:(k.c9 n).own=true):k.own=true:=by cases k<;>simp_all [b8.c9,b8.own]
theorem U1 {B:Nat} {b:aQ} {k:b8} {p:jW} (H:fR B E w b k) (aY:k.own=true) (q:E b=some p):B<=p.a'/\p.a'<w.heap.size:=by
 have lt:∀{o:Obj},w.heap[p.a']? =some o->p.a'<w.heap.size:=fun {o} q=>by
  rcases arv p.a' w.heap.size with au | au
  . exact au
  . rw [arY au] at q;cases q
 cases k with
 | cells n cs cI st=>
   obtain ⟨_,p',c,el,b4,aa,ae,aM,_⟩:=H;rw [q] at aa;cases aa;exact ⟨ae,lt aM⟩
 | iter st pos=>
   obtain ⟨p',aa,ae,_,aM⟩:=H;rw [q] at aa;cases aa;exact ⟨ae,lt aM⟩
 | mp es clock=>
   obtain ⟨p',a,aa,ae,aM,_⟩:=H;rw [q] at aa;cases aa;exact ⟨ae,lt aM⟩
 | ia es=>
   obtain ⟨p',a,c,l,aa,ae,aM,_⟩:=H;rw [q] at aa;cases aa;exact ⟨ae,lt aM⟩
 | fI l=>
   obtain ⟨p',o,aa,ae,aM,_⟩:=H;rw [q] at aa;cases aa;exact ⟨ae,lt aM⟩
 | h2=>
   obtain ⟨p',aa,ae,aM⟩:=H;rw [q] at aa;cases aa;exact ⟨ae,lt aM⟩
 | hl src since seen last=>
   obtain ⟨p',m,a,aa,ae,_,aM,_⟩:=H;rw [q] at aa;cases aa;exact ⟨ae,lt aM⟩
 | dead=>cases aY
 | view n cs=>cases aY
theorem Wd (s:bc aC E h w) (s2:bc ⟨w,fun _=>none⟩ bO av bN):bc aC (pe h av E bO) (h.app av) bN:=by
 have V9:=s.below s2.frame;have hw:aC.w.heap.size<=w.heap.size:=s.frame.size;have cs:∀b,(h.next<=ck b/\ck b<h.next+av.next/\∃i,i<av.next/\b=lu h.next (aG i)/\(h.app av).get b=(av.get (aG i)).c9 h.next/\pe h av E bO b=bO (aG i))\/
  ((ck b<h.next\/h.next+av.next<=ck b)/\(h.app av).get b=h.get b/\pe h av E bO b=E b):=fun b=>by
  by_cases q:h.next<=ck b/\ck b<h.next+av.next
  . refine .inl ⟨q.1,q.2,ck b-h.next,by omega,?_,?_,aqf q⟩
    . unfold lu;rw [dx,show h.next + (ck b-h.next)=ck b from by omega,vb]
    . have:=HX h av av.next (ck b-h.next) (by omega)
      rw [show h.next + (ck b-h.next)=ck b from by omega,vb] at this;exact this
  . exact .inr ⟨by omega,NM h av b _ (by omega),aqa q⟩
 have UO:∀b p,(h.get b).own=true->E b=some p->p.a'<w.heap.size:=fun b p aY q=>by have ak:fR aC.w.heap.size E w b (h.get b):=s.at q;exact (U1 ak aY q).2
 have Ut:∀i p,(av.get (aG i)).own=true->bO (aG i)=some p->w.heap.size<=p.a':=fun i p aY q=>(U1 (s2.a' _ rfl) aY q).1;refine ⟨fun b ak=>?_,fun b k aA=>?_,fun b bR p p' di cY ax aH ai=>?_,fun i aB=>?_,V9.frame,s.laid,fun b p n c st aL he=>?_⟩
 . rcases cs b with ⟨_,_,i,aB,rfl,ax,aH⟩ | ⟨_,ax,aH⟩
   . rw [ax];exact Y' hw s2 (s2.a' _ rfl)
   . rw [ax];exact (V9.a' b ak).mono (HW s)
 . obtain ⟨al,au,i,aB,rfl⟩:=s.oW b k aA;rcases cs (aG i) with ⟨bW,_⟩ | ⟨_,ax,aH⟩
   . rw [dx] at bW;omega
   . refine ⟨ax.trans al,aH.trans au,i,?_,rfl⟩;show i < (h.rm av av.next).next
     rw [yc];omega
 . rcases cs b with ⟨_,_,i,aB,rfl,g1,g2⟩ | ⟨_,g1,g2⟩<;>rcases cs bR with ⟨_,_,j,bG,rfl,g3,g4⟩ | ⟨_,g3,g4⟩
   . rw [g1] at di;rw [g3] at cY;rw [g2] at ax;rw [g4] at aH;rw [s2.inj _ _ _ _ (Gp di) (Gp cY) ax aH ai]
   . rw [g1] at di;rw [g3] at cY;rw [g2] at ax;rw [g4] at aH;have a:=Ut _ _ (Gp di) ax;have b:=UO _ _ cY aH;omega
   . rw [g1] at di;rw [g3] at cY;rw [g2] at ax;rw [g4] at aH;have a:=Ut _ _ (Gp cY) aH;have b:=UO _ _ di ax;omega
   . rw [g1] at di;rw [g3] at cY;rw [g2] at ax;rw [g4] at aH;exact s.inj _ _ _ _ di cY ax aH ai
 . have aW:(h.app av).next=h.next+av.next:=yc h av av.next
   rw [aW] at aB;rcases cs (aG i) with ⟨bW,b6,_⟩ | ⟨_,ax,aH⟩
   . rw [dx] at b6;omega
   . rw [aH];exact s.fresh i (by omega)
 . rcases cs b with ⟨_,_,i,aB,rfl,g1,g2⟩ | ⟨_,g1,g2⟩
   . rw [g2] at he;cases aA:av.get (aG i) with
     | cells hn fT aoH jP=>
       rw [g1,aA] at aL;simp only [b8.c9,b8.bU,b8.cells.injEq] at aL;obtain ⟨_,_,q,_⟩:=aL;subst q;exact s2.base _ _ _ _ _ aA he
     | _=>rw [g1,aA] at aL;simp [b8.c9] at aL
   . rw [g1] at aL;rw [g2] at he;exact s.base _ _ _ _ _ aL he
end
theorem aa5 {C:Ctx} (c':C.P.follows .mixedOrders=true) (bI:et C.P) (hg:p7 C) {n:Nat} {f:FuncId} {av:ag} {v:V} (aF:Nat.beq f dy=false) (ao:C.ext f=none) (hE:∃fn,C.P.funcs[f]? =some fn/\fn.body.isSome=true)
 (he:sN C n f [] ag.empty=.val v av) (h:ag):e4 C.P f [] h (v.c9 h.next) (h.app av):=by
 refine ⟨fun e=>by subst e;simp at aF,.inl ⟨hE,fun aC E w xs aw s=>?_⟩⟩;simp only [bj] at aw;subst aw;obtain ⟨_,e2⟩:=Ip c' bI hg aF ao he (aC:=⟨w,fun _=>none⟩) (E:=fun _=>none) (w:=w) (xs:=[]) rfl (GX w (Lay.fc s.laid s.frame));refine e2.mono fun e w' ar=>?_;obtain ⟨az,x,rfl,_,au,aJ⟩:=ar;exact ⟨_,x,rfl,HW s,tA aJ _ _ au,Wd s aJ⟩
theorem YC (h av:ag):Ext h (h.app av):=NL h av _
theorem NN (h av:ag) {i:Nat} (aB:i<av.next):(h.app av).get (aG (h.next+i))=(av.get (aG i)).c9 h.next:=HX h av _ i aB
theorem NO (h av:ag):(h.app av).next=h.next+av.next:=yc h av _
end
section
open Go Go.RowKit
variable [Lay]
def KM:IntKind->IntKind->Bool
 | .i8,.i8 | .i16,.i16 | .i32,.i32 | .i64,.i64 | .u8,.u8 | .u16,.u16 | .u32,.u32 | .u64,.u64=>true
 | _,_=>false
theorem Tw {a b:IntKind} (h:KM a b=true):a=b:=by cases a<;>cases b<;>first | rfl | cases h
def uR:Int->Int->Bool
 | .ofNat a,.ofNat b=>Nat.beq a b
 | .negSucc a,.negSucc b=>Nat.beq a b
 | _,_=>false
theorem FE {a b:Int} (h:uR a b=true):a=b:=by cases a<;>cases b<;>simp only [uR] at h<;>first | (rw [aqZ h]) | (cases h)
def N0:Bool->Bool->Bool
 | true,true | false,false=>true
 | _,_=>false
theorem Y0 {a b:Bool} (h:N0 a b=true):a=b:=by cases a<;>cases b<;>first | rfl | cases h
def GW:List UInt8->List UInt8->Bool
 | [],[]=>true
 | a::NY,b::ff=>Nat.beq a.toNat b.toNat&&GW NY ff
 | _,_=>false
theorem V7:∀{a b:List UInt8},GW a b=true->a=b
 | [],[],_=>rfl
 | [],_::_,h=>by cases h
 | _::_,[],h=>by cases h
 | a::NY,b::ff,h=>by simp only [GW,ap2] at h;rw [V7 h.2,ash.1 (aqZ h.1)]
def Ge (mP:List D->List V->Bool) (size:Nat):List (List D)->List V->Bool
 | [],pt=>(match pt with | []=>true | _=>false)
 | e::es,pt=>Nat.beq (pt.take size).length size&&mP e (pt.take size)&&Ge mP size es (pt.drop size)
def Lp (av:ag) (mP:List D->List V->Bool) (size:Nat) (es:List (List D)):V->Bool
 | .bL=>(match es with | []=>true | _=>false)
 | .slice b off len cap=>Nat.beq len es.length&&Nat.ble len cap&&Nat.ble len top&&Nat.blt (ck b) av.next&&(match av.get b with
   | .cells n cs _ _=>Nat.ble (off+len * size) n&&Ge mP size es (h5 cs off (len * size))
   | _=>false)
 | _=>false
def CE (av:ag):Nat->List D->List V->Bool
 | 0,_,_=>false
 | f+1,ds,ah=>match ds with
   | []=>(match ah with | []=>true | _=>false)
   | d::ds=>match ah with
     | []=>false
     | v::ah=>(match d with
       | .i k n=>(match v with | .int bs hn=>KM k bs&&uR n hn | _=>false)
       | .b x=>(match v with | .bool y=>N0 x y | _=>false)
       | .s x=>(match v with | .str y=>GW x y&&Nat.ble x.length top | _=>false)
       | .l size es=>Lp av (CE av f) size es v)&&CE av f ds ah
section
variable {h av:ag}
def u6 (h av:ag) (b:aQ):Prop:=h.next<=ck b/\ck b<h.next+av.next
theorem UK {mP:List D->List V->Bool} {size:Nat}:∀{es:List (List D)} {pt:List V},Ge mP size es pt=true->
 ∃us:List (List V),pt=us.flatten/\us.length=es.length/\(∀u ∈ us,u.length=size)/\∀(i:Nat) (e:List D) (u:List V),es[i]? =some e->us[i]? =some u->mP e u=true
 | [],pt,H=>by
   cases pt with
   | nil=>exact ⟨[],rfl,rfl,fun u q=>(by cases q),fun i e u q=>(by simp at q)⟩
   | cons _ _=>cases H
 | e::es,pt,H=>by
   simp only [Ge,ap2] at H;obtain ⟨us,al,au,aJ,bE⟩:=UK H.2;refine ⟨pt.take size::us,by rw [arc,<-al,arx],by simp [au],fun u hu=>?_,fun i x u ax aH=>?_⟩
   . rcases aql.1 hu with rfl | hu
     . exact aqZ H.1.1
     . exact aJ u hu
   . cases i with
     | zero=>
       simp only [aqm,ap3] at ax aH;subst ax aH;exact H.1.2
     | succ i=>exact bE i x u (by simpa using ax) (by simpa using aH)
theorem ac2 (cs:T V) (n off m:Nat) (hm:off+m<=n):((h5 cs 0 n).drop off).take m=h5 cs off m:=by
 apply List.ext_getElem?;intro i;by_cases aB:i<m
 . rw [aq3 aB,arl,EV cs n 0 _ (by omega),EV cs m off i aB,aqP]
 . rw [aqI (by rw [aqw,aqG,wx];omega),aqI (by rw [wx];omega)]
theorem aki {mP:List D->List V->Bool} (aA:∀ds ah,mP ds ah=true->cb (u6 h av) (h.app av) ds (lr h.next ah)) {size:Nat} {es:List (List D)} {v:V} (H:Lp av mP size es v=true):
 bB (u6 h av) (h.app av) size es (v.c9 h.next):=by
 cases v<;>simp only [Lp] at H<;>try (cases H;done)
 case bL=>
  cases es with
  | nil=>exact bB.nil _ _ _
  | cons _ _=>cases H
 case slice b off len cap=>
  simp only [ap2] at H;obtain ⟨⟨⟨⟨aa,ae⟩,aM⟩,bw⟩,cw⟩:=H;have aa:=aqZ aa;have ae:=aqQ ae;have aM:=aqQ aM;have bw:ck b<av.next:=aqQ bw
  cases aL:av.get b<;>rw [aL] at cw<;>simp only at cw<;>try (cases cw;done)
  rename_i n cs cI st;simp only [ap2] at cw;have e_:=aqQ cw.1;obtain ⟨us,al,au,aJ,bE⟩:=UK cw.2;subst aa;have s0:(h.app av).get (lu h.next b)=.bU ((h5 cs 0 n).map (V.c9 h.next)) cI st:=by have:=NN h av bw;rw [vb,aL] at this;exact this
  have hh:(us.map (List.map (V.c9 h.next))).flatten=us.flatten.map (V.c9 h.next):=by rw [List.map_flatten]
  have hlen:us.flatten.length=es.length * size:=by rw [<-al,wx]
  refine ⟨fun bR o l c e=>(by cases e;exact ae),aM,⟨us.map (List.map (V.c9 h.next)),⟨by rw [hh,ap6,hlen],rfl,?_,_,.inr ⟨cI,st,s0⟩,?_,?_⟩,by rw [ap6,au],fun u hu=>?_,fun i e u ax aH=>?_⟩,fun bR q=>?_⟩
  . unfold Old lu;rw [dx,NO];omega
  . rw [hh,ap6,ap6,wx,hlen];exact e_
  . rw [hh,ap6,hlen,<-List.map_drop,<-List.map_take,ac2 cs n off _ e_,al]
  . obtain ⟨g_,gT,rfl⟩:=ass.1 hu;rw [ap6];exact aJ g_ gT
  . rw [aq2] at aH;cases ar:us[i]? with
    | none=>rw [ar] at aH;cases aH
    | some g_=>
      rw [ar] at aH;simp only [arL,ap3] at aH;subst aH;rw [<-Wb];exact aA _ _ (bE i e g_ ax ar)
  . simp only [V.c9,V.a'] at q;subst q;unfold u6 lu;rw [dx];exact ⟨by omega,by omega⟩
theorem Ln:∀{f:Nat} {ds:List D} {ah:List V},CE av f ds ah=true->cb (u6 h av) (h.app av) ds (lr h.next ah)
 | 0,_,_,H=>by cases H
 | f+1,ds,ah,H=>by
   cases ds with
   | nil=>
     cases ah with
     | nil=>exact .nil
     | cons _ _=>cases H
   | cons d ds=>
     cases ah with
     | nil=>cases H
     | cons v ah=>
       simp only [CE,ap2] at H;have t:=Ln (f:=f) H.2;have H1:=H.1;rw [lr];cases d with
       | i k n=>
         cases v<;>simp only at H1<;>try (cases H1;done)
         simp only [ap2] at H1;rw [Tw H1.1,FE H1.2];simp only [V.c9];exact .i t
       | b x=>
         cases v<;>simp only at H1<;>try (cases H1;done)
         rw [Y0 H1];simp only [V.c9];exact .b t
       | s x=>
         cases v<;>simp only at H1<;>try (cases H1;done)
         simp only [ap2] at H1;rw [<-V7 H1.1];simp only [V.c9];exact .s (aqQ H1.2) t
       | l size es=>exact (aki (fun ds ah q=>Ln (f:=f) q) H1).cons t
end
def n2 (k:Int):List (Int × List D)->Option (List D)
 | []=>none
 | (n,d)::l=>if k=n then some d else n2 k l
inductive mM (F:aQ->Prop) (h:ag):List (Int × List D)->List ca->Prop
 | nil:mM F h [] []
 | cons {n:Int} {ds:List D} {y:V} {born:Nat} {aV:List (Int × List D)} {es:List ca} (aq:cb F h ds y.cells) (t:mM F h aV es):mM F h ((n,ds)::aV) (⟨.int .i64 n,y,born⟩::es)
structure o' (F:aQ->Prop) (h:ag) (aV:List (Int × List D)) (v:V):Prop where
 ex:∃b es,v=.map b/\Old h b/\((∃clock,h.get b=.mp es clock)\/h.get b=.ia es/\(aV.map Prod.fst).Nodup)/\mM F h aV es/\F b
section
variable {F:aQ->Prop} {h ab:ag} {aV:List (Int × List D)} {es:List ca} {v:V}
theorem mM.ext (H:mM F h aV es) (e:Ext h ab):mM F ab aV es:=by
 induction H with
 | nil=>exact .nil
 | cons aq t bd=>exact .cons (aq.ext e) bd
theorem o'.ext (H:o' F h aV v) (e:Ext h ab):o' F ab aV v:=by obtain ⟨b,es,al,au,aJ,bE,c1⟩:=H.ex;exact ⟨b,es,al,e.bY au,by rw [e.get b au];exact aJ,bE.ext e,c1⟩
theorem z7 (k n:Int):iC.run (.int .i64 k) (.int .i64 n)=some (decide (k=n)):=by simp only [iC,V.eB,po,ap8,Ez]
theorem mM.kz (H:mM F h aV es) (k:Int):(n2 k aV=none/\kz iC (.int .i64 k) es=some none)\/∃ds y,n2 k aV=some ds/\cb F h ds y.cells/\Go.Proofs.YtgmhjhgoamjeeaaGreatDoor.a7.kz iC (.int .i64 k) es=some (some y):=by
 induction H with
 | nil=>exact .inl ⟨rfl,rfl⟩
 | @cons n ds y born aV es aq t bd=>
   simp only [n2,Go.Proofs.YtgmhjhgoamjeeaaGreatDoor.a7.kz,z7];by_cases q:k=n
   . subst q;simp only [aqB,arP,ap8];exact .inr ⟨ds,y,rfl,aq,rfl⟩
   . simp only [q,aqD,arN,aqe];exact bd
theorem Uf {k:Int} {ds:List D}:∀{aV:List (Int × List D)},n2 k aV=some ds->k ∈ aV.map Prod.fst
 | [],h=>by cases h
 | (n,d)::l,h=>by
   simp only [n2] at h;by_cases q:k=n
   . subst q;simp
   . rw [aqa q] at h;simp only [are,aql];exact .inr (Uf h)
theorem mM.nK (H:mM F h aV es) (aW:(aV.map Prod.fst).Nodup) (k:Int):(n2 k aV=none/\nK iC (.int .i64 k) es=some none)\/∃ds y,n2 k aV=some ds/\cb F h ds y.cells/\Go.Proofs.YtgmhjhgoamjeeaaGreatDoor.a7.nK iC (.int .i64 k) es=some (some y):=by
 induction H with
 | nil=>exact .inl ⟨rfl,rfl⟩
 | @cons n ds y born aV es aq t bd=>
   simp only [are,asj] at aW;have bd:=bd aW.2;simp only [n2,Go.Proofs.YtgmhjhgoamjeeaaGreatDoor.a7.nK,z7];by_cases q:k=n
   . subst q;rcases bd with ⟨_,e⟩ | ⟨_,_,e,_⟩
     . simp only [e,aqB,arP,ap8];exact .inr ⟨ds,y,rfl,aq,rfl⟩
     . exact absurd (Uf e) aW.1
   . rcases bd with ⟨ax,e⟩ | ⟨ox,o4,ax,aH,e⟩
     . simp only [e,q,aqD,arN,aqe];exact .inl ⟨ax,trivial⟩
     . simp only [e,q,aqD,arN,aqe];exact .inr ⟨ox,o4,ax,aH,rfl⟩
theorem o'.look (H:o' F h aV v) (k:Int) (z:V) (ok:Bool):(n2 k aV=none/\iq iC z ok h v (.int .i64 k)=some (bif ok then .tuple [z,.bool false] else z))\/
 ∃ds y,n2 k aV=some ds/\cb F h ds y.cells/\iq iC z ok h v (.int .i64 k)=some (bif ok then .tuple [y,.bool true] else y):=by
 obtain ⟨b,es,rfl,_,aJ,bE,_⟩:=H.ex;rcases aJ with ⟨clock,aJ⟩ | ⟨aJ,aW⟩
 . rcases bE.kz k with ⟨ax,e⟩ | ⟨ds,y,ax,aH,e⟩
   . exact .inl ⟨ax,by simp only [iq,aJ,hI,pO,b8.hU,e]⟩
   . exact .inr ⟨ds,y,ax,aH,by simp only [iq,aJ,hI,pO,b8.hU,e]⟩
 . rcases bE.nK aW k with ⟨ax,e⟩ | ⟨ds,y,ax,aH,e⟩
   . exact .inl ⟨ax,by simp only [iq,aJ,e]⟩
   . exact .inr ⟨ds,y,ax,aH,by simp only [iq,aJ,e]⟩
end
def CF (av:ag) (f:Nat):List (Int × List D)->List ca->Bool
 | [],es=>(match es with | []=>true | _=>false)
 | (n,ds)::aV,es=>(match es with
   | []=>false
   | m::es=>(match m.k with | .int k i=>KM k .i64&&uR i n | _=>false)&&CE av f ds m.v.cells&&CF av f aV es)
def Ga:List Int->Bool
 | []=>true
 | n::l=>(l.all fun m=>!uR n m)&&Ga l
def Gf (av:ag) (f:Nat) (aV:List (Int × List D)):V->Bool
 | .map b=>Nat.blt (ck b) av.next&&Ga (aV.map Prod.fst)&&(match av.get b with
   | .mp es _=>CF av f aV es
   | .ia es=>CF av f aV es
   | _=>false)
 | _=>false
theorem afY:∀n:Int,uR n n=true
 | .ofNat a=>ar5 a
 | .negSucc a=>ar5 a
theorem Uw:∀{l:List Int},Ga l=true->l.Nodup
 | [],_=>List.nodup_nil
 | n::l,h=>by simp only [Ga,ap2] at h;refine asj.2 ⟨fun q=>?_,Uw h.2⟩;have:=aqu.1 h.1 n q;rw [afY] at this;cases this
theorem aaW (n:Nat) (v:V):(v.c9 n).cells=lr n v.cells:=by cases v<;>simp only [V.c9,V.cells,lr]
section
variable {h av:ag}
theorem Lo {f:Nat}:∀{aV:List (Int × List D)} {es:List ca},CF av f aV es=true->mM (u6 h av) (h.app av) aV (es.map (ca.c9 h.next))
 | [],es,H=>by
   cases es with
   | nil=>exact .nil
   | cons _ _=>cases H
 | (n,ds)::aV,es,H=>by
   cases es with
   | nil=>cases H
   | cons m es=>
     simp only [CF,ap2] at H;obtain ⟨⟨aa,ae⟩,aM⟩:=H;obtain ⟨mk,bV,born⟩:=m;cases mk<;>simp only at aa<;>try (cases aa;done)
     simp only [ap2] at aa;rw [Tw aa.1,FE aa.2,are];simp only [ca.c9,V.c9];exact .cons (by rw [aaW];exact Ln ae) (Lo aM)
theorem akh {f:Nat} {aV:List (Int × List D)} {v:V} (H:Gf av f aV v=true):o' (u6 h av) (h.app av) aV (v.c9 h.next):=by
 cases v<;>simp only [Gf] at H<;>try (cases H;done)
 rename_i b;simp only [ap2] at H;obtain ⟨⟨aa,ae⟩,aM⟩:=H;have aa:ck b<av.next:=aqQ aa
 have aL:=NN h av aa;rw [vb] at aL;have ak:u6 h av (lu h.next b):=by unfold u6 lu;rw [dx];exact ⟨by omega,by omega⟩
 have aY:Old (h.app av) (lu h.next b):=by unfold Old lu;rw [dx,NO];omega
 cases aA:av.get b<;>rw [aA] at aM<;>simp only at aM<;>try (cases aM;done)
 . rw [aA] at aL;exact ⟨_,_,rfl,aY,.inl ⟨_,aL⟩,Lo aM,ak⟩
 . rw [aA] at aL;exact ⟨_,_,rfl,aY,.inr ⟨aL,Uw ae⟩,Lo aM,ak⟩
end
theorem mM.e3 {F eb:aQ->Prop} {h:ag} {aV:List (Int × List D)} {es:List ca} (H:mM F h aV es) (w:∀b,F b->eb b):mM eb h aV es:=by
 induction H with
 | nil=>exact .nil
 | cons aq t bd=>exact .cons (aq.e3 w) bd
theorem o'.e3 {F eb:aQ->Prop} {h:ag} {aV:List (Int × List D)} {v:V} (H:o' F h aV v) (w:∀b,F b->eb b):o' eb h aV v:=by obtain ⟨b,es,al,au,aJ,bE,c1⟩:=H.ex;exact ⟨b,es,al,au,aJ,bE.e3 w,w b c1⟩
def Gg (C:Ctx) (n:Nat) (f:FuncId) (mP:ag->V->Bool):Bool:=match sN C n f [] ag.empty with
 | .val v av=>mP av v
 | _=>false
def lC (h:ag) (b:aQ):Prop:=h.next<=ck b
section
variable {C:Ctx} (c':C.P.follows .mixedOrders=true) (bI:et C.P) (hg:p7 C) {n:Nat} {f:FuncId} (aF:Nat.beq f dy=false) (ao:C.ext f=none) (hE:∃fn,C.P.funcs[f]? =some fn/\fn.body.isSome=true)
include c' bI hg aF ao hE
theorem aa4 {mP:ag->V->Bool} (H:Gg C n f mP=true) (h:ag):∃v av,mP av v=true/\e4 C.P f [] h (v.c9 h.next) (h.app av):=by
 unfold Gg at H;cases av:sN C n f [] ag.empty with
 | fail=>rw [av] at H;cases H
 | cL _ _=>rw [av] at H;cases H
 | val v a_=>
   rw [av] at H;exact ⟨v,a_,H,aa5 c' bI hg aF ao hE av h⟩
theorem aa3 {m:Nat} {aV:List (Int × List D)} (H:Gg C n f (fun av v=>Gf av m aV v)=true) (h:ag):cr C.P f [] h fun x ab=>Ext h ab/\o' (lC h) ab aV x:=by obtain ⟨v,av,q,c⟩:=aa4 c' bI hg aF ao hE H h;exact ⟨_,_,c,YC _ _,(akh q).e3 fun b q=>q.1⟩
end
end
end Go.Proofs.YtgmhjhgoamjeeaaGreatDoor.a7
