/- The chapter's functions, walked by the abstract machine: plain lemmas, no condition. Printed by a program from longer texts: names made short. -/
import Derived.Test.YtgmhjhgoamjeeaaGreatDoorM18
import Derived.Test.YtgmhjhgoamjeeaaGreatDoorM19
import Derived.Test.YtgmhjhgoamjeeaaGreatDoorM8
import Derived.Test.YtgmhjhgoamjeeaaGreatDoorM15
import Derived.Test.YtgmhjhgoamjeeaaGreatDoorM6
import Derived.Test.YtgmhjhgoamjeeaaGreatDoorM4
set_option linter.unusedSectionVars false
set_option linter.unusedSimpArgs false
set_option linter.unusedVariables false
set_option maxHeartbeats 64000000
noncomputable section
namespace Go.Proofs.YtgmhjhgoamjeeaaGreatDoor
section
open Go aX
section
variable {cs:List bI} {n:Nat} {l ca:List aQ} {p:aQ} {s:List aQ}
end
def kV (cs:List bI) (s:List UInt8):Int:=match dZ s cs with
 | some c=>c.tag
 | none=>0
abbrev gw:=List Int × Bool × Int
def mQ (cs:List bI) (k n:Int) (s:List UInt8) (path:List Int):List gw:=
 if k=12 then [(path,true,n)] else if k=14 then [(path,false,n)] else if k=16 then [(path,false,kV cs s)] else []
mutual
def o' (cs:List bI):aQ->List Int->List gw
 | .mk k n _ s l,path=>mQ cs k n s path++mZ cs l path 0
def mZ (cs:List bI):List aQ->List Int->Nat->List gw
 | [],_,_=>[]
 | t::l,path,i=>o' cs t (path++[(i:Int)])++mZ cs l path (i+1)
end
abbrev Nm:=List UInt8 × List Int
theorem amt (cs:List bI) (p:aQ) (path:List Int):o' cs p path=mQ cs p.k p.n p.s path++mZ cs p.l path 0:=by cases p;rfl
theorem SG (cs:List bI):∀(l m:List aQ) (path:List Int) (i:Nat),mZ cs (l++m) path i=mZ cs l path i++mZ cs m path (i+l.length)
 | [],m,path,i=>rfl
 | t::l,m,path,i=>by simp only [apS,mZ,SG cs l m path (i+1),aqc,apB];rw [show i+1+l.length=i + (l.length+1) by omega]
theorem ahY (cs:List bI) (l:List aQ) (path:List Int) {i:Nat} (ax:i<l.length):mZ cs (l.take (i+1)) path 0=mZ cs (l.take i) path 0++o' cs l[i] (path++[(i:Int)]):=by rw [take_one ax,SG,ap4,arp (by omega),apW];simp only [mZ,aqF]
theorem Ro (cs:List bI) (k n:Int) (s:List UInt8) (path:List Int):(mQ cs k n s path).length<=1:=by
 unfold mQ
 repeat' split
 all_goals simp
mutual
theorem L1 (cs:List bI):∀(p:aQ) (path:List Int),(o' cs p path).length<=p.size
 | .mk k n a s l,path=>by have aa:=Ro cs k n s path;have ad:=Ko cs l path 0;simp only [o',apD,aQ.size];omega
theorem Ko (cs:List bI):∀(l:List aQ) (path:List Int) (i:Nat),(mZ cs l path i).length<=cA l
 | [],_,_=>apv _
 | t::l,path,i=>by have aa:=L1 cs t (path++[(i:Int)]);have ad:=Ko cs l path (i+1);simp only [mZ,apD,cA];omega
end
def aa8 (t:Nm):List D:=[.s t.1,.l 1 (t.2.map gb)]
section
variable [Lay] {B:Nat} {h ab:ae} {v:V}
theorem U7 {F:aL->Prop} {l:List Int} (H:dS B h 1 v l.length (gB l)) (aA:l.length<=top) (hD:∀b,v.aW b->F b):b0 F h 1 (l.map gb) v:=
 ⟨H.room,by rw [apG];exact aA,⟨l.map fun i=>[V.int .i64 i],by rw [apG,D9];exact H.v,by simp,fun u hu=>by
   obtain ⟨i,_,rfl⟩:=List.mem_map.1 hu;rfl,fun i e u ak al=>by
   rw [aqi] at ak al;cases ax:l[i]? with
   | none=>rw [ax] at ak;cases ak
   | some y=>
     rw [ax] at ak al;simp only [aqV,aps] at ak al;subst ak al;exact .i .nil⟩,hD⟩
theorem alW {l:List Int} {w:V} {G:aL->Prop} (L:b0 G h 1 (l.map gb) w) (aA:l.length<=1000000000):∃cd ab,jZ 1 .bg w h=.val cd ab/\dS h.next ab 1 cd l.length (gB l)/\Ext h ab:=by obtain ⟨cd,ab,a,b,c,d⟩:=Go.Proofs.YtgmhjhgoamjeeaaGreatDoor.aX.Hy (B:=h.next) (s:=.bg) (n:=0) (us:=[]) (by omega) ⟨by simp,rfl⟩ L.ints (apv _) (by unfold top;omega) (TU l);rw [apW,aqk] at b;exact ⟨cd,ab,a,b,(Ext.refl h).nZ c fun b z=>z.elim⟩
def oy (u:V) (t:gw):List V:=[u,.bool t.2.1,.int .i64 t.2.2]
structure iw (B:Nat) (h:ae) (bq:List gw) (v:V):Prop where
 ex:∃us:List V,dS B h 3 v bq.length (List.zipWith oy us bq).flatten/\us.length=bq.length/\(∀(i:Nat) (u:V) (t:gw),us[i]? =some u->bq[i]? =some t->t.1.length<=1000000000/\dS B h 1 u t.1.length (gB t.1)/\∀b,u.aW b->¬v.aW b)/\
  ∀(i j:Nat) (u fu:V),i<j->us[i]? =some u->us[j]? =some fu->∀b,u.aW b->¬fu.aW b
theorem iw.nil (B:Nat) (h:ae):iw B h [] .bg:=⟨[],⟨by simp,rfl⟩,rfl,fun i u t q=>(by simp at q),fun i j u fu _ q=>(by simp at q)⟩
theorem iw.mod {M:aL->Prop} {bq:List gw} (H:iw B h bq v) (m:Mod M h ab) (cJ:∀b,M b->¬B<=bX b):iw B ab bq v:=by obtain ⟨us,a,b,c,d⟩:=H.ex;refine ⟨us,a.mod m fun p q z=>cJ p z (a.base q),b,fun i u t ak al=>?_,d⟩;obtain ⟨bK,bR,c3⟩:=c i u t ak al;exact ⟨bK,bR.mod m fun p q z=>cJ p z (bR.base q),c3⟩
theorem iw.ext {bq:List gw} (H:iw B h bq v) (e:Ext h ab):iw B ab bq v:=by obtain ⟨us,a,b,c,d⟩:=H.ex;refine ⟨us,a.ext e,b,fun i u t ak al=>?_,d⟩;obtain ⟨bK,bR,c3⟩:=c i u t ak al;exact ⟨bK,bR.ext e,c3⟩
theorem iw.base {bq:List gw} (H:iw B h bq v) {b:aL} (ah:v.aW b):B<=bX b:=by obtain ⟨us,a,_⟩:=H.ex;exact a.base ah
theorem iw.ru {bq:List gw} (H:iw B h bq v) {b:aL} (ah:v.aW b):Old h b:=by obtain ⟨us,a,_⟩:=H.ex;exact a.v.bG ah
theorem iw.one {bq:List gw} (H:iw B h bq v):v.one=true/\v.cells=[v]/\v.eO=true:=by obtain ⟨us,a,_⟩:=H.ex;exact a.v.one
theorem iw.add {aY:ae} {bq:List gw} (H:iw B aY bq v) (e:Ext aY h) {fS:V} {t:gw} (P:dS aY.next h 1 fS t.1.length (gB t.1)) (cD:B<=aY.next) (aA:bq.length+1<=1000000000) (aE:t.1.length<=1000000000):
 ∃cd ab,jZ 3 v (.slice (aw h.next) 0 1 1) (h.new (.bQ (oy fS t) 0 false))=.val cd ab/\iw B ab (bq++[t]) cd/\Mod v.aW h ab/\h.next+1<=ab.next/\∀b,cd.aW b->v.aW b\/h.next<bX b:=by
 have TO:∀b,v.aW b->bX b<aY.next:=fun b z=>by have:=H.ru z;unfold Old at this;exact this
 obtain ⟨us,a,b,c,d⟩:=H.ex;have cI:=e.next
 obtain ⟨cd,ab,ak,al,aI,bB,cG⟩:=Go.Proofs.YtgmhjhgoamjeeaaGreatDoor.aX.Ai (by omega) (a.ext e) (by omega) (by unfold top;omega) (cs:=oy fS t) rfl (by have:=P.v.one;simp only [oy,eY];rw [this.1];rfl);have akz:∀b,fS.aW b->bX b<h.next:=fun b z=>by have:=P.v.bG z;unfold Old at this;exact this
 refine ⟨cd,ab,ak,⟨us++[fS],?_,by simp [b],fun i u ti bW bx=>?_,fun i j u fu oO bW bx p bJ z2=>?_⟩,aI,bB,cG⟩
 . rw [List.zipWith_append (by rw [b]),List.flatten_append,apD];simpa using al
 . rcases AQ bW with ⟨ax,bW⟩ | ⟨ax,rfl⟩
   . rw [apM (by omega)] at bx;obtain ⟨bK,bR,c3⟩:=c i u ti bW bx;have co:∀p,u.aW p->bX p<aY.next:=fun p z=>by have:=bR.v.bG z;unfold Old at this;exact this
     exact ⟨bK,(bR.ext e).mod aI c3,fun p z y=>by
      rcases cG p y with y | y
      . exact c3 p z y
      . have:=co p z;omega⟩
   . rw [ax,b,apO (apv _),aq7] at bx;simp only [apK,aps] at bx;subst bx
     exact ⟨aE,(P.mod aI fun p z y=>by have:=P.base z;have:=TO p y;omega).mono (by omega),fun p z y=>by
      rcases cG p y with y | y
      . have:=P.base z;have:=TO p y;omega
      . have:=akz p z;omega⟩
 . rcases AQ bx with ⟨bp,bx⟩ | ⟨bp,rfl⟩
   . rw [apM (by omega)] at bW;exact d i j u fu oO bW bx p bJ z2
   . rw [apM (by omega)] at bW;have ax:i<bq.length:=by omega
     obtain ⟨bK,bR,c3⟩:=c i u bq[i] bW (apr ax);have:=bR.v.bG bJ;unfold Old at this;have:=P.base z2;omega
end
def abU:List aQ->Option aQ
 | []=>none
 | p::_=>if ob p=true then none else some p
def QH (rows:List (List aQ)):List aQ:=rows.filterMap abU
def aiX (rows:List (List aQ)) (aH:c_):Bool:=(QH rows).any fun p=>decide (fs p=aH)
section
variable [Lay] {B:Nat} {F G:aL->Prop} {h ab:ae} {size:Nat} {es fr:List (List D)} {v w:V}
end
structure anE (k:Nat) (rows:List (List aQ)):Prop where
 len:∀r ∈ rows,r.length=k
 lh:∀r ∈ rows,∀p ∈ r,p.l.length<=1000000000
 num:rows.length<=1000000000
 sm:k<=1000000000
structure anB (rows:List (List aQ)) (h:ae) (cn:Nat):Prop where
 ex:∃aN,gS j3 h (aw cn) aN/\(∀aH,d_ aH aN=if aiX rows aH=true then some (.bool true) else none)/\(aN=[]↔QH rows=[])
def oI (p:aQ):Prop:=jr p=true/\p.size<=1000000000
theorem Ei {p q:aQ} (h:oI p) (az:q ∈ p.l):oI q:=by obtain ⟨_,_,_,_,_,a⟩:=FR h.2 h.1;exact ⟨a q az,by have:=uA az;have:=h.2;omega⟩
theorem acz {p:aQ} (h:oI p) (hw:ob p=true):p.l=[]:=by obtain ⟨_,_,_,_,a,_⟩:=FR h.2 h.1;simp only [ob,aqA,apF] at hw;exact a (by omega) (by omega)
structure anG (rows:List (List aQ)) (q:List aQ):Prop where
 len:∀r ∈ rows,r.length=q.length
 rg:∀r ∈ rows,∀p ∈ r,oI p
 aoX:∀p ∈ q,oI p
 num:rows.length<=1000000000
section
variable {rows:List (List aQ)} {q:List aQ} {p:aQ} {aH:c_}
end
def V9 (cs:List bI) (l:List aQ):Prop:=∀n,gH cs n l=true
theorem T9 {s:List aQ} {q:aQ} (hw:ob q=false) {aH:c_} {i:Nat}:∀l:List aQ,cA (gO l aH i)<=cA l
 | []=>apv _
 | p::l=>by
   have bb:=T9 (s:=s) hw (aH:=aH) (i:=i) l;unfold gO at bb ⊢;rw [arf]
   split
   . rw [List.filterMap_cons];cases aj:p.l[i]? with
     | none=>simp only [cA];omega
     | some x=>
       have aa:=uA (apY aj);simp only [cA];omega
   . simp only [cA];omega
theorem akx {aH:c_} {i:Nat}:∀l:List aQ,l≠[]->cA (gO l aH i)<cA l
 | [],h=>absurd rfl h
 | p::l,_=>by
   have bb:cA (gO l aH i)<=cA l:=T9 (s:=[]) (q:=.mk 12 0 0 [] []) (by decide) l;have aY:0<p.size:=o6 p;unfold gO at bb ⊢;rw [arf]
   split
   . rw [List.filterMap_cons];cases aj:p.l[i]? with
     | none=>simp only [cA];omega
     | some x=>
       have aa:=uA (apY aj);simp only [cA];omega
   . simp only [cA];omega
theorem Vl:∀l:List aQ,cA (iq l)<=cA l
 | []=>apv _
 | p::l=>by
   have bb:=Vl l;unfold iq at bb ⊢;rw [arf]
   split
   . simp only [cA];omega
   . simp only [cA];omega
theorem GA {cs:List bI} {n:Nat} {l:List aQ}:gH cs (n+1) l=true↔∀p s,iq l=p::s->(∀q ∈ p::s,ks cs p q=true)/\∀q ∈ p::s,∀i<q.l.length,gH cs n (gO (p::s) (fs q) i)=true:=by
 cases aZ:iq l with
 | nil=>simp [gH,aZ]
 | cons p s=>
   simp only [gH,aZ,apq,apU,aqQ,ary];exact ⟨fun h p' fT ⟨a,b⟩=>by subst a;subst b;exact h,fun h=>h p s ⟨rfl,rfl⟩⟩
theorem Vp {cs:List bI}:∀(N n:Nat) (l:List aQ),cA l<=n->gH cs n l=true->gH cs N l=true
 | 0,_,_,_,_=>rfl
 | N+1,n,l,aV,h=>by rw [GA];intro p s aZ;have aa:=Vl l;have aY:0<p.size:=o6 p;rw [aZ,cA] at aa;obtain ⟨m,rfl⟩:∃m,n=m+1:=⟨n-1,by omega⟩;obtain ⟨a,b⟩:=GA.1 h p s aZ;refine ⟨a,fun q az i ax=>Vp N m _ ?_ (b q az i ax)⟩;have ad:=akx (aH:=fs q) (i:=i) (p::s) (by simp);rw [cA] at ad;omega
theorem aiW {l:List aQ} {p:aQ}:p ∈ iq l↔p ∈ l/\ob p=false:=by simp [iq,arn]
theorem aiV {l:List aQ} {aH:c_} {i:Nat} {x:aQ}:x ∈ gO l aH i↔∃q ∈ l,fs q=aH/\q.l[i]? =some x:=by simp only [gO,List.mem_filterMap,arn,apF];exact ⟨fun ⟨q,⟨a,b⟩,c⟩=>⟨q,a,b,c⟩,fun ⟨q,a,b,c⟩=>⟨q,⟨a,b⟩,c⟩⟩
theorem abM {cs:List bI} {p q:aQ}:ks cs p q=true↔q.k=p.k/\(p.k=16->∃c,dZ q.s cs=some c/\c.ty=kW cs p.s/\c.arg.length=q.l.length):=by
 simp only [ks,apq,apF,aqA];refine and_congr_right fun _=>?_;by_cases h:p.k=16
 . simp only [h,ne_eq,not_true,false_or,forall_const];cases dZ q.s cs with
   | none=>simp
   | some c=>simp
 . simp [h]
section
variable [Lay]
end
theorem DZ {cs:List bI} {l:List aQ} (h:h_ cs l=0):(∀p ∈ l,jr p=true)/\gH cs (cA l) l=true:=by
 unfold h_ at h
 split at h
 . rename_i c;simp only [apq,apU] at c;exact ⟨c.1.2,c.2⟩
 . cases h
theorem Io (cs:List bI) (l:List aQ):h_ cs l=0\/h_ cs l=2:=by
 unfold h_
 split
 . exact .inl rfl
 . exact .inr rfl
section
variable [Lay] {F:aL->Prop} {h ab:ae} {w:V} {l:List Int}
structure nz (F:aL->Prop) (h:ae) (l:List Int) (w:V):Prop where
 eZ:b0 F h 1 (l.map gb) w
 form:w=.bg\/∃b,w=.eh b 0 l.length 0
theorem nz.ext (P:nz F h l w) (e:Ext h ab):nz F ab l w:=⟨P.eZ.ext e,P.form⟩
theorem nz.nil (F:aL->Prop) (h:ae):nz F h [] .bg:=⟨b0.nil _ _ _,.inl rfl⟩
theorem nz.mod {M dQ:aL->Prop} (P:nz F h l w) (m:Mod M h ab) (cJ:∀b,F b->Old h b->¬M b/\dQ b):nz dQ ab l w:=⟨P.eZ.mod m cJ,P.form⟩
theorem ajW (h:ae) (x:Int):fq (h.new (.bQ [.int .i64 x] 0 false)) 1 (.slice (aw h.next) 0 1 1) 1 [.int .i64 x]:=
 ⟨rfl,rfl,hv (by rw [f_];omega),[.int .i64 x],.inr ⟨0,false,by rw [qY]⟩,by simp,by simp⟩
theorem al6 (P:nz F h l w) (aA:l.length<=1000000000) (x:Int):∃bx,qq 1 w none (some (.int .i64 l.length)) (some (.int .i64 l.length))=some bx/\
 ∃cd ab,jZ 1 bx (.slice (aw h.next) 0 1 1) (h.new (.bQ [.int .i64 x] 0 false))=.val cd ab/\(∃b,cd=.eh b 0 (l.length+1) 0)/\dS h.next ab 1 cd (l++[x]).length (gB (l++[x]))/\Ext h ab:=by
 have aj:Ext h (h.new (.bQ [.int .i64 x] 0 false)):=(Ext.refl h).new _;have bs:=ajW h x;have TC:h.next<=(h.new (.bQ [.int .i64 x] 0 false)).next:=aj.next
 have j7:(gB (l++[x])).length=(l.length+1) * 1:=by rw [Ke,apD];simp
 rw [show (l++[x]).length=l.length+1 by simp];rcases P.form with rfl | ⟨b,rfl⟩
 . have bk:l.length=0:=by
    have:=P.eZ.len;rw [apG] at this;have e:hJ (.bg)=some (.int .i64 (0:Int)):=rfl;rw [e] at this;simp only [aps,V.int.injEq,arj] at this;omega
   obtain rfl:l=[]:=aqe bk;refine ⟨.bg,rfl,?_⟩;rw [Hw bs (by unfold top;omega)];simp only [vl,ap_];rw [show Nat.beq 1 0=false from rfl];simp only [apA];rw [B2 (by simp [top]) (by omega)];exact ⟨_,_,rfl,⟨_,rfl⟩,dS.grown j7 TC,aj.new _⟩
 . obtain ⟨_,q⟩:=P.eZ.ints;have fI:jz h b 0 (gB l):=q.2;refine ⟨.slice b 0 l.length l.length,?_,?_⟩
   . simp only [qq,w9,HM (apv l.length),As];cases l.length<;>rfl
   . rw [Hw bs (by unfold top;omega)];simp only [vk];rw [show Nat.ble (l.length+1) l.length=false from by rw [<-ap2,apE];omega];rw [show (Nat.ble (l.length+1) top&&Nat.ble l.length top)=true from by simp only [apq,apE];unfold top;omega];simp only [apA,apu];rw [zr (fI.ext aj) (by rw [Ke,arC])];simp only;rw [show gB l++[V.int .i64 x]=gB (l++[x]) from by rw [Sq];rfl];rw [B2 (by rw [j7];unfold top;omega) (by omega)];exact ⟨_,_,rfl,⟨_,rfl⟩,dS.grown j7 TC,aj.new _⟩
end
theorem al7 (l:List Int) (aA:l.length<=1000000000) (x:Int) (F:aL->Prop) (w:V) (h:ae) (P:nz F h l w):c9 Tryz.prog 39 [w,.int .i64 x] h fun y ab=>nz (Ac h) ab (l++[x]) y/\Ext h ab:=by have iL:=P.eZ.len;rw [apG] at iL;obtain ⟨bx,ak,cd,ab,al,⟨b,aI⟩,bB,e⟩:=al6 P aA x;refine Y_.z rfl (cw ?_);unfold Oz;simp +contextual only [iL,ak,al,↓an,aF,simprocAttr];exact ⟨⟨U7 bB (by rw [apD];unfold top;simp;omega) fun b z=>bB.base z,.inr ⟨b,by rw [aI];simp⟩⟩,e⟩
structure jD (cs:List bI) (h:ae) (cn:aL):Prop where
 ex:∃aN:List (List UInt8 × V),jC (fun v=>v) h cn aN/\(aN.map Prod.fst).Nodup/\∀s,match dZ s cs with
  | some c=>∃dq,ij s aN=some (.agg (km c dq))/\hJ dq=some (.int .i64 c.arg.length)/\dq.one=true/\dq.cells=[dq]/\dq.eO=true
  | none=>ij s aN=none
theorem jD.ext {cs:List bI} {h ab:ae} {cn:aL} (H:jD cs h cn) (e:Ext h ab):jD cs ab cn:=by obtain ⟨aN,a,b⟩:=H.ex;exact ⟨aN,a.ext e,b⟩
theorem jD.mod {cs:List bI} {M:aL->Prop} {h ab:ae} {cn:aL} (H:jD cs h cn) (m:Mod M h ab) (ah:¬M cn):jD cs ab cn:=by obtain ⟨aN,a,b⟩:=H.ex;exact ⟨aN,a.mod m ah,b⟩
theorem jD.look {cs:List bI} {h:ae} {cn:aL} (H:jD cs h cn) (s:List UInt8):∃(a b:List UInt8) (y:Int) (w:V),gk ja.str.eq (.agg [.str [],.str [],.int .i64 0,.int .i64 0,.bg]) false h (.map cn) (.str s)=some (.agg [.str a,.str b,.int .i64 (kV cs s),.int .i64 y,w]):=by
 obtain ⟨aN,a,_,b⟩:=H.ex;have aa:=a.look s (.agg lU) false;have ad:=b s;unfold kV;cases ao:dZ s cs with
 | none=>
   rw [ao] at ad;refine ⟨[],[],0,.bg,?_⟩;show gk jh _ _ _ _ _=_;rw [aa,show ij s aN=none from ad];rfl
 | some c=>
   rw [ao] at ad;obtain ⟨dq,f,_⟩:=ad;refine ⟨c.name,c.ty,c.par,dq,?_⟩;show gk jh _ _ _ _ _=_;rw [aa,f];rfl
theorem Z5 {pre:List bI} {s:List UInt8} (h:pre.any (fun d=>decide (d.name=s))=false):dZ s pre=none:=by
 induction pre with
 | nil=>rfl
 | cons c pre bb=>
   simp only [List.any_cons,aq5,aql] at h;rw [dZ,apw h.1];exact bb h.2
theorem Pn (s:List UInt8) (c:bI):∀pre:List bI,dZ s (pre++[c])=(match dZ s pre with
 | some d=>some d
 | none=>if c.name=s then some c else none)
 | []=>rfl
 | d::pre=>by
   simp only [apS,dZ];by_cases h:d.name=s
   . rw [apz h,apz h]
   . rw [apw h,apw h,Pn s c pre]
theorem Ku:∀(cs pre:List bI),jL pre cs=true->∀(i:Nat) (ax:i<cs.length),dZ cs[i].name (pre++cs.take i)=none
 | [],pre,h,i,ax=>by simp at ax
 | c::cs,pre,h,i,ax=>by
   simp only [jL,apq] at h;cases i with
   | zero=>
     have:=h.1;simp only [FH,apq,aqh] at this;simpa using Z5 this.1.1.1
   | succ i=>
     have:=Ku cs (pre++[c]) h.2 i (by simpa using ax);simpa using this
theorem LY (cs:List bI) (q':jL [] cs=true) (v:V) (h:ae) (L:b0 Any h 5 (cs.map bI.enc) v):c9 Tryz.prog 35 [v] h fun x ab=>x=.map (aw h.next)/\jD cs ab (aw h.next)/\Ext h ab:=by
 have aA:=L.len;have hle:=L.le;rw [apG] at aA hle;refine Y9.z rfl (cw ?_);unfold Ow;obtain ⟨aa,ak,aK,c8⟩:∃H,h.new (.mp [] 0)=H/\Ext h H/\jC (fun v:V=>v) H (aw h.next) []:=⟨_,rfl,(Ext.refl h).new _,jC.new _ h⟩;simp +contextual only [ak,aA,rn,sX,aT.opt,↓an,aF,simprocAttr];refine gl (fun r g=>r 3=.map (aw h.next)/\r 7=v/\r 8=.int .i64 cs.length/\Ext h g/\∃i:Nat,r 9=.int .i64 i/\i<=cs.length/\jD (cs.take i) g (aw h.next)) (fun r g=>cs.length - (r 9).toN) ?_ ?_
 . exact ⟨by simp only [↓an,bH,simprocAttr],by simp only [↓an,bH,simprocAttr],by simp only [↓an,bH,simprocAttr],aK,0,by simp only [↓an,bH,simprocAttr]<;>rfl,by omega,⟨[],c8,List.nodup_nil,fun s=>rfl⟩⟩
 rintro r g ⟨ct,cY,ch,eC,i,dK,ax,T⟩;unfold Ox;by_cases aR:i<cs.length
 . have g0:((i:Int) < (cs.length:Int))=True:=apC (by omega);obtain ⟨b,off,dq,cr,X,xy,Kt,_,_,_,_⟩:=bI.lh L (k:=.i64) aR;have d5:=Kt g eC;have kc:=xy.one;have dU:=h8 aR (by unfold top at hle;omega);have rf:cs.take (i+1)=cs.take i++[cs[i]]:=aqd aR;have q3:=Ku cs [] q' i aR;rw [aqk] at q3;obtain ⟨g1,al,aS,dv⟩:=fw g lU (km cs[i] dq);obtain ⟨aN,W',M',r4⟩:=(T.ext aS).ex;obtain ⟨g2,GD,amK,amL,ao'⟩:=W'.o_ cs[i].name (.agg (km cs[i] dq));simp only [km] at d5 al GD dv;simp +contextual only [ct,cY,ch,dK,g0,cr,d5,kc.1,kc.2.1,al,dv.g,show jT ja.str.eq g1 (.map (aw h.next)) (.str cs[i].name) _=some g2 from GD,dU,↓an,aF,simprocAttr];refine ⟨⟨(eC.trans aS).nZ amL fun b z=>by rw [z,c1];exact apv _,i+1,rfl,aR,⟨_,amK,?_,fun s=>?_⟩⟩,by omega⟩
   . rw [SB]
     split
     . exact M'
     . rename_i aV;exact arA.2 ⟨M',by simp,fun a bt b ah=>by rw [aqp] at ah;subst ah;exact fun z=>aV (z ▸ bt)⟩
   rw [rf,Pn,KB];have ad:=r4 s;by_cases c:s=cs[i].name
   . subst c;rw [q3];simp only [ap3];exact ⟨dq,rfl,xy.len,kc.1,kc.2.1,kc.2.2⟩
   . rw [apw c];cases ao:dZ s (cs.take i) with
     | none=>
       rw [ao] at ad;simp only [apw (Ne.symm c:¬cs[i].name=s)];exact ad
     | some d=>
       rw [ao] at ad;exact ad
 . have g0:((i:Int) < (cs.length:Int))=False:=apy (by omega);rw [aqn (by omega)] at T;simp +contextual only [ct,cY,ch,dK,g0,↓an,aF,simprocAttr];exact ⟨T,eC⟩
def OP:a1:=
 a1.seq (a1.au [⟨(some 12),.dH 0 (.t 5),none,[5]⟩,
  ⟨(some 13),.dJ (.t 12),none,[12]⟩])
  (a1.block 0 (a1.seq (a1.au [⟨(some 15),.bin (.int .eql) (.t 13) (.c (.int .i64 12)),none,[13]⟩,
    ⟨(some 14),.cM (.t 15),none,[15]⟩])
   (a1.cond (.t 14)
    (a1.au [⟨(some 16),.dJ (.t 2),none,[2]⟩,
      ⟨(some 17),.cM (.t 7),none,[7]⟩,
      ⟨(some 18),.dH 1 (.t 5),none,[5]⟩,
      ⟨(some 19),.dJ (.t 18),none,[18]⟩,
      ⟨(some 20),.build [.bg,(.bool false),(.int .i64 0)] [(0,1,(.t 17)),(1,1,(.c (.bool true))),(2,1,(.t 19))],none,[17,19]⟩,
      ⟨(some 21),.hz 1 3 [.bg,(.bool false),(.int .i64 0)] [(0,3,(.t 20))],none,[20]⟩,
      ⟨(some 22),.app 3 (.t 16) (.t 21),none,[16,21]⟩,
      ⟨none,.st 1 (.t 2) (.t 22),none,[2,22]⟩])
    (a1.seq (a1.au [⟨(some 24),.bin (.int .eql) (.t 13) (.c (.int .i64 14)),none,[13]⟩,
      ⟨(some 23),.cM (.t 24),none,[24]⟩])
     (a1.cond (.t 23)
      (a1.au [⟨(some 25),.dJ (.t 2),none,[2]⟩,
        ⟨(some 26),.cM (.t 7),none,[7]⟩,
        ⟨(some 27),.dH 1 (.t 5),none,[5]⟩,
        ⟨(some 28),.dJ (.t 27),none,[27]⟩,
        ⟨(some 29),.build [.bg,(.bool false),(.int .i64 0)] [(0,1,(.t 26)),(2,1,(.t 28))],none,[26,28]⟩,
        ⟨(some 30),.hz 1 3 [.bg,(.bool false),(.int .i64 0)] [(0,3,(.t 29))],none,[29]⟩,
        ⟨(some 31),.app 3 (.t 25) (.t 30),none,[25,30]⟩,
        ⟨none,.st 1 (.t 2) (.t 31),none,[2,31]⟩])
      (a1.seq (a1.au [⟨(some 33),.bin (.int .eql) (.t 13) (.c (.int .i64 16)),none,[13]⟩,
        ⟨(some 32),.cM (.t 33),none,[33]⟩])
       (a1.cond (.t 32)
        (a1.au [⟨(some 34),.dJ (.t 2),none,[2]⟩,
          ⟨(some 35),.cM (.t 7),none,[7]⟩,
          ⟨(some 36),.dJ (.t 3),none,[3]⟩,
          ⟨(some 37),.dH 3 (.t 5),none,[5]⟩,
          ⟨(some 38),.dJ (.t 37),none,[37]⟩,
          ⟨(some 39),.look .str (.agg [(.str []),(.str []),(.int .i64 0),(.int .i64 0),.bg]) false (.t 36) (.t 38),none,[36,38]⟩,
          ⟨(some 40),.oH 2 (.t 39),none,[39]⟩,
          ⟨(some 41),.build [.bg,(.bool false),(.int .i64 0)] [(0,1,(.t 35)),(2,1,(.t 40))],none,[35,40]⟩,
          ⟨(some 42),.hz 1 3 [.bg,(.bool false),(.int .i64 0)] [(0,3,(.t 41))],none,[41]⟩,
          ⟨(some 43),.app 3 (.t 34) (.t 42),none,[34,42]⟩,
          ⟨none,.st 1 (.t 2) (.t 43),none,[2,43]⟩])
        (a1.skip))))))))
def OQ:a1:=
 a1.seq (a1.au [⟨(some 44),.dH 4 (.t 5),none,[5]⟩,
  ⟨(some 45),.dJ (.t 44),none,[44]⟩,
  ⟨(some 46),.len .slice (.t 45),none,[45]⟩,
  ⟨(some 47),.cM (.c (.int .i64 0)),none,[]⟩])
 (a1.block 1 (a1.loop HS))
theorem Zk:OO=(a1.seq (a1.au [⟨(some 5),.box (.t 0),none,[0]⟩])
 (a1.seq (a1.au [⟨(some 10),.cM (.t 1),none,[1]⟩,
   ⟨(some 11),.app 1 (.c .bg) (.t 10),none,[10]⟩,
   ⟨(some 7),.cM (.t 11),none,[11]⟩])
 (a1.seq (OP)
 (OQ)))):=rfl
theorem lP {M ve:aL->Prop} {h g dM:ae} (a:Mod M h g) (b:Mod ve g dM) (w:∀p,Old h p->ve p->M p):Mod M h dM:=
 ⟨aqo a.next b.next,fun p o n=>(b.get p (a.bG o) fun z=>n (w p o z)).trans (a.get p o n)⟩
def x9 (cF jd fN:Nat):V:=.func 62 [.ptr (aw cF) 0,.ptr (aw jd) 0,.ptr (aw fN) 0]
structure oo (cs:List bI) (B cF jd fN:Nat) (cn:aL) (h:ae) (bq:List gw) (v:V):Prop where
 out:Has h cF [v]
 own:iw B h bq v
 HP:Has h jd [.map cn]
 go:Has h fN [x9 cF jd fN]
 tag:jD cs h cn
 jN:cF<B
 HH:jd<B
 Eb:fN<B
 BY:bX cn<B
 HI:jd≠cF
 Eh:fN≠cF
 KK:cn≠aw cF
 le:B<=h.next
theorem oo.ext {cs:List bI} {B cF jd fN:Nat} {cn:aL} {h ab:ae} {bq:List gw} {v:V} (R:oo cs B cF jd fN cn h bq v) (e:Ext h ab):oo cs B cF jd fN cn ab bq v:=
 ⟨R.out.ext e,R.own.ext e,R.HP.ext e,R.go.ext e,R.tag.ext e,R.jN,R.HH,R.Eb,R.BY,R.HI,R.Eh,R.KK,aqo R.le e.next⟩
def oi (cF:Nat) (v:V) (b:aL):Prop:=b=aw cF\/v.aW b
theorem oo.add {cs:List bI} {B cF jd fN:Nat} {cn:aL} {aY h:ae} {bq:List gw} {v:V} (R:oo cs B cF jd fN cn aY bq v) (e:Ext aY h) {fS:V} {t:gw} (P:dS aY.next h 1 fS t.1.length (gB t.1)) (aA:bq.length+1<=1000000000) (aE:t.1.length<=1000000000):
 ∃cd ab,jZ 3 v (.slice (aw h.next) 0 1 1) (h.new (.bQ (oy fS t) 0 false))=.val cd ab/\cd.one=true/\cd.cells=[cd]/\ab.get (aw cF)=.bQ [v] 0 false/\oo cs B cF jd fN cn (ab.set (aw cF) (.bQ [cd] 0 false)) (bq++[t]) cd/\Mod (oi cF v) aY (ab.set (aw cF) (.bQ [cd] 0 false))/\(∀b,cd.aW b->v.aW b\/aY.next<=bX b):=by
 obtain ⟨cd,ab,bD,a2,a3,a4,a5⟩:=R.own.add e P R.le aA aE;have cU:∀n,n<B->¬v.aW (aw n):=fun n aV z=>by have:=R.own.base z;rw [c1] at this;omega
 have cI:=e.next
 have pn:=R.ext e;have cX:=pn.out.mod a3 (cU _ R.jN);have ck:=pn.HP.mod a3 (cU _ R.HH);have kK:=pn.go.mod a3 (cU _ R.Eb);have sZ:=pn.tag.mod a3 fun z=>by have:=R.own.base z;have:=R.BY;omega
 have ms:Mod (fun b=>b=aw cF) ab (ab.set (aw cF) (.bQ [cd] 0 false)):=(Mod.refl (fun b=>b=aw cF) ab).set (fun _=>rfl) _;have one:=a2.one;refine ⟨cd,ab,bD,one.1,one.2.1,cX.g,⟨cX.put _,a2.mod ms fun b z y=>by rw [z,c1] at y;have:=R.jN;omega,ck.set R.HI _,kK.set R.Eh _,sZ.mod ms R.KK,R.jN,R.HH,R.Eb,R.BY,R.HI,R.Eh,R.KK,by have:=R.le;rw [nd];omega⟩,?_,?_⟩
 . exact lP (lP (e.mod _) a3 fun p _ z=>.inr z) ms fun p _ z=>.inl z
 . intro b z;rcases a5 b z with z | z
   . exact .inl z
   . exact .inr (by omega)
theorem iw.mono [Lay] {B ts:Nat} {h:ae} {bq:List gw} {v:V} (H:iw B h bq v) (ah:ts<=B):iw ts h bq v:=by obtain ⟨us,a,b,c,d⟩:=H.ex;refine ⟨us,a.mono ah,b,fun i u t ak al=>?_,d⟩;obtain ⟨bK,bR,c3⟩:=c i u t ak al;exact ⟨bK,bR.mono ah,c3⟩
def GU (cs:List bI) (n:Nat):Prop:=∀(p:aQ),p.size<=n->oI p->∀(B cF jd fN:Nat) (cn:aL) (path:List Int) (w gp:V) (bq:List gw) (v:V) (F:aL->Prop) (h:ae),
 p.size+bq.length<=1000000000->p.size+path.length<=1000000000->bN F h p.enc (dL p gp)->nz F h path w->(∀b,F b->Old h b/\¬oi cF v b)->oo cs B cF jd fN cn h bq v->
 c9 Tryz.prog 62 [.agg (dL p gp),w,.ptr (aw cF) 0,.ptr (aw jd) 0,.ptr (aw fN) 0] h fun _ ab=>∃cd,oo cs B cF jd fN cn ab (bq++o' cs p path) cd/\Mod (oi cF v) h ab/\∀b,cd.aW b->v.aW b\/h.next<=bX b
theorem acf {cs:List bI} {n:Nat} (zW:GU cs n):GU cs (n+1):=by
 intro p hq aG B cF jd fN cn path w gp bq v F h b8 cg X P hD R;have aB:∃(py:List V),dL p gp=py:=⟨_,rfl⟩;obtain ⟨cB,e,fe,wi⟩:=aQ.open X;obtain rfl:gp=cB:=by simp only [dL,List.cons.injEq] at e;exact e.2.2.2.2.1
 have ol:=fe.one;have iL:=fe.len;rw [apG] at iL;have cq:=size_eq p;obtain ⟨aa,ak,aK,c8⟩:=fM h (dL p gp);have di:aa.next=h.next+1:=by rw [<-ak];exact f_ _ _
 obtain ⟨fS,ad,al,gv,aS⟩:=alW (P.eZ.ext aK) (by omega:path.length<=1000000000);have AE:=aK.trans aS;have c6:=c8.ext aS;have pn:=R.ext aK;have tE:=pn.ext aS;have cJ:∀b,oi cF v b->¬h.next<=bX b:=fun b z y=>by
  rcases z with z | z
  . rw [z,c1] at y;have:=R.jN;have:=R.le;omega
  . have:=R.own.ru z;unfold Old at this;omega
 refine Zj.z rfl (cw ?_);rw [Zk];simp only [dL] at ak c8 c6;simp only [dL];simp +contextual only [ak,al,ol.1,ol.2.1,ol.2.2,c6.g,↓an,aF,simprocAttr];refine Mf (fun r G=>r 1=w/\r 4=.ptr (aw fN) 0/\r 5=.ptr (aw h.next) 0/\∃v0,oo cs B cF jd fN cn G (bq++mQ cs p.k p.n p.s path) v0/\Mod (oi cF v) h G/\Has G h.next [.int .i64 p.k,.int .i64 p.n,.int .i64 p.a,.str p.s,gp]/\∀b,v0.aW b->v.aW b\/h.next<=bX b) rfl (cw ?_) ?_
 . unfold OP;have add:∀(f:Bool) (m:Int),∃cd ab,jZ 3 v (.slice (aw ad.next) 0 1 1) (ad.new (.bQ [fS,.bool f,.int .i64 m] 0 false))=.val cd ab/\cd.one=true/\cd.cells=[cd]/\ab.get (aw cF)=.bQ [v] 0 false/\(∃G,ab.set (aw cF) (.bQ [cd] 0 false)=G/\oo cs B cF jd fN cn G (bq++[(path,f,m)]) cd/\Mod (oi cF v) h G/\Has G h.next [.int .i64 p.k,.int .i64 p.n,.int .i64 p.a,.str p.s,gp]/\(∀b,cd.aW b->v.aW b\/h.next<=bX b)):=fun f m=>by
    obtain ⟨cd,ab,bD,a2,a3,a4,a5,hT,pr⟩:=pn.add aS (t:=(path,f,m)) gv (by omega) (by show path.length<=_;omega);refine ⟨cd,ab,bD,a2,a3,a4,_,rfl,a5,lP (aK.mod _) hT fun _ _ z=>z,c8.mod hT fun z=>cJ _ z (by rw [c1];exact apv _),fun b z=>?_⟩;rcases pr b z with z | z
    . exact .inl z
    . exact .inr (by omega)
   have b7:∀m:Int,(p.k=m)=True\/(p.k=m)=False:=fun m=>by by_cases q:p.k=m<;>simp [q]
   by_cases mJ:p.k=12
   . have g2:(p.k=12)=True:=apC mJ;have a':mQ cs p.k p.n p.s path=[(path,true,p.n)]:=by unfold mQ;rw [apz mJ]
     rw [a'];obtain ⟨cd,ab,bD,a2,a3,a4,G,a5,hT,pr,Af,a9⟩:=add true p.n;have ck:=tE.out;simp +contextual only [c6.g,g2,ck.g,gv.v.one.1,gv.v.one.2.1,gv.v.one.2.2,bD,a2,a3,a4,a5,↓an,aF,simprocAttr];exact ⟨cd,hT,pr,Af,a9⟩
   . have g2:(p.k=12)=False:=apy mJ;by_cases sb:p.k=14
     . have g3:(p.k=14)=True:=apC sb;have a':mQ cs p.k p.n p.s path=[(path,false,p.n)]:=by unfold mQ;rw [apw mJ,apz sb]
       rw [a'];obtain ⟨cd,ab,bD,a2,a3,a4,G,a5,hT,pr,Af,a9⟩:=add false p.n;have ck:=tE.out;simp +contextual only [c6.g,g2,g3,ck.g,gv.v.one.1,gv.v.one.2.1,gv.v.one.2.2,bD,a2,a3,a4,a5,↓an,aF,simprocAttr];exact ⟨cd,hT,pr,Af,a9⟩
     . have g3:(p.k=14)=False:=apy sb;by_cases mK:p.k=16
       . have g4:(p.k=16)=True:=apC mK;have a':mQ cs p.k p.n p.s path=[(path,false,kV cs p.s)]:=by unfold mQ;rw [apw mJ,apw sb,apz mK]
         rw [a'];obtain ⟨cd,ab,bD,a2,a3,a4,G,a5,hT,pr,Af,a9⟩:=add false (kV cs p.s);have ck:=tE.out;have kK:=tE.HP;obtain ⟨Vr,Cw,ty,gQ,jw⟩:=tE.tag.look p.s;simp +contextual only [c6.g,g2,g3,g4,ck.g,kK.g,jw,gv.v.one.1,gv.v.one.2.1,gv.v.one.2.2,bD,a2,a3,a4,a5,↓an,aF,simprocAttr];exact ⟨cd,hT,pr,Af,a9⟩
       . have g4:(p.k=16)=False:=apy mK;have a':mQ cs p.k p.n p.s path=[]:=by unfold mQ;rw [apw mJ,apw sb,apw mK]
         rw [a',aqF];simp +contextual only [c6.g,g2,g3,g4,↓an,aF,simprocAttr];exact ⟨v,tE,AE.mod _,c6,fun b z=>.inl z⟩
 . rintro r G ⟨bM,cL,bT,v0,WZ,WG,V6,WL⟩;unfold OQ;have db:=ni p.l;simp +contextual only [bM,cL,bT,V6.g,iL,↓an,aF,simprocAttr];refine gl (fun r g=>r 1=w/\r 4=.ptr (aw fN) 0/\r 45=gp/\r 46=.int .i64 p.l.length/\∃(i:Nat) (qu:V),r 47=.int .i64 i/\i<=p.l.length/\oo cs B cF jd fN cn g (bq++mQ cs p.k p.n p.s path++mZ cs (p.l.take i) path 0) qu/\Mod (oi cF v) h g/\∀b,qu.aW b->v.aW b\/h.next<=bX b) (fun r g=>p.l.length - (r 47).toN) ?_ ?_
   . refine ⟨by simp only [bM,↓an,bH,simprocAttr],by simp only [cL,↓an,bH,simprocAttr],by simp only [↓an,bH,simprocAttr],by simp only [↓an,bH,simprocAttr],0,v0,by simp only [↓an,bH,simprocAttr]<;>rfl,by omega,?_,WG,WL⟩;simpa [mZ] using WZ
   clear bM cL bT;rintro r g ⟨bM,cL,Lp,Lq,i,qu,Lr,ax,r2,xz,ph⟩;unfold HS;by_cases aR:i<p.l.length
   . have g0:((i:Int) < (p.l.length:Int))=True:=apC (by omega);have eR:∀b,F b->Old h b->¬oi cF v b/\(F b/\Old g b):=fun b z o=>⟨(hD b z).2,z,xz.bG o⟩;have Xh:=fe.mod xz eR;have WX:=P.mod xz eR;obtain ⟨b,off,jU,cr,po,pq,ld,_,_,_⟩:=aQ.oX Xh (k:=.i64) aR;have d5:=ld g (Ext.refl g);have ok:=pq.one;have dU:=h8 aR (by omega);have dI:p.l[i] ∈ p.l:=ap1 aR;have q9:=uA dI;have rf:=Uh aR;have rh:=Ll p.l (i+1);have EF:=Ei aG dI;have mS:=ahY cs p.l path aR;have kA:=Ko cs (p.l.take i) path 0;have aoe:=Ro cs p.k p.n p.s path;generalize p.l[i]=q at po pq ld cr d5 dI q9 rf EF mS;obtain ⟨g1,aI,bU,e0⟩:=fw g z5 (dL q jU);have n3:g1.next=g.next+1:=by rw [<-aI];rfl
     have M0:=r2.ext bU;have sZ:=M0.go;simp only [x9] at sZ;simp only [dL] at d5 aI e0;simp +contextual only [bM,cL,Lp,Lq,Lr,g0,cr,d5,ok.1,ok.2.1,aI,e0.g,sZ.g,↓an,aF,simprocAttr];refine cu (al7 path (by omega) i _ w g1 (WX.ext bU)) ?_;rintro y g2 ⟨MW,b9⟩;have jy:=e0.ext b9;have M1:=M0.ext b9;have uI:=M1.go;simp only [x9] at uI;have WK:=lP xz ((bU.trans b9).mod (fun _=>False)) fun _ _ z=>z.elim;simp +contextual only [↓an,aF,simprocAttr];have ne:h.next<=g.next:=xz.next
     have cb:=zW q (by omega) EF B cF jd fN cn (path++[(i:Int)]) y jU _ qu (fun b=>(F b/\Old g b)\/(Ac g1 b/\Old g2 b)) g2 (by simp only [apD];omega) (by simp only [apD,apB,ap_];omega)
      (((po.ext bU).ext b9).gR fun b z=>.inl z) ⟨MW.eZ.mod (Mod.refl (fun _=>False) g2) (fun b z o=>⟨fun x=>x,.inr ⟨z,o⟩⟩),MW.form⟩ (fun b z=>by
       rcases z with ⟨bJ,z2⟩ | ⟨bJ,z2⟩
       . refine ⟨(bU.trans b9).bG z2,fun y=>?_⟩;obtain ⟨f1,f2⟩:=hD b bJ;rcases y with y | y
         . exact f2 (.inl y)
         . rcases ph b y with y | y
           . exact f2 (.inr y)
           . unfold Old at f1;omega
       . refine ⟨z2,fun y=>?_⟩;unfold Ac at bJ;rcases y with y | y
         . rw [y,c1] at bJ;have:=R.jN;have:=R.le;omega
         . have:=r2.own.ru y;unfold Old at this;omega) M1
     simp only [dL] at cb;refine cu cb ?_;rintro x g3 ⟨amY,M3,MP,WN⟩;have xi:=jy.mod MP fun z=>by
      rcases z with z | z
      . rw [mr] at z;have:=R.jN;have:=R.le;omega
      . have:=r2.own.ru z;unfold Old at this;rw [c1] at this;omega
     have FE:=M3.go;simp only [x9] at FE;simp +contextual only [bM,cL,Lp,Lq,Lr,e0.g,jy.g,xi.g,sZ.g,uI.g,FE.g,ok.1,ok.2.1,dU,↓an,aF,simprocAttr];refine ⟨⟨i+1,amY,rfl,aR,?_,lP WK MP fun b o z=>?_,fun b z=>?_⟩,by omega⟩
     . rw [mS,<-aqc];exact M3
     . rcases z with z | z
       . exact .inl z
       . rcases ph b z with z | z
         . exact .inr z
         . unfold Old at o;omega
     . rcases WN b z with z | z
       . exact ph b z
       . have:=(bU.trans b9).next;exact .inr (by omega)
   . have g0:((i:Int) < (p.l.length:Int))=False:=apy (by omega);rw [aqn (by omega),aqc,<-amt] at r2;simp +contextual only [bM,cL,Lp,Lq,Lr,g0,↓an,aF,simprocAttr];exact ⟨qu,r2,xz,ph⟩
theorem QS (cs:List bI):∀n,GU cs n
 | 0=>fun p hq=>by have:=o6 p;omega
 | n+1=>acf (QS cs n)
theorem X1 (cs:List bI) (p:aQ) (aG:oI p) (aZ:p.size<=500000000) (cn:aL) (gp:V) (h:ae) (T:jD cs h cn) (aU:Old h cn) (X:bN (Old h) h p.enc (dL p gp)):
 c9 Tryz.prog 34 [.map cn,.agg (dL p gp)] h fun x ab=>iw h.next ab (o' cs p []) x/\Ext h ab:=by
 obtain ⟨cB,e,fe,wi⟩:=aQ.open X;obtain rfl:gp=cB:=by simp only [dL,List.cons.injEq] at e;exact e.2.2.2.2.1
 have ol:=fe.one;obtain ⟨aa,ak,aK,c8⟩:=fM h [.map cn];have di:aa.next=h.next+1:=by rw [<-ak];exact f_ _ _
 obtain ⟨ad,al,aS,c6⟩:=fM aa (dL p gp);have iO:ad.next=aa.next+1:=by rw [<-al];exact f_ _ _
 obtain ⟨aJ,aI,bU,e0⟩:=fM ad [.bg];have n3:aJ.next=ad.next+1:=by rw [<-aI];exact f_ _ _
 obtain ⟨bu,bB,b9,jy⟩:=fw aJ [.kJ] [x9 ad.next h.next aJ.next];have n4:bu.next=aJ.next+1:=by rw [<-bB];rfl
 have E:=((aK.trans aS).trans bU).trans b9;obtain ⟨vG,Ux,anU,V8⟩:=fM aJ [.kJ];have R:oo cs bu.next ad.next h.next aJ.next cn bu [] .bg:=
  ⟨e0.ext b9,iw.nil _ _,((c8.ext aS).ext bU).ext b9,jy,T.ext E,by omega,by omega,by omega,by unfold Old at aU;omega,by omega,by omega,fun z=>by rw [z] at aU;unfold Old at aU;rw [c1] at aU;omega,apv _⟩
 have dv:=(c6.ext bU).ext b9
 have cb:=QS cs p.size p (apv _) aG bu.next ad.next h.next aJ.next cn [] .bg gp [] .bg (Old h) bu (by simp;omega) (by simp;omega) (X.ext E) (nz.nil _ _) (fun b z=>⟨E.bG z,fun y=>by
  rcases y with y | y
  . rw [y] at z;unfold Old at z;rw [c1] at z;omega
  . exact y⟩) R
 refine Y8.z rfl (cw ?_);unfold c34;simp only [dL,x9] at al bB jy dv cb;simp only [dL];rw [Ux] at bB;simp +contextual only [ak,al,aI,Ux,bB,V8.g,jy.g,dv.g,ol.1,ol.2.1,ol.2.2,↓an,aF,simprocAttr];refine cu cb ?_;rintro x cV ⟨cd,mD,tC,anD⟩;have uI:=mD.out;rw [aqk] at mD;simp +contextual only [uI.g,↓an,aF,simprocAttr]
 exact ⟨mD.own.mono (by omega),E.nZ tC fun b z=>by
  rcases z with z | z
  . rw [z,c1];omega
  . exact z.elim⟩
def Xa (B:Nat) (b:aL):Prop:=B<=bX b
def ajc (cF fN:Nat):V:=.func 38 [.ptr (aw cF) 0,.ptr (aw fN) 0]
structure anF (B cF fN:Nat) (h:ae) (bq:List Nm) (v:V):Prop where
 out:Has h cF [v]
 own:eA B (Xa B) h 2 (bq.map aa8) v
 go:Has h fN [ajc cF fN]
 jN:cF<B
 Eb:fN<B
 Eh:fN≠cF
 le:B<=h.next
inductive b6 where
 | mk (k n:Int) (l:List b6)
namespace b6
def k:b6->Int | mk k _ _=>k
def n:b6->Int | mk _ n _=>n
def l:b6->List b6 | mk _ _ l=>l
end b6
mutual
def b6.size:b6->Nat
 | .mk _ _ l=>1+Gq l
def Gq:List b6->Nat
 | []=>0
 | t::l=>t.size+Gq l
end
theorem U6 {t:b6}:∀{l:List b6},t ∈ l->t.size<=Gq l
 | [],h=>by cases h
 | u::l,h=>by
   simp only [Gq];rcases apJ.1 h with rfl | h
   . omega
   . have:=U6 h;omega
theorem alP {t u:b6} (h:u ∈ t.l):u.size<t.size:=by
 cases t with
 | mk k n l=>have:=U6 h;simp only [b6.size];simp only [b6.l] at this;omega
mutual
def b6.enc:b6->List D
 | .mk k n l=>[.i .i64 k,.i .i64 n,.l 3 (DR l)]
def DR:List b6->List (List D)
 | []=>[]
 | t::l=>t.enc::DR l
end
theorem P9:∀l:List b6,DR l=l.map b6.enc
 | []=>rfl
 | t::l=>by rw [DR,P9 l,aqu]
theorem Ii (t:b6):t.enc=[.i .i64 t.k,.i .i64 t.n,.l 3 (t.l.map b6.enc)]:=by
 cases t with
 | mk k n l=>simp only [b6.enc,P9,b6.k,b6.n,b6.l]
structure dt where
 kind:Int
 row:Int
 path:List Int
 num:Bool
 n:Int
 yes:Int
 no:Int
def dt.enc (c:dt):List D:=[.i .i64 c.kind,.i .i64 c.row,.l 1 (c.path.map gb),.b c.num,.i .i64 c.n,.i .i64 c.yes,.i .i64 c.no]
mutual
def rp:b6->Bool
 | .mk k n l=>if k=1 then decide (-1073741824<=n)&&decide (n<=1073741823)&&decide (l.length=0) else if k=3 then decide (n=0)&&decide (l.length=0)
   else if k=2 then wL l&&decide (0<=n)&&decide (n<=1048575) else false
def wL:List b6->Bool
 | []=>true
 | t::l=>rp t&&wL l
end
def mI:b6->List Int->Option b6
 | t,[]=>some t
 | t,i::p=>if i<0\/(t.l.length:Int)<=i then none else match t.l[i.toNat]? with
   | some u=>mI u p
   | none=>none
def nD (len:Nat) (i:Nat) (c:dt):Bool:=
 if c.kind=1 then !(decide (c.yes<=i)||decide (c.no<=i)||decide ((len:Int)<=c.yes)||decide ((len:Int)<=c.no)) else decide (c.kind=2)||decide (c.kind=3)
def pA (len:Nat):Nat->List dt->Bool
 | _,[]=>true
 | i,c::l=>nD len i c&&pA len (i+1) l
def pB (d:List dt):Bool:=pA d.length 0 d&&decide (0<d.length)
def x8 (d:List dt) (v:b6):Nat->Nat->Nat->Int × Int × Int
 | 0,_,_=>(0,0,2)
 | f+1,i,asked=>match d[i]? with
   | none=>(0,0,2)
   | some c=>if c.kind=2 then (if c.row<0 then (0,0,2) else (c.row,asked,0)) else if c.kind=3 then (-1,asked,0)
     else match mI v c.path with
      | none=>(0,0,2)
      | some x=>if x.k=(if c.num then 1 else 2) then x8 d v f (if x.n=c.n then c.yes else c.no).toNat (asked+1) else (0,0,2)
def vD (d:List dt) (v:b6):Int × Int × Int:=if pB d&&rp v then x8 d v d.length 0 0 else (0,0,2)
section
variable {F:aL->Prop} {h:ae}
theorem b6.open {t:b6} {ag:List V} (H:bN F h t.enc ag):∃cB,ag=[.int .i64 t.k,.int .i64 t.n,cB]/\b0 F h 3 (t.l.map b6.enc) cB:=by rw [Ii] at H;obtain ⟨_,rfl,H1⟩:=H.int;obtain ⟨_,rfl,cS⟩:=H1.int;obtain ⟨cB,_,rfl,L,rP⟩:=cS.eZ;obtain rfl:=rP.no;exact ⟨cB,rfl,L⟩
theorem b6.lh {l:List b6} {v:V} (H:b0 F h 3 (l.map b6.enc) v) {k:IntKind} {i:Nat} (ax:i<l.length):
 ∃b off cB,fK 3 v (.int k i)=some (.ptr b (off+i * 3))/\bN F h l[i].enc [.int .i64 l[i].k,.int .i64 l[i].n,cB]/\b0 F h 3 (l[i].l.map b6.enc) cB/\∀ab,Ext h ab->ml 3 (ab.get b) (off+i * 3)=some (.agg [.int .i64 l[i].k,.int .i64 l[i].n,cB]):=by
 obtain ⟨b,off,u,aK,aS,bU,b9,_⟩:=H.at (k:=k) (i:=i) (by rw [apG];exact ax);rw [aq4] at aS;obtain ⟨cB,rfl,L⟩:=b6.open aS;exact ⟨b,off,cB,aK,aS,L,b9⟩
theorem dt.open {c:dt} {ag:List V} (H:bN F h c.enc ag):∃jx,ag=[.int .i64 c.kind,.int .i64 c.row,jx,.bool c.num,.int .i64 c.n,.int .i64 c.yes,.int .i64 c.no]/\b0 F h 1 (c.path.map gb) jx:=by rw [dt.enc] at H;obtain ⟨_,rfl,H1⟩:=H.int;obtain ⟨_,rfl,cS⟩:=H1.int;obtain ⟨jx,_,rfl,L,rP⟩:=cS.eZ;obtain ⟨_,rfl,u_⟩:=rP.bool;obtain ⟨_,rfl,rQ⟩:=u_.int;obtain ⟨_,rfl,GV⟩:=rQ.int;obtain ⟨_,rfl,GW⟩:=GV.int;obtain rfl:=GW.no;exact ⟨jx,rfl,L⟩
theorem dt.at {d:List dt} {v:V} (H:b0 F h 7 (d.map dt.enc) v) {k:IntKind} {i:Nat} (ax:i<d.length):
 ∃b off jx,fK 7 v (.int k i)=some (.ptr b (off+i * 7))/\b0 F h 1 (d[i].path.map gb) jx/\∀ab,Ext h ab->ml 7 (ab.get b) (off+i * 7)=some (.agg [.int .i64 d[i].kind,.int .i64 d[i].row,jx,.bool d[i].num,.int .i64 d[i].n,.int .i64 d[i].yes,.int .i64 d[i].no]):=by
 obtain ⟨b,off,u,aK,aS,bU,b9,_⟩:=H.at (k:=k) (i:=i) (by rw [apG];exact ax);rw [aq4] at aS;obtain ⟨jx,rfl,L⟩:=dt.open aS;exact ⟨b,off,jx,aK,L,b9⟩
end
def zD:b6:=.mk 0 0 []
theorem V5 (F:aL->Prop) (h:ae):bN F h zD.enc [.int .i64 0,.int .i64 0,.bg]:=by rw [Ii];exact .i (.i ((b0.nil F h 3).cons .nil))
theorem Vv (t:b6) (p:List Int) (ag:List V) (fS:V) (h:ae) (H:bN Any h t.enc ag) (GX:b0 Any h 1 (p.map gb) fS):
 c9 Tryz.prog 58 [.agg ag,fS] h fun x ab=>∃us,x=.tuple [.agg us,.bool (mI t p).isSome]/\bN Any ab ((mI t p).getD zD).enc us/\Ext h ab:=by
 have zT:=H.rv;obtain ⟨cB,rfl,L⟩:=b6.open zT;have WT:=GX.rv;have ol:=L.one;have af:=GX.len;rw [List.length_map] at af;have db:=GX.le;rw [List.length_map] at db;refine Zg.z rfl (cw ?_);unfold OK;obtain ⟨aa,ak,aK,c8⟩:=fM h [.int .i64 t.k,.int .i64 t.n,cB];obtain ⟨ad,al,aS,dv⟩:=fM aa [.int .i64 0,.int .i64 0,.bg];have eX:=c8.lt;have hr:=dv.lt;simp +contextual only [ol.1,ol.2.1,af,ak,al,↓an,aF,simprocAttr]
 refine gl (fun r g=>r 2=.ptr (aw h.next) 0/\r 4=.ptr (aw aa.next) 0/\r 8=fS/\r 9=.int .i64 p.length/\∃(i:Nat) (u:b6) (wl:V),r 10=.int .i64 i/\i<=p.length/\mI u (p.drop i)=mI t p/\Has g h.next [.int .i64 u.k,.int .i64 u.n,wl]/\
  Has g aa.next [.int .i64 0,.int .i64 0,.bg]/\bN (Old h) g u.enc [.int .i64 u.k,.int .i64 u.n,wl]/\b0 (Old h) g 1 (p.map gb) fS/\Ext h g) (fun r g=>p.length - (r 10).toN) ?_ ?_
 . exact ⟨by simp only [↓an,bH,simprocAttr],by simp only [↓an,bH,simprocAttr],by simp only [↓an,bH,simprocAttr],by simp only [↓an,bH,simprocAttr],0,t,cB,by simp only [↓an,bH,simprocAttr]<;>rfl,by omega,by rw [aqy],c8.ext aS,dv,zT.ext (aK.trans aS),WT.ext (aK.trans aS),aK.trans aS⟩
 rintro r g ⟨dc,cL,ch,dK,i,u,wl,ek,ax,fI,A,B,U,P,E⟩;unfold OL;obtain ⟨apc,p1,W⟩:=b6.open U;simp only [List.cons.injEq,and_true,true_and] at p1;subst p1;have gn:=W.one;have hw:=W.len;rw [List.length_map] at hw;by_cases aR:i<p.length
 . have g0:((i:Int) < (p.length:Int))=True:=apC (by omega);obtain ⟨b,off,cr,ld⟩:=P.E_ (k:=.i64) aR;have g_:=ld g (Ext.refl g);rw [ap0 aR,mI] at fI;by_cases aV:p[i]<0
   . have yq:=apC aV;simp +contextual only [dc,cL,ch,dK,ek,g0,cr,g_,yq,B.g,↓an,aF,simprocAttr];rw [apz (.inl aV)] at fI;rw [<-fI];exact ⟨_,rfl,V5 _ _,E.set (by omega) _⟩
   . have yq:=apy aV;by_cases ie:(u.l.length:Int)<=p[i]
     . have EE:=apC ie;simp +contextual only [dc,cL,ch,dK,ek,g0,cr,g_,yq,EE,hw,A.g,B.g,↓an,aF,simprocAttr];rw [apz (.inr ie)] at fI;rw [<-fI];exact ⟨_,rfl,V5 _ _,E.set (by omega) _⟩
     . have EE:=apy ie;rw [apw (by omega)] at fI;obtain ⟨j,bp⟩:=aqE (show 0<=p[i] by omega);have fE:j<u.l.length:=by omega
       rw [bp] at g_ yq EE fI;simp only [apx,apr fE] at fI;obtain ⟨bL,kL,ani,jI,X,fe,wC⟩:=b6.lh W (k:=.i64) fE;have dJ:=wC g (Ext.refl g);have dU:=h8 aR (by unfold top at db;omega);simp +contextual only [dc,cL,ch,dK,ek,g0,cr,g_,yq,EE,hw,A.g,B.g,jI,dJ,dU,fe.one.1,fe.one.2.1,↓an,aF,simprocAttr];have no:=y0 (h:=h) (apv _);exact ⟨⟨i+1,u.l[j],ani,rfl,aR,fI,A.put _,B.set (by omega) _,X.set no _,P.set no _,E.set (apv _) _⟩,by omega⟩
 . have g0:((i:Int) < (p.length:Int))=False:=apy (by omega);simp +contextual only [dc,cL,ch,dK,ek,g0,A.g,B.g,gn.1,gn.2.1,↓an,aF,simprocAttr];rw [aqv (by omega),mI] at fI;rw [<-fI];exact ⟨_,rfl,(U.set (y0 (by omega)) _).gR fun _ _=>trivial,E.set (by omega) _⟩
theorem L3:∀(N:Nat) (t:b6),t.size<=N->∀(ag:List V) (h:ae),bN Any h t.enc ag->c9 Tryz.prog 57 [.agg ag] h fun x ab=>x=.bool (rp t)/\Ext h ab
 | 0,t,aZ,_,_,_=>by cases t;simp only [b6.size] at aZ;omega
 | N+1,t,aZ,ag,h,H=>by
   obtain ⟨cB,rfl,L⟩:=b6.open H;have ol:=L.one;have aA:=L.len;have hle:=L.le;rw [List.length_map] at aA hle;refine Zf.z rfl (cw ?_);unfold OI;obtain ⟨aa,ak,aK,c8⟩:=fM h [.int .i64 t.k,.int .i64 t.n,cB];have cJ:rp t=if t.k=1 then decide (-1073741824<=t.n)&&decide (t.n<=1073741823)&&decide (t.l.length=0) else if t.k=3 then decide (t.n=0)&&decide (t.l.length=0)
    else if t.k=2 then wL t.l&&decide (0<=t.n)&&decide (t.n<=1048575) else false:=by cases t;rw [rp];rfl
   by_cases b7:t.k=1
   . have bJ:=apC b7;rw [cJ,apz b7];by_cases bD:-1073741824<=t.n
     . by_cases a2:t.n<=1073741823
       . by_cases a3:(t.l.length:Int)=0
         . simp +contextual only [ol.1,ol.2.1,ak,c8.g,bJ,apC bD,apC a2,apC a3,aA,↓an,aF,simprocAttr]
           first | exact aK | exact ⟨by simp [show t.l.length=0 by omega],aK⟩
         . simp +contextual only [ol.1,ol.2.1,ak,c8.g,bJ,apC bD,apC a2,apy a3,aA,↓an,aF,simprocAttr]
           first | exact aK | exact ⟨by simp [show ¬t.l.length=0 by omega],aK⟩
       . simp +contextual only [ol.1,ol.2.1,ak,c8.g,bJ,apC bD,apy a2,↓an,aF,simprocAttr]
         first | exact aK | exact ⟨by simp [a2],aK⟩
     . simp +contextual only [ol.1,ol.2.1,ak,c8.g,bJ,apy bD,↓an,aF,simprocAttr]
       first | exact aK | exact ⟨by simp [bD],aK⟩
   have bJ:=apy b7;rw [cJ,apw b7];by_cases ei:t.k=3
   . have z3:=apC ei;rw [apz ei];by_cases bD:t.n=0
     . by_cases a3:(t.l.length:Int)=0
       . simp +contextual only [ol.1,ol.2.1,ak,c8.g,bJ,z3,apC bD,apC a3,aA,↓an,aF,simprocAttr]
         first | exact aK | exact ⟨by simp [show t.l.length=0 by omega],aK⟩
       . simp +contextual only [ol.1,ol.2.1,ak,c8.g,bJ,z3,apC bD,apy a3,aA,↓an,aF,simprocAttr]
         first | exact aK | exact ⟨by simp [show ¬t.l.length=0 by omega],aK⟩
     . simp +contextual only [ol.1,ol.2.1,ak,c8.g,bJ,z3,apy bD,↓an,aF,simprocAttr]
       first | exact aK | exact ⟨by simp [bD],aK⟩
   have z3:=apy ei;rw [apw ei];by_cases cj:t.k=2
   rotate_left
   . have z2:=apy cj;simp +contextual only [ol.1,ol.2.1,ak,c8.g,bJ,z3,z2,↓an,aF,simprocAttr]
     first | exact aK | exact ⟨by simp [cj],aK⟩
   have z2:=apC cj;rw [apz cj];simp +contextual only [ol.1,ol.2.1,ak,c8.g,bJ,z3,z2,aA,↓an,aF,simprocAttr];refine gl (fun r g=>r 1=.ptr (aw h.next) 0/\r 37=cB/\r 38=.int .i64 t.l.length/\∃i:Nat,r 39=.int .i64 i/\i<=t.l.length/\Ext aa g/\wL (t.l.drop i)=wL t.l) (fun r g=>t.l.length - (r 39).toN) ?_ ?_
   . exact ⟨by simp only [↓an,bH,simprocAttr],by simp only [↓an,bH,simprocAttr],by simp only [↓an,bH,simprocAttr],0,by simp only [↓an,bH,simprocAttr]<;>rfl,by omega,Ext.refl aa,by rw [aqy]⟩
   rintro r g ⟨bM,qj,qk,i,rF,ax,E,cW⟩;unfold OJ;have A:=c8.ext E;have pg:=L.ext (aK.trans E);by_cases aR:i<t.l.length
   . have g0:((i:Int) < (t.l.length:Int))=True:=apC (by omega);obtain ⟨b,off,wl,cr,X,fe,ld⟩:=b6.lh pg (k:=.i64) aR;have g_:=ld g (Ext.refl g);have gn:=fe.one;have dU:=h8 aR (by unfold top at hle;omega);rw [ap0 aR,wL] at cW;have cq:=alP (t:=t) (ap1 aR);obtain ⟨g1,dz,bF,B⟩:=fw g [.int .i64 0,.int .i64 0,.bg] [.int .i64 t.l[i].k,.int .i64 t.l[i].n,wl];simp +contextual only [bM,qj,qk,rF,g0,cr,g_,dz,B.g,gn.1,gn.2.1,↓an,aF,simprocAttr];refine cu (L3 N t.l[i] (by omega) _ g1 (X.ext bF)) ?_;rintro x g2 ⟨rfl,aS⟩;cases hm:rp t.l[i] with
     | true=>
       rw [hm,ap6] at cW;simp +contextual only [bM,qj,qk,rF,dU,↓an,aF,simprocAttr];exact ⟨⟨i+1,rfl,aR,E.trans (bF.trans aS),cW⟩,by omega⟩
     | false=>
       rw [hm,ap7] at cW;simp +contextual only [bM,qj,qk,rF,dU,↓an,aF,simprocAttr];exact ⟨by rw [<-cW];rfl,aK.trans (E.trans (bF.trans aS))⟩
   . have g0:((i:Int) < (t.l.length:Int))=False:=apy (by omega);rw [aqv (by omega)] at cW;rw [<-cW];by_cases bD:0<=t.n
     . by_cases a2:t.n<=1048575
       . simp +contextual only [bM,qj,qk,rF,g0,A.g,aA,apC bD,apC a2,↓an,aF,simprocAttr]
         first | exact aK.trans E | exact ⟨by simp [bD,a2,wL],aK.trans E⟩
       . simp +contextual only [bM,qj,qk,rF,g0,A.g,aA,apC bD,apy a2,↓an,aF,simprocAttr]
         first | exact aK.trans E | exact ⟨by simp [a2],aK.trans E⟩
     . simp +contextual only [bM,qj,qk,rF,g0,A.g,aA,apy bD,↓an,aF,simprocAttr]
       first | exact aK.trans E | exact ⟨by simp [bD],aK.trans E⟩
theorem E_ {F:aL->Prop} {h:ae} {l:List Int} {v:V} (H:b0 F h 1 (l.map gb) v) {i:Nat} (ax:i<l.length):
 ∃b off,fK 1 v (.int .i64 i)=some (.ptr b off)/\∀ab,Ext h ab->fZ (ab.get b) off=some (.int .i64 l[i]):=by
 obtain ⟨b,off,u,aK,aS,bU,b9,dP⟩:=H.at (k:=.i64) (i:=i) (by rw [apG];exact ax);rw [aq4,gb] at aS;obtain ⟨_,rfl,f⟩:=aS.int;obtain rfl:=f.no;exact ⟨b,_,aK,fun ab e=>by simpa using dP ab e 0 (by omega)⟩
theorem DY {cs:List bI} {l:List aQ} (h:h_ cs l=0):jL [] cs=true:=by
 unfold h_ at h
 split at h
 . rename_i c;simp only [apq] at c;exact c.1.1
 . cases h
end
section
open Go aX Go.RowKit
end
section
open Go aX
end
section
open Go aX Go.RowKit
set_option maxRecDepth 100000 in
theorem X_:L6 ctx 100000 8 []=true:=by kernel_rfl
theorem X9 (h:ae):eV Tryz.prog 8 [] h (.bool true) h:=
 ZY (by kernel_rfl) (fun E x q=>by subst q;simp [Rel]) ⟨_,Tryz.func8,by kernel_rfl⟩ (fun w hw=>amI (C:=ctx) follows yW hw Lj (by kernel_rfl) (by kernel_rfl) X_) h
theorem X' (h:ae):c9 Tryz.prog 8 [] h fun x ab=>x=.bool true/\ab=h:=⟨_,_,X9 h,rfl,rfl⟩
end
section
open Go aX
mutual
def jv (cs:List bI):aQ->b6->Bool
 | .mk k _ _ s l,v=>
   if k=12 then decide (v.k=1)
   else if k=13\/k=14 then decide (v.k=2)&&decide (v.l.length=0)
   else if k=15 then decide (v.k=2)&&(decide (v.l.length=2)&&lj cs l v.l)
   else if k=16 then decide (v.k=2)&&(cs.all (fun c=>!(decide (c.ty=kW cs s)&&(decide (c.tag=v.n)&&decide (c.arg.length≠v.l.length))))&&(if v.n=kV cs s/\l.length=1 then lj cs l v.l else true))
   else true
def lj (cs:List bI):List aQ->List b6->Bool
 | [],_=>true
 | _::_,[]=>false
 | p::l,t::m=>jv cs p t&&lj cs l m
end
mutual
def pI (cs:List bI):aQ->b6->Bool
 | .mk k n _ s l,v=>if k=12\/k=14 then decide (v.n=n) else (if k=16 then decide (v.n=kV cs s) else true)&&p7 cs l v.l
def p7 (cs:List bI):List aQ->List b6->Bool
 | [],_=>true
 | _::_,[]=>false
 | p::l,t::m=>pI cs p t&&p7 cs l m
end
mutual
def oz (cs:List bI):aQ->Bool
 | .mk k _ _ s l=>(if k=16 then (match dZ s cs with
   | some c=>decide (c.arg.length=l.length)
   | none=>false) else true)&&xQ cs l
def xQ (cs:List bI):List aQ->Bool
 | []=>true
 | p::l=>oz cs p&&xQ cs l
end
theorem LW (cs:List bI) (p:aQ) (v:b6):jv cs p v=(if p.k=12 then decide (v.k=1)
 else if p.k=13\/p.k=14 then decide (v.k=2)&&decide (v.l.length=0)
 else if p.k=15 then decide (v.k=2)&&(decide (v.l.length=2)&&lj cs p.l v.l)
 else if p.k=16 then decide (v.k=2)&&(cs.all (fun c=>!(decide (c.ty=kW cs p.s)&&(decide (c.tag=v.n)&&decide (c.arg.length≠v.l.length))))&&(if v.n=kV cs p.s/\p.l.length=1 then lj cs p.l v.l else true))
 else true):=by cases p;rfl
theorem abL (cs:List bI) (p:aQ) (v:b6):pI cs p v=(if p.k=12\/p.k=14 then decide (v.n=p.n) else (if p.k=16 then decide (v.n=kV cs p.s) else true)&&p7 cs p.l v.l):=by cases p;rfl
theorem H2 (cs:List bI) (p:aQ):oz cs p=((if p.k=16 then (match dZ p.s cs with
 | some c=>decide (c.arg.length=p.l.length)
 | none=>false) else true)&&xQ cs p.l):=by cases p;rfl
theorem H3 {cs:List bI}:∀{l:List aQ},xQ cs l=true↔∀p ∈ l,oz cs p=true
 | []=>by simp [xQ]
 | p::l=>by simp [xQ,H3 (l:=l)]
theorem Pq {cs:List bI}:∀(n:Nat) (p:aQ),p.size<=n->oI p->∀l,V9 cs l->p ∈ l->oz cs p=true
 | 0,p,aV,_,_,_,_=>by have:=o6 p;omega
 | n+1,p,aV,aG,l,jF,dI=>by
   rw [H2,apq];cases hw:ob p with
   | true=>
     have aA:=acz aG hw;simp only [ob,aqA,apF] at hw;rw [aA,apw (by omega)];exact ⟨rfl,rfl⟩
   | false=>
     have hq:p ∈ iq l:=aiW.2 ⟨dI,hw⟩;obtain ⟨q,s,aZ⟩:∃q s,iq l=q::s:=List.exists_cons_of_ne_nil fun z=>by rw [z] at hq;cases hq
     refine ⟨?_,?_⟩
     . have:=(GA.1 (jF 1) q s aZ).1 p (by rw [<-aZ];exact hq);by_cases ia:p.k=16
       . rw [apz ia];obtain ⟨aK,aS⟩:=abM.1 this;obtain ⟨c,bK,bR,c3⟩:=aS (by rw [<-aK];exact ia);rw [bK];simpa using c3
       . rw [apw ia]
     . rw [H3];intro x aj;obtain ⟨i,ax,e⟩:=aru aj;have aB:=uA aj;refine Pq n x (by omega) (Ei aG aj) (gO (q::s) (fs p) i) (fun m=>?_) ?_
       . exact (GA.1 (jF (m+1)) q s aZ).2 p (by rw [<-aZ];exact hq) i ax
       . rw [<-aZ];exact aiV.2 ⟨p,hq,rfl,by rw [apr ax,e]⟩
theorem Qi {cs:List bI} {l:List aQ} (h:h_ cs l=0) (aZ:cA l<=1000000000):∀p ∈ l,oz cs p=true:=by obtain ⟨a,b⟩:=DZ h;intro p af;exact Pq p.size p (apv _) ⟨a p af,by have:=qh af;omega⟩ l (fun n=>Vp n _ l (apv _) b) af
theorem Po {cs:List bI} {p:aQ} (h:oz cs p=true) (ia:p.k=16):∃c,dZ p.s cs=some c/\c.arg.length=p.l.length:=by
 rw [H2,apq,apz ia] at h;cases ao:dZ p.s cs with
 | none=>rw [ao] at h;cases h.1
 | some c=>rw [ao] at h;exact ⟨c,rfl,by simpa using h.1⟩
theorem Pp {cs:List bI} {p q:aQ} (h:oz cs p=true) (az:q ∈ p.l):oz cs q=true:=by rw [H2,apq] at h;exact H3.1 h.2 q az
theorem H0 {cs:List bI} {s:List UInt8} {c:bI} (h:dZ s cs=some c):c ∈ cs/\c.name=s:=by
 induction cs with
 | nil=>cases h
 | cons d cs bb=>
   simp only [dZ] at h
   split at h
   . rename_i e;rw [aps] at h;subst h;exact ⟨aqb,e⟩
   . exact ⟨apZ _ (bb h).1,(bb h).2⟩
theorem amd {cs:List bI} {p:aQ} {v:b6} (ao:oz cs p=true) (ia:p.k=16) (h:jv cs p v=true) (aV:v.n=kV cs p.s):p.l.length=v.l.length/\(p.l.length=1->lj cs p.l v.l=true)/\v.k=2:=by
 obtain ⟨c,bK,bR⟩:=Po ao ia;rw [LW,apw (by omega),apw (by omega),apw (by omega),apz ia] at h;simp only [apq,apF,apU] at h;obtain ⟨aa,ad,aJ⟩:=h;have hm:=H0 bK;have bu:=ad c hm.1;have aE:c.ty=kW cs p.s:=by unfold kW;rw [bK]
 have aG:c.tag=v.n:=by rw [aV];unfold kV;rw [bK]
 simp only [aE,aG,aq3,ap6,aqh,aql,ne_eq,Decidable.not_not] at bu;refine ⟨by omega,fun aA=>?_,aa⟩;rw [apz ⟨aV,aA⟩] at aJ;exact aJ
def OD:a1:=
 a1.seq (a1.au [⟨(some 9),.dH 0 (.t 4),none,[4]⟩,
  ⟨(some 10),.dJ (.t 9),none,[9]⟩])
  (a1.block 0 (a1.seq (a1.seq (a1.au [⟨(some 12),.bin (.int .eql) (.t 10) (.c (.int .i64 12)),none,[10]⟩,
    ⟨(some 11),.cM (.t 12),none,[12]⟩])
    (a1.cond (.t 11)
     (a1.skip)
     (a1.au [⟨(some 13),.bin (.int .eql) (.t 10) (.c (.int .i64 14)),none,[10]⟩,
       ⟨(some 11),.cM (.t 13),none,[13]⟩])))
   (a1.cond (.t 11)
    (a1.seq (a1.au [⟨(some 14),.dH 1 (.t 5),none,[5]⟩,
      ⟨(some 15),.dJ (.t 14),none,[14]⟩,
      ⟨(some 16),.dH 1 (.t 4),none,[4]⟩,
      ⟨(some 17),.dJ (.t 16),none,[16]⟩,
      ⟨(some 18),.bin (.int .eql) (.t 15) (.t 17),none,[15,17]⟩,
      ⟨(some 6),.cM (.t 18),none,[18]⟩])
     (a1.ret))
    (a1.seq (a1.au [⟨(some 20),.bin (.int .eql) (.t 10) (.c (.int .i64 16)),none,[10]⟩,
      ⟨(some 19),.cM (.t 20),none,[20]⟩])
     (a1.cond (.t 19)
      (a1.seq (a1.au [⟨(some 21),.dH 1 (.t 5),none,[5]⟩,
        ⟨(some 22),.dJ (.t 21),none,[21]⟩,
        ⟨(some 23),.cM (.t 0),none,[0]⟩,
        ⟨(some 24),.dH 3 (.t 4),none,[4]⟩,
        ⟨(some 25),.dJ (.t 24),none,[24]⟩,
        ⟨(some 26),.look .str (.agg [(.str []),(.str []),(.int .i64 0),(.int .i64 0),.bg]) false (.t 23) (.t 25),none,[23,25]⟩,
        ⟨(some 27),.oH 2 (.t 26),none,[26]⟩,
        ⟨(some 28),.bin (.int .neq) (.t 22) (.t 27),none,[22,27]⟩])
       (a1.cond (.t 28)
        (a1.seq (a1.au [⟨(some 6),.cM (.c (.bool false)),none,[]⟩])
         (a1.ret))
        (a1.skip)))
      (a1.skip))))))
def OE:a1:=
 a1.seq (a1.seq (a1.au [⟨(some 29),.dH 4 (.t 4),none,[4]⟩,
  ⟨(some 30),.dJ (.t 29),none,[29]⟩,
  ⟨(some 31),.len .slice (.t 30),none,[30]⟩,
  ⟨(some 32),.cM (.c (.int .i64 0)),none,[]⟩])
  (a1.block 1 (a1.loop HR)))
 (a1.seq (a1.au [⟨(some 6),.cM (.c (.bool true)),none,[]⟩])
 (a1.ret))
theorem Zc:OC=(a1.seq (a1.au [⟨(some 4),.box (.t 1),none,[1]⟩,
 ⟨(some 5),.box (.t 2),none,[2]⟩,
 ⟨(some 6),.cM (.c (.bool false)),none,[]⟩])
 (a1.seq (OD)
 (OE))):=rfl
theorem SF {cs:List bI}:∀{l:List aQ} {m:List b6},lj cs l m=true->∀(i:Nat) (ax:i<l.length),∃hm:i<m.length,jv cs l[i] m[i]=true
 | [],m,_,i,ax=>by simp at ax
 | p::l,[],h,_,_=>by simp [lj] at h
 | p::l,t::m,h,0,ax=>by simp only [lj,apq] at h;exact ⟨by simp,by simpa using h.1⟩
 | p::l,t::m,h,i+1,ax=>by simp only [lj,apq] at h;obtain ⟨a,b⟩:=SF h.2 i (by simpa using ax);exact ⟨by simpa using a,by simpa using b⟩
theorem SD {cs:List bI}:∀{l:List aQ} {m:List b6},(∀(i:Nat) (ax:i<l.length),∃hm:i<m.length,pI cs l[i] m[i]=true)->p7 cs l m=true
 | [],m,_=>by simp [p7]
 | p::l,[],h=>by obtain ⟨a,_⟩:=h 0 (by simp);simp at a
 | p::l,t::m,h=>by simp only [p7,apq];refine ⟨by obtain ⟨_,b⟩:=h 0 (by simp);simpa using b,SD fun i ax=>?_⟩;obtain ⟨a,b⟩:=h (i+1) (by simpa using ax);exact ⟨by simpa using a,by simpa using b⟩
theorem SC {cs:List bI}:∀{l:List aQ} {m:List b6} (i:Nat) (ax:i<l.length) (hm:i<m.length),pI cs l[i] m[i]=false->p7 cs l m=false
 | [],m,i,ax,_,_=>by simp at ax
 | p::l,[],i,ax,hm,_=>by simp at hm
 | p::l,t::m,0,ax,hm,h=>by simp only [p7];rw [show pI cs p t=false from by simpa using h];rfl
 | p::l,t::m,i+1,ax,hm,h=>by simp only [p7];rw [SC (l:=l) (m:=m) i (by simpa using ax) (by simpa using hm) (by simpa using h),aqG]
theorem ame {cs:List bI} {p:aQ} {v:b6} (aG:oI p) (ao:oz cs p=true) (h:jv cs p v=true) (aa:¬(p.k=12\/p.k=14)) (ad:p.k=16->v.n=kV cs p.s):lj cs p.l v.l=true:=by
 obtain ⟨g1,g2,g3,g4,g5,_⟩:=FR aG.2 aG.1;by_cases Ej:p.k=15
 . rw [LW,apw (by omega),apw (by omega),apz Ej] at h;simp only [apq] at h;exact h.2.2
 . by_cases ia:p.k=16
   . obtain ⟨a,b,_⟩:=amd ao ia h (ad ia);have:=(g4 ia).1;by_cases aA:p.l.length=1
     . exact b aA
     . have:p.l=[]:=aqe (by omega);rw [this];simp [lj]
   . rw [g5 Ej ia];simp [lj]
def e9 (t:b6) (cB:V):List V:=[.int .i64 t.k,.int .i64 t.n,cB]
def GR (cs:List bI) (n:Nat):Prop:=∀(p:aQ),p.size<=n->oI p->oz cs p=true->∀(t:b6),jv cs p t=true->∀(cn:aL) (gp gQ:V) (h:ae),jD cs h cn->bN Any h p.enc (dL p gp)->bN Any h t.enc (e9 t gQ)->
 c9 Tryz.prog 54 [.map cn,.agg (dL p gp),.agg (e9 t gQ)] h fun x ab=>x=.bool (pI cs p t)/\Ext h ab
theorem abN {cs:List bI} {n:Nat} (zW:GR cs n):GR cs (n+1):=by
 intro p hq aG ao t cz cn gp gQ h T X Y;obtain ⟨cB,e,fe,wi⟩:=aQ.open X;obtain rfl:gp=cB:=by simp only [dL,List.cons.injEq] at e;exact e.2.2.2.2.1
 obtain ⟨jw,cC,ou⟩:=b6.open Y;obtain rfl:gQ=jw:=by simp only [e9,List.cons.injEq] at cC;exact cC.2.2.1
 have ol:=fe.one;have iR:=ou.one;have iL:=fe.len;rw [apG] at iL;have db:=ni p.l;have cq:=size_eq p;have Je:=aG.2;obtain ⟨aa,ak,aK,c8⟩:=fM h (dL p gp);have di:aa.next=h.next+1:=by rw [<-ak];exact f_ _ _
 obtain ⟨ad,al,aS,dv⟩:=fM aa (e9 t gQ);have c6:=c8.ext aS;have bA:=aK.trans aS;have r4:=T.ext bA;obtain ⟨Vr,Cw,ty,ao7,Vy⟩:=r4.look p.s;refine Zb.z rfl (cw ?_);rw [Zc];simp only [dL] at ak c8 c6;simp only [e9] at al dv;simp only [dL,e9];simp +contextual only [ak,al,ol.1,ol.2.1,ol.2.2,iR.1,iR.2.1,iR.2.2,c6.g,dv.g,↓an,aF,simprocAttr];have aov:(p.k=12)=True\/(p.k=12)=False:=by by_cases q:p.k=12<;>simp [q]
 have av:=abL cs p t;refine Mf (fun r G=>r 0=.map cn/\r 4=.ptr (aw h.next) 0/\r 5=.ptr (aw aa.next) 0/\ad=G/\pI cs p t=p7 cs p.l t.l/\¬(p.k=12\/p.k=14)/\(p.k=16->t.n=kV cs p.s)) rfl (cw ?_) ?_
 . unfold OD;by_cases mJ:p.k=12
   . have g2:(p.k=12)=True:=apC mJ;rw [apz (.inl mJ)] at av;simp +contextual only [c6.g,dv.g,g2,gU,↓an,aF,simprocAttr];rw [av];exact ⟨by congr 1,bA⟩
   . have g2:(p.k=12)=False:=apy mJ;by_cases sb:p.k=14
     . have g3:(p.k=14)=True:=apC sb;rw [apz (.inr sb)] at av;simp +contextual only [c6.g,dv.g,g2,g3,gU,↓an,aF,simprocAttr];rw [av];exact ⟨by congr 1,bA⟩
     . have g3:(p.k=14)=False:=apy sb;rw [apw (by omega)] at av;by_cases mK:p.k=16
       . have g4:(p.k=16)=True:=apC mK;rw [apz mK] at av;by_cases qN:t.n=kV cs p.s
         . have g5:(t.n=kV cs p.s)=True:=apC qN;rw [aqf qN,ap6] at av;simp +contextual only [c6.g,dv.g,g2,g3,g4,g5,Vy,ed,↓an,aF,simprocAttr];exact ⟨av,by simp⟩
         . have g5:(t.n=kV cs p.s)=False:=apy qN;rw [aqj qN,ap7] at av;simp +contextual only [c6.g,dv.g,g2,g3,g4,g5,Vy,ed,gU,↓an,aF,simprocAttr];rw [av];exact ⟨rfl,bA⟩
       . have g4:(p.k=16)=False:=apy mK;rw [apw mK,ap6] at av;simp +contextual only [c6.g,dv.g,g2,g3,g4,ed,↓an,aF,simprocAttr];exact ⟨av,by simp⟩
 . rintro r G ⟨bh,cL,bT,e,av,ID,ia⟩;subst e;have q9:=ame aG ao cz ID ia;unfold OE;simp +contextual only [bh,cL,bT,c6.g,iL,↓an,aF,simprocAttr];refine gl (fun r g=>r 0=.map cn/\r 5=.ptr (aw aa.next) 0/\r 30=gp/\r 31=.int .i64 p.l.length/\Ext ad g/\∃i:Nat,r 32=.int .i64 i/\i<=p.l.length/\∀j (bp:j<p.l.length),j<i->∃hm:j<t.l.length,pI cs p.l[j] t.l[j]=true) (fun r g=>p.l.length - (r 32).toN) ?_ ?_
   . exact ⟨by simp only [bh,↓an,bH,simprocAttr],by simp only [bT,↓an,bH,simprocAttr],by simp only [↓an,bH,simprocAttr],by simp only [↓an,bH,simprocAttr],Ext.refl ad,0,by simp only [↓an,bH,simprocAttr]<;>rfl,by omega,fun j bp bk=>by omega⟩
   clear bh cL bT;rintro r g ⟨bh,bT,h6,s9,eC,i,r32,ax,cW⟩;unfold HR;have pd:=bA.trans eC;by_cases aR:i<p.l.length
   . have g0:((i:Int) < (p.l.length:Int))=True:=apC (by omega);obtain ⟨Jg,aeK⟩:=SF q9 i aR;obtain ⟨b,off,jU,cr,po,pq,ld,_,_,_⟩:=aQ.oX fe (k:=.i64) aR;obtain ⟨bL,kL,zB,jI,Xp,Xq,wC⟩:=b6.lh ou (k:=.i64) Jg;have d5:=ld g pd;have ok:=pq.one;have h2:=Xq.one;have dU:=h8 aR (by omega);have dI:p.l[i] ∈ p.l:=ap1 aR;have aoi:=uA dI;have EF:=Ei aG dI;have jk:=Pp ao dI;obtain ⟨g1,aI,bU,e0⟩:=fw g z5 (dL p.l[i] jU);have xl:=pd.trans bU;have mz:=(dv.ext eC).ext bU;have d6:=wC g1 xl;simp only [dL] at aI e0;simp +contextual only [bh,bT,h6,s9,r32,g0,cr,jI,d5,d6,ok.1,ok.2.1,h2.1,h2.2.1,aI,e0.g,mz.g,↓an,aF,simprocAttr];have cb:=zW p.l[i] (by omega) EF jk t.l[i] aeK cn jU zB g1 (T.ext xl) (po.ext xl) (Xp.ext xl);simp only [dL,e9] at cb;refine cu cb ?_;rintro x g2 ⟨rfl,b9⟩;have jy:=e0.ext b9;have lV:=mz.ext b9;have d7:=wC g2 (xl.trans b9);cases mR:pI cs p.l[i] t.l[i] with
     | true=>
       simp +contextual only [bh,bT,h6,s9,r32,e0.g,jy.g,mz.g,lV.g,d6,d7,jI,ok.1,ok.2.1,h2.1,h2.2.1,dU,↓an,aF,simprocAttr];refine ⟨⟨(eC.trans bU).trans b9,i+1,rfl,aR,fun j bp Bb=>?_⟩,by omega⟩;by_cases Ji:j<i
       . exact cW j bp Ji
       . obtain rfl:j=i:=by omega
         exact ⟨Jg,mR⟩
     | false=>
       have JF:=SC i aR Jg mR;simp +contextual only [bh,bT,h6,s9,r32,e0.g,jy.g,mz.g,lV.g,d6,d7,jI,ok.1,ok.2.1,h2.1,h2.2.1,dU,↓an,aF,simprocAttr];rw [av,JF];exact ⟨rfl,xl.trans b9⟩
   . have g0:((i:Int) < (p.l.length:Int))=False:=apy (by omega);have ae8:p7 cs p.l t.l=true:=SD fun j bp=>cW j bp (by omega);simp +contextual only [bh,bT,h6,s9,r32,g0,↓an,aF,simprocAttr];rw [av,ae8];exact ⟨rfl,pd⟩
theorem QA (cs:List bI):∀n,GR cs n
 | 0=>fun p hq=>by have:=o6 p;omega
 | n+1=>abN (QA cs n)
theorem DN [Lay] {P:Program} {c:aT} {a b:a1} {t:Bool} {r:bc} {h:ae} {Q:cO->bc->ae->Prop} (ao:c.aP r=.bool t) (Wr:t=true->fa P a r h Q) (Ws:t=false->fa P b r h Q):fa P (.cond c a b) r h Q:=by simp only [fa,ao];exact ⟨Wr,Ws⟩
theorem Ql:∀{aN:List (List UInt8 × V)} {es:List b3},tu (fun v=>v) aN es->jV V.str aN es
 | [],[],_=>trivial
 | (s,a)::aN,m::es,H=>⟨H.1,H.2.1,Ql H.2.2⟩
 | [],_::_,H=>H.elim
 | _::_,[],H=>H.elim
theorem aiQ {h:ae} {b:aL} {aN:List (List UInt8 × V)} (H:jC (fun v=>v) h b aN):gS V.str h b aN:=by obtain ⟨es,clock,ak,al,aI⟩:=H.ex;exact ⟨⟨es,clock,ak,Ql al,aI⟩,H.bG⟩
theorem S7 {s:List UInt8} {x:V}:∀{aN:List (List UInt8 × V)},ij s aN=some x->(s,x) ∈ aN
 | (n,a)::aN,h=>by
   simp only [ij] at h
   split at h
   . rename_i e;rw [aps] at h;subst h;subst e;exact aqb
   . exact apZ _ (S7 h)
theorem S8 {s:List UInt8} {x:V}:∀{aN:List (List UInt8 × V)},(aN.map Prod.fst).Nodup->(s,x) ∈ aN->ij s aN=some x
 | (n,a)::aN,aV,h=>by
   simp only [aqu,aro] at aV;simp only [ij];rcases apJ.1 h with h | h
   . rw [aqD] at h;rw [apz h.1,h.2]
   . rw [apw (fun e=>aV.1 (by rw [<-e];exact List.mem_map.2 ⟨_,h,rfl⟩))];exact S8 aV.2 h
def GP (cs:List bI) (lq:List UInt8 × V) (c:bI):Prop:=dZ lq.1 cs=some c/\∃dq,lq.2=.agg (km c dq)/\hJ dq=some (.int .i64 c.arg.length)/\dq.one=true/\dq.cells=[dq]/\dq.eO=true
theorem jD.range {cs:List bI} {h:ae} {cn:aL} (H:jD cs h cn):∃aN,gS V.str h cn aN/\(∀lq ∈ aN,∃c,GP cs lq c)/\∀c ∈ cs,dZ c.name cs=some c->∃x ∈ aN,x.1=c.name:=by
 obtain ⟨aN,a,n,b⟩:=H.ex;refine ⟨aN,aiQ a,fun ⟨s,x⟩ af=>?_,fun c _ ao=>?_⟩
 . have aa:=S8 n af;have ad:=b s;cases ao:dZ s cs with
   | none=>rw [ao] at ad;rw [show ij s aN=none from ad] at aa;cases aa
   | some c=>
     rw [ao] at ad;obtain ⟨dq,f1,f2⟩:=ad;rw [aa,aps] at f1;exact ⟨c,ao,dq,f1,f2⟩
 . have ad:=b c.name;rw [ao] at ad;obtain ⟨dq,f1,f2⟩:=ad;exact ⟨_,S7 f1,rfl⟩
theorem jD.find {cs:List bI} {h:ae} {cn:aL} (H:jD cs h cn) {s:List UInt8} {c:bI} (ao:dZ s cs=some c):∃dq,gk ja.str.eq (.agg [.str [],.str [],.int .i64 0,.int .i64 0,.bg]) false h (.map cn) (.str s)=some (.agg (km c dq))/\dq.one=true/\dq.cells=[dq]/\dq.eO=true:=by obtain ⟨aN,a,_,b⟩:=H.ex;have aa:=a.look s (.agg lU) false;have ad:=b s;rw [ao] at ad;obtain ⟨dq,f,_,f2⟩:=ad;refine ⟨dq,?_,f2⟩;show gk jh _ _ _ _ _=_;rw [aa,f];rfl
theorem jD.bG {cs:List bI} {h:ae} {cn:aL} (H:jD cs h cn):Old h cn:=by obtain ⟨aN,q,_⟩:=H.ex;exact q.bG
def iP (t:b6) (ty:List UInt8) (c:bI):Bool:=!(decide (c.ty=ty)&&(decide (c.tag=t.n)&&decide (c.arg.length≠t.l.length)))
theorem ahX {cs:List bI} {l:List aQ} {m:List b6} (i0:0<l.length) (i1:1<l.length) (p4:0<m.length) (p5:1<m.length) (aa:l.length=2) (ad:m.length=2):lj cs l m=(jv cs l[0] m[0]&&jv cs l[1] m[1]):=by
 cases l with
 | nil=>simp at i0
 | cons a l=>
   cases l with
   | nil=>simp at i1
   | cons b l=>
     cases m with
     | nil=>simp at p4
     | cons c m=>
       cases m with
       | nil=>simp at p5
       | cons d m=>
         obtain rfl:l=[]:=aqe (by simpa using aa);simp [lj]
theorem ahW {cs:List bI} {l:List aQ} {m:List b6} (i0:0<l.length) (p4:0<m.length) (aa:l.length=1):lj cs l m=jv cs l[0] m[0]:=by
 cases l with
 | nil=>simp at i0
 | cons a l=>
   cases m with
   | nil=>simp at p4
   | cons c m=>
     obtain rfl:l=[]:=aqe (by simpa using aa);simp [lj]
def Hm (cs:List bI) (n:Nat):Prop:=∀(p:aQ),p.size<=n->oI p->oz cs p=true->∀(t:b6) (cn:aL) (gp gQ:V) (h:ae),jD cs h cn->bN Any h p.enc (dL p gp)->bN Any h t.enc (e9 t gQ)->
 eV Tryz.prog 59 [.map cn,.agg (dL p gp),.agg (e9 t gQ)] h (.bool (jv cs p t)) h
theorem amf {cs:List bI} (q3:∀c ∈ cs,dZ c.name cs=some c) {n:Nat} (zW:Hm cs n):Hm cs (n+1):=by
 intro p hq aG ao t cn gp gQ h T X Y;obtain ⟨cB,e,fe,wi⟩:=aQ.open X;obtain rfl:gp=cB:=by simp only [dL,List.cons.injEq] at e;exact e.2.2.2.2.1
 obtain ⟨jw,cC,ou⟩:=b6.open Y;obtain rfl:gQ=jw:=by simp only [e9,List.cons.injEq] at cC;exact cC.2.2.1
 have ol:=fe.one;have iR:=ou.one;have iL:=fe.len;have nU:=ou.len;rw [apG] at iL nU;have db:=ni p.l;have cq:=size_eq p;have Je:=aG.2;obtain ⟨g1,g2,g15,g16,g0,_⟩:=FR aG.2 aG.1;obtain ⟨aa,ak,aK,c8⟩:=fM h (dL p gp);have di:aa.next=h.next+1:=by rw [<-ak];exact f_ _ _
 obtain ⟨ad,al,aS,dv⟩:=fM aa (e9 t gQ);have iO:ad.next=aa.next+1:=by rw [<-al];exact f_ _ _
 have c6:=c8.ext aS;have bA:=aK.trans aS;have r4:=T.ext bA;have av:=LW cs p t;simp only [dL] at ak c8 c6;simp only [e9] at al dv;refine Zh.d rfl ?_;unfold OM;simp only [dL,e9];refine l4 (fun r g=>r 0=.map cn/\r 4=.ptr (aw h.next) 0/\r 5=.ptr (aw aa.next) 0/\ad=g) rfl (cw ?_) fun r g ⟨bh,cL,bT,e⟩=>?_
 . simp +contextual only [ak,al,ol.1,ol.2.1,ol.2.2,iR.1,iR.2.1,iR.2.2,ed,↓an,aF,simprocAttr]
 subst e;rw [Ic];refine l4 (fun r g=>r 0=.map cn/\r 4=.ptr (aw h.next) 0/\r 5=.ptr (aw aa.next) 0/\r 11=.int .i64 p.k/\ad=g) rfl (cw ?_) fun r g ⟨bh,cL,bT,hf,e⟩=>?_
 . simp +contextual only [bh,cL,bT,c6.g,ed,↓an,aF,simprocAttr]
 subst e;rw [Ia];refine l4 (fun r g=>r 0=.map cn/\r 4=.ptr (aw h.next) 0/\r 5=.ptr (aw aa.next) 0/\r 11=.int .i64 p.k/\r 12=.bool (decide (p.k=12))/\ad=g) rfl (cw ?_) fun r g ⟨bh,cL,bT,hf,jR,e⟩=>?_
 . simp +contextual only [bh,cL,bT,hf,ed,↓an,aF,simprocAttr]
 subst e;refine DN (t:=decide (p.k=12)) (by simp only [aT.aP,jR]) (fun z=>?_) (fun z=>?_)
 . have mJ:p.k=12:=by simpa using z
   rw [apz mJ] at av;refine nH rfl (cw ?_);simp +contextual only [bh,cL,bT,hf,dv.g,ed,gU,↓an,aF,simprocAttr];exact ⟨bA,av.symm⟩
 have mJ:¬p.k=12:=by simpa using z
 clear z jR;rw [apw mJ] at av;refine l4 (fun r g=>r 0=.map cn/\r 4=.ptr (aw h.next) 0/\r 5=.ptr (aw aa.next) 0/\r 11=.int .i64 p.k/\r 17=.bool (decide (p.k=13\/p.k=14))/\ad=g) rfl (cw ?_) fun r g ⟨bh,cL,bT,hf,n9,e⟩=>?_
 . by_cases xN:p.k=13
   . simp +contextual only [bh,cL,bT,hf,apC xN,ed,↓an,aF,simprocAttr]
     try simp
   . have tn:(p.k=13)=False:=apy xN;simp +contextual only [bh,cL,bT,hf,tn,ed,↓an,aF,simprocAttr]
     try simp
 subst e;refine DN (t:=decide (p.k=13\/p.k=14)) (by simp only [aT.aP,n9]) (fun z=>?_) (fun z=>?_)
 . have xN:p.k=13\/p.k=14:=by simpa using z
   rw [apz xN] at av;refine nH rfl (cw ?_);by_cases bR:t.k=2
   . have g3:(t.k=2)=True:=apC bR;rw [aqf bR,ap6] at av;have bk:((t.l.length:Int)=0)=(t.l.length=0):=by apply propext;omega
     simp +contextual only [bh,cL,bT,hf,dv.g,nU,g3,ed,gU,↓an,aF,simprocAttr];refine ⟨bA,?_⟩;rw [av]
     try congr 1
     all_goals try simp
   . have g3:(t.k=2)=False:=apy bR;rw [aqj bR,ap7] at av;simp +contextual only [bh,cL,bT,hf,dv.g,nU,g3,ed,gU,↓an,aF,simprocAttr];exact ⟨bA,by rw [av]⟩
 have xN:¬(p.k=13\/p.k=14):=by simpa using z
 clear z n9;rw [apw xN] at av;refine l4 (fun r g=>r 0=.map cn/\r 4=.ptr (aw h.next) 0/\r 5=.ptr (aw aa.next) 0/\r 11=.int .i64 p.k/\r 29=.bool (decide (p.k=15))/\ad=g) rfl (cw ?_) fun r g ⟨bh,cL,bT,hf,iV,e⟩=>?_
 . simp +contextual only [bh,cL,bT,hf,ed,↓an,aF,simprocAttr]
 subst e;have call:∀(G:ae) (i j:Nat) (ax:i<p.l.length) (bp:j<t.l.length) (jU zB:V),Ext h G->bN Any h p.l[i].enc (dL p.l[i] jU)->bN Any h t.l[j].enc (e9 t.l[j] zB)->c9 Tryz.prog 59 [.map cn,.agg (dL p.l[i] jU),.agg (e9 t.l[j] zB)] G fun x ab=>x=.bool (jv cs p.l[i] t.l[j])/\G=ab:=fun G i j ax bp jU zB E Df M_=>by have dI:p.l[i] ∈ p.l:=ap1 ax;have q9:=uA dI;exact ⟨_,_,zW p.l[i] (by omega) (Ei aG dI) (Pp ao dI) t.l[j] cn jU zB G (T.ext E) (Df.ext E) (M_.ext E),rfl,rfl⟩
 refine DN (t:=decide (p.k=15)) (by simp only [aT.aP,iV]) (fun z=>?_) (fun z=>?_)
 . have DB:p.k=15:=by simpa using z
   rw [apz DB] at av;have kB:=(g15 DB).1;refine nH rfl (cw ?_);by_cases bR:t.k=2
   . have g3:(t.k=2)=True:=apC bR;rw [aqf bR,ap6] at av;by_cases c3:t.l.length=2
     . have g4:((t.l.length:Int)=2)=True:=apC (by omega);rw [aqf c3,ap6] at av;have i0:0<p.l.length:=by omega
       have i1:1<p.l.length:=by omega
       have p4:0<t.l.length:=by omega
       have p5:1<t.l.length:=by omega
       have aB:=ahX (cs:=cs) i0 i1 p4 p5 kB c3;obtain ⟨ow,gE,v0,J',Hp,Xf,g_,_⟩:=aQ.oX fe (k:=.i64) i0;obtain ⟨b8,cX,v1,sK,hh,anH,dJ,_⟩:=aQ.oX fe (k:=.i64) i1;obtain ⟨cg,ck,v2,wu,r5,Xg,wD⟩:=b6.lh ou (k:=.i64) p4;obtain ⟨eM,kK,v3,sM,Xc,anI,nW⟩:=b6.lh ou (k:=.i64) p5;have d0:=g_ ad bA;have d1:=dJ ad bA;have d2:=wD ad bA;have d3:=nW ad bA;have jK:=call ad 0 0 i0 p4 v0 v2 bA Hp r5;have b7:=call ad 1 1 i1 p5 v1 v3 bA hh Xc;simp only [dL,e9] at jK b7;have sJ:fK 5 gp (.int .i64 0)=some (.ptr ow (gE+0 * 5)):=J';have mh:fK 5 gp (.int .i64 1)=some (.ptr b8 (cX+1 * 5)):=sK;have sL:fK 3 gQ (.int .i64 0)=some (.ptr cg (ck+0 * 3)):=wu;have BC:fK 3 gQ (.int .i64 1)=some (.ptr eM (kK+1 * 3)):=sM;generalize gE+0 * 5=z0 at sJ d0;generalize cX+1 * 5=bJ at mh d1;generalize ck+0 * 3=z2 at sL d2;generalize kK+1 * 3=z3 at BC d3;simp +contextual only [bh,cL,bT,hf,c6.g,dv.g,nU,g3,g4,sJ,mh,sL,BC,d0,d1,d2,d3,ed,gU,↓an,aF,simprocAttr];refine cu jK ?_;rintro x G ⟨rfl,e⟩;subst e;cases uk:jv cs p.l[0] t.l[0] with
       | true=>
         simp +contextual only [bh,cL,bT,hf,c6.g,dv.g,nU,g3,g4,sJ,mh,sL,BC,d0,d1,d2,d3,ed,gU,↓an,aF,simprocAttr];refine cu b7 ?_;rintro x G ⟨rfl,e⟩;subst e;simp +contextual only [bh,cL,bT,hf,c6.g,dv.g,nU,g3,g4,sJ,mh,sL,BC,d0,d1,d2,d3,ed,gU,↓an,aF,simprocAttr];refine ⟨bA,?_⟩;rw [av,aB,uk,ap6]
       | false=>
         simp +contextual only [bh,cL,bT,hf,c6.g,dv.g,nU,g3,g4,sJ,mh,sL,BC,d0,d1,d2,d3,ed,gU,↓an,aF,simprocAttr];refine ⟨bA,?_⟩;rw [av,aB,uk,ap7]
     . have g4:((t.l.length:Int)=2)=False:=apy (by omega);rw [aqj c3,ap7] at av;simp +contextual only [bh,cL,bT,hf,c6.g,dv.g,nU,g3,g4,ed,gU,↓an,aF,simprocAttr];exact ⟨bA,by rw [av]⟩
   . have g3:(t.k=2)=False:=apy bR;rw [aqj bR,ap7] at av;simp +contextual only [bh,cL,bT,hf,c6.g,dv.g,nU,g3,ed,gU,↓an,aF,simprocAttr];exact ⟨bA,by rw [av]⟩
 have DB:¬p.k=15:=by simpa using z
 clear z iV;rw [apw DB] at av;refine l4 (fun r g=>r 0=.map cn/\r 4=.ptr (aw h.next) 0/\r 5=.ptr (aw aa.next) 0/\r 11=.int .i64 p.k/\r 64=.bool (decide (p.k=16))/\ad=g) rfl (cw ?_) fun r g ⟨bh,cL,bT,hf,Cm,e⟩=>?_
 . simp +contextual only [bh,cL,bT,hf,ed,↓an,aF,simprocAttr]
 subst e;refine DN (t:=decide (p.k=16)) (by simp only [aT.aP,Cm]) (fun z=>?_) (fun z=>?_)
 rotate_left
 . have mK:¬p.k=16:=by simpa using z
   rw [apw mK] at av;refine nH rfl (cw ?_);simp +contextual only [bh,cL,bT,hf,ed,gU,↓an,aF,simprocAttr];refine nH rfl (cw ?_);simp +contextual only [bh,cL,bT,hf,ed,gU,↓an,aF,simprocAttr];exact ⟨bA,av.symm⟩
 have mK:p.k=16:=by simpa using z
 clear z Cm;rw [apz mK] at av;obtain ⟨c,Ev,aoa⟩:=Po ao mK;obtain ⟨dq,Vw,kc⟩:=r4.find Ev;have aeO:kV cs p.s=c.tag:=by unfold kV;rw [Ev]
 have aeR:kW cs p.s=c.ty:=by unfold kW;rw [Ev]
 rw [aeO,aeR] at av;obtain ⟨aJ,aI,bU,Mo⟩:=fw ad lU (km c dq);have n3:aJ.next=ad.next+1:=by rw [<-aI];rfl
 simp only [km] at Vw aI Mo;have e0:=c6.ext bU;have mz:=dv.ext bU;have fU:=bA.trans bU;refine l4 (fun r g=>r 0=.map cn/\r 4=.ptr (aw h.next) 0/\r 5=.ptr (aw aa.next) 0/\r 7=.ptr (aw ad.next) 0/\aJ=g) rfl (cw ?_) fun r g ⟨bh,cL,bT,cY,e⟩=>?_
 . simp +contextual only [bh,cL,bT,hf,c6.g,Vw,aI,kc.1,kc.2.1,kc.2.2,ed,↓an,aF,simprocAttr]
 subst e;refine l4 (fun r g=>r 0=.map cn/\r 4=.ptr (aw h.next) 0/\r 5=.ptr (aw aa.next) 0/\r 7=.ptr (aw ad.next) 0/\t.k=2/\aJ=g) rfl (cw ?_) fun r g ⟨bh,cL,bT,cY,bR,e⟩=>?_
 . by_cases bR:t.k=2
   . have g3:(t.k=2)=True:=apC bR;simp +contextual only [bh,cL,bT,cY,mz.g,g3,ed,↓an,aF,simprocAttr]
   . have g3:(t.k=2)=False:=apy bR;rw [aqj bR,ap7] at av;simp +contextual only [bh,cL,bT,cY,mz.g,g3,ed,gU,↓an,aF,simprocAttr];exact ⟨fU,by rw [av]⟩
 subst e;rw [aqf bR,ap6] at av;have Hn:=r4.ext bU;obtain ⟨aN,Hc,I7,Ew⟩:=Hn.range;obtain ⟨cT,bJ,RK⟩:=Hc.range;have xW:Ext aJ (aJ.new cT):=(Ext.refl aJ).new cT;rw [Ic];refine PY rfl (cw ?_);simp +contextual only [bh,bJ,ed,↓mw,↓an,aF,simprocAttr];rw [Ia];refine PW (fun r G=>r 0=.map cn/\r 4=.ptr (aw h.next) 0/\r 5=.ptr (aw aa.next) 0/\r 7=.ptr (aw ad.next) 0/\r 74=.ptr (aw aJ.next) 0/\Ext aJ G/\∃hK,nB V.str G cn aJ.next aN hK/\(∀x ∈ hK,x ∈ aN)/\∀d ∈ cs,(∃x ∈ hK,x.1=d.name)\/iP t c.ty d=true) (fun r G=>Gc aN cn aJ.next G) ?_ ?_
 . exact ⟨by simp only [bh,↓an,bH,simprocAttr],by simp only [cL,↓an,bH,simprocAttr],by simp only [bT,↓an,bH,simprocAttr],by simp only [cY,↓an,bH,simprocAttr],by simp only [↓an,bH,simprocAttr],xW,aN,RK,fun x aj=>aj,fun d aH=>.inl (Ew d aH (q3 d aH))⟩
 clear RK bh cL bT cY xW bJ;rintro r G ⟨bh,cL,bT,cY,zd,tQ,hK,RK,wj,Ex⟩;unfold ON;have mx:=e0.ext tQ;have zI:=mz.ext tQ;have zL:=Mo.ext tQ;refine PX ?_;rw [zd];refine RK.next (fun uc=>?_) fun lq JN jA p9 Rq Da aR J0 adq rV ue=>?_
 . have cW:cs.all (iP t c.ty)=true:=by
    rw [apU];intro d aH;rcases Ex d aH with ⟨x,aj,_⟩ | z
    . rw [uc] at aj;cases aj
    . exact z
   have adb:cs.all (fun d=>!(decide (d.ty=c.ty)&&(decide (d.tag=t.n)&&decide (d.arg.length≠t.l.length))))=true:=cW;rw [adb,ap6] at av;refine nH rfl (cw ?_);simp +contextual only [bh,cL,bT,cY,zd,ed,vn,↓an,aF,simprocAttr];refine nH rfl (cw ?_);have xk:=fU.trans tQ;by_cases qN:t.n=c.tag
   . have g3:(t.n=c.tag)=True:=apC qN;by_cases sh:p.l.length=1
     . have g4:((p.l.length:Int)=1)=True:=apC (by omega);rw [apz ⟨qN,sh⟩] at av;have hY:iP t c.ty c=true:=apU.1 cW c (H0 Ev).1;have rh:t.l.length=1:=by
        simp only [iP,aq3,ap6,qN,aqh,aql,ne_eq,Decidable.not_not] at hY;omega
       have i0:0<p.l.length:=by omega
       have p4:0<t.l.length:=by omega
       rw [ahW i0 p4 sh] at av;obtain ⟨ow,gE,v0,J',Hp,Xf,g_,_⟩:=aQ.oX fe (k:=.i64) i0;obtain ⟨cg,ck,v2,wu,r5,Xg,wD⟩:=b6.lh ou (k:=.i64) p4;have d0:=g_ G xk;have d2:=wD G xk;have jK:=call G 0 0 i0 p4 v0 v2 xk Hp r5;simp only [dL,e9] at jK;have sJ:fK 5 gp (.int .i64 0)=some (.ptr ow (gE+0 * 5)):=J';have sL:fK 3 gQ (.int .i64 0)=some (.ptr cg (ck+0 * 3)):=wu;generalize gE+0 * 5=z0 at sJ d0;generalize ck+0 * 3=z2 at sL d2;simp +contextual only [bh,cL,bT,cY,mx.g,zI.g,zL.g,iL,g3,g4,sJ,sL,d0,d2,ed,gU,↓an,aF,simprocAttr];refine cu jK ?_;rintro x og ⟨rfl,e⟩;subst e;simp +contextual only [bh,cL,bT,cY,mx.g,zI.g,zL.g,iL,g3,g4,sJ,sL,d0,d2,ed,gU,↓an,aF,simprocAttr];exact ⟨xk,by rw [av]⟩
     . have g4:((p.l.length:Int)=1)=False:=apy (by omega);rw [apw (fun z=>sh z.2)] at av;simp +contextual only [bh,cL,bT,cY,mx.g,zI.g,zL.g,iL,g3,g4,ed,gU,↓an,aF,simprocAttr];refine nH rfl (cw ?_);simp +contextual only [ed,gU,↓an,aF,simprocAttr];exact ⟨xk,by rw [av]⟩
   . have g3:(t.n=c.tag)=False:=apy qN;rw [apw (fun z=>qN z.1)] at av;simp +contextual only [bh,cL,bT,cY,mx.g,zI.g,zL.g,iL,g3,ed,gU,↓an,aF,simprocAttr];refine nH rfl (cw ?_);simp +contextual only [ed,gU,↓an,aF,simprocAttr];exact ⟨xk,by rw [av]⟩
 . obtain ⟨d,Rl,VM,Rn,EB,o2⟩:=I7 lq (wj lq JN);have aH:=H0 Rl;have aoK:∀b n,n<aJ.next->b=aw n->¬b=aw aJ.next:=fun b n aV e z=>by rw [e,mr] at z;omega
   have Ml:=mx.mod rV fun z=>by rw [mr] at z;omega
   have Wb:=zI.mod rV fun z=>by rw [mr] at z;omega
   have We:=zL.mod rV fun z=>by rw [mr] at z;omega
   have AF:Ext aJ jA:=tQ.nZ rV fun b z=>by rw [z,c1];exact apv _
   obtain ⟨aky,fS⟩:=lq;simp only at Rn;subst Rn;simp only [km] at Rq;obtain ⟨qC,cG,dP,qy⟩:=fw jA lU (km d VM);simp only [km] at cG qy;have ant:=Ml.ext dP;have CG:=Wb.ext dP;have CI:=We.ext dP;have Db:=Da.ext dP;have DO:=AF.trans dP;have ED:so (.ptr (aw aJ.next) 0) jA=.val (.tuple [.str aky,.agg [.str d.name,.str d.ty,.int .i64 d.tag,.int .i64 d.par,VM]]) jA:=Rq;refine nH rfl (cw ?_);have cm:iP t c.ty d=true->∀jf ∈ cs,(∃x ∈ p9,x.1=jf.name)\/iP t c.ty jf=true:=fun bz jf Ey=>by
    rcases Ex jf Ey with ⟨x,aj,wo⟩ | z
    . rcases adq x aj with rfl | gA
      . refine .inr ?_;have aK:=q3 jf Ey;rw [<-wo,Rl,aps] at aK;rw [<-aK];exact bz
      . exact .inl ⟨x,gA,wo⟩
    . exact .inr z
   have BB:=Gb Db;have BA:=Gb RK;have fin:iP t c.ty d=false->jv cs p t=false:=fun bz=>by
    rw [av];have:cs.all (fun d=>!(decide (d.ty=c.ty)&&(decide (d.tag=t.n)&&decide (d.arg.length≠t.l.length))))=false:=by rw [arq];exact ⟨d,aH.1,by show ¬iP t c.ty d=true;rw [bz];simp⟩
    rw [this,ap7]
   by_cases bF:d.ty=c.ty
   . have dz:(d.ty=c.ty)=True:=apC bF;by_cases hy:d.tag=t.n
     . have fo:(d.tag=t.n)=True:=apC hy;by_cases pb:d.arg.length=t.l.length
       . have y3:((d.arg.length:Int)=(t.l.length:Int))=True:=apC (by omega);have bz:iP t c.ty d=true:=by simp [iP,pb]
         simp +contextual only [bh,cL,bT,cY,zd,ED,o2.1,o2.2.1,o2.2.2,cG,qy.g,CG.g,CI.g,dz,fo,y3,EB,nU,ed,vn,↓mw,↓an,aF,simprocAttr];exact ⟨⟨DO,p9,Db,fun x aj=>wj x (J0 x aj),cm bz⟩,by rw [BB,BA];exact aR⟩
       . have y3:((d.arg.length:Int)=(t.l.length:Int))=False:=apy (by omega);have bz:iP t c.ty d=false:=by simp [iP,bF,hy,pb]
         simp +contextual only [bh,cL,bT,cY,zd,ED,o2.1,o2.2.1,o2.2.2,cG,qy.g,CG.g,CI.g,dz,fo,y3,EB,nU,ed,gU,vn,↓mw,↓an,aF,simprocAttr];exact ⟨fU.trans DO,by rw [fin bz]⟩
     . have fo:(d.tag=t.n)=False:=apy hy;have bz:iP t c.ty d=true:=by simp [iP,hy]
       simp +contextual only [bh,cL,bT,cY,zd,ED,o2.1,o2.2.1,o2.2.2,cG,qy.g,CG.g,CI.g,dz,fo,EB,nU,ed,vn,↓mw,↓an,aF,simprocAttr];exact ⟨⟨DO,p9,Db,fun x aj=>wj x (J0 x aj),cm bz⟩,by rw [BB,BA];exact aR⟩
   . have dz:(d.ty=c.ty)=False:=apy bF;have bz:iP t c.ty d=true:=by simp [iP,bF]
     simp +contextual only [bh,cL,bT,cY,zd,ED,o2.1,o2.2.1,o2.2.2,cG,qy.g,CG.g,CI.g,dz,EB,nU,ed,vn,↓mw,↓an,aF,simprocAttr];exact ⟨⟨DO,p9,Db,fun x aj=>wj x (J0 x aj),cm bz⟩,by rw [BB,BA];exact aR⟩
theorem Vn {cs:List bI} (q3:∀c ∈ cs,dZ c.name cs=some c):∀n,Hm cs n
 | 0=>fun p hq=>by have:=o6 p;omega
 | n+1=>amf q3 (Vn q3 n)
theorem DD {len i:Nat} {c:dt} (k:c.kind=1) (h:c.yes<=i\/c.no<=i\/(len:Int)<=c.yes\/(len:Int)<=c.no):nD len i c=false:=by unfold nD;rw [apz k];rcases h with h | h | h | h<;>simp [h]
theorem ZT {len i:Nat} {c:dt} (k:c.kind=1) (aa:¬c.yes<=i) (ad:¬c.no<=i) (aJ:¬(len:Int)<=c.yes) (bu:¬(len:Int)<=c.no):nD len i c=true:=by unfold nD;rw [apz k];simp [aa,ad,aJ,bu]
theorem Pc {len i:Nat} {c:dt} (k:c.kind=2\/c.kind=3):nD len i c=true:=by unfold nD;rw [apw (by omega)];rcases k with k | k<;>simp [k]
theorem ZV {len i:Nat} {c:dt} (b7:¬c.kind=1) (cj:¬c.kind=2) (ei:¬c.kind=3):nD len i c=false:=by unfold nD;rw [apw b7];simp [cj,ei]
theorem amq (d:List dt) (v:V) (h:ae) (H:b0 Any h 7 (d.map dt.enc) v):c9 Tryz.prog 56 [v] h fun x ab=>x=.bool (pB d)/\Ext h ab:=by
 have aA:=H.len;have hle:=H.le;rw [apG] at aA hle;refine Ze.z rfl (cw ?_);unfold OG;simp +contextual only [aA,↓an,aF,simprocAttr];refine gl (fun r g=>r 0=v/\r 5=v/\r 6=.int .i64 d.length/\∃i:Nat,r 7=.int .i64 i/\i<=d.length/\Ext h g/\pA d.length i (d.drop i)=pA d.length 0 d) (fun r g=>d.length - (r 7).toN) ?_ ?_
 . exact ⟨by simp only [↓an,bH,simprocAttr],by simp only [↓an,bH,simprocAttr],by simp only [↓an,bH,simprocAttr],0,by simp only [↓an,bH,simprocAttr]<;>rfl,by omega,Ext.refl h,by rw [aqy]⟩
 rintro r g ⟨bh,bT,eU,i,rc,ax,E,cW⟩;unfold OH;have jB:=H.ext E;by_cases aR:i<d.length
 . have g0:((i:Int) < (d.length:Int))=True:=apC (by omega);obtain ⟨b,off,jx,cr,xC,ld⟩:=dt.at jB (k:=.i64) aR;have g_:=ld g (Ext.refl g);have h3:=xC.one;have dU:=h8 aR (by unfold top at hle;omega);obtain ⟨g1,dz,bF,B⟩:=fw g [.int .i64 0,.int .i64 0,.bg,.bool false,.int .i64 0,.int .i64 0,.int .i64 0] [.int .i64 d[i].kind,.int .i64 d[i].row,jx,.bool d[i].num,.int .i64 d[i].n,.int .i64 d[i].yes,.int .i64 d[i].no];have X:=E.trans bF;rw [ap0 aR,pA] at cW;have bad:nD d.length i d[i]=false->pB d=false:=fun q=>by
    rw [q,ap7] at cW;rw [pB,<-cW,ap7]
   have eO:nD d.length i d[i]=true->pA d.length (i+1) (d.drop (i+1))=pA d.length 0 d:=fun q=>by rw [q,ap6] at cW;exact cW
   by_cases b7:d[i].kind=1
   . have bJ:=apC b7;by_cases bD:d[i].yes<=i
     . have ah:=bad (DD b7 (.inl bD));rw [ah];simp +contextual only [bh,bT,eU,rc,g0,cr,g_,dz,B.g,aA,h3.1,h3.2.1,dU,bJ,apC bD,↓an,aF,simprocAttr];exact X
     by_cases a2:d[i].no<=i
     . have ah:=bad (DD b7 (.inr (.inl a2)));rw [ah];simp +contextual only [bh,bT,eU,rc,g0,cr,g_,dz,B.g,aA,h3.1,h3.2.1,dU,bJ,apy bD,apC a2,↓an,aF,simprocAttr];exact X
     by_cases a3:(d.length:Int)<=d[i].yes
     . have ah:=bad (DD b7 (.inr (.inr (.inl a3))));rw [ah];simp +contextual only [bh,bT,eU,rc,g0,cr,g_,dz,B.g,aA,h3.1,h3.2.1,dU,bJ,apy bD,apy a2,apC a3,↓an,aF,simprocAttr];exact X
     by_cases a4:(d.length:Int)<=d[i].no
     . have ah:=bad (DD b7 (.inr (.inr (.inr a4))));rw [ah];simp +contextual only [bh,bT,eU,rc,g0,cr,g_,dz,B.g,aA,h3.1,h3.2.1,dU,bJ,apy bD,apy a2,apy a3,apC a4,↓an,aF,simprocAttr];exact X
     . have aG:=eO (ZT b7 bD a2 a3 a4);simp +contextual only [bh,bT,eU,rc,g0,cr,g_,dz,B.g,aA,h3.1,h3.2.1,dU,bJ,apy bD,apy a2,apy a3,apy a4,↓an,aF,simprocAttr];exact ⟨⟨i+1,rfl,aR,X,aG⟩,by omega⟩
   have bJ:=apy b7;by_cases cj:d[i].kind=2
   . have aG:=eO (Pc (.inl cj));simp +contextual only [bh,bT,eU,rc,g0,cr,g_,dz,B.g,aA,h3.1,h3.2.1,dU,bJ,apC cj,↓an,aF,simprocAttr];exact ⟨⟨i+1,rfl,aR,X,aG⟩,by omega⟩
   by_cases ei:d[i].kind=3
   . have aG:=eO (Pc (.inr ei));simp +contextual only [bh,bT,eU,rc,g0,cr,g_,dz,B.g,aA,h3.1,h3.2.1,dU,bJ,apy cj,apC ei,↓an,aF,simprocAttr];exact ⟨⟨i+1,rfl,aR,X,aG⟩,by omega⟩
   . have ah:=bad (ZV b7 cj ei);rw [ah];simp +contextual only [bh,bT,eU,rc,g0,cr,g_,dz,B.g,aA,h3.1,h3.2.1,dU,bJ,apy cj,apy ei,↓an,aF,simprocAttr];exact X
 . have g0:((i:Int) < (d.length:Int))=False:=apy (by omega);rw [aqv (by omega),pA] at cW;have aH:pB d=decide (0<d.length):=by rw [pB,<-cW,ap6]
   rw [aH];by_cases bk:(0:Int) < (d.length:Int)
   . simp +contextual only [bh,bT,eU,rc,g0,aA,apC bk,↓an,aF,simprocAttr]
     first | exact E | exact ⟨by simp [show 0<d.length by omega],E⟩
   . simp +contextual only [bh,bT,eU,rc,g0,aA,apy bk,↓an,aF,simprocAttr]
     first | exact E | exact ⟨by simp [show ¬0<d.length by omega],E⟩
def L7 (p:Int × Int × Int):V:=.tuple [.int .i64 p.1,.int .i64 p.2.1,.int .i64 p.2.2]
theorem Pg {len:Nat}:∀{l:List dt} {k:Nat},pA len k l=true->∀(i:Nat) (h:i<l.length),nD len (k+i) l[i]=true
 | c::l,k,q,0,_=>by simp only [pA,apq] at q;exact q.1
 | c::l,k,q,i+1,h=>by simp only [pA,apq] at q;have:=Pg q.2 i (by simpa using h);rw [show k + (i+1)=k+1+i by omega];exact this
theorem aat {d:List dt} (h:pB d=true) (i:Nat) (ax:i<d.length):(d[i].kind=1/\(i:Int)<d[i].yes/\d[i].yes<d.length/\(i:Int)<d[i].no/\d[i].no<d.length)\/d[i].kind=2\/d[i].kind=3:=by
 unfold pB at h;simp only [apq] at h;have:=Pg h.1 i ax;rw [apW] at this;unfold nD at this
 split at this
 . rename_i k;left;simp only [aqh,aq5,aql] at this;omega
 . right;simpa using this
theorem aau {d:List dt} (h:pB d=true):0<d.length:=by unfold pB at h;simp only [apq,apF] at h;exact h.2
theorem Vx (d:List dt) (t:b6) (v:V) (ag:List V) (h:ae) (c_:b0 Any h 7 (d.map dt.enc) v) (H:bN Any h t.enc ag):c9 Tryz.prog 30 [v,.agg ag] h fun x ab=>x=L7 (vD d t)/\Ext h ab:=by
 obtain ⟨cB,rfl,L⟩:=b6.open H;have ol:=L.one;have aA:=c_.len;have hle:=c_.le;rw [List.length_map] at aA hle;refine Y6.z rfl (cw ?_);unfold Oq;obtain ⟨aa,ak,aK,c8⟩:=fM h [.int .i64 t.k,.int .i64 t.n,cB];simp +contextual only [ol.1,ol.2.1,ak,↓an,aF,simprocAttr];refine cu (amq d v aa (c_.ext aK)) ?_;rintro x ad ⟨rfl,aS⟩;have c6:=c8.ext aS;cases A4:pB d with
 | false=>
   simp +contextual only [↓an,aF,simprocAttr];exact ⟨by rw [vD,A4,ap7,apw (by simp)];rfl,aK.trans aS⟩
 | true=>
 simp +contextual only [c6.g,↓an,aF,simprocAttr];refine cu (L3 t.size t (apv _) _ ad (H.ext (aK.trans aS))) ?_;rintro x aJ ⟨rfl,bU⟩;have e0:=c6.ext bU;have fU:=(aK.trans aS).trans bU;cases sB:rp t with
 | false=>
   simp +contextual only [↓an,aF,simprocAttr];exact ⟨by rw [vD,A4,sB,ap6,apw (by simp)];rfl,fU⟩
 | true=>
 have vQ:vD d t=x8 d t d.length 0 0:=by rw [vD,A4,sB,ap6,apz rfl]
 rw [vQ];have sE:=aau A4;obtain ⟨b,off,jx,cr,xC,ld⟩:=dt.at (c_.ext fU) (k:=.i64) sE;simp only [arE,aqC] at cr ld;have g_:=ld aJ (Ext.refl aJ);obtain ⟨bu,bB,b9,lV⟩:=fw aJ [.int .i64 0,.int .i64 0,.bg,.bool false,.int .i64 0,.int .i64 0,.int .i64 0] [.int .i64 d[0].kind,.int .i64 d[0].row,jx,.bool d[0].num,.int .i64 d[0].n,.int .i64 d[0].yes,.int .i64 d[0].no];rw [show ((0:Nat):Int)=0 from rfl] at cr;have fh:=ld _ ((Ext.refl aJ).new (.bQ [.int .i64 0,.int .i64 0,.bg,.bool false,.int .i64 0,.int .i64 0,.int .i64 0] 0 false));rw [hV] at fh;have n3:=e0.lt;have h3:=xC.one;simp +contextual only [cr,g_,fh,bB,h3.1,h3.2.1,↓an,aF,simprocAttr];have cD:∀b,Old h b->b≠aw aJ.next:=fun b q e=>by
  unfold Old at q;rw [e,c1] at q;have:=fU.next
  omega
 refine gl (fun r g=>r 0=v/\r 3=.ptr (aw h.next) 0/\r 8=.ptr (aw aJ.next) 0/\∃(i asked AP:Nat) (jx:V),r 7=.int .i64 asked/\asked<=i/\∃ax:i<d.length,d.length<=AP+i/\x8 d t AP i asked=x8 d t d.length 0 0/\
  Has g h.next [.int .i64 t.k,.int .i64 t.n,cB]/\Has g aJ.next [.int .i64 d[i].kind,.int .i64 d[i].row,jx,.bool d[i].num,.int .i64 d[i].n,.int .i64 d[i].yes,.int .i64 d[i].no]/\b0 (Old h) g 1 (d[i].path.map gb) jx/\b0 (Old h) g 7 (d.map dt.enc) v/\bN (Old h) g t.enc [.int .i64 t.k,.int .i64 t.n,cB]/\Ext h g) (fun r g=>d.length - (r 7).toN) ?_ ?_
 . refine ⟨by simp only [↓an,bH,simprocAttr],by simp only [↓an,bH,simprocAttr],by simp only [↓an,bH,simprocAttr],0,0,d.length,jx,by simp only [↓an,bH,simprocAttr]<;>rfl,by omega,sE,by omega,rfl,e0.ext b9,lV,?_,(c_.rv.ext fU).ext b9,(H.rv.ext fU).ext b9,fU.trans b9⟩;obtain ⟨bL,kL,apa,jI,WU,wC⟩:=dt.at (c_.rv.ext fU) (k:=.i64) sE;simp only [arE,aqC] at jI wC;rw [show ((0:Nat):Int)=0 from rfl,cr] at jI;simp only [aps,V.ptr.injEq] at jI;have q:=wC aJ (Ext.refl aJ);rw [<-jI.1,<-jI.2,g_] at q;simp only [aps,V.agg.injEq,ary,and_true,arj] at q;rw [q];exact WU.ext b9
 rintro r g ⟨bh,ct,ch,i,asked,AP,jx,cY,an',ax,Ru,cm,A,B,xC,jB,xF,E⟩;unfold Ot;obtain ⟨qV,rfl⟩:∃qV,AP=qV+1:=⟨AP-1,by omega⟩;rw [x8,apr ax] at cm;simp only at cm;rcases aat A4 i ax with ⟨b7,dz,fo,y3,y4⟩ | cj | ei
 rotate_left
 . rw [apz cj] at cm;by_cases aC:d[i].row<0
   . rw [apz aC] at cm;simp +contextual only [bh,ct,ch,cY,B.g,cj,apC cj,apC aC,apy (show ¬d[i].kind=1 by omega),apy (show ¬d[i].kind=3 by omega),↓an,aF,simprocAttr];exact ⟨by rw [<-cm];rfl,E⟩
   . rw [apw aC] at cm;simp +contextual only [bh,ct,ch,cY,B.g,cj,apC cj,apy aC,apy (show ¬d[i].kind=1 by omega),apy (show ¬d[i].kind=3 by omega),↓an,aF,simprocAttr];exact ⟨by rw [<-cm];rfl,E⟩
 . rw [apw (by omega),apz ei] at cm;simp +contextual only [bh,ct,ch,cY,B.g,ei,apy (show ¬d[i].kind=2 by omega),apy (show ¬d[i].kind=1 by omega),apC ei,↓an,aF,simprocAttr];exact ⟨by rw [<-cm];rfl,E⟩
 rw [apw (by omega),apw (by omega)] at cm;have bJ:=apC b7;have z2:=apy (show ¬d[i].kind=2 by omega);have z3:=apy (show ¬d[i].kind=3 by omega);have dU:=h8 (show asked<d.length by omega) (by unfold top at hle;omega);have aow:=jB.len;cases ER:d[i].num with
 | true=>
   simp +contextual only [bh,ct,ch,cY,B.g,A.g,bJ,z2,z3,ER,↓an,aF,simprocAttr];refine cu (Vv t d[i].path _ jx g (xF.gR fun _ _=>trivial) (xC.gR fun _ _=>trivial)) ?_;rintro x g1 ⟨us,rfl,U,bF⟩;obtain ⟨ul,rfl,Ho⟩:=b6.open U;have lv:=Ho.one;obtain ⟨g2,bx,hy,lW⟩:=fw g1 [.int .i64 0,.int .i64 0,.bg] [.int .i64 ((mI t d[i].path).getD zD).k,.int .i64 ((mI t d[i].path).getD zD).n,ul];have X:=bF.trans hy;have dv:=B.ext X;have rL:=A.ext X;rw [ER] at cm dv;cases fI:mI t d[i].path with
   | none=>
     rw [fI] at cm bx lW;simp +contextual only [bh,ct,ch,cY,bx,dv.g,lW.g,lv.1,lv.2.1,Option.isSome_none,↓an,aF,simprocAttr];exact ⟨by rw [<-cm];rfl,E.trans X⟩
   | some u=>
     rw [fI] at cm bx lW;simp only [apX] at cm bx lW;by_cases aB:u.k=1
     rotate_left
     . rw [apw (by simpa using aB)] at cm;simp +contextual only [bh,ct,ch,cY,bx,dv.g,lW.g,lv.1,lv.2.1,aqK,apX,apy aB,↓an,aF,simprocAttr];exact ⟨by rw [<-cm];rfl,E.trans X⟩
     rw [apz (by simpa using aB)] at cm;have nM:¬Old h (aw aJ.next):=fun q=>cD _ q rfl;have ai_:g1.next≠aJ.next:=by have:=(B.ext bF).lt;omega
     by_cases aV:u.n=d[i].n
     . rw [apz aV] at cm;obtain ⟨j,bp⟩:=aqE (show 0<=d[i].yes by omega);rw [bp] at cm dz fo;simp only [apx] at cm;have fE:j<d.length:=by omega
       obtain ⟨eM,KZ,xd,sM,pj,nW⟩:=dt.at (jB.ext X) (k:=.i64) fE;have wE:=nW g2 (Ext.refl g2);have qg:=pj.one;simp +contextual only [bh,ct,ch,cY,bx,dv.g,lW.g,rL.g,lv.1,lv.2.1,aqK,apX,apC aB,apC aV,bp,sM,wE,dU,qg.1,qg.2.1,↓an,aF,simprocAttr];exact ⟨⟨j,asked+1,qV,xd,rfl,by omega,fE,by omega,cm,rL.set (by omega) _,dv.put _,pj.set nM _,(jB.ext X).set nM _,(xF.ext X).set nM _,(E.trans X).set (by omega) _⟩,by omega⟩
     . rw [apw aV] at cm;obtain ⟨j,bp⟩:=aqE (show 0<=d[i].no by omega);rw [bp] at cm y3 y4;simp only [apx] at cm;have fE:j<d.length:=by omega
       obtain ⟨eM,KZ,xd,sM,pj,nW⟩:=dt.at (jB.ext X) (k:=.i64) fE;have wE:=nW g2 (Ext.refl g2);have qg:=pj.one;simp +contextual only [bh,ct,ch,cY,bx,dv.g,lW.g,rL.g,lv.1,lv.2.1,aqK,apX,apC aB,apy aV,bp,sM,wE,dU,qg.1,qg.2.1,↓an,aF,simprocAttr];exact ⟨⟨j,asked+1,qV,xd,rfl,by omega,fE,by omega,cm,rL.set (by omega) _,dv.put _,pj.set nM _,(jB.ext X).set nM _,(xF.ext X).set nM _,(E.trans X).set (by omega) _⟩,by omega⟩
 | false=>
   simp +contextual only [bh,ct,ch,cY,B.g,A.g,bJ,z2,z3,ER,↓an,aF,simprocAttr];refine cu (Vv t d[i].path _ jx g (xF.gR fun _ _=>trivial) (xC.gR fun _ _=>trivial)) ?_;rintro x g1 ⟨us,rfl,U,bF⟩;obtain ⟨ul,rfl,Ho⟩:=b6.open U;have lv:=Ho.one;obtain ⟨g2,bx,hy,lW⟩:=fw g1 [.int .i64 0,.int .i64 0,.bg] [.int .i64 ((mI t d[i].path).getD zD).k,.int .i64 ((mI t d[i].path).getD zD).n,ul];have X:=bF.trans hy;have dv:=B.ext X;have rL:=A.ext X;rw [ER] at cm dv;cases fI:mI t d[i].path with
   | none=>
     rw [fI] at cm bx lW;simp +contextual only [bh,ct,ch,cY,bx,dv.g,lW.g,lv.1,lv.2.1,Option.isSome_none,↓an,aF,simprocAttr];exact ⟨by rw [<-cm];rfl,E.trans X⟩
   | some u=>
     rw [fI] at cm bx lW;simp only [apX] at cm bx lW;by_cases aB:u.k=2
     rotate_left
     . rw [apw (by simpa using aB)] at cm;simp +contextual only [bh,ct,ch,cY,bx,dv.g,lW.g,lv.1,lv.2.1,aqK,apX,apy aB,↓an,aF,simprocAttr];exact ⟨by rw [<-cm];rfl,E.trans X⟩
     rw [apz (by simpa using aB)] at cm;have nM:¬Old h (aw aJ.next):=fun q=>cD _ q rfl;have ai_:g1.next≠aJ.next:=by have:=(B.ext bF).lt;omega
     by_cases aV:u.n=d[i].n
     . rw [apz aV] at cm;obtain ⟨j,bp⟩:=aqE (show 0<=d[i].yes by omega);rw [bp] at cm dz fo;simp only [apx] at cm;have fE:j<d.length:=by omega
       obtain ⟨eM,KZ,xd,sM,pj,nW⟩:=dt.at (jB.ext X) (k:=.i64) fE;have wE:=nW g2 (Ext.refl g2);have qg:=pj.one;simp +contextual only [bh,ct,ch,cY,bx,dv.g,lW.g,rL.g,lv.1,lv.2.1,aqK,apX,apC aB,apC aV,bp,sM,wE,dU,qg.1,qg.2.1,↓an,aF,simprocAttr];exact ⟨⟨j,asked+1,qV,xd,rfl,by omega,fE,by omega,cm,rL.set (by omega) _,dv.put _,pj.set nM _,(jB.ext X).set nM _,(xF.ext X).set nM _,(E.trans X).set (by omega) _⟩,by omega⟩
     . rw [apw aV] at cm;obtain ⟨j,bp⟩:=aqE (show 0<=d[i].no by omega);rw [bp] at cm y3 y4;simp only [apx] at cm;have fE:j<d.length:=by omega
       obtain ⟨eM,KZ,xd,sM,pj,nW⟩:=dt.at (jB.ext X) (k:=.i64) fE;have wE:=nW g2 (Ext.refl g2);have qg:=pj.one;simp +contextual only [bh,ct,ch,cY,bx,dv.g,lW.g,rL.g,lv.1,lv.2.1,aqK,apX,apC aB,apy aV,bp,sM,wE,dU,qg.1,qg.2.1,↓an,aF,simprocAttr];exact ⟨⟨j,asked+1,qV,xd,rfl,by omega,fE,by omega,cm,rL.set (by omega) _,dv.put _,pj.set nM _,(jB.ext X).set nM _,(xF.ext X).set nM _,(E.trans X).set (by omega) _⟩,by omega⟩
theorem Pl (s:List UInt8) (c:bI) (post:List bI):∀pre:List bI,dZ s pre=none->c.name=s->dZ s (pre++c::post)=some c
 | [],_,h=>by simp only [aqk,dZ];rw [apz h]
 | d::pre,h,ao=>by
   simp only [dZ] at h
   split at h
   . cases h
   . rename_i aV;simp only [apS,dZ];rw [apw aV];exact Pl s c post pre h ao
theorem aie {cs:List bI} (h:jL [] cs=true):∀c ∈ cs,dZ c.name cs=some c:=fun c ao=>by
 obtain ⟨i,ax,rfl⟩:=aru ao;have aa:=Ku cs [] h i ax;rw [aqk] at aa;have ad:=Pl cs[i].name cs[i] (cs.drop (i+1)) (cs.take i) aa rfl;have aJ:cs=cs.take i++cs[i]::cs.drop (i+1):=by rw [<-ap0 ax,aq2]
 rw [<-aJ] at ad;exact ad
def ki (cs:List bI) (l:List aQ) (t:b6):Bool × Int:=if h_ cs l=0 then (if rp t=true then (l.all (fun p=>jv cs p t),0) else (false,2)) else (false,h_ cs l)
def vE (cs:List bI) (t:b6):Nat->List aQ->Int
 | _,[]=>-1
 | i,p::l=>if pI cs p t=true then (i:Int) else vE cs t (i+1) l
def qX (cs:List bI) (l:List aQ) (t:b6):Int × Int:=if (ki cs l t).2=0 then (if (ki cs l t).1=true then (vE cs t 0 l,0) else (0,2)) else (0,(ki cs l t).2)
theorem XL {α:Type} {f:α->Bool} {l:List α} {i:Nat} (ax:i<l.length):(l.take (i+1)).all f=((l.take i).all f&&f l[i]):=by rw [aqd ax,List.all_append];simp
theorem M8 (cs:List bI) (l:List aQ) (aZ:cA l<=100000000) (t:b6) (eB v gQ:V) (h:ae) (oh:b0 Any h 5 (cs.map bI.enc) eB) (L:b0 Any h 5 (l.map aQ.enc) v) (Y:bN Any h t.enc (e9 t gQ)):
 c9 Tryz.prog 31 [eB,v,.agg (e9 t gQ)] h fun x ab=>x=.tuple [.bool (ki cs l t).1,.int .i64 (ki cs l t).2]/\Ext h ab:=by
 obtain ⟨jw,cC,ou⟩:=b6.open Y;obtain rfl:gQ=jw:=by simp only [e9,List.cons.injEq] at cC;exact cC.2.2.1
 have iR:=ou.one;have aA:=L.len;rw [apG] at aA;have db:=ni l;obtain ⟨aa,ak,aK,my⟩:=fM h (e9 t gQ);refine Y7.z rfl (cw ?_);unfold Ou;simp only [e9] at ak my;simp only [e9];simp +contextual only [ak,iR.1,iR.2.1,iR.2.2,my.g,↓an,aF,simprocAttr];refine cu (T7 cs l (by omega) eB v aa (oh.ext aK) (L.ext aK)) ?_;rintro x ad ⟨rfl,aS⟩;have dv:=my.ext aS;have bA:=aK.trans aS;rcases Io cs l with z | z
 rotate_left
 . have a':ki cs l t=(false,2):=by unfold ki;rw [apw (by rw [z];decide),z]
   rw [z,a'];simp +contextual only [↓an,aF,simprocAttr];exact bA
 rw [z];simp +contextual only [dv.g,iR.1,iR.2.1,iR.2.2,↓an,aF,simprocAttr];have cb:=L3 t.size t (apv _) _ ad (Y.ext bA);simp only [e9] at cb;refine cu cb ?_;rintro x aJ ⟨rfl,bU⟩;have mz:=dv.ext bU;have fU:=bA.trans bU;cases hm:rp t with
 | false=>
   have a':ki cs l t=(false,2):=by unfold ki;rw [apz z,apw (by rw [hm];simp)]
   rw [a'];simp +contextual only [↓an,aF,simprocAttr];exact fU
 | true=>
 have a':ki cs l t=(l.all (fun p=>jv cs p t),0):=by unfold ki;rw [apz z,apz hm]
 rw [a'];have q3:=aie (DY z);have IY:=Qi z (by omega);have Bl:=(DZ z).1;simp +contextual only [↓an,aF,simprocAttr];refine cu (LY cs (DY z) eB aJ (oh.ext fU)) ?_;rintro x bu ⟨rfl,T,b9⟩;have lV:=mz.ext b9;have u9:=fU.trans b9;simp +contextual only [aA,↓an,aF,simprocAttr];refine gl (fun r g=>r 5=.ptr (aw h.next) 0/\r 9=.map (aw aJ.next)/\r 23=v/\r 24=.int .i64 l.length/\Ext bu g/\∃i:Nat,r 25=.int .i64 i/\i<=l.length/\(l.take i).all (fun p=>jv cs p t)=true) (fun r g=>l.length - (r 25).toN) ?_ ?_
 . exact ⟨by simp only [↓an,bH,simprocAttr],by simp only [↓an,bH,simprocAttr],by simp only [↓an,bH,simprocAttr],by simp only [↓an,bH,simprocAttr],Ext.refl bu,0,by simp only [↓an,bH,simprocAttr]<;>rfl,by omega,by simp⟩
 rintro r g ⟨bT,dK,s7,s8,eC,i,F0,ax,cW⟩;unfold Ov;have pd:=u9.trans eC;have GM:=lV.ext eC;by_cases aR:i<l.length
 . have g0:((i:Int) < (l.length:Int))=True:=apC (by omega);obtain ⟨b,off,jU,cr,po,pq,ld,_,_,_⟩:=aQ.oX L (k:=.i64) aR;have d5:=ld g pd;have ok:=pq.one;have dU:=h8 aR (by omega);have dI:l[i] ∈ l:=ap1 aR;have wh:=qh dI;obtain ⟨g1,aI,sn,e0⟩:=fw g z5 (dL l[i] jU);have GN:=GM.ext sn;have u':=pd.trans sn;simp only [dL] at aI e0;simp +contextual only [bT,dK,s7,s8,F0,g0,cr,d5,ok.1,ok.2.1,aI,e0.g,GN.g,iR.1,iR.2.1,↓an,aF,simprocAttr];have A2:c9 Tryz.prog 59 [.map (aw aJ.next),.agg (dL l[i] jU),.agg (e9 t gQ)] g1 fun x ab=>x=.bool (jv cs l[i] t)/\g1=ab:=
    ⟨_,_,Vn q3 l[i].size l[i] (apv _) ⟨Bl _ dI,by omega⟩ (IY _ dI) t (aw aJ.next) jU gQ g1 ((T.ext eC).ext sn) (po.ext u') (Y.ext u'),rfl,rfl⟩
   simp only [dL,e9] at A2;refine cu A2 ?_;rintro x g2 ⟨rfl,e⟩;subst e;have fI:=XL (f:=fun p=>jv cs p t) aR;rw [cW,ap6] at fI;cases nT:jv cs l[i] t with
   | true=>
     rw [nT] at fI;simp +contextual only [bT,dK,s7,s8,F0,dU,↓an,aF,simprocAttr];exact ⟨⟨eC.trans sn,i+1,rfl,aR,fI⟩,by omega⟩
   | false=>
     have JF:l.all (fun p=>jv cs p t)=false:=by rw [arq];exact ⟨_,dI,by rw [nT];simp⟩
     rw [JF];simp +contextual only [bT,dK,s7,s8,F0,dU,↓an,aF,simprocAttr];exact u'
 . have g0:((i:Int) < (l.length:Int))=False:=apy (by omega);rw [aqn (by omega)] at cW;rw [cW];simp +contextual only [bT,dK,s7,s8,F0,g0,↓an,aF,simprocAttr];exact pd
theorem amg {cs:List bI} {l:List aQ} {t:b6} (h:(ki cs l t).2=0) (aa:(ki cs l t).1=true):h_ cs l=0/\rp t=true/\∀p ∈ l,jv cs p t=true:=by
 unfold ki at h aa
 split at h
 . rename_i z;rw [apz z] at aa
   split at h
   . rename_i m;rw [apz m] at aa;exact ⟨z,m,apU.1 aa⟩
   . cases h
 . rename_i z;exact absurd h z
theorem amh (cs:List bI) (l:List aQ) (t:b6):(ki cs l t).2=0\/(ki cs l t).2=2:=by
 unfold ki
 split
 . split
   . exact .inl rfl
   . exact .inr rfl
 . rcases Io cs l with z | z
   . exact .inl z
   . exact .inr z
theorem MA (cs:List bI) (l:List aQ) (aZ:cA l<=100000000) (t:b6) (eB v gQ:V) (h:ae) (oh:b0 Any h 5 (cs.map bI.enc) eB) (L:b0 Any h 5 (l.map aQ.enc) v) (Y:bN Any h t.enc (e9 t gQ)):
 c9 Tryz.prog 24 [eB,v,.agg (e9 t gQ)] h fun x ab=>x=.tuple [.int .i64 (qX cs l t).1,.int .i64 (qX cs l t).2]/\Ext h ab:=by
 obtain ⟨jw,cC,ou⟩:=b6.open Y;obtain rfl:gQ=jw:=by simp only [e9,List.cons.injEq] at cC;exact cC.2.2.1
 have iR:=ou.one;have aA:=L.len;rw [apG] at aA;have db:=ni l;obtain ⟨aa,ak,aK,my⟩:=fM h (e9 t gQ);refine Y0.z rfl (cw ?_);unfold Of;have gy:=M8 cs l aZ t eB v gQ aa (oh.ext aK) (L.ext aK) (Y.ext aK);simp only [e9] at ak my gy;simp only [e9];simp +contextual only [ak,iR.1,iR.2.1,iR.2.2,my.g,↓an,aF,simprocAttr];refine cu gy ?_;rintro x ad ⟨rfl,aS⟩;have dv:=my.ext aS;have bA:=aK.trans aS;rcases amh cs l t with z | z
 rotate_left
 . have a':qX cs l t=(0,2):=by unfold qX;rw [apw (by rw [z];decide),z]
   rw [z,a'];simp +contextual only [↓an,aF,simprocAttr];exact bA
 cases ah:(ki cs l t).1 with
 | false=>
   have a':qX cs l t=(0,2):=by unfold qX;rw [apz z,apw (by rw [ah];simp)]
   rw [z,a'];simp +contextual only [↓an,aF,simprocAttr];exact bA
 | true=>
 have a':qX cs l t=(vE cs t 0 l,0):=by unfold qX;rw [apz z,apz ah]
 obtain ⟨z0,_,nT⟩:=amg z ah;rw [z,a'];have IY:=Qi z0 (by omega);have Bl:=(DZ z0).1;simp +contextual only [↓an,aF,simprocAttr];refine cu (LY cs (DY z0) eB ad (oh.ext bA)) ?_;rintro x bu ⟨rfl,T,b9⟩;have lV:=dv.ext b9;have u9:=bA.trans b9;simp +contextual only [aA,↓an,aF,simprocAttr];refine gl (fun r g=>r 5=.ptr (aw h.next) 0/\r 10=.map (aw ad.next)/\r 29=v/\r 30=.int .i64 l.length/\Ext bu g/\∃i:Nat,r 31=.int .i64 i/\i<=l.length/\vE cs t 0 l=vE cs t i (l.drop i)) (fun r g=>l.length - (r 31).toN) ?_ ?_
 . exact ⟨by simp only [↓an,bH,simprocAttr],by simp only [↓an,bH,simprocAttr],by simp only [↓an,bH,simprocAttr],by simp only [↓an,bH,simprocAttr],Ext.refl bu,0,by simp only [↓an,bH,simprocAttr]<;>rfl,by omega,rfl⟩
 rintro r g ⟨bT,ek,iV,h6,eC,i,s9,ax,mR⟩;unfold Og;have pd:=u9.trans eC;have GM:=lV.ext eC;by_cases aR:i<l.length
 . have g0:((i:Int) < (l.length:Int))=True:=apC (by omega);obtain ⟨b,off,jU,cr,po,pq,ld,_,_,_⟩:=aQ.oX L (k:=.i64) aR;have d5:=ld g pd;have ok:=pq.one;have dU:=h8 aR (by omega);have dI:l[i] ∈ l:=ap1 aR;have wh:=qh dI;obtain ⟨g1,aI,sn,e0⟩:=fw g z5 (dL l[i] jU);have GN:=GM.ext sn;have u':=pd.trans sn;rw [ap0 aR,vE] at mR;have A2:=QA cs l[i].size l[i] (apv _) ⟨Bl _ dI,by omega⟩ (IY _ dI) t (nT _ dI) (aw ad.next) jU gQ g1 ((T.ext eC).ext sn) (po.ext u') (Y.ext u');simp only [dL,e9] at aI e0 A2;simp +contextual only [bT,ek,iV,h6,s9,g0,cr,d5,ok.1,ok.2.1,aI,e0.g,GN.g,iR.1,iR.2.1,↓an,aF,simprocAttr];refine cu A2 ?_;rintro x g2 ⟨rfl,dP⟩;cases ua:pI cs l[i] t with
   | true=>
     rw [ua,apz rfl] at mR;rw [mR];simp +contextual only [bT,ek,iV,h6,s9,dU,↓an,aF,simprocAttr];exact u'.trans dP
   | false=>
     rw [ua,apw (by simp)] at mR;simp +contextual only [bT,ek,iV,h6,s9,dU,↓an,aF,simprocAttr];exact ⟨⟨(eC.trans sn).trans dP,i+1,rfl,aR,mR⟩,by omega⟩
 . have g0:((i:Int) < (l.length:Int))=False:=apy (by omega);rw [aqv (by omega),vE] at mR;rw [mR];simp +contextual only [bT,ek,iV,h6,s9,g0,↓an,aF,simprocAttr];exact pd
section
variable [Lay]
theorem QB {size:Nat} {y:V} {j:Nat}:∀(us:List (List V)) (i:Nat) (ax:i<us.length),(∀w ∈ us,w.length=size)->j<size->us.flatten.set (i * size+j) y=(us.set i (us[i].set j y)).flatten
 | [],i,ax,_,_=>by simp at ax
 | u::us,0,ax,h,bp=>by have hu:=h u aqb;simp only [aqH,arE,apW,List.set_cons_zero,List.getElem_cons_zero];rw [List.set_append_left _ _ (by omega)]
 | u::us,i+1,ax,h,bp=>by have hu:=h u aqb;simp only [aqH,List.set_cons_succ,List.getElem_cons_succ];rw [List.set_append_right _ _ (by rw [hu,arJ];omega),hu,show (i+1) * size+j-size=i * size+j by rw [arJ];omega,QB us i (by simpa using ax) (fun w hw=>h w (apZ _ hw)) bp]
theorem bN.Cr {F:aL->Prop} {h:ae} {o y:Int} {post:List D}:∀{pre:List D} {u:List V},bN F h (pre++.i .i64 o::post) u->bN F h (pre++.i .i64 y::post) (u.set pre.length (.int .i64 y))
 | [],u,H=>by obtain ⟨us,rfl,eg⟩:=bN.int H;exact .i eg
 | .i k n::pre,u,H=>by obtain ⟨us,rfl,eg⟩:=bN.int H;exact .i (bN.Cr eg)
 | .b x::pre,u,H=>by obtain ⟨us,rfl,eg⟩:=bN.bool H;exact .b (bN.Cr eg)
 | .s x::pre,u,H=>by obtain ⟨us,rfl,aj,eg⟩:=bN.str H;exact .s aj (bN.Cr eg)
 | .l size es::pre,u,H=>by obtain ⟨w,us,rfl,S,eg⟩:=bN.eZ H;exact S.cons (bN.Cr eg)
theorem bN.BP {F:aL->Prop} {h:ae}:∀{ds:List D} {u:List V},bN F h ds u->u.length=ds.length
 | [],u,H=>by rw [bN.no H];rfl
 | .i k n::ds,u,H=>by obtain ⟨us,rfl,eg⟩:=bN.int H;simp [bN.BP eg]
 | .b x::ds,u,H=>by obtain ⟨us,rfl,eg⟩:=bN.bool H;simp [bN.BP eg]
 | .s x::ds,u,H=>by obtain ⟨us,rfl,_,eg⟩:=bN.str H;simp [bN.BP eg]
 | .l size es::ds,u,H=>by obtain ⟨w,us,rfl,S,eg⟩:=bN.eZ H;simp [bN.BP eg]
theorem eA.akH {B:Nat} {G:aL->Prop} {h:ae} {size:Nat} {es:List (List D)} {v:V} (H:eA B G h size es v) {i:Nat} (ax:i<es.length) {pre post:List D} {o:Int} (he:es[i]=pre++.i .i64 o::post) (y:Int):
 ∃b off k,fK size v (.int .i64 i)=some (.ptr b off)/\m' 1 h b (off+pre.length) (.int .i64 y) (h.get b)=some (h.set b k)/\eA B G (h.set b k) size (es.set i (pre++.i .i64 y::post)) v/\Mod v.aW h (h.set b k):=by
 obtain ⟨us,a,b,c,d⟩:=H.ex;have sy:i<us.length:=by omega
 have um:=apr sy;obtain ⟨ND,off,aK,aS⟩:=a.v.cr (k:=.i64) ax;have nN:=d i es[i] us[i] (apr ax) um;rw [he] at nN;have cq:us[i].length=size:=c _ (ap1 sy);have db:pre.length<size:=by have:=bN.BP nN;rw [apD,apB] at this;omega
 have fI:=Nr a.v ax aK;have iK:=x5 us c;have aR:i * size+pre.length<us.flatten.length:=by rw [iK,b];have:=aqz size (show i+1<=es.length from ax);rw [arJ] at this;omega
 obtain ⟨k,f1,_,f2,f3⟩:=a.Ut fI aR (y:=.int .i64 y) rfl rfl;have ms:Mod v.aW h (h.set ND k):=(Mod.refl v.aW h).set (fun _=>f3) _;rw [QB us i sy c db] at f2;refine ⟨ND,off+i * size,k,aK,by rw [aqx];exact f1,⟨us.set i (us[i].set pre.length (.int .i64 y)),by rw [aq_];exact f2,by rw [aq_,aq_];exact b,fun u hu=>?_,fun j e u ak al=>?_⟩,ms⟩
 . rcases List.mem_or_eq_of_mem_set hu with hu | hu
   . exact c u hu
   . rw [hu,aq_];exact cq
 . by_cases Bb:j=i
   . subst Bb;rw [List.getElem?_set_self ax] at ak;rw [List.getElem?_set_self sy] at al;cases ak;cases al;exact (bN.Cr nN).mod ms fun b q o=>⟨q.2,q⟩
   . rw [List.getElem?_set_ne (fun z=>Bb z.symm)] at ak al;exact (d j e u ak al).mod ms fun b q o=>⟨q.2,q⟩
end
def iN (cI:Nat):Nat->List gw->List dt
 | _,[]=>[]
 | j,t::bq=>⟨1,0,t.1,t.2.1,t.2.2,((j+1:Nat):Int),(cI:Int)⟩::iN cI (j+1) bq
def Cq (r:Nat):dt:=⟨2,(r:Int),[],false,0,0,0⟩
def wP:dt:=⟨3,0,[],false,0,0,0⟩
def w5 (r b_:Nat) (bq:List gw):List dt:=iN (b_+bq.length+1) b_ bq++[Cq r]
def nj (cs:List bI):List dt->Nat->List aQ->List dt
 | acc,_,[]=>acc
 | acc,r,p::l=>nj cs (acc++w5 r acc.length (o' cs p [])) (r+1) l
def DI (cs:List bI) (l:List aQ):List dt:=nj cs [] 0 l++[wP]
theorem Fe (cI:Nat):∀(j:Nat) (bq:List gw),(iN cI j bq).length=bq.length
 | _,[]=>rfl
 | j,t::bq=>by simp [iN,Fe cI (j+1) bq]
theorem SI (cI:Nat):∀(j:Nat) (a b:List gw),iN cI j (a++b)=iN cI j a++iN cI (j+a.length) b
 | j,[],b=>rfl
 | j,t::a,b=>by simp only [apS,iN,SI cI (j+1) a b,apB];rw [show j+1+a.length=j + (a.length+1) by omega]
theorem UT (cs:List bI) (p:aQ):∀(l:List aQ) (acc:List dt) (r:Nat),nj cs acc r (l++[p])=nj cs acc r l++w5 (r+l.length) (nj cs acc r l).length (o' cs p [])
 | [],acc,r=>rfl
 | q::l,acc,r=>by simp only [apS,nj];rw [UT cs p l _ (r+1),apB,show r+1+l.length=r + (l.length+1) by omega]
theorem alj (r b_:Nat) (bq:List gw):(w5 r b_ bq).length=bq.length+1:=by simp [w5,Fe]
theorem LG (cs:List bI):∀(l:List aQ) (acc:List dt) (r:Nat),(nj cs acc r l).length<=acc.length+2 * cA l
 | [],acc,r=>by simp [nj,cA]
 | p::l,acc,r=>by have aa:=LG cs l (acc++w5 r acc.length (o' cs p [])) (r+1);have ad:=L1 cs p [];have aJ:=o6 p;simp only [nj,cA];rw [apD,alj] at aa;omega
def CQ (B N:Nat) (b:aL):Prop:=B<=bX b/\bX b<N
structure jY (B N cF:Nat) (h:ae) (es:List dt) (v:V):Prop where
 out:Has h cF [v]
 own:eA B (CQ B N) h 7 (es.map dt.enc) v
 jN:cF<B
 le:B<=h.next
theorem jY.ext {B N cF:Nat} {h ab:ae} {es:List dt} {v:V} (R:jY B N cF h es v) (e:Ext h ab):jY B N cF ab es v:=
 ⟨R.out.ext e,R.own.ext e,R.jN,aqo R.le e.next⟩
def sg (c:dt) (u:V):List V:=[.int .i64 c.kind,.int .i64 c.row,u,.bool c.num,.int .i64 c.n,.int .i64 c.yes,.int .i64 c.no]
theorem ZU {F:aL->Prop} {h:ae} {c:dt} {u:V} (S:b0 F h 1 (c.path.map gb) u):bN F h c.enc (sg c u):=by unfold dt.enc sg;exact .i (.i (S.cons (.b (.i (.i (.i .nil))))))
theorem Kq {B N cF:Nat} {h:ae} {es:List dt} {v:V} (R:jY B N cF h es v) (aA:es.length+1<=1000000000) (c:dt) (u:V) (S:b0 (fun b=>CQ B N b/\¬v.aW b) h 1 (c.path.map gb) u):
 c9 Tryz.prog 55 [.agg (sg c u),.ptr (aw cF) 0] h fun x ab=>x=.int .i64 es.length/\∃cd,jY B N cF ab (es++[c]) cd/\Mod (oi cF v) h ab/\∀b,cd.aW b->v.aW b\/h.next<=bX b:=by
 have wT:=S.one;have cU:∀n,n<B->¬v.aW (aw n):=fun n aV z=>by have:=R.own.base z;rw [c1] at this;omega
 obtain ⟨aa,ak,aK,c8⟩:=fM h (sg c u);have pn:=R.ext aK;obtain ⟨cd,ad,bD,a2,a3,a4,a5⟩:=pn.own.add (ZU (S.ext aK)) (by omega) pn.le (by rw [apG];unfold top;omega) rfl;have cX:=pn.out;have ck:=cX.mod a3 (cU _ R.jN);obtain ⟨G,dX⟩:∃G,ad.set (aw cF) (.bQ [cd] 0 false)=G:=⟨_,rfl⟩;have ms:Mod (fun b=>b=aw cF) ad G:=by rw [<-dX];exact (Mod.refl (fun b=>b=aw cF) ad).set (fun _=>rfl) _
 have one:=a2.one;have kK:Has G cF [cd]:=by rw [<-dX];exact ck.put _
 have di:=aK.next
 have xH:eA B (CQ B N) G 7 ((es++[c]).map dt.enc) cd:=by rw [arl];exact a2.mod ms (fun b z y=>by have:=a2.base z;rw [y,c1] at this;have:=R.jN;omega) fun b z _ _ y=>by have:=z.1;rw [y,c1] at this;have:=R.jN;omega
 have cB:=xH.len;rw [apG,apD,ark] at cB;have wj:((es.length+1:Nat):Int)-1=(es.length:Int):=by omega
 have wl:IntKind.i64.wrap (es.length:Int)=(es.length:Int):=by
  have:=h8 (show es.length-1<es.length+1 by omega) (by omega);by_cases bk:es.length=0
  . rw [bk];rfl
  . rw [show ((es.length-1:Nat):Int)+1=(es.length:Int) by omega] at this;rw [this];omega
 refine Zd.z rfl (cw ?_);unfold OF;simp only [sg] at ak c8 bD;simp only [sg];simp +contextual only [ak,c8.g,wT.1,wT.2.1,wT.2.2,cX.g,ck.g,kK.g,bD,one.1,one.2.1,dX,cB,wj,wl,↓an,aF,simprocAttr];refine ⟨cd,⟨kK,xH,R.jN,by have:=R.le;have:=ms.next;omega⟩,lP (lP (aK.mod _) a3 fun _ _ z=>.inr z) ms fun _ _ z=>.inl z,fun b z=>?_⟩;rcases a5 b z with z | z
 . exact .inl z
 . exact .inr (by omega)
theorem ams [Lay] {h:ae} {n:Nat} {dq:V} {us:List V} {bq:List gw} (H:fq h 3 dq n (List.zipWith oy us bq).flatten) (hu:us.length=n) (aE:bq.length=n) {i:Nat} (ax:i<n) {u:V} {t:gw} (e:us[i]? =some u) (cC:bq[i]? =some t):
 ∃b off,fK 3 dq (.int .i64 i)=some (.ptr b off)/\ml 3 (h.get b) off=some (.agg (oy u t)):=by
 obtain ⟨b,off,aK,aS⟩:=H.cr (k:=.i64) ax;have bk:(List.zipWith oy us bq)[i]? =some (oy u t):=by rw [List.getElem?_zipWith,e,cC]
 have aA:∀x ∈ List.zipWith oy us bq,x.length=3:=fun x aj=>by obtain ⟨j,bp,q⟩:=aru aj;rw [List.getElem_zipWith] at q;rw [<-q];rfl
 have av:=D7 _ i _ aA bk;have hlen:=x5 _ aA;have:=aS.fh (i:=i * 3) (n:=3) (by rw [hlen,art];omega);rw [av] at this;exact ⟨b,_,aK,this⟩
def nR (b_ j:Nat):List Int:=(List.range j).map fun k=>((b_+k:Nat):Int)
theorem aek (b_ j:Nat):nR b_ (j+1)=nR b_ j++[((b_+j:Nat):Int)]:=by simp [nR,List.range_succ]
theorem aej (b_ j:Nat):(nR b_ j).length=j:=by simp [nR]
theorem ah0 {cI j:Nat} {bq:List gw} {k:Nat} (aB:k<bq.length):iN cI j (bq.drop k)=⟨1,0,bq[k].1,bq[k].2.1,bq[k].2.2,((j+1:Nat):Int),(cI:Int)⟩::iN cI (j+1) (bq.drop (k+1)):=by rw [ap0 aB,iN]
theorem SJ {cI j:Nat} {bq:List gw} {k:Nat} (aB:k<bq.length):iN cI j (bq.take (k+1))=iN cI j (bq.take k)++[⟨1,0,bq[k].1,bq[k].2.1,bq[k].2.2,((j+k+1:Nat):Int),(cI:Int)⟩]:=by rw [aqd aB,SI,ap4,arp (by omega)];rfl
theorem jY.VI {B N Ab cF:Nat} {h:ae} {es:List dt} {v:V} (R:jY B N cF h es v) (bE:N<=Ab):jY B Ab cF h es v:=
 ⟨R.out,R.own.gR fun b z=>⟨z.1,by have:=z.2;omega⟩,R.jN,R.le⟩
def C8 (B cF:Nat) (b:aL):Prop:=b=aw cF\/B<=bX b
theorem jY.mod {B N cF:Nat} {h ab:ae} {es:List dt} {v:V} {M:aL->Prop} (R:jY B N cF h es v) (m:Mod M h ab) (aa:∀b,M b->N<=bX b/\¬v.aW b) (bE:B<=N):jY B N cF ab es v:=
 ⟨R.out.mod m fun z=>by have:=(aa _ z).1;rw [c1] at this;have:=R.jN;omega,R.own.mod m (fun b z y=>(aa b y).2 z) fun b z _ _ y=>by have:=(aa b y).1;have:=z.2;omega,R.jN,aqo R.le m.next⟩
theorem jY.put {B N cF:Nat} {h:ae} {a:List dt} {c fD:dt} {z:List dt} {v:V} (R:jY B N cF h (a++c::z) v) {pre post:List D} {o y:Int} (he:c.enc=pre++.i .i64 o::post) (ee:fD.enc=pre++.i .i64 y::post):
 ∃b off k,fK 7 v (.int .i64 a.length)=some (.ptr b off)/\m' 1 h b (off+pre.length) (.int .i64 y) (h.get b)=some (h.set b k)/\jY B N cF (h.set b k) (a++fD::z) v/\Mod v.aW h (h.set b k):=by
 have ax:a.length < ((a++c::z).map dt.enc).length:=by simp
 have aG:((a++c::z).map dt.enc)[a.length]=pre++.i .i64 o::post:=by rw [<-he];simp
 obtain ⟨b,off,k,f1,f2,f3,f4⟩:=eA.akH R.own ax aG y;have cU:¬v.aW (aw cF):=fun z=>by have:=R.own.base z;rw [c1] at this;have:=R.jN;omega
 refine ⟨b,off,k,f1,f2,⟨R.out.mod f4 cU,?_,R.jN,aqo R.le f4.next⟩,f4⟩;have:((a++c::z).map dt.enc).set a.length (pre++.i .i64 y::post)=(a++fD::z).map dt.enc:=by rw [<-ee,arl,arl,aqu,aqu];rw [List.set_append_right _ _ (by simp)];simp
 rw [this] at f3;exact f3
theorem Pd (j:Nat) (t:gw) (y n:Int):(⟨1,0,t.1,t.2.1,t.2.2,y,n⟩:dt).enc=[.i .i64 1,.i .i64 0,.l 1 (t.1.map gb),.b t.2.1,.i .i64 t.2.2]++.i .i64 y::[.i .i64 n]:=rfl
theorem Pe (t:gw) (y n:Int):(⟨1,0,t.1,t.2.1,t.2.2,y,n⟩:dt).enc=[.i .i64 1,.i .i64 0,.l 1 (t.1.map gb),.b t.2.1,.i .i64 t.2.2,.i .i64 y]++.i .i64 n::[]:=rfl
theorem aei {B:Nat} {h:ae} {v:V} {b_ m:Nat} (H:dS B h 1 v m (gB (nR b_ m))) {k:Nat} (aB:k<m):∃b off,fK 1 v (.int .i64 k)=some (.ptr b off)/\fZ (h.get b) off=some (.int .i64 ((b_+k:Nat):Int)):=by
 obtain ⟨b,off,aK,aS⟩:=H.v.cr (k:=.i64) aB;have hlen:(gB (nR b_ m)).length=m:=by rw [Ke,aej]
 have:=aS.dJ (i:=k * 1) (by rw [hlen];omega);refine ⟨b,_,aK,?_⟩;rw [this];simp [gB,nR]
theorem Mu (cs:List bI) (l:List aQ) (aZ:cA l<=100000000) (eB v:V) (h:ae) (oh:b0 Any h 5 (cs.map bI.enc) eB) (L:b0 Any h 5 (l.map aQ.enc) v):
 c9 Tryz.prog 29 [eB,v] h fun x ab=>∃d,x=.tuple [d,.int .i64 (h_ cs l)]/\b0 Any ab 7 ((if h_ cs l=0 then DI cs l else []).map dt.enc) d/\Ext h ab:=by
 have aA:=L.len;rw [apG] at aA;have db:=ni l;refine Y5.z rfl (cw ?_);unfold Ol;simp +contextual only [↓an,aF,simprocAttr];refine cu (T7 cs l (by omega) eB v h oh L) ?_;rintro x aa ⟨rfl,aK⟩;rcases Io cs l with z | z
 rotate_left
 . rw [z];simp +contextual only [↓an,aF,simprocAttr];exact ⟨_,rfl,b0.nil _ _ _,aK⟩
 rw [z];have Bl:=(DZ z).1;simp +contextual only [↓an,aF,simprocAttr];refine cu (LY cs (DY z) eB aa (oh.ext aK)) ?_;rintro x ad ⟨rfl,r4,aS⟩;obtain ⟨aJ,aI,bU,He⟩:=fM ad [.bg];have n3:aJ.next=ad.next+1:=by rw [<-aI];exact f_ _ _
 have iO:aa.next<ad.next:=by have:=r4.bG;unfold Old at this;rw [c1] at this;exact this
 have fU:=(aK.trans aS).trans bU;have Hn:=r4.ext bU;simp +contextual only [aI,aA,↓an,aF,simprocAttr];refine gl (fun r g=>r 7=.map (aw aa.next)/\r 8=.ptr (aw ad.next) 0/\r 9=.func 55 [.ptr (aw ad.next) 0]/\r 28=v/\r 29=.int .i64 l.length/\Mod (C8 aJ.next ad.next) aJ g/\∃(i:Nat) (qv:V),r 30=.int .i64 i/\i<=l.length/\jY aJ.next g.next ad.next g (nj cs [] 0 (l.take i)) qv) (fun r g=>l.length - (r 30).toN) ?_ ?_
 . exact ⟨by simp only [↓an,bH,simprocAttr],by simp only [↓an,bH,simprocAttr],by simp only [↓an,bH,simprocAttr],by simp only [↓an,bH,simprocAttr],by simp only [↓an,bH,simprocAttr],Mod.refl _ _,0,.bg,by simp only [↓an,bH,simprocAttr]<;>rfl,by omega,⟨He,eA.nil _ _ _ _,by omega,apv _⟩⟩
 rintro r g ⟨cY,ch,dK,ke,iV,m,i,qv,h6,ax,R⟩;unfold Oo;have ajK:∀b,Old h b->¬C8 aJ.next ad.next b:=fun b o y=>by
  unfold Old at o;have:=fU.next
  have:=aK.next
  rcases y with y | y
  . rw [y,c1] at o;omega
  . omega
 by_cases aR:i<l.length
 . have g0:((i:Int) < (l.length:Int))=True:=apC (by omega);have dU:=h8 aR (by omega);have WB:b0 (fun b=>Old h b/\Old g b) g 5 (l.map aQ.enc) v:=(L.rv.ext fU).mod m fun b zF o=>⟨ajK b zF,zF,m.bG o⟩;obtain ⟨b,off,jU,cr,po,pq,ld,_,_,_⟩:=aQ.oX WB (k:=.i64) aR;have d5:=ld g (Ext.refl g);have ok:=pq.one;have dI:l[i] ∈ l:=ap1 aR;have wh:=qh dI;have q5:oI l[i]:=⟨Bl _ dI,by omega⟩;have uj:=LG cs (l.take i) [] 0;simp only [ap_,apW] at uj;have rf:nj cs [] 0 (l.take (i+1))=nj cs [] 0 (l.take i)++w5 i (nj cs [] 0 (l.take i)).length (o' cs l[i] []):=by
    rw [take_one aR,UT,ap4,arp (by omega),apW]
   have hq:=Uh aR;have j8:=Ll l (i+1);have rh:=L1 cs l[i] [];generalize l[i]=p at po pq ld cr d5 dI wh q5 rf hq rh;obtain ⟨g1,bB,b9,jy⟩:=fw g z5 (dL p jU);have BY:¬C8 aJ.next ad.next (aw aa.next):=fun y=>by
    rcases y with y | y
    . rw [mr] at y;omega
    . rw [c1] at y;omega
   have M9:=(Hn.mod m BY).ext b9;have cb:=X1 cs p q5 (by omega) (aw aa.next) jU g1 M9 M9.bG ((po.ext b9).gR fun b zF=>b9.bG zF.2);simp only [dL] at bB jy cb;simp +contextual only [cY,ch,dK,ke,iV,h6,g0,cr,d5,ok.1,ok.2.1,bB,jy.g,↓an,aF,simprocAttr];refine cu cb ?_;rintro dq g2 ⟨W_,dP⟩;have rN:=b9.trans dP;have tE:=(R.ext rN).VI (Ab:=g2.next) rN.next
   obtain ⟨us,a,ul,c,d⟩:=W_.ex;have val:=a.v.len;have VP:∀b,qv.aW b->bX b<g.next:=fun b zF=>by have:=R.own.ru zF;unfold Old at this;exact this
   have KQ:=rN.next
   have aoH:=b9.next
   have aoI:=dP.next
   generalize fz:o' cs p []=bq at *;generalize k7:nj cs [] 0 (l.take i)=base at *;have gf:=R.jN;have hle:=R.le;have WI:∀b,(b=aw ad.next\/qv.aW b\/g2.next<=bX b)->C8 aJ.next ad.next b:=fun b y=>by
    rcases y with y | y | y
    . exact .inl y
    . exact .inr (R.own.base y)
    . exact .inr (by omega)
   simp +contextual only [val,↓an,aF,simprocAttr];refine gl (fun r G=>r 7=.map (aw aa.next)/\r 8=.ptr (aw ad.next) 0/\r 9=.func 55 [.ptr (aw ad.next) 0]/\r 28=v/\r 29=.int .i64 l.length/\r 30=.int .i64 i/\r 10=.int .i64 i/\r 37=dq/\r 38=.int .i64 bq.length/\∃(j:Nat) (qu bs:V),r 39=.int .i64 j/\j<=bq.length/\r 12=bs/\jY aJ.next g2.next ad.next G (base++iN 0 base.length (bq.take j)) qu/\dS g2.next G 1 bs j (gB (nR base.length j))/\(∀b,bs.aW b->¬qu.aW b)/\Mod (fun b=>b=aw ad.next\/qv.aW b\/g2.next<=bX b) g2 G/\∀b,qu.aW b->qv.aW b\/g2.next<=bX b) (fun r G=>bq.length - (r 39).toN) ?_ ?_
   . refine ⟨by simp only [cY,↓an,bH,simprocAttr],by simp only [ch,↓an,bH,simprocAttr],by simp only [dK,↓an,bH,simprocAttr],by simp only [ke,↓an,bH,simprocAttr],by simp only [iV,↓an,bH,simprocAttr],by simp only [h6,↓an,bH,simprocAttr],by simp only [h6,↓an,bH,simprocAttr],by simp only [↓an,bH,simprocAttr],by simp only [↓an,bH,simprocAttr],0,qv,.bg,by simp only [↓an,bH,simprocAttr]<;>rfl,by omega,by simp only [↓an,bH,simprocAttr],?_,⟨by simp [nR,gB],rfl⟩,fun b y=>y.elim,Mod.refl _ _,fun b y=>.inl y⟩;simpa [iN] using tE
   clear cY ch dK ke iV h6;rintro r G ⟨cY,ch,dK,ke,iV,h6,ek,qj,qk,j,qu,bs,F3,bp,jR,r2,O,DL,BW,ph⟩;unfold Om;have hlen:(base++iN 0 base.length (bq.take j)).length=base.length+j:=by rw [apD,Fe,ap4,arp bp]
   have Fu:=BW.next
   by_cases fE:j<bq.length
   . have IA:((j:Int) < (bq.length:Int))=True:=apC (by omega);have GF:=h8 fE (by omega);have hu:us[j]? =some us[j]:=apr (by omega);have aE:bq[j]? =some bq[j]:=apr fE;have sA:=SJ (cI:=0) (j:=base.length) fE;generalize us[j]=u at hu;generalize bq[j]=t at aE sA;obtain ⟨bK,bR,c3⟩:=c j u t hu aE;have Ts:∀b,g1.next<=bX b->Old g2 b->¬(b=aw ad.next\/qv.aW b\/g2.next<=bX b):=fun b y o w=>by
      unfold Old at o;rcases w with w | w | w
      . rw [w,c1] at y;omega
      . have:=VP b w;omega
      . omega
     have bl:=a.mod BW fun b y=>Ts b (a.base y) (a.v.bG y);have Av:=bR.mod BW fun b y=>Ts b (bR.base y) (bR.v.bG y);obtain ⟨anK,kc,jI,yJ⟩:=ams bl.v ul rfl fE hu aE;have wT:=bR.v.one;obtain ⟨jA,ef,gV,Mt⟩:=fw G [.bg,.bool false,.int .i64 0] (oy u t);have aoF:=gV.next
     have S:b0 (fun b=>CQ aJ.next g2.next b/\¬qu.aW b) jA 1 (t.1.map gb) u:=U7 (Av.ext gV) (by unfold top;omega) fun b y=>by
      have dz:=bR.base y;have fo:=bR.v.bG y;unfold Old at fo;refine ⟨⟨by omega,fo⟩,fun w=>?_⟩;rcases ph b w with w | w
      . have:=VP b w;omega
      . omega
     have fJ:=Kq (r2.ext gV) (by omega) ⟨1,0,t.1,t.2.1,t.2.2,0,0⟩ u S;simp only [sg] at fJ;simp only [oy] at yJ ef Mt;rw [hlen] at fJ;simp +contextual only [cY,ch,dK,ke,iV,h6,ek,qj,qk,F3,jR,IA,jI,yJ,ef,Mt.g,wT.1,wT.2.1,wT.2.2,↓an,aF,simprocAttr];refine cu fJ ?_;rintro x qC ⟨rfl,v2,C_,nw,xA⟩;have sZ:=C_.out;obtain ⟨jc,uI,lb,f1,f2,mD,tC⟩:=jY.put (a:=base++iN 0 base.length (bq.take j)) (c:=⟨1,0,t.1,t.2.1,t.2.2,0,0⟩) (fD:=⟨1,0,t.1,t.2.1,t.2.2,((base.length+j+1:Nat):Int),0⟩) (z:=[]) C_ (Pd 0 t 0 0) (Pd 0 t _ 0);rw [hlen] at f1;have AM:m' 1 qC jc (uI+5) (.int .i64 ((base.length+j+1:Nat):Int)) (qC.get jc)=some (qC.set jc lb):=f2;obtain ⟨xn,acX⟩:∃xn,qC.set jc lb=xn:=⟨_,rfl⟩;rw [acX] at AM mD tC;have aja:=nw.next
     have aoG:=tC.next
     have J4:∀b,bs.aW b->bX b<G.next:=fun b y=>by have:=O.v.bG y;unfold Old at this;exact this
     have AB:∀b,bs.aW b->¬v2.aW b:=fun b y w=>by
      rcases xA b w with w | w
      . exact DL b y w
      . have:=J4 b y;omega
     have He:dS g2.next xn 1 bs j (gB (nR base.length j)):=((O.ext gV).mod nw fun b y w=>by
      rcases w with w | w
      . have:=O.base y;rw [w,c1] at this;omega
      . exact DL b y w).mod tC fun b y w=>AB b y w
     obtain ⟨EY,GS,cc,cx,eF,kd,o3⟩:=Go.Proofs.YtgmhjhgoamjeeaaGreatDoor.aX.Ai (by omega) He (by omega) (by unfold top;omega) (cs:=[.int .i64 ((base.length+j:Nat):Int)]) rfl rfl;have wl:=h8 (show base.length+j<base.length+j+1 by omega) (by omega);simp +contextual only [cY,ch,dK,ke,iV,h6,ek,qj,qk,F3,jR,sZ.g,f1,AM,wl,cc,GF,↓an,aF,simprocAttr];refine ⟨⟨j+1,v2,EY,rfl,fE,rfl,?_,?_,fun b y w=>?_,?_,fun b y=>?_⟩,by omega⟩
     . rw [sA,<-aqc];exact mD.mod eF (fun b y=>⟨O.base y,AB b y⟩) (by omega)
     . rw [aek,Sq];exact cx
     . rcases o3 b y with y | y
       . exact AB b y w
       . have:=mD.own.ru w;unfold Old at this;omega
     . refine lP (lP (lP (lP BW (gV.mod (fun _=>False)) fun _ _ y=>y.elim) nw fun b o y=>?_) tC fun b o y=>?_) eF fun b o y=>.inr (.inr (O.base y))
       . rcases y with y | y
         . exact .inl y
         . exact .inr (ph b y)
       . rcases xA b y with y | y
         . exact .inr (ph b y)
         . exact .inr (.inr (by omega))
     . rcases xA b y with y | y
       . exact ph b y
       . exact .inr (by omega)
   . have IA:((j:Int) < (bq.length:Int))=False:=apy (by omega);obtain rfl:j=bq.length:=by omega
     rw [aqX] at r2 hlen;have fJ:=Kq r2 (by omega) (Cq i) .bg (b0.nil _ _ _);simp only [sg,Cq] at fJ;rw [hlen] at fJ;simp +contextual only [cY,ch,dK,ke,iV,h6,ek,qj,qk,F3,jR,IA,↓an,aF,simprocAttr];refine cu fJ ?_;rintro x qC ⟨rfl,v3,C_,nw,xA⟩;have J4:∀b,bs.aW b->bX b<G.next:=fun b y=>by have:=O.v.bG y;unfold Old at this;exact this
     have AB:∀b,bs.aW b->¬v3.aW b:=fun b y w=>by
      rcases xA b w with w | w
      . exact DL b y w
      . have:=J4 b y;omega
     have MQ:dS g2.next qC 1 bs bq.length (gB (nR base.length bq.length)):=O.mod nw fun b y w=>by
      rcases w with w | w
      . have:=O.base y;rw [w,c1] at this;omega
      . exact DL b y w
     have aiK:Mod (fun b=>b=aw ad.next\/qv.aW b\/g2.next<=bX b) g2 qC:=lP BW nw fun b o y=>by
      rcases y with y | y
      . exact .inl y
      . exact .inr (ph b y)
     have WM:∀b,v3.aW b->qv.aW b\/g2.next<=bX b:=fun b y=>by
      rcases xA b y with y | y
      . exact ph b y
      . exact .inr (by omega)
     have Bv:=MQ.v.len;have wl:=h8 (show base.length+bq.length<base.length+bq.length+1 by omega) (by omega);have aja:=nw.next
     simp +contextual only [cY,ch,dK,ke,iV,h6,ek,jR,wl,Bv,↓an,aF,simprocAttr];refine gl (fun r G=>r 7=.map (aw aa.next)/\r 8=.ptr (aw ad.next) 0/\r 9=.func 55 [.ptr (aw ad.next) 0]/\r 28=v/\r 29=.int .i64 l.length/\r 30=.int .i64 i/\r 16=.int .i64 ((base.length+bq.length+1:Nat):Int)/\r 63=bs/\r 64=.int .i64 bq.length/\Mod (fun b=>b=aw ad.next\/qv.aW b\/g2.next<=bX b) g2 G/\dS g2.next G 1 bs bq.length (gB (nR base.length bq.length))/\∃k:Nat,r 65=.int .i64 k/\k<=bq.length/\jY aJ.next g2.next ad.next G (base++(iN (base.length+bq.length+1) base.length (bq.take k)++(iN 0 (base.length+k) (bq.drop k)++[Cq i]))) v3) (fun r G=>bq.length - (r 65).toN) ?_ ?_
     . refine ⟨by simp only [cY,↓an,bH,simprocAttr],by simp only [ch,↓an,bH,simprocAttr],by simp only [dK,↓an,bH,simprocAttr],by simp only [ke,↓an,bH,simprocAttr],by simp only [iV,↓an,bH,simprocAttr],by simp only [h6,↓an,bH,simprocAttr],by simp only [↓an,bH,simprocAttr],by simp only [↓an,bH,simprocAttr],by simp only [↓an,bH,simprocAttr],aiK,MQ,0,by simp only [↓an,bH,simprocAttr]<;>rfl,by omega,?_⟩;simpa [iN,Cq] using C_
     clear cY ch dK ke iV h6 ek qj qk F3 jR;rintro r zS ⟨cY,ch,dK,ke,iV,h6,r16,UC,Cm,KE,MR,k,UD,aB,mD⟩;unfold On;by_cases kA:k<bq.length
     . have IB:((k:Int) < (bq.length:Int))=True:=apC (by omega);have am5:=h8 kA (by omega);obtain ⟨anL,aoQ,bb,aiu⟩:=aei MR kA;have uI:=mD.out;rw [ah0 kA,apS,<-aqc base] at mD;have sA:=SJ (cI:=base.length+bq.length+1) (j:=base.length) kA;generalize bq[k]=t at mD sA;have ku:(base++iN (base.length+bq.length+1) base.length (bq.take k)).length=base.length+k:=by rw [apD,Fe,ap4,arp aB]
       obtain ⟨ox,FE,mY,f1,f2,MZ,rW⟩:=jY.put (fD:=⟨1,0,t.1,t.2.1,t.2.2,((base.length+k+1:Nat):Int),((base.length+bq.length+1:Nat):Int)⟩) mD (Pe t _ _) (Pe t _ _);rw [ku] at f1;have AM:m' 1 zS ox (FE+6) (.int .i64 ((base.length+bq.length+1:Nat):Int)) (zS.get ox)=some (zS.set ox mY):=f2;obtain ⟨MD,acY⟩:∃MD,zS.set ox mY=MD:=⟨_,rfl⟩;rw [acY] at AM MZ rW;simp +contextual only [cY,ch,dK,ke,iV,h6,r16,UC,Cm,UD,IB,bb,aiu,uI.g,f1,AM,am5,↓an,aF,simprocAttr];refine ⟨⟨lP KE rW fun b o y=>.inr (WM b y),MR.mod rW fun b y w=>AB b y w,k+1,rfl,kA,?_⟩,by omega⟩;rw [sA];simpa [aqc,aqx] using MZ
     . have IB:((k:Int) < (bq.length:Int))=False:=apy (by omega);obtain rfl:k=bq.length:=by omega
       rw [aqX,are] at mD;have Tr:=KE.next
       simp +contextual only [cY,ch,dK,ke,iV,h6,r16,UC,Cm,UD,IB,dU,↓an,aF,simprocAttr];refine ⟨⟨lP (lP m (rN.mod (fun _=>False)) fun _ _ y=>y.elim) KE fun b o y=>WI b y,i+1,v3,rfl,aR,?_⟩,by omega⟩;have W0:=mD.VI (Ab:=zS.next) (by omega);rw [rf];simpa [w5,iN] using W0
 . have g0:((i:Int) < (l.length:Int))=False:=apy (by omega);rw [aqn (by omega)] at R;have uj:=LG cs l [] 0;simp +contextual only [cY,ch,dK,ke,iV,h6,g0,↓an,aF,simprocAttr];have cb:=Kq R (by simp at uj;omega) wP .bg (b0.nil _ _ _);simp only [sg,wP] at cb;refine cu cb ?_;rintro x g1 ⟨rfl,cd,MY,ve,Ab⟩;have cX:=MY.out;simp +contextual only [ch,cX.g,↓an,aF,simprocAttr];refine ⟨_,rfl,?_,?_⟩
   . have:=MY.own.eZ (F:=Any) (by rw [apG,apD];simp at uj ⊢;unfold top;omega) (fun _ _=>trivial) (fun _ _=>trivial);exact this
   . refine fU.nZ (lP m ve fun b o y=>?_) fun b y=>?_
     . rcases y with y | y
       . exact .inl y
       . exact .inr (R.own.base y)
     . rcases y with y | y
       . rw [y,c1];have:=aK.next;omega
       . have:=fU.next;omega
def c5:a1:=
 .seq (.au [ez 0])
 (.seq (.au [⟨some 19,.call 23 [(.c (.int .i64 10)),(.c .bg)],none,[]⟩,lA 1,⟨none,.st 5 (.t 1) (.t 19),none,[1,19]⟩])
 (.seq (.draw [fB 23 1,vb 24 23,⟨some 21,.call 25 [],none,[]⟩,⟨some 22,.call 26 [(.c (.str [78,105,108])),(.c .bg)],none,[]⟩,⟨some 25,.call 26 [(.c (.str [67,111,110,115])),(.t 24)],none,[24]⟩,MH 26 22 25,⟨some 27,.call 28 [(.c (.int .i64 5))],none,[]⟩,G9 28,⟨some 29,.hz 2 3 [(.int .i64 0),(.int .i64 0),.bg] [(0,3,(.t 27)),(3,3,(.t 28))],none,[27,28]⟩,⟨some 30,.call 27 [(.c (.int .i64 0)),(.t 29)],none,[29]⟩,⟨some 31,.hz 1 3 [(.int .i64 0),(.int .i64 0),.bg] [(0,3,(.t 30))],none,[30]⟩,⟨some 32,.call 27 [(.c (.int .i64 1)),(.t 31)],none,[31]⟩,⟨some 33,.call 24 [(.t 21),(.t 26),(.t 32)],none,[21,26,32]⟩,ai 20 33,ir 34 20,iu 35 20,ai 2 34,ai 3 35] [(0,[2,3,4])])
 (.seq (.au [fB 37 1,vb 38 37,⟨some 39,.call 29 [(.c .bg),(.t 38)],none,[38]⟩,ai 36 39,ir 40 36,iu 41 36,ai 4 40,ai 5 41])
 (.seq (.au [ai 43 4,⟨some 44,.call 28 [(.c (.int .i64 3))],none,[]⟩,⟨some 45,.call 30 [(.t 43),(.t 44)],none,[43,44]⟩,ai 42 45,ir 46 42,iu 47 42,⟨some 48,.ext (.t 42) 2,none,[42]⟩,ai 6 46,ai 7 47,ai 8 48])
 (.seq (.au [⟨some 50,.call 29 [(.c .bg),(.c .bg)],none,[]⟩,ai 49 50,ir 51 49,iu 52 49,ai 9 51,ai 10 52])
 (.seq (.au [ai 54 9,⟨some 55,.call 28 [(.c (.int .i64 3))],none,[]⟩,⟨some 56,.call 30 [(.t 54),(.t 55)],none,[54,55]⟩,ai 53 56,ir 57 53,iu 58 53,⟨some 59,.ext (.t 53) 2,none,[53]⟩,ai 11 57,ai 12 58,ai 13 59])
 (.seq (.au [⟨some 61,.call 23 [(.c (.int .i64 12)),(.c .bg)],none,[]⟩,vb 62 61,G9 63,⟨some 64,.call 24 [(.c .bg),(.t 62),(.t 63)],none,[62,63]⟩,ai 60 64,ir 65 60,iu 66 60,ai 14 65,ai 15 66])
 (.seq (.au [⟨some 68,.call 23 [(.c (.int .i64 12)),(.c .bg)],none,[]⟩,vb 69 68,G9 70,⟨some 71,.call 31 [(.c .bg),(.t 69),(.t 70)],none,[69,70]⟩,ai 67 71,ir 72 67,iu 73 67,ai 16 72,ai 17 73])
 (.seq (.au [ai 74 2,vc 75 74,ai 76 75,eu 77 3 76,nu 78 77 76,eo 79 76 78,ai 80 79,eu 81 5 80,nu 82 81 80,eo 83 80 82,ai 84 83,eu 85 6 84,nu 86 85 84,eo 87 84 86,ai 88 87,eu 89 7 88,nu 90 89 88,eo 91 88 90,ai 92 91,eu 93 8 92,nu 94 93 92,eo 95 92 94,ai 18 95])
 (.seq (.au [⟨some 96,.call 8 [],none,[]⟩,ai 97 96,eu 98 18 97,eo 99 97 98,ai 100 99,eu 101 10 100,nu 102 101 100,eo 103 100 102,ai 104 103,eu 105 9 104,rT 106 105 104,G3 107 106 104,eo 108 104 107,ai 109 108,eu 110 9 109,⟨some 111,.cr 7 (.t 110) (.c (.int .i64 0)),(some (109,true)),[110,109]⟩,z' 112 111 109,hR 113 112 109,⟨some 114,.bin (.int .eql) (.t 113) (.c (.int .i64 3)),(some (109,true)),[113,109]⟩,eo 115 109 114,ai 116 115,eu 117 11 116,⟨some 118,.bin (.int .eql) (.t 117) (.c (.int .i64 (-1))),(some (116,true)),[117,116]⟩,eo 119 116 118,ai 120 119,eu 121 12 120,nu 122 121 120,eo 123 120 122,ai 124 123,eu 125 13 124,nu 126 125 124,eo 127 124 126,ai 128 127,eu 129 15 128,⟨some 130,.bin (.int .eql) (.t 129) (.c (.int .i64 2)),(some (128,true)),[129,128]⟩,eo 131 128 130,ai 132 131,eu 133 16 132,⟨some 134,.un .not (.t 133),(some (132,true)),[133,132]⟩,eo 135 132 134,ai 136 135,eu 137 17 136,nu 138 137 136,eo 139 136 138,ai 0 139])
 (.ret)))))))))))
theorem Zi:dA 5 140 Tryz.f5 c5 [.t 0]:=⟨Tryz.func5,by kernel_rfl⟩
def Oe:a1:=
 .seq (.au [lA 4])
 (.seq (.au [ai 5 0,ai 6 1,⟨some 7,.build [(.int .i64 0),(.int .i64 0),(.int .i64 0),(.str []),.bg] [(0,1,(.t 5)),(4,1,(.t 6))],none,[5,6]⟩,⟨none,.st 5 (.t 4) (.t 7),none,[4,7]⟩])
 (.ret))
theorem YZ:dA 23 8 Tryz.f23 Oe [.nE 4 5]:=⟨Tryz.func23,by kernel_rfl⟩
def Oh:a1:=
 .seq (.au [l1 0])
 (.seq (.au [⟨some 1,.build [(.str []),(.str []),(.int .i64 0),(.int .i64 0),.bg] [(0,1,(.c (.str [78,105,108]))),(1,1,(.c (.str [108,105,115,116])))],none,[]⟩,⟨some 2,.build [(.int .i64 0),(.int .i64 0),(.str []),.bg] [(0,1,(.c (.int .i64 2))),(2,1,(.c (.str [105,110,116])))],none,[]⟩,⟨some 3,.hz 1 4 [(.int .i64 0),(.int .i64 0),(.str []),.bg] [(0,4,(.t 2))],none,[2]⟩,⟨some 4,.build [(.str []),(.str []),(.int .i64 0),(.int .i64 0),.bg] [(0,1,(.c (.str [67,111,110,115]))),(1,1,(.c (.str [108,105,115,116]))),(2,1,(.c (.int .i64 1))),(4,1,(.t 3))],none,[3]⟩,⟨some 5,.hz 2 5 [(.str []),(.str []),(.int .i64 0),(.int .i64 0),.bg] [(0,5,(.t 1)),(5,5,(.t 4))],none,[1,4]⟩,ai 0 5])
 (.ret))
theorem Y1:dA 25 6 Tryz.f25 Oh [.t 0]:=⟨Tryz.func25,by kernel_rfl⟩
def Oi:a1:=
 .seq (.au [lA 4])
 (.seq (.au [ai 5 0,ai 6 1,⟨some 7,.build [(.int .i64 0),(.int .i64 0),(.int .i64 0),(.str []),.bg] [(0,1,(.c (.int .i64 16))),(3,1,(.t 5)),(4,1,(.t 6))],none,[5,6]⟩,⟨none,.st 5 (.t 4) (.t 7),none,[4,7]⟩])
 (.ret))
theorem Y2:dA 26 8 Tryz.f26 Oi [.nE 4 5]:=⟨Tryz.func26,by kernel_rfl⟩
def Oj:a1:=
 .seq (.au [zZ 4])
 (.seq (.au [ai 5 0,ai 6 1,⟨some 7,.build [(.int .i64 0),(.int .i64 0),.bg] [(0,1,(.c (.int .i64 2))),(1,1,(.t 5)),(2,1,(.t 6))],none,[5,6]⟩,⟨none,.st 3 (.t 4) (.t 7),none,[4,7]⟩])
 (.ret))
theorem Y3:dA 27 8 Tryz.f27 Oj [.nE 4 3]:=⟨Tryz.func27,by kernel_rfl⟩
def Ok:a1:=
 .seq (.au [zZ 2])
 (.seq (.au [ai 3 0,⟨some 4,.build [(.int .i64 0),(.int .i64 0),.bg] [(0,1,(.c (.int .i64 1))),(1,1,(.t 3))],none,[3]⟩,⟨none,.st 3 (.t 2) (.t 4),none,[2,4]⟩])
 (.ret))
theorem Y4:dA 28 5 Tryz.f28 Ok [.nE 2 3]:=⟨Tryz.func28,by kernel_rfl⟩
theorem Lc (k:Int) (h:ae):c9 Tryz.prog 23 [.int .i64 k,.bg] h fun x ab=>x=.agg [.int .i64 k,.int .i64 0,.int .i64 0,.str [],.bg]/\Ext h ab:=by refine YZ.z rfl (cw ?_);unfold Oe;obtain ⟨aa,ak,aK,c8⟩:=fM h z5;have af:=c8.put [.int .i64 k,.int .i64 0,.int .i64 0,.str [],.bg];simp +contextual only [ak,c8.g,af.g,↓an,aF,simprocAttr];exact aK.set (apv _) _
theorem Pt (s:List UInt8) (w:V) (gn:w.one=true/\w.cells=[w]/\w.eO=true) (h:ae):c9 Tryz.prog 26 [.str s,w] h fun x ab=>x=.agg [.int .i64 16,.int .i64 0,.int .i64 0,.str s,w]/\Ext h ab:=by refine Y2.z rfl (cw ?_);unfold Oi;obtain ⟨aa,ak,aK,c8⟩:=fM h z5;have af:=c8.put [.int .i64 16,.int .i64 0,.int .i64 0,.str s,w];simp +contextual only [ak,gn.1,gn.2.1,gn.2.2,c8.g,af.g,↓an,aF,simprocAttr];exact aK.set (apv _) _
theorem Cx (n:Int) (w:V) (gn:w.one=true/\w.cells=[w]/\w.eO=true) (h:ae):c9 Tryz.prog 27 [.int .i64 n,w] h fun x ab=>x=.agg [.int .i64 2,.int .i64 n,w]/\Ext h ab:=by refine Y3.z rfl (cw ?_);unfold Oj;obtain ⟨aa,ak,aK,c8⟩:=fM h [.int .i64 0,.int .i64 0,.bg];have af:=c8.put [.int .i64 2,.int .i64 n,w];simp +contextual only [ak,gn.1,gn.2.1,gn.2.2,c8.g,af.g,↓an,aF,simprocAttr];exact aK.set (apv _) _
theorem KW (n:Int) (h:ae):c9 Tryz.prog 28 [.int .i64 n] h fun x ab=>x=.agg [.int .i64 1,.int .i64 n,.bg]/\Ext h ab:=by refine Y4.z rfl (cw ?_);unfold Ok;obtain ⟨aa,ak,aK,c8⟩:=fM h [.int .i64 0,.int .i64 0,.bg];have af:=c8.put [.int .i64 1,.int .i64 n,.bg];simp +contextual only [ak,c8.g,af.g,↓an,aF,simprocAttr];exact aK.set (apv _) _
def Kd:List D:=[.i .i64 2,.i .i64 0,.s [105,110,116],.l 4 []]
def Tx:bI:=⟨[78,105,108],[108,105,115,116],0,0,[]⟩
def Pv:bI:=⟨[67,111,110,115],[108,105,115,116],1,0,[Kd]⟩
def Kz:List bI:=[Tx,Pv]
theorem aiw (h:ae):c9 Tryz.prog 25 [] h fun x ab=>b0 Any ab 5 (Kz.map bI.enc) x/\Ext h ab:=by refine Y1.z rfl (cw ?_);unfold Oh;have Xi:bN Any h Kd [.int .i64 2,.int .i64 0,.str [105,110,116],.bg]:=.i (.i (.s (by decide) ((b0.nil _ _ _).cons .nil)));obtain ⟨aa,ak,aK,Hj⟩:=wG (F:=Any) (size:=4) (h:=h) (ds:=Kd) (cs:=[.int .i64 2,.int .i64 0,.str [105,110,116],.bg]) rfl Xi trivial;have hh:bN Any aa Tx.enc [.str [78,105,108],.str [108,105,115,116],.int .i64 0,.int .i64 0,.bg]:=.s (by decide) (.s (by decide) (.i (.i ((b0.nil _ _ _).cons .nil))));have r5:bN Any aa Pv.enc [.str [67,111,110,115],.str [108,105,115,116],.int .i64 1,.int .i64 0,.slice (aw h.next) 0 1 1]:=.s (by decide) (.s (by decide) (.i (.i (Hj.cons .nil))));obtain ⟨ad,al,aS,gv⟩:=Fl (F:=Any) (size:=5) (h:=aa) rfl rfl hh r5 trivial;simp only [apS,aqk] at al;simp +contextual only [ak,al,↓an,aF,simprocAttr];exact ⟨gv,aK.trans aS⟩
abbrev tK:aQ:=.mk 10 0 0 [] []
abbrev KR:aQ:=.mk 16 0 0 [78,105,108] []
abbrev H4:aQ:=.mk 16 0 0 [67,111,110,115] [tK]
abbrev yH:aQ:=.mk 12 0 0 [] []
abbrev t5:b6:=.mk 1 5 []
abbrev t0:b6:=.mk 2 0 []
abbrev Cu:b6:=.mk 2 0 [t5,t0]
abbrev zu:b6:=.mk 2 1 [Cu]
abbrev t3:b6:=.mk 1 3 []
theorem abo:qX Kz [KR,H4] zu=(1,0):=by kernel_rfl
theorem Qm:h_ [] [tK]=0:=by kernel_rfl
theorem abp:vD (DI [] [tK]) t3=(0,0,0):=by kernel_rfl
theorem Qn:h_ [] []=0:=by kernel_rfl
theorem abq:DI [] []=[wP]:=by kernel_rfl
theorem abr:vD [wP] t3=(-1,0,0):=by kernel_rfl
theorem abt:qX [] [yH] t0=(0,2):=by kernel_rfl
theorem abu:ki [] [yH] t0=(false,0):=by kernel_rfl
theorem yZ {F:aL->Prop} {h:ae}:b0 F h 5 (([]:List aQ).map aQ.enc) .bg:=b0.nil _ _ _
theorem FA {F:aL->Prop} {h:ae}:b0 F h 5 (([]:List bI).map bI.enc) .bg:=b0.nil _ _ _
theorem zb {F:aL->Prop} {h:ae} {k n a:Int} {s:List UInt8} {l:List aQ} {w:V} (aZ:s.length<=top) (S:b0 F h 5 (l.map aQ.enc) w):bN F h (aQ.mk k n a s l).enc [.int .i64 k,.int .i64 n,.int .i64 a,.str s,w]:=by rw [Cd];exact .i (.i (.i (.s aZ (S.cons .nil))))
theorem u2 {F:aL->Prop} {h:ae} {k n:Int} {l:List b6} {w:V} (S:b0 F h 3 (l.map b6.enc) w):bN F h (b6.mk k n l).enc [.int .i64 k,.int .i64 n,w]:=by rw [Ii];exact .i (.i (S.cons .nil))
theorem yY {F:aL->Prop} {h:ae}:b0 F h 3 (([]:List b6).map b6.enc) .bg:=b0.nil _ _ _
theorem ahV (h:ae):c9 Tryz.prog 5 [] h fun x ab=>x=.bool true/\Ext h ab:=by have on:V.bg.one=true/\V.bg.cells=[.bg]/\V.bg.eO=true:=⟨rfl,rfl,rfl⟩;refine Zi.z rfl (cw ?_);unfold c5;simp +contextual only [↓an,aF,simprocAttr];refine cu (Lc 10 h) ?_;rintro x aa ⟨rfl,aK⟩;obtain ⟨ad,al,aS,c6⟩:=fw aa z5 [.int .i64 10,.int .i64 0,.int .i64 0,.str [],.bg];obtain ⟨aJ,aI,bU,qH⟩:=wG (F:=Any) (size:=5) (h:=ad) (ds:=tK.enc) (cs:=[.int .i64 10,.int .i64 0,.int .i64 0,.str [],.bg]) rfl (zb (by decide) yZ) trivial;have e0:=c6.ext bU;simp +contextual only [al,aI,c6.g,↓an,aF,simprocAttr];refine cu (aiw aJ) ?_;rintro lc bu ⟨W6,b9⟩;have jy:=e0.ext b9;simp +contextual only [c6.g,e0.g,jy.g,↓an,aF,simprocAttr];refine cu (Pt _ _ on bu) ?_;rintro x cV ⟨rfl,dP⟩;have xi:=jy.ext dP;simp +contextual only [c6.g,e0.g,jy.g,xi.g,↓an,aF,simprocAttr];have Hk:=(qH.ext b9).ext dP;refine cu (Pt _ _ qH.one cV) ?_;rintro x fX ⟨rfl,gV⟩;have GJ:=xi.ext gV;have Dd:=Hk.ext gV;obtain ⟨hX,hO,k2,W5⟩:=Fl (F:=Any) (size:=5) (h:=fX) (ds:=KR.enc) (l3:=H4.enc) (cs:=[.int .i64 16,.int .i64 0,.int .i64 0,.str [78,105,108],.bg]) (nF:=[.int .i64 16,.int .i64 0,.int .i64 0,.str [67,111,110,115],.slice (aw ad.next) 0 1 1]) rfl rfl (zb (by decide) yZ) (zb (l:=[tK]) (by decide) Dd) trivial;simp only [apS,aqk] at hO;have GK:=GJ.ext k2;simp +contextual only [c6.g,e0.g,jy.g,xi.g,GJ.g,GK.g,hO,↓an,aF,simprocAttr];refine cu (KW 5 hX) ?_;rintro x tV ⟨rfl,aa3⟩;simp +contextual only [↓an,aF,simprocAttr];refine cu (Cx 0 _ on tV) ?_;rintro x ya ⟨rfl,aa4⟩;obtain ⟨acE,Uv,aaR,M4⟩:=Fl (F:=Any) (size:=3) (h:=ya) (ds:=t5.enc) (l3:=t0.enc) (cs:=[.int .i64 1,.int .i64 5,.bg]) (nF:=[.int .i64 2,.int .i64 0,.bg]) rfl rfl (u2 yY) (u2 yY) trivial;simp only [apS,aqk] at Uv;simp +contextual only [Uv,↓an,aF,simprocAttr];refine cu (Cx 0 _ M4.one acE) ?_;rintro x QY ⟨rfl,PZ⟩;obtain ⟨acF,akK,AE,M5⟩:=wG (F:=Any) (size:=3) (h:=QY) (ds:=Cu.enc) (cs:=[.int .i64 2,.int .i64 0,.slice (aw ya.next) 0 2 2]) rfl (u2 (l:=[t5,t0]) (M4.ext PZ)) trivial;simp +contextual only [akK,↓an,aF,simprocAttr];refine cu (Cx 1 _ M5.one acF) ?_;rintro x QZ ⟨rfl,P1⟩;have Wj:=((dP.trans gV).trans k2);have CP:=((((aa3.trans aa4).trans aaR).trans PZ).trans AE).trans P1;have Xo:bN Any QZ zu.enc (e9 zu (.slice (aw QY.next) 0 1 1)):=u2 (l:=[Cu]) (M5.ext P1);have hD:=MA Kz [KR,H4] (by decide) zu lc _ _ QZ (W6.ext (Wj.trans CP)) (W5.ext CP) Xo;rw [abo] at hD;simp only [e9,b6.k,b6.n] at hD;simp +contextual only [↓an,aF,simprocAttr];refine cu hD ?_;rintro x ID ⟨rfl,P2⟩;have V7:=((GK.ext CP).ext P2);simp +contextual only [c6.g,e0.g,jy.g,xi.g,GJ.g,GK.g,V7.g,↓an,aF,simprocAttr];obtain ⟨Ej,akL,aaS,W2⟩:=wG (F:=Any) (size:=5) (h:=ID) (ds:=tK.enc) (cs:=[.int .i64 10,.int .i64 0,.int .i64 0,.str [],.bg]) rfl (zb (by decide) yZ) trivial;simp +contextual only [akL,↓an,aF,simprocAttr];refine cu (Mu [] [tK] (by decide) .bg _ Ej FA W2) ?_;rintro x ia ⟨d,rfl,M6,aaT⟩;rw [Qm,apz rfl] at M6;rw [Qm];simp +contextual only [↓an,aF,simprocAttr];refine cu (KW 3 ia) ?_;rintro x Q0 ⟨rfl,P3⟩;have Xk:bN Any Q0 t3.enc [.int .i64 1,.int .i64 3,.bg]:=u2 yY;have dX:=Vx (DI [] [tK]) t3 d _ Q0 (M6.ext P3) Xk;rw [abp] at dX;simp only [L7] at dX;simp +contextual only [↓an,aF,simprocAttr];refine cu dX ?_;rintro x acG ⟨rfl,aaU⟩;simp +contextual only [↓an,aF,simprocAttr];refine cu (Mu [] [] (by decide) .bg .bg acG FA yZ) ?_;rintro x Q1 ⟨d2,rfl,Hl,aaV⟩;rw [Qn,apz rfl,abq] at Hl;rw [Qn];simp +contextual only [↓an,aF,simprocAttr];refine cu (KW 3 Q1) ?_;rintro x Q3 ⟨rfl,P4⟩;have Xl:bN Any Q3 t3.enc [.int .i64 1,.int .i64 3,.bg]:=u2 yY;have II:=Vx [wP] t3 d2 _ Q3 (Hl.ext P4) Xl;rw [abr] at II;simp only [L7] at II;simp +contextual only [↓an,aF,simprocAttr];refine cu II ?_;rintro x acI ⟨rfl,aaW⟩;simp +contextual only [↓an,aF,simprocAttr];refine cu (Lc 12 acI) ?_;rintro x acJ ⟨rfl,aaX⟩;obtain ⟨acK,akM,aaY,W3⟩:=wG (F:=Any) (size:=5) (h:=acJ) (ds:=yH.enc) (cs:=[.int .i64 12,.int .i64 0,.int .i64 0,.str [],.bg]) rfl (zb (by decide) yZ) trivial;simp +contextual only [akM,↓an,aF,simprocAttr];refine cu (Cx 0 _ on acK) ?_;rintro x Q4 ⟨rfl,P5⟩;have Xm:bN Any Q4 t0.enc (e9 t0 .bg):=u2 yY;have AV:=MA [] [yH] (by decide) t0 .bg _ _ Q4 FA (W3.ext P5) Xm;rw [abt] at AV;simp only [e9,b6.k,b6.n] at AV;simp +contextual only [↓an,aF,simprocAttr];refine cu AV ?_;rintro x acL ⟨rfl,aaZ⟩;simp +contextual only [↓an,aF,simprocAttr];refine cu (Lc 12 acL) ?_;rintro x acM ⟨rfl,aa0⟩;obtain ⟨AR,akN,aa1,W4⟩:=wG (F:=Any) (size:=5) (h:=acM) (ds:=yH.enc) (cs:=[.int .i64 12,.int .i64 0,.int .i64 0,.str [],.bg]) rfl (zb (by decide) yZ) trivial;simp +contextual only [akN,↓an,aF,simprocAttr];refine cu (Cx 0 _ on AR) ?_;rintro x Q5 ⟨rfl,P6⟩;have Xn:bN Any Q5 t0.enc (e9 t0 .bg):=u2 yY;have ji:=M8 [] [yH] (by decide) t0 .bg _ _ Q5 FA (W4.ext P6) Xn;rw [abu] at ji;simp only [e9,b6.k,b6.n] at ji;simp +contextual only [↓an,aF,simprocAttr];refine cu ji ?_;rintro x an9 ⟨rfl,aa2⟩;simp +contextual only [↓an,aF,simprocAttr];refine cu (X' _) ?_;rintro x vG ⟨rfl,rfl⟩;have Mw:Ext Q1 vG:=((((((((P4.trans aaW).trans aaX).trans aaY).trans P5).trans aaZ).trans aa0).trans aa1).trans P6).trans aa2;have M7:=Hl.ext Mw;have aar:=M7.len;obtain ⟨Nv,KY,ao_,i1,i2,i3,i4,i5⟩:=M7.at (k:=.i64) (i:=0) (by decide);have Sh:fK 7 d2 (.int .i64 0)=some (.ptr Nv (KY+0 * 7)):=i1;obtain ⟨jx,rfl,_⟩:=dt.open (c:=wP) i2;have j':fZ (vG.get Nv) (KY+0 * 7)=some (.int .i64 3):=i5 vG (Ext.refl _) 0 (by decide);generalize KY+0 * 7=aoU at Sh j';have aas:hJ d2=some (.int .i64 1):=aar;simp +contextual only [aas,Sh,j',↓an,aF,simprocAttr];exact (((((((((((((((((((aK.trans aS).trans bU).trans b9).trans dP).trans gV).trans k2).trans CP).trans P2).trans aaS).trans aaT).trans P3).trans aaU).trans aaV).trans Mw))))))
end
end Go.Proofs.YtgmhjhgoamjeeaaGreatDoor
