/- The chapter's functions, walked by the abstract machine: plain lemmas, no condition. Printed by a program from longer texts: names made short. -/
import Derived.Test.YtgmhjhgoamjeeaaGreatDoorM18
import Derived.Test.YtgmhjhgoamjeeaaGreatDoorM19
import Derived.Test.YtgmhjhgoamjeeaaGreatDoorM8
import Derived.Test.YtgmhjhgoamjeeaaGreatDoorM15
import Derived.Test.YtgmhjhgoamjeeaaGreatDoorM6
import Derived.Test.YtgmhjhgoamjeeaaGreatDoorM4
set_option linter.unusedSectionVars false
set_option linter.unusedSimpArgs false
set_option linter.unusedVariables false
set_option maxHeartbeats 64000000
noncomputable section
namespace Go.Proofs.YtgmhjhgoamjeeaaGreatDoor
section
open Go aX
section
variable {cs:List bz} {n:Nat} {l ch:List aL} {p:aL} {s:List aL}
end
def jP (cs:List bz) (s:List UInt8):Int:=match eh s cs with
 | some c=>c.tag
 | none=>0
abbrev fH:=List Int × Bool × Int
def jY (cs:List bz) (k n:Int) (s:List UInt8) (path:List Int):List fH:=
 if k=12 then [(path,true,n)] else if k=14 then [(path,false,n)] else if k=16 then [(path,false,jP cs s)] else []
mutual
def fm (cs:List bz):aL->List Int->List fH
 | .mk k n _ s l,path=>jY cs k n s path++j5 cs l path 0
def j5 (cs:List bz):List aL->List Int->Nat->List fH
 | [],_,_=>[]
 | t::l,path,i=>fm cs t (path++[(i:Int)])++j5 cs l path (i+1)
end
abbrev Nm:=List UInt8 × List Int
theorem W3 (cs:List bz) (p:aL) (path:List Int):fm cs p path=jY cs p.k p.n p.s path++j5 cs p.l path 0:=by cases p;rfl
theorem TY (cs:List bz):∀(l m:List aL) (path:List Int) (i:Nat),j5 cs (l++m) path i=j5 cs l path i++j5 cs m path (i+l.length)
 | [],m,path,i=>rfl
 | t::l,m,path,i=>by simp only [arR,j5,TY cs l m path (i+1),ar_,arA];rw [show i+1+l.length=i + (l.length+1) by omega]
theorem ajJ (cs:List bz) (l:List aL) (path:List Int) {i:Nat} (aw:i<l.length):j5 cs (l.take (i+1)) path 0=j5 cs (l.take i) path 0++fm cs l[i] (path++[(i:Int)]):=by rw [take_one aw,TY,ar6,ats (by omega),arV];simp only [j5,asS]
theorem SI (cs:List bz) (k n:Int) (s:List UInt8) (path:List Int):(jY cs k n s path).length<=1:=by
 unfold jY
 repeat' split
 all_goals simp
mutual
theorem Hk (cs:List bz):∀(p:aL) (path:List Int),(fm cs p path).length<=p.size
 | .mk k n a s l,path=>by have aa:=SI cs k n s path;have ad:=Lf cs l path 0;simp only [fm,arE,aL.size];omega
theorem Lf (cs:List bz):∀(l:List aL) (path:List Int) (i:Nat),(j5 cs l path i).length<=b8 l
 | [],_,_=>arv _
 | t::l,path,i=>by have aa:=Hk cs t (path++[(i:Int)]);have ad:=Lf cs l path (i+1);simp only [j5,arE,b8];omega
end
def acR (t:Nm):List D:=[.s t.1,.l 1 (t.2.map gB)]
section
variable [Lay] {B:Nat} {h ab:ae} {v:V}
theorem Wy {F:aM->Prop} {l:List Int} (H:dY B h 1 v l.length (gU l)) (ax:l.length<=top) (hd:∀b,v.aZ b->F b):bY F h 1 (l.map gB) v:=
 ⟨H.room,by rw [arC];exact ax,⟨l.map fun i=>[V.int .i64 i],by rw [arC,ES];exact H.v,by simp,fun u hu=>by
   obtain ⟨i,_,rfl⟩:=atM.1 hu;rfl,fun i e u al ao=>by
   rw [ase] at al ao;cases aw:l[i]? with
   | none=>rw [aw] at al;cases al
   | some y=>
     rw [aw] at al ao;simp only [asD,arq] at al ao;subst al ao;exact .i .nil⟩,hd⟩
theorem anM {l:List Int} {w:V} {G:aM->Prop} (L:bY G h 1 (l.map gB) w) (ax:l.length<=1000000000):∃cl ab,kg 1 .bj w h=.val cl ab/\dY h.next ab 1 cl l.length (gU l)/\Ext h ab:=by obtain ⟨cl,ab,a,b,c,d⟩:=Go.Proofs.YtgmhjhgoamjeeaaGreatDoor.aX.Io (B:=h.next) (s:=.bj) (n:=0) (us:=[]) (by omega) ⟨by simp,rfl⟩ L.ints (arv _) (by unfold top;omega) (Vd l);rw [arV,asb] at b;exact ⟨cl,ab,a,b,(Ext.refl h).oL c fun b z=>z.elim⟩
def o' (u:V) (t:fH):List V:=[u,.bool t.2.1,.int .i64 t.2.2]
structure ia (B:Nat) (h:ae) (bn:List fH) (v:V):Prop where
 ex:∃us:List V,dY B h 3 v bn.length (List.zipWith o' us bn).flatten/\us.length=bn.length/\(∀(i:Nat) (u:V) (t:fH),us[i]? =some u->bn[i]? =some t->t.1.length<=1000000000/\dY B h 1 u t.1.length (gU t.1)/\∀b,u.aZ b->¬v.aZ b)/\
  ∀(i j:Nat) (u fE:V),i<j->us[i]? =some u->us[j]? =some fE->∀b,u.aZ b->¬fE.aZ b
theorem ia.nil (B:Nat) (h:ae):ia B h [] .bj:=⟨[],⟨by simp,rfl⟩,rfl,fun i u t q=>(by simp at q),fun i j u fE _ q=>(by simp at q)⟩
theorem ia.mod {M:aM->Prop} {bn:List fH} (H:ia B h bn v) (m:Mod M h ab) (cN:∀b,M b->¬B<=b0 b):ia B ab bn v:=by obtain ⟨us,a,b,c,d⟩:=H.ex;refine ⟨us,a.mod m fun p q z=>cN p z (a.base q),b,fun i u t al ao=>?_,d⟩;obtain ⟨bJ,bO,c3⟩:=c i u t al ao;exact ⟨bJ,bO.mod m fun p q z=>cN p z (bO.base q),c3⟩
theorem ia.ext {bn:List fH} (H:ia B h bn v) (e:Ext h ab):ia B ab bn v:=by obtain ⟨us,a,b,c,d⟩:=H.ex;refine ⟨us,a.ext e,b,fun i u t al ao=>?_,d⟩;obtain ⟨bJ,bO,c3⟩:=c i u t al ao;exact ⟨bJ,bO.ext e,c3⟩
theorem ia.base {bn:List fH} (H:ia B h bn v) {b:aM} (ah:v.aZ b):B<=b0 b:=by obtain ⟨us,a,_⟩:=H.ex;exact a.base ah
theorem ia.rW {bn:List fH} (H:ia B h bn v) {b:aM} (ah:v.aZ b):Old h b:=by obtain ⟨us,a,_⟩:=H.ex;exact a.v.bL ah
theorem ia.one {bn:List fH} (H:ia B h bn v):v.one=true/\v.cells=[v]/\v.eU=true:=by obtain ⟨us,a,_⟩:=H.ex;exact a.v.one
theorem ia.add {aY:ae} {bn:List fH} (H:ia B aY bn v) (e:Ext aY h) {gi:V} {t:fH} (P:dY aY.next h 1 gi t.1.length (gU t.1)) (cG:B<=aY.next) (ax:bn.length+1<=1000000000) (aG:t.1.length<=1000000000):
 ∃cl ab,kg 3 v (.slice (az h.next) 0 1 1) (h.new (.bU (o' gi t) 0 false))=.val cl ab/\ia B ab (bn++[t]) cl/\Mod v.aZ h ab/\h.next+1<=ab.next/\∀b,cl.aZ b->v.aZ b\/h.next<b0 b:=by
 have U9:∀b,v.aZ b->b0 b<aY.next:=fun b z=>by have:=H.rW z;unfold Old at this;exact this
 obtain ⟨us,a,b,c,d⟩:=H.ex;have cr:=e.next
 obtain ⟨cl,ab,al,ao,aK,bG,cK⟩:=Go.Proofs.YtgmhjhgoamjeeaaGreatDoor.aX.AT (by omega) (a.ext e) (by omega) (by unfold top;omega) (cs:=o' gi t) rfl (by have:=P.v.one;simp only [o',e9];rw [this.1];rfl);have amn:∀b,gi.aZ b->b0 b<h.next:=fun b z=>by have:=P.v.bL z;unfold Old at this;exact this
 refine ⟨cl,ab,al,⟨us++[gi],?_,by simp [b],fun i u tL bX bA=>?_,fun i j u fE pr bX bA p bN z2=>?_⟩,aK,bG,cK⟩
 . rw [List.zipWith_append (by rw [b]),List.flatten_append,arE];simpa using ao
 . rcases Bs bX with ⟨aw,bX⟩ | ⟨aw,rfl⟩
   . rw [arI (by omega)] at bA;obtain ⟨bJ,bO,c3⟩:=c i u tL bX bA;have co:∀p,u.aZ p->b0 p<aY.next:=fun p z=>by have:=bO.v.bL z;unfold Old at this;exact this
     exact ⟨bJ,(bO.ext e).mod aK c3,fun p z y=>by
      rcases cK p y with y | y
      . exact c3 p z y
      . have:=co p z;omega⟩
   . rw [aw,b,arJ (arv _),as6] at bA;simp only [arG,arq] at bA;subst bA
     exact ⟨aG,(P.mod aK fun p z y=>by have:=P.base z;have:=U9 p y;omega).mono (by omega),fun p z y=>by
      rcases cK p y with y | y
      . have:=P.base z;have:=U9 p y;omega
      . have:=amn p z;omega⟩
 . rcases Bs bA with ⟨bp,bA⟩ | ⟨bp,rfl⟩
   . rw [arI (by omega)] at bX;exact d i j u fE pr bX bA p bN z2
   . rw [arI (by omega)] at bX;have aw:i<bn.length:=by omega
     obtain ⟨bJ,bO,c3⟩:=c i u bn[i] bX (ars aw);have:=bO.v.bL bN;unfold Old at this;have:=P.base z2;omega
end
def adF:List aL->Option aL
 | []=>none
 | p::_=>if nY p=true then none else some p
def R1 (rows:List (List aL)):List aL:=rows.filterMap adF
def akH (rows:List (List aL)) (aI:de):Bool:=(R1 rows).any fun p=>decide (fB p=aI)
section
variable [Lay] {B:Nat} {F G:aM->Prop} {h ab:ae} {size:Nat} {es fA:List (List D)} {v w:V}
end
structure apt (k:Nat) (rows:List (List aL)):Prop where
 len:∀r ∈ rows,r.length=k
 k3:∀r ∈ rows,∀p ∈ r,p.l.length<=1000000000
 num:rows.length<=1000000000
 sm:k<=1000000000
structure apq (rows:List (List aL)) (h:ae) (cv:Nat):Prop where
 ex:∃aO,hk km h (az cv) aO/\(∀aI,ek aI aO=if akH rows aI=true then some (.bool true) else none)/\(aO=[]↔R1 rows=[])
def lz (p:aL):Prop:=jk p=true/\p.size<=1000000000
theorem Bt {p q:aL} (h:lz p) (ay:q ∈ p.l):lz q:=by obtain ⟨_,_,_,_,_,a⟩:=CR h.2 h.1;exact ⟨a q ay,by have:=u5 ay;have:=h.2;omega⟩
theorem aeh {p:aL} (h:lz p) (hw:nY p=true):p.l=[]:=by obtain ⟨_,_,_,_,a,_⟩:=CR h.2 h.1;simp only [nY,asF,arF] at hw;exact a (by omega) (by omega)
structure apv (rows:List (List aL)) (q:List aL):Prop where
 len:∀r ∈ rows,r.length=q.length
 rg:∀r ∈ rows,∀p ∈ r,lz p
 aqV:∀p ∈ q,lz p
 num:rows.length<=1000000000
section
variable {rows:List (List aL)} {q:List aL} {p:aL} {aI:de}
end
def XG (cs:List bz) (l:List aL):Prop:=∀n,gk cs n l=true
theorem Vw {s:List aL} {q:aL} (hw:nY q=false) {aI:de} {i:Nat}:∀l:List aL,b8 (hh l aI i)<=b8 l
 | []=>arv _
 | p::l=>by
   have bc:=Vw (s:=s) hw (aI:=aI) (i:=i) l;unfold hh at bc ⊢;rw [atl]
   split
   . rw [List.filterMap_cons];cases ak:p.l[i]? with
     | none=>simp only [b8];omega
     | some x=>
       have aa:=u5 (arX ak);simp only [b8];omega
   . simp only [b8];omega
theorem aml {aI:de} {i:Nat}:∀l:List aL,l≠[]->b8 (hh l aI i)<b8 l
 | [],h=>absurd rfl h
 | p::l,_=>by
   have bc:b8 (hh l aI i)<=b8 l:=Vw (s:=[]) (q:=.mk 12 0 0 [] []) (by decide) l;have aY:0<p.size:=nT p;unfold hh at bc ⊢;rw [atl]
   split
   . rw [List.filterMap_cons];cases ak:p.l[i]? with
     | none=>simp only [b8];omega
     | some x=>
       have aa:=u5 (arX ak);simp only [b8];omega
   . simp only [b8];omega
theorem WQ:∀l:List aL,b8 (h8 l)<=b8 l
 | []=>arv _
 | p::l=>by
   have bc:=WQ l;unfold h8 at bc ⊢;rw [atl]
   split
   . simp only [b8];omega
   . simp only [b8];omega
theorem zZ {cs:List bz} {n:Nat} {l:List aL}:gk cs (n+1) l=true↔∀p s,h8 l=p::s->(∀q ∈ p::s,kl cs p q=true)/\∀q ∈ p::s,∀i<q.l.length,gk cs n (hh (p::s) (fB q) i)=true:=by
 cases aU:h8 l with
 | nil=>simp [gk,aU]
 | cons p s=>
   simp only [gk,aU,arp,arU,asW,asY];exact ⟨fun h p' fU ⟨a,b⟩=>by subst a;subst b;exact h,fun h=>h p s ⟨rfl,rfl⟩⟩
theorem MS {cs:List bz}:∀(N n:Nat) (l:List aL),b8 l<=n->gk cs n l=true->gk cs N l=true
 | 0,_,_,_,_=>rfl
 | N+1,n,l,aV,h=>by rw [zZ];intro p s aU;have aa:=WQ l;have aY:0<p.size:=nT p;rw [aU,b8] at aa;obtain ⟨m,rfl⟩:∃m,n=m+1:=⟨n-1,by omega⟩;obtain ⟨a,b⟩:=zZ.1 h p s aU;refine ⟨a,fun q ay i aw=>MS N m _ ?_ (b q ay i aw)⟩;have ad:=aml (aI:=fB q) (i:=i) (p::s) (by simp);rw [b8] at ad;omega
theorem LB {l:List aL} {p:aL}:p ∈ h8 l↔p ∈ l/\nY p=false:=by simp [h8,atq]
theorem LA {l:List aL} {aI:de} {i:Nat} {x:aL}:x ∈ hh l aI i↔∃q ∈ l,fB q=aI/\q.l[i]? =some x:=by simp only [hh,List.mem_filterMap,atq,arF];exact ⟨fun ⟨q,⟨a,b⟩,c⟩=>⟨q,a,b,c⟩,fun ⟨q,a,b,c⟩=>⟨q,⟨a,b⟩,c⟩⟩
theorem yv {cs:List bz} {p q:aL}:kl cs p q=true↔q.k=p.k/\(p.k=16->∃c,eh q.s cs=some c/\c.ty=jR cs p.s/\c.arg.length=q.l.length):=by
 simp only [kl,arp,arF,asF];refine and_congr_right fun _=>?_;by_cases h:p.k=16
 . simp only [h,ne_eq,not_true,false_or,forall_const];cases eh q.s cs with
   | none=>simp
   | some c=>simp
 . simp [h]
theorem adw {cs:List bz} {p q:aL} (h:kl cs p q=true) (hc:p.k=16):jR cs q.s=jR cs p.s:=by obtain ⟨c,a,b,_⟩:=(yv.1 h).2 hc;unfold jR at b ⊢;rw [a];exact b
theorem WW {cs:List bz}:∀(n:Nat) (eE l:List aL),(∀p ∈ eE,nY p=false->p ∈ l)->gk cs n l=true->gk cs n eE=true
 | 0,_,_,_,_=>rfl
 | n+1,eE,l,s8,h=>by
   rw [zZ];intro p' fU iU;have dc:∀q ∈ p'::fU,q ∈ h8 l:=fun q ay=>by rw [<-iU] at ay;obtain ⟨a,b⟩:=LB.1 ay;exact LB.2 ⟨s8 q a b,b⟩
   obtain ⟨p,s,aU⟩:∃p s,h8 l=p::s:=ath fun z=>by have:=dc p' ar1;rw [z] at this;cases this
   rw [aU] at dc;obtain ⟨a,b⟩:=zZ.1 h p s aU;have gF:=a p' (dc p' ar1);refine ⟨fun q ay=>?_,fun q ay i aw=>WW n _ _ (fun x ak _=>?_) (b q (dc q ay) i aw)⟩
   . have pw:=a q (dc q ay);have e:=(yv.1 gF).1;refine yv.2 ⟨by rw [(yv.1 pw).1,e],fun hc=>?_⟩;obtain ⟨c,bJ,bO,c3⟩:=(yv.1 pw).2 (by rw [<-e];exact hc);exact ⟨c,bJ,by rw [bO,adw gF (by rw [<-e];exact hc)],c3⟩
   . obtain ⟨y,du,e3,y3⟩:=LA.1 ak;exact LA.2 ⟨y,dc y du,e3,y3⟩
section
variable [Lay]
end
theorem wg {cs:List bz} {l:List aL} (h:gC cs l=0):(∀p ∈ l,jk p=true)/\gk cs (b8 l) l=true:=by
 unfold gC at h
 split at h
 . rename_i c;simp only [arp,arU] at c;exact ⟨c.1.2,c.2⟩
 . cases h
theorem Bl (cs:List bz) (l:List aL):gC cs l=0\/gC cs l=2:=by
 unfold gC
 split
 . exact .inl rfl
 . exact .inr rfl
section
variable [Lay] {F:aM->Prop} {h ab:ae} {w:V} {l:List Int}
structure ob (F:aM->Prop) (h:ae) (l:List Int) (w:V):Prop where
 eW:bY F h 1 (l.map gB) w
 form:w=.bj\/∃b,w=.ew b 0 l.length 0
theorem ob.ext (P:ob F h l w) (e:Ext h ab):ob F ab l w:=⟨P.eW.ext e,P.form⟩
theorem ob.nil (F:aM->Prop) (h:ae):ob F h [] .bj:=⟨bY.nil _ _ _,.inl rfl⟩
theorem ob.mod {M dU:aM->Prop} (P:ob F h l w) (m:Mod M h ab) (cN:∀b,F b->Old h b->¬M b/\dU b):ob dU ab l w:=⟨P.eW.mod m cN,P.form⟩
theorem alH (h:ae) (x:Int):fp (h.new (.bU [.int .i64 x] 0 false)) 1 (.slice (az h.next) 0 1 1) 1 [.int .i64 x]:=
 ⟨rfl,rfl,hP (by rw [gv];omega),[.int .i64 x],.inr ⟨0,false,by rw [rq]⟩,by simp,by simp⟩
theorem anW (P:ob F h l w) (ax:l.length<=1000000000) (x:Int):∃bA,qR 1 w none (some (.int .i64 l.length)) (some (.int .i64 l.length))=some bA/\
 ∃cl ab,kg 1 bA (.slice (az h.next) 0 1 1) (h.new (.bU [.int .i64 x] 0 false))=.val cl ab/\(∃b,cl=.ew b 0 (l.length+1) 0)/\dY h.next ab 1 cl (l++[x]).length (gU (l++[x]))/\Ext h ab:=by
 have ak:Ext h (h.new (.bU [.int .i64 x] 0 false)):=(Ext.refl h).new _;have bt:=alH h x;have UX:h.next<=(h.new (.bU [.int .i64 x] 0 false)).next:=ak.next
 have kr:(gU (l++[x])).length=(l.length+1) * 1:=by rw [K7,arE];simp
 rw [show (l++[x]).length=l.length+1 by simp];rcases P.form with rfl | ⟨b,rfl⟩
 . have bk:l.length=0:=by
    have:=P.eW.len;rw [arC] at this;have e:ht (.bj)=some (.int .i64 (0:Int)):=rfl;rw [e] at this;simp only [arq,V.int.injEq,atn] at this;omega
   obtain rfl:l=[]:=asj bk;refine ⟨.bj,rfl,?_⟩;rw [Il bt (by unfold top;omega)];simp only [vT,asd];rw [show Nat.beq 1 0=false from rfl];simp only [arB];rw [CE (by simp [top]) (by omega)];exact ⟨_,_,rfl,⟨_,rfl⟩,dY.grown kr UX,ak.new _⟩
 . obtain ⟨_,q⟩:=P.eW.ints;have fa:jS h b 0 (gU l):=q.2;refine ⟨.slice b 0 l.length l.length,?_,?_⟩
   . simp only [qR,xB,IC (arv l.length),A3];cases l.length<;>rfl
   . rw [Il bt (by unfold top;omega)];simp only [vS];rw [show Nat.ble (l.length+1) l.length=false from by rw [<-ar4,arH];omega];rw [show (Nat.ble (l.length+1) top&&Nat.ble l.length top)=true from by simp only [arp,arH];unfold top;omega];simp only [arB,aru];rw [zW (fa.ext ak) (by rw [K7,atG])];simp only;rw [show gU l++[V.int .i64 x]=gU (l++[x]) from by rw [TI];rfl];rw [CE (by rw [kr];unfold top;omega) (by omega)];exact ⟨_,_,rfl,⟨_,rfl⟩,dY.grown kr UX,ak.new _⟩
end
theorem anX (l:List Int) (ax:l.length<=1000000000) (x:Int) (F:aM->Prop) (w:V) (h:ae) (P:ob F h l w):cR Tryz.prog 39 [w,.int .i64 x] h fun y ab=>ob (AN h) ab (l++[x]) y/\Ext h ab:=by have je:=P.eW.len;rw [arC] at je;obtain ⟨bA,al,cl,ab,ao,⟨b,aK⟩,bG,e⟩:=anW P ax x;refine aaI.z rfl (cp ?_);unfold PG;simp +contextual only [je,al,ao,↓aj,aC,simprocAttr];exact ⟨⟨Wy bG (by rw [arE];unfold top;simp;omega) fun b z=>bG.base z,.inr ⟨b,by rw [aK];simp⟩⟩,e⟩
structure jW (cs:List bz) (h:ae) (cv:aM):Prop where
 ex:∃aO:List (List UInt8 × V),jV (fun v=>v) h cv aO/\(aO.map Prod.fst).Nodup/\∀s,match eh s cs with
  | some c=>∃dA,iK s aO=some (.agg (kM c dA))/\ht dA=some (.int .i64 c.arg.length)/\dA.one=true/\dA.cells=[dA]/\dA.eU=true
  | none=>iK s aO=none
theorem jW.ext {cs:List bz} {h ab:ae} {cv:aM} (H:jW cs h cv) (e:Ext h ab):jW cs ab cv:=by obtain ⟨aO,a,b⟩:=H.ex;exact ⟨aO,a.ext e,b⟩
theorem jW.mod {cs:List bz} {M:aM->Prop} {h ab:ae} {cv:aM} (H:jW cs h cv) (m:Mod M h ab) (ah:¬M cv):jW cs ab cv:=by obtain ⟨aO,a,b⟩:=H.ex;exact ⟨aO,a.mod m ah,b⟩
theorem jW.look {cs:List bz} {h:ae} {cv:aM} (H:jW cs h cv) (s:List UInt8):∃(a b:List UInt8) (y:Int) (w:V),gK jt.str.eq (.agg [.str [],.str [],.int .i64 0,.int .i64 0,.bj]) false h (.map cv) (.str s)=some (.agg [.str a,.str b,.int .i64 (jP cs s),.int .i64 y,w]):=by
 obtain ⟨aO,a,_,b⟩:=H.ex;have aa:=a.look s (.agg mo) false;have ad:=b s;unfold jP;cases aq:eh s cs with
 | none=>
   rw [aq] at ad;refine ⟨[],[],0,.bj,?_⟩;show gK jE _ _ _ _ _=_;rw [aa,show iK s aO=none from ad];rfl
 | some c=>
   rw [aq] at ad;obtain ⟨dA,f,_⟩:=ad;refine ⟨c.name,c.ty,c.par,dA,?_⟩;show gK jE _ _ _ _ _=_;rw [aa,f];rfl
theorem abJ {pre:List bz} {s:List UInt8} (h:pre.any (fun d=>decide (d.name=s))=false):eh s pre=none:=by
 induction pre with
 | nil=>rfl
 | cons c pre bc=>
   simp only [List.any_cons,as9,asr] at h;rw [eh,arw h.1];exact bc h.2
theorem QF (s:List UInt8) (c:bz):∀pre:List bz,eh s (pre++[c])=(match eh s pre with
 | some d=>some d
 | none=>if c.name=s then some c else none)
 | []=>rfl
 | d::pre=>by
   simp only [arR,eh];by_cases h:d.name=s
   . rw [arz h,arz h]
   . rw [arw h,arw h,QF s c pre]
theorem Ll:∀(cs pre:List bz),j6 pre cs=true->∀(i:Nat) (aw:i<cs.length),eh cs[i].name (pre++cs.take i)=none
 | [],pre,h,i,aw=>by simp at aw
 | c::cs,pre,h,i,aw=>by
   simp only [j6,arp] at h;cases i with
   | zero=>
     have:=h.1;simp only [Gn,arp,aso] at this;simpa using abJ this.1.1.1
   | succ i=>
     have:=Ll cs (pre++[c]) h.2 i (by simpa using aw);simpa using this
theorem Hi (cs:List bz) (rG:j6 [] cs=true) (v:V) (h:ae) (L:bY Any h 5 (cs.map bz.enc) v):cR Tryz.prog 35 [v] h fun x ab=>x=.map (az h.next)/\jW cs ab (az h.next)/\Ext h ab:=by
 have ax:=L.len;have hle:=L.le;rw [arC] at ax hle;refine aaG.z rfl (cp ?_);unfold PD;obtain ⟨aa,al,aJ,cH⟩:∃H,h.new (.mp [] 0)=H/\Ext h H/\jV (fun v:V=>v) H (az h.next) []:=⟨_,rfl,(Ext.refl h).new _,jV.new _ h⟩;simp +contextual only [al,ax,rS,tp,aT.opt,↓aj,aC,simprocAttr];refine fR (fun r g=>r 3=.map (az h.next)/\r 7=v/\r 8=.int .i64 cs.length/\Ext h g/\∃i:Nat,r 9=.int .i64 i/\i<=cs.length/\jW (cs.take i) g (az h.next)) (fun r g=>cs.length - (r 9).toN) ?_ ?_
 . exact ⟨by simp only [↓aj,bD,simprocAttr],by simp only [↓aj,bD,simprocAttr],by simp only [↓aj,bD,simprocAttr],aJ,0,by simp only [↓aj,bD,simprocAttr]<;>rfl,by omega,⟨[],cH,List.nodup_nil,fun s=>rfl⟩⟩
 rintro r g ⟨cz,cy,b',ei,i,dS,aw,T⟩;unfold PE;by_cases aS:i<cs.length
 . have g0:((i:Int) < (cs.length:Int))=True:=arD (by omega);obtain ⟨b,off,dA,cd,X,xZ,Lk,_,_,_,_⟩:=bz.k3 L (k:=.i64) aS;have d5:=Lk g ei;have kB:=xZ.one;have dM:=hj aS (by unfold top at hle;omega);have rL:cs.take (i+1)=cs.take i++[cs[i]]:=asg aS;have rz:=Ll cs [] rG i aS;rw [asb] at rz;obtain ⟨g1,ao,aR,dv⟩:=fy g mo (kM cs[i] dA);obtain ⟨aO,YF,N9,su⟩:=(T.ext aR).ex;obtain ⟨g2,Hn,aoy,aoz,aq8⟩:=YF.pN cs[i].name (.agg (kM cs[i] dA));simp only [kM] at d5 ao Hn dv;simp +contextual only [cz,cy,b',dS,g0,cd,d5,kB.1,kB.2.1,ao,dv.g,show kc jt.str.eq g1 (.map (az h.next)) (.str cs[i].name) _=some g2 from Hn,dM,↓aj,aC,simprocAttr];refine ⟨⟨(ei.trans aR).oL aoz fun b z=>by rw [z,c7];exact arv _,i+1,rfl,aS,⟨_,aoy,?_,fun s=>?_⟩⟩,by omega⟩
   . rw [TT]
     split
     . exact N9
     . rename_i aV;exact atE.2 ⟨N9,by simp,fun a bs b ah=>by rw [asl] at ah;subst ah;exact fun z=>aV (z ▸ bs)⟩
   rw [rL,QF,Ls];have ad:=su s;by_cases c:s=cs[i].name
   . subst c;rw [rz];simp only [ar2];exact ⟨dA,rfl,xZ.len,kB.1,kB.2.1,kB.2.2⟩
   . rw [arw c];cases aq:eh s (cs.take i) with
     | none=>
       rw [aq] at ad;simp only [arw (Ne.symm c:¬cs[i].name=s)];exact ad
     | some d=>
       rw [aq] at ad;exact ad
 . have g0:((i:Int) < (cs.length:Int))=False:=arx (by omega);rw [asu (by omega)] at T;simp +contextual only [cz,cy,b',dS,g0,↓aj,aC,simprocAttr];exact ⟨T,ei⟩
def P1:a1:=
 a1.seq (a1.an [⟨(some 12),.dZ 0 (.t 5),none,[5]⟩,
  ⟨(some 13),.dR (.t 12),none,[12]⟩])
  (a1.block 0 (a1.seq (a1.an [⟨(some 15),.bin (.int .eql) (.t 13) (.c (.int .i64 12)),none,[13]⟩,
    ⟨(some 14),.cO (.t 15),none,[15]⟩])
   (a1.cond (.t 14)
    (a1.an [⟨(some 16),.dR (.t 2),none,[2]⟩,
      ⟨(some 17),.cO (.t 7),none,[7]⟩,
      ⟨(some 18),.dZ 1 (.t 5),none,[5]⟩,
      ⟨(some 19),.dR (.t 18),none,[18]⟩,
      ⟨(some 20),.build [.bj,(.bool false),(.int .i64 0)] [(0,1,(.t 17)),(1,1,(.c (.bool true))),(2,1,(.t 19))],none,[17,19]⟩,
      ⟨(some 21),.hS 1 3 [.bj,(.bool false),(.int .i64 0)] [(0,3,(.t 20))],none,[20]⟩,
      ⟨(some 22),.app 3 (.t 16) (.t 21),none,[16,21]⟩,
      ⟨none,.st 1 (.t 2) (.t 22),none,[2,22]⟩])
    (a1.seq (a1.an [⟨(some 24),.bin (.int .eql) (.t 13) (.c (.int .i64 14)),none,[13]⟩,
      ⟨(some 23),.cO (.t 24),none,[24]⟩])
     (a1.cond (.t 23)
      (a1.an [⟨(some 25),.dR (.t 2),none,[2]⟩,
        ⟨(some 26),.cO (.t 7),none,[7]⟩,
        ⟨(some 27),.dZ 1 (.t 5),none,[5]⟩,
        ⟨(some 28),.dR (.t 27),none,[27]⟩,
        ⟨(some 29),.build [.bj,(.bool false),(.int .i64 0)] [(0,1,(.t 26)),(2,1,(.t 28))],none,[26,28]⟩,
        ⟨(some 30),.hS 1 3 [.bj,(.bool false),(.int .i64 0)] [(0,3,(.t 29))],none,[29]⟩,
        ⟨(some 31),.app 3 (.t 25) (.t 30),none,[25,30]⟩,
        ⟨none,.st 1 (.t 2) (.t 31),none,[2,31]⟩])
      (a1.seq (a1.an [⟨(some 33),.bin (.int .eql) (.t 13) (.c (.int .i64 16)),none,[13]⟩,
        ⟨(some 32),.cO (.t 33),none,[33]⟩])
       (a1.cond (.t 32)
        (a1.an [⟨(some 34),.dR (.t 2),none,[2]⟩,
          ⟨(some 35),.cO (.t 7),none,[7]⟩,
          ⟨(some 36),.dR (.t 3),none,[3]⟩,
          ⟨(some 37),.dZ 3 (.t 5),none,[5]⟩,
          ⟨(some 38),.dR (.t 37),none,[37]⟩,
          ⟨(some 39),.look .str (.agg [(.str []),(.str []),(.int .i64 0),(.int .i64 0),.bj]) false (.t 36) (.t 38),none,[36,38]⟩,
          ⟨(some 40),.ph 2 (.t 39),none,[39]⟩,
          ⟨(some 41),.build [.bj,(.bool false),(.int .i64 0)] [(0,1,(.t 35)),(2,1,(.t 40))],none,[35,40]⟩,
          ⟨(some 42),.hS 1 3 [.bj,(.bool false),(.int .i64 0)] [(0,3,(.t 41))],none,[41]⟩,
          ⟨(some 43),.app 3 (.t 34) (.t 42),none,[34,42]⟩,
          ⟨none,.st 1 (.t 2) (.t 43),none,[2,43]⟩])
        (a1.skip))))))))
def P2:a1:=
 a1.seq (a1.an [⟨(some 44),.dZ 4 (.t 5),none,[5]⟩,
  ⟨(some 45),.dR (.t 44),none,[44]⟩,
  ⟨(some 46),.len .slice (.t 45),none,[45]⟩,
  ⟨(some 47),.cO (.c (.int .i64 0)),none,[]⟩])
 (a1.block 1 (a1.loop IJ))
theorem aaV:P0=(a1.seq (a1.an [⟨(some 5),.box (.t 0),none,[0]⟩])
 (a1.seq (a1.an [⟨(some 10),.cO (.t 1),none,[1]⟩,
   ⟨(some 11),.app 1 (.c .bj) (.t 10),none,[10]⟩,
   ⟨(some 7),.cO (.t 11),none,[11]⟩])
 (a1.seq (P1)
 (P2)))):=rfl
theorem mg {M vN:aM->Prop} {h g dz:ae} (a:Mod M h g) (b:Mod vN g dz) (w:∀p,Old h p->vN p->M p):Mod M h dz:=
 ⟨asq a.next b.next,fun p o n=>(b.get p (a.bL o) fun z=>n (w p o z)).trans (a.get p o n)⟩
def yz (cJ jw ga:Nat):V:=.func 62 [.ptr (az cJ) 0,.ptr (az jw) 0,.ptr (az ga) 0]
structure o4 (cs:List bz) (B cJ jw ga:Nat) (cv:aM) (h:ae) (bn:List fH) (v:V):Prop where
 out:Has h cJ [v]
 own:ia B h bn v
 IG:Has h jw [.map cv]
 go:Has h ga [yz cJ jw ga]
 tag:jW cs h cv
 j8:cJ<B
 Ix:jw<B
 EW:ga<B
 CA:b0 cv<B
 Iy:jw≠cJ
 E2:ga≠cJ
 LD:cv≠az cJ
 le:B<=h.next
theorem o4.ext {cs:List bz} {B cJ jw ga:Nat} {cv:aM} {h ab:ae} {bn:List fH} {v:V} (R:o4 cs B cJ jw ga cv h bn v) (e:Ext h ab):o4 cs B cJ jw ga cv ab bn v:=
 ⟨R.out.ext e,R.own.ext e,R.IG.ext e,R.go.ext e,R.tag.ext e,R.j8,R.Ix,R.EW,R.CA,R.Iy,R.E2,R.LD,asq R.le e.next⟩
def o1 (cJ:Nat) (v:V) (b:aM):Prop:=b=az cJ\/v.aZ b
theorem o4.add {cs:List bz} {B cJ jw ga:Nat} {cv:aM} {aY h:ae} {bn:List fH} {v:V} (R:o4 cs B cJ jw ga cv aY bn v) (e:Ext aY h) {gi:V} {t:fH} (P:dY aY.next h 1 gi t.1.length (gU t.1)) (ax:bn.length+1<=1000000000) (aG:t.1.length<=1000000000):
 ∃cl ab,kg 3 v (.slice (az h.next) 0 1 1) (h.new (.bU (o' gi t) 0 false))=.val cl ab/\cl.one=true/\cl.cells=[cl]/\ab.get (az cJ)=.bU [v] 0 false/\o4 cs B cJ jw ga cv (ab.set (az cJ) (.bU [cl] 0 false)) (bn++[t]) cl/\Mod (o1 cJ v) aY (ab.set (az cJ) (.bU [cl] 0 false))/\(∀b,cl.aZ b->v.aZ b\/aY.next<=b0 b):=by
 obtain ⟨cl,ab,bE,a2,a3,a4,a5⟩:=R.own.add e P R.le ax aG;have c0:∀n,n<B->¬v.aZ (az n):=fun n aV z=>by have:=R.own.base z;rw [c7] at this;omega
 have cr:=e.next
 have pU:=R.ext e;have da:=pU.out.mod a3 (c0 _ R.j8);have cw:=pU.IG.mod a3 (c0 _ R.Ix);have ml:=pU.go.mod a3 (c0 _ R.EW);have xi:=pU.tag.mod a3 fun z=>by have:=R.own.base z;have:=R.CA;omega
 have ms:Mod (fun b=>b=az cJ) ab (ab.set (az cJ) (.bU [cl] 0 false)):=(Mod.refl (fun b=>b=az cJ) ab).set (fun _=>rfl) _;have one:=a2.one;refine ⟨cl,ab,bE,one.1,one.2.1,da.g,⟨da.put _,a2.mod ms fun b z y=>by rw [z,c7] at y;have:=R.j8;omega,cw.set R.Iy _,ml.set R.E2 _,xi.mod ms R.LD,R.j8,R.Ix,R.EW,R.CA,R.Iy,R.E2,R.LD,by have:=R.le;rw [nP];omega⟩,?_,?_⟩
 . exact mg (mg (e.mod _) a3 fun p _ z=>.inr z) ms fun p _ z=>.inl z
 . intro b z;rcases a5 b z with z | z
   . exact .inl z
   . exact .inr (by omega)
theorem ia.mono [Lay] {B tU:Nat} {h:ae} {bn:List fH} {v:V} (H:ia B h bn v) (ah:tU<=B):ia tU h bn v:=by obtain ⟨us,a,b,c,d⟩:=H.ex;refine ⟨us,a.mono ah,b,fun i u t al ao=>?_,d⟩;obtain ⟨bJ,bO,c3⟩:=c i u t al ao;exact ⟨bJ,bO.mono ah,c3⟩
def HF (cs:List bz) (n:Nat):Prop:=∀(p:aL),p.size<=n->lz p->∀(B cJ jw ga:Nat) (cv:aM) (path:List Int) (w fu:V) (bn:List fH) (v:V) (F:aM->Prop) (h:ae),
 p.size+bn.length<=1000000000->p.size+path.length<=1000000000->bM F h p.enc (dq p fu)->ob F h path w->(∀b,F b->Old h b/\¬o1 cJ v b)->o4 cs B cJ jw ga cv h bn v->
 cR Tryz.prog 62 [.agg (dq p fu),w,.ptr (az cJ) 0,.ptr (az jw) 0,.ptr (az ga) 0] h fun _ ab=>∃cl,o4 cs B cJ jw ga cv ab (bn++fm cs p path) cl/\Mod (o1 cJ v) h ab/\∀b,cl.aZ b->v.aZ b\/h.next<=b0 b
theorem ad1 {cs:List bz} {n:Nat} (Aw:HF cs n):HF cs (n+1):=by
 intro p hM aF B cJ jw ga cv path w fu bn v F h cc cj X P hd R;have aB:∃(p0:List V),dq p fu=p0:=⟨_,rfl⟩;obtain ⟨cm,e,eT,uU⟩:=aL.open X;obtain rfl:fu=cm:=by simp only [dq,List.cons.injEq] at e;exact e.2.2.2.2.1
 have ol:=eT.one;have je:=eT.len;rw [arC] at je;have cu:=size_eq p;obtain ⟨aa,al,aJ,cH⟩:=fq h (dq p fu);have dp:aa.next=h.next+1:=by rw [<-al];exact gv _ _
 obtain ⟨gi,ad,ao,fN,aR⟩:=anM (P.eW.ext aJ) (by omega:path.length<=1000000000);have Be:=aJ.trans aR;have c1:=cH.ext aR;have pU:=R.ext aJ;have ue:=pU.ext aR;have cN:∀b,o1 cJ v b->¬h.next<=b0 b:=fun b z y=>by
  rcases z with z | z
  . rw [z,c7] at y;have:=R.j8;have:=R.le;omega
  . have:=R.own.rW z;unfold Old at this;omega
 refine aaU.z rfl (cp ?_);rw [aaV];simp only [dq] at al cH c1;simp only [dq];simp +contextual only [al,ao,ol.1,ol.2.1,ol.2.2,c1.g,↓aj,aC,simprocAttr];refine Nc (fun r G=>r 1=w/\r 4=.ptr (az ga) 0/\r 5=.ptr (az h.next) 0/\∃v0,o4 cs B cJ jw ga cv G (bn++jY cs p.k p.n p.s path) v0/\Mod (o1 cJ v) h G/\Has G h.next [.int .i64 p.k,.int .i64 p.n,.int .i64 p.a,.str p.s,fu]/\∀b,v0.aZ b->v.aZ b\/h.next<=b0 b) rfl (cp ?_) ?_
 . unfold P1;have add:∀(f:Bool) (m:Int),∃cl ab,kg 3 v (.slice (az ad.next) 0 1 1) (ad.new (.bU [gi,.bool f,.int .i64 m] 0 false))=.val cl ab/\cl.one=true/\cl.cells=[cl]/\ab.get (az cJ)=.bU [v] 0 false/\(∃G,ab.set (az cJ) (.bU [cl] 0 false)=G/\o4 cs B cJ jw ga cv G (bn++[(path,f,m)]) cl/\Mod (o1 cJ v) h G/\Has G h.next [.int .i64 p.k,.int .i64 p.n,.int .i64 p.a,.str p.s,fu]/\(∀b,cl.aZ b->v.aZ b\/h.next<=b0 b)):=fun f m=>by
    obtain ⟨cl,ab,bE,a2,a3,a4,a5,ha,pV⟩:=pU.add aR (t:=(path,f,m)) fN (by omega) (by show path.length<=_;omega);refine ⟨cl,ab,bE,a2,a3,a4,_,rfl,a5,mg (aJ.mod _) ha fun _ _ z=>z,cH.mod ha fun z=>cN _ z (by rw [c7];exact arv _),fun b z=>?_⟩;rcases pV b z with z | z
    . exact .inl z
    . exact .inr (by omega)
   have b3:∀m:Int,(p.k=m)=True\/(p.k=m)=False:=fun m=>by by_cases q:p.k=m<;>simp [q]
   by_cases jx:p.k=12
   . have g2:(p.k=12)=True:=arD jx;have a8:jY cs p.k p.n p.s path=[(path,true,p.n)]:=by unfold jY;rw [arz jx]
     rw [a8];obtain ⟨cl,ab,bE,a2,a3,a4,G,a5,ha,pV,AQ,a9⟩:=add true p.n;have cw:=ue.out;simp +contextual only [c1.g,g2,cw.g,fN.v.one.1,fN.v.one.2.1,fN.v.one.2.2,bE,a2,a3,a4,a5,↓aj,aC,simprocAttr];exact ⟨cl,ha,pV,AQ,a9⟩
   . have g2:(p.k=12)=False:=arx jx;by_cases mA:p.k=14
     . have g3:(p.k=14)=True:=arD mA;have a8:jY cs p.k p.n p.s path=[(path,false,p.n)]:=by unfold jY;rw [arw jx,arz mA]
       rw [a8];obtain ⟨cl,ab,bE,a2,a3,a4,G,a5,ha,pV,AQ,a9⟩:=add false p.n;have cw:=ue.out;simp +contextual only [c1.g,g2,g3,cw.g,fN.v.one.1,fN.v.one.2.1,fN.v.one.2.2,bE,a2,a3,a4,a5,↓aj,aC,simprocAttr];exact ⟨cl,ha,pV,AQ,a9⟩
     . have g3:(p.k=14)=False:=arx mA;by_cases jy:p.k=16
       . have g4:(p.k=16)=True:=arD jy;have a8:jY cs p.k p.n p.s path=[(path,false,jP cs p.s)]:=by unfold jY;rw [arw jx,arw mA,arz jy]
         rw [a8];obtain ⟨cl,ab,bE,a2,a3,a4,G,a5,ha,pV,AQ,a9⟩:=add false (jP cs p.s);have cw:=ue.out;have ml:=ue.IG;obtain ⟨WY,C',ty,gx,jQ⟩:=ue.tag.look p.s;simp +contextual only [c1.g,g2,g3,g4,cw.g,ml.g,jQ,fN.v.one.1,fN.v.one.2.1,fN.v.one.2.2,bE,a2,a3,a4,a5,↓aj,aC,simprocAttr];exact ⟨cl,ha,pV,AQ,a9⟩
       . have g4:(p.k=16)=False:=arx jy;have a8:jY cs p.k p.n p.s path=[]:=by unfold jY;rw [arw jx,arw mA,arw jy]
         rw [a8,asS];simp +contextual only [c1.g,g2,g3,g4,↓aj,aC,simprocAttr];exact ⟨v,ue,Be.mod _,c1,fun b z=>.inl z⟩
 . rintro r G ⟨bH,cC,bK,v0,Yu,Yc,XD,Yh⟩;unfold P2;have dh:=nc p.l;simp +contextual only [bH,cC,bK,XD.g,je,↓aj,aC,simprocAttr];refine fR (fun r g=>r 1=w/\r 4=.ptr (az ga) 0/\r 45=fu/\r 46=.int .i64 p.l.length/\∃(i:Nat) (qU:V),r 47=.int .i64 i/\i<=p.l.length/\o4 cs B cJ jw ga cv g (bn++jY cs p.k p.n p.s path++j5 cs (p.l.take i) path 0) qU/\Mod (o1 cJ v) h g/\∀b,qU.aZ b->v.aZ b\/h.next<=b0 b) (fun r g=>p.l.length - (r 47).toN) ?_ ?_
   . refine ⟨by simp only [bH,↓aj,bD,simprocAttr],by simp only [cC,↓aj,bD,simprocAttr],by simp only [↓aj,bD,simprocAttr],by simp only [↓aj,bD,simprocAttr],0,v0,by simp only [↓aj,bD,simprocAttr]<;>rfl,by omega,?_,Yc,Yh⟩;simpa [j5] using Yu
   clear bH cC bK;rintro r g ⟨bH,cC,Ml,Mm,i,qU,Mn,aw,sr,x0,pR⟩;unfold IJ;by_cases aS:i<p.l.length
   . have g0:((i:Int) < (p.l.length:Int))=True:=arD (by omega);have e1:∀b,F b->Old h b->¬o1 cJ v b/\(F b/\Old g b):=fun b z o=>⟨(hd b z).2,z,x0.bL o⟩;have YO:=eT.mod x0 e1;have Ys:=P.mod x0 e1;obtain ⟨b,off,js,cd,oi,oj,ld,_,_,_⟩:=aL.nJ YO (k:=.i64) aS;have d5:=ld g (Ext.refl g);have ok:=oj.one;have dM:=hj aS (by omega);have dc:p.l[i] ∈ p.l:=arY aS;have rF:=u5 dc;have rL:=VG aS;have rM:=Mh p.l (i+1);have Fo:=Bt aF dc;have nB:=ajJ cs p.l path aS;have kp:=Lf cs (p.l.take i) path 0;have ap':=SI cs p.k p.n p.s path;generalize p.l[i]=q at oi oj ld cd d5 dc rF rL Fo nB;obtain ⟨g1,aK,bP,ep⟩:=fy g z5 (dq q js);have n3:g1.next=g.next+1:=by rw [<-aK];rfl
     have N0:=sr.ext bP;have xi:=N0.go;simp only [yz] at xi;simp only [dq] at d5 aK ep;simp +contextual only [bH,cC,Ml,Mm,Mn,g0,cd,d5,ok.1,ok.2.1,aK,ep.g,xi.g,↓aj,aC,simprocAttr];refine cb (anX path (by omega) i _ w g1 (Ys.ext bP)) ?_;rintro y g2 ⟨NW,b4⟩;have iB:=ep.ext b4;have N1:=N0.ext b4;have vc:=N1.go;simp only [yz] at vc;have Yg:=mg x0 ((bP.trans b4).mod (fun _=>False)) fun _ _ z=>z.elim;simp +contextual only [↓aj,aC,simprocAttr];have ne:h.next<=g.next:=x0.next
     have cf:=Aw q (by omega) Fo B cJ jw ga cv (path++[(i:Int)]) y js _ qU (fun b=>(F b/\Old g b)\/(AN g1 b/\Old g2 b)) g2 (by simp only [arE];omega) (by simp only [arE,arA,asd];omega)
      (((oi.ext bP).ext b4).gy fun b z=>.inl z) ⟨NW.eW.mod (Mod.refl (fun _=>False) g2) (fun b z o=>⟨fun x=>x,.inr ⟨z,o⟩⟩),NW.form⟩ (fun b z=>by
       rcases z with ⟨bN,z2⟩ | ⟨bN,z2⟩
       . refine ⟨(bP.trans b4).bL z2,fun y=>?_⟩;obtain ⟨f1,f2⟩:=hd b bN;rcases y with y | y
         . exact f2 (.inl y)
         . rcases pR b y with y | y
           . exact f2 (.inr y)
           . unfold Old at f1;omega
       . refine ⟨z2,fun y=>?_⟩;unfold AN at bN;rcases y with y | y
         . rw [y,c7] at bN;have:=R.j8;have:=R.le;omega
         . have:=sr.own.rW y;unfold Old at this;omega) N1
     simp only [dq] at cf;refine cb cf ?_;rintro x g3 ⟨aoM,N2,NP,Yj⟩;have tT:=iB.mod NP fun z=>by
      rcases z with z | z
      . rw [m_] at z;have:=R.j8;have:=R.le;omega
      . have:=sr.own.rW z;unfold Old at this;rw [c7] at this;omega
     have Gk:=N2.go;simp only [yz] at Gk;simp +contextual only [bH,cC,Ml,Mm,Mn,ep.g,iB.g,tT.g,xi.g,vc.g,Gk.g,ok.1,ok.2.1,dM,↓aj,aC,simprocAttr];refine ⟨⟨i+1,aoM,rfl,aS,?_,mg Yg NP fun b o z=>?_,fun b z=>?_⟩,by omega⟩
     . rw [nB,<-ar_];exact N2
     . rcases z with z | z
       . exact .inl z
       . rcases pR b z with z | z
         . exact .inr z
         . unfold Old at o;omega
     . rcases Yj b z with z | z
       . exact pR b z
       . have:=(bP.trans b4).next;exact .inr (by omega)
   . have g0:((i:Int) < (p.l.length:Int))=False:=arx (by omega);rw [asu (by omega),ar_,<-W3] at sr;simp +contextual only [bH,cC,Ml,Mm,Mn,g0,↓aj,aC,simprocAttr];exact ⟨qU,sr,x0,pR⟩
theorem Sb (cs:List bz):∀n,HF cs n
 | 0=>fun p hM=>by have:=nT p;omega
 | n+1=>ad1 (Sb cs n)
theorem Ou (cs:List bz) (p:aL) (aF:lz p) (aU:p.size<=500000000) (cv:aM) (fu:V) (h:ae) (T:jW cs h cv) (aW:Old h cv) (X:bM (Old h) h p.enc (dq p fu)):
 cR Tryz.prog 34 [.map cv,.agg (dq p fu)] h fun x ab=>ia h.next ab (fm cs p []) x/\Ext h ab:=by
 obtain ⟨cm,e,eT,uU⟩:=aL.open X;obtain rfl:fu=cm:=by simp only [dq,List.cons.injEq] at e;exact e.2.2.2.2.1
 have ol:=eT.one;obtain ⟨aa,al,aJ,cH⟩:=fq h [.map cv];have dp:aa.next=h.next+1:=by rw [<-al];exact gv _ _
 obtain ⟨ad,ao,aR,c1⟩:=fq aa (dq p fu);have fZ:ad.next=aa.next+1:=by rw [<-ao];exact gv _ _
 obtain ⟨aH,aK,bP,ep⟩:=fq ad [.bj];have n3:aH.next=ad.next+1:=by rw [<-aK];exact gv _ _
 obtain ⟨bw,bG,b4,iB⟩:=fy aH [.k6] [yz ad.next h.next aH.next];have n4:bw.next=aH.next+1:=by rw [<-bG];rfl
 have E:=((aJ.trans aR).trans bP).trans b4;obtain ⟨wm,VW,apO,XF⟩:=fq aH [.k6];have R:o4 cs bw.next ad.next h.next aH.next cv bw [] .bj:=
  ⟨ep.ext b4,ia.nil _ _,((cH.ext aR).ext bP).ext b4,iB,T.ext E,by omega,by omega,by omega,by unfold Old at aW;omega,by omega,by omega,fun z=>by rw [z] at aW;unfold Old at aW;rw [c7] at aW;omega,arv _⟩
 have dv:=(c1.ext bP).ext b4
 have cf:=Sb cs p.size p (arv _) aF bw.next ad.next h.next aH.next cv [] .bj fu [] .bj (Old h) bw (by simp;omega) (by simp;omega) (X.ext E) (ob.nil _ _) (fun b z=>⟨E.bL z,fun y=>by
  rcases y with y | y
  . rw [y] at z;unfold Old at z;rw [c7] at z;omega
  . exact y⟩) R
 refine aaF.z rfl (cp ?_);unfold c34;simp only [dq,yz] at ao bG iB dv cf;simp only [dq];rw [VW] at bG;simp +contextual only [al,ao,aK,VW,bG,XF.g,iB.g,dv.g,ol.1,ol.2.1,ol.2.2,↓aj,aC,simprocAttr];refine cb cf ?_;rintro x cM ⟨cl,nk,uc,aps⟩;have vc:=nk.out;rw [asb] at nk;simp +contextual only [vc.g,↓aj,aC,simprocAttr]
 exact ⟨nk.own.mono (by omega),E.oL uc fun b z=>by
  rcases z with z | z
  . rw [z,c7];omega
  . exact z.elim⟩
def YH (B:Nat) (b:aM):Prop:=B<=b0 b
def akY (cJ ga:Nat):V:=.func 38 [.ptr (az cJ) 0,.ptr (az ga) 0]
structure apu (B cJ ga:Nat) (h:ae) (bn:List Nm) (v:V):Prop where
 out:Has h cJ [v]
 own:eH B (YH B) h 2 (bn.map acR) v
 go:Has h ga [akY cJ ga]
 j8:cJ<B
 EW:ga<B
 E2:ga≠cJ
 le:B<=h.next
inductive bZ where
 | mk (k n:Int) (l:List bZ)
namespace bZ
def k:bZ->Int | mk k _ _=>k
def n:bZ->Int | mk _ n _=>n
def l:bZ->List bZ | mk _ _ l=>l
end bZ
mutual
def bZ.size:bZ->Nat
 | .mk _ _ l=>1+G9 l
def G9:List bZ->Nat
 | []=>0
 | t::l=>t.size+G9 l
end
theorem Ww {t:bZ}:∀{l:List bZ},t ∈ l->t.size<=G9 l
 | [],h=>by cases h
 | u::l,h=>by
   simp only [G9];rcases arM.1 h with rfl | h
   . omega
   . have:=Ww h;omega
theorem Wx {t u:bZ} (h:u ∈ t.l):u.size<t.size:=by
 cases t with
 | mk k n l=>have:=Ww h;simp only [bZ.size];simp only [bZ.l] at this;omega
mutual
def bZ.enc:bZ->List D
 | .mk k n l=>[.i .i64 k,.i .i64 n,.l 3 (EB l)]
def EB:List bZ->List (List D)
 | []=>[]
 | t::l=>t.enc::EB l
end
theorem Rp:∀l:List bZ,EB l=l.map bZ.enc
 | []=>rfl
 | t::l=>by rw [EB,Rp l,ast]
theorem EA (t:bZ):t.enc=[.i .i64 t.k,.i .i64 t.n,.l 3 (t.l.map bZ.enc)]:=by
 cases t with
 | mk k n l=>simp only [bZ.enc,Rp,bZ.k,bZ.n,bZ.l]
structure cW where
 kind:Int
 row:Int
 path:List Int
 num:Bool
 n:Int
 yes:Int
 no:Int
def cW.enc (c:cW):List D:=[.i .i64 c.kind,.i .i64 c.row,.l 1 (c.path.map gB),.b c.num,.i .i64 c.n,.i .i64 c.yes,.i .i64 c.no]
mutual
def rT:bZ->Bool
 | .mk k n l=>if k=1 then decide (-1073741824<=n)&&decide (n<=1073741823)&&decide (l.length=0) else if k=3 then decide (n=0)&&decide (l.length=0)
   else if k=2 then xd l&&decide (0<=n)&&decide (n<=1048575) else false
def xd:List bZ->Bool
 | []=>true
 | t::l=>rT t&&xd l
end
def ic:bZ->List Int->Option bZ
 | t,[]=>some t
 | t,i::p=>if i<0\/(t.l.length:Int)<=i then none else match t.l[i.toNat]? with
   | some u=>ic u p
   | none=>none
def ns (len:Nat) (i:Nat) (c:cW):Bool:=
 if c.kind=1 then !(decide (c.yes<=i)||decide (c.no<=i)||decide ((len:Int)<=c.yes)||decide ((len:Int)<=c.no)) else decide (c.kind=2)||decide (c.kind=3)
def oo (len:Nat):Nat->List cW->Bool
 | _,[]=>true
 | i,c::l=>ns len i c&&oo len (i+1) l
def ot (d:List cW):Bool:=oo d.length 0 d&&decide (0<d.length)
def pj (d:List cW) (v:bZ):Nat->Nat->Nat->Int × Int × Int
 | 0,_,_=>(0,0,2)
 | f+1,i,asked=>match d[i]? with
   | none=>(0,0,2)
   | some c=>if c.kind=2 then (if c.row<0 then (0,0,2) else (c.row,asked,0)) else if c.kind=3 then (-1,asked,0)
     else match ic v c.path with
      | none=>(0,0,2)
      | some x=>if x.k=(if c.num then 1 else 2) then pj d v f (if x.n=c.n then c.yes else c.no).toNat (asked+1) else (0,0,2)
def sP (d:List cW) (v:bZ):Int × Int × Int:=if ot d&&rT v then pj d v d.length 0 0 else (0,0,2)
section
variable {F:aM->Prop} {h:ae}
theorem bZ.open {t:bZ} {af:List V} (H:bM F h t.enc af):∃cm,af=[.int .i64 t.k,.int .i64 t.n,cm]/\bY F h 3 (t.l.map bZ.enc) cm:=by rw [EA] at H;obtain ⟨_,rfl,H1⟩:=H.int;obtain ⟨_,rfl,cX⟩:=H1.int;obtain ⟨cm,_,rfl,L,sb⟩:=cX.eW;obtain rfl:=sb.no;exact ⟨cm,rfl,L⟩
theorem bZ.k3 {l:List bZ} {v:V} (H:bY F h 3 (l.map bZ.enc) v) {k:IntKind} {i:Nat} (aw:i<l.length):
 ∃b off cm,fX 3 v (.int k i)=some (.ptr b (off+i * 3))/\bM F h l[i].enc [.int .i64 l[i].k,.int .i64 l[i].n,cm]/\bY F h 3 (l[i].l.map bZ.enc) cm/\∀ab,Ext h ab->mW 3 (ab.get b) (off+i * 3)=some (.agg [.int .i64 l[i].k,.int .i64 l[i].n,cm]):=by
 obtain ⟨b,off,u,aJ,aR,bP,b4,_⟩:=H.at (k:=k) (i:=i) (by rw [arC];exact aw);rw [as8] at aR;obtain ⟨cm,rfl,L⟩:=bZ.open aR;exact ⟨b,off,cm,aJ,aR,L,b4⟩
theorem cW.open {c:cW} {af:List V} (H:bM F h c.enc af):∃iZ,af=[.int .i64 c.kind,.int .i64 c.row,iZ,.bool c.num,.int .i64 c.n,.int .i64 c.yes,.int .i64 c.no]/\bY F h 1 (c.path.map gB) iZ:=by rw [cW.enc] at H;obtain ⟨_,rfl,H1⟩:=H.int;obtain ⟨_,rfl,cX⟩:=H1.int;obtain ⟨iZ,_,rfl,L,sb⟩:=cX.eW;obtain ⟨_,rfl,vH⟩:=sb.bool;obtain ⟨_,rfl,sc⟩:=vH.int;obtain ⟨_,rfl,HG⟩:=sc.int;obtain ⟨_,rfl,HH⟩:=HG.int;obtain rfl:=HH.no;exact ⟨iZ,rfl,L⟩
theorem cW.at {d:List cW} {v:V} (H:bY F h 7 (d.map cW.enc) v) {k:IntKind} {i:Nat} (aw:i<d.length):
 ∃b off iZ,fX 7 v (.int k i)=some (.ptr b (off+i * 7))/\bY F h 1 (d[i].path.map gB) iZ/\∀ab,Ext h ab->mW 7 (ab.get b) (off+i * 7)=some (.agg [.int .i64 d[i].kind,.int .i64 d[i].row,iZ,.bool d[i].num,.int .i64 d[i].n,.int .i64 d[i].yes,.int .i64 d[i].no]):=by
 obtain ⟨b,off,u,aJ,aR,bP,b4,_⟩:=H.at (k:=k) (i:=i) (by rw [arC];exact aw);rw [as8] at aR;obtain ⟨iZ,rfl,L⟩:=cW.open aR;exact ⟨b,off,iZ,aJ,L,b4⟩
end
def Ac:bZ:=.mk 0 0 []
theorem XC (F:aM->Prop) (h:ae):bM F h Ac.enc [.int .i64 0,.int .i64 0,.bj]:=by rw [EA];exact .i (.i ((bY.nil F h 3).cons .nil))
theorem W2 (t:bZ) (p:List Int) (af:List V) (gi:V) (h:ae) (H:bM Any h t.enc af) (HI:bY Any h 1 (p.map gB) gi):
 cR Tryz.prog 58 [.agg af,gi] h fun x ab=>∃us,x=.tuple [.agg us,.bool (ic t p).isSome]/\bM Any ab ((ic t p).getD Ac).enc us/\Ext h ab:=by
 have At:=H.qC;obtain ⟨cm,rfl,L⟩:=bZ.open At;have Yo:=HI.qC;have ol:=L.one;have ag:=HI.len;rw [List.length_map] at ag;have dh:=HI.le;rw [List.length_map] at dh;refine aaP.z rfl (cp ?_);unfold PS;obtain ⟨aa,al,aJ,cH⟩:=fq h [.int .i64 t.k,.int .i64 t.n,cm];obtain ⟨ad,ao,aR,dv⟩:=fq aa [.int .i64 0,.int .i64 0,.bj];have e8:=cH.lt;have hs:=dv.lt;simp +contextual only [ol.1,ol.2.1,ag,al,ao,↓aj,aC,simprocAttr]
 refine fR (fun r g=>r 2=.ptr (az h.next) 0/\r 4=.ptr (az aa.next) 0/\r 8=gi/\r 9=.int .i64 p.length/\∃(i:Nat) (u:bZ) (wl:V),r 10=.int .i64 i/\i<=p.length/\ic u (p.drop i)=ic t p/\Has g h.next [.int .i64 u.k,.int .i64 u.n,wl]/\
  Has g aa.next [.int .i64 0,.int .i64 0,.bj]/\bM (Old h) g u.enc [.int .i64 u.k,.int .i64 u.n,wl]/\bY (Old h) g 1 (p.map gB) gi/\Ext h g) (fun r g=>p.length - (r 10).toN) ?_ ?_
 . exact ⟨by simp only [↓aj,bD,simprocAttr],by simp only [↓aj,bD,simprocAttr],by simp only [↓aj,bD,simprocAttr],by simp only [↓aj,bD,simprocAttr],0,t,cm,by simp only [↓aj,bD,simprocAttr]<;>rfl,by omega,by rw [asf],cH.ext aR,dv,At.ext (aJ.trans aR),Yo.ext (aJ.trans aR),aJ.trans aR⟩
 rintro r g ⟨c2,cC,b',dS,i,u,wl,dG,aw,fa,A,B,U,P,E⟩;unfold PT;obtain ⟨ara,qq,W⟩:=bZ.open U;simp only [List.cons.injEq,and_true,true_and] at qq;subst qq;have gM:=W.one;have hw:=W.len;rw [List.length_map] at hw;by_cases aS:i<p.length
 . have g0:((i:Int) < (p.length:Int))=True:=arD (by omega);obtain ⟨b,off,cd,ld⟩:=P.FV (k:=.i64) aS;have fK:=ld g (Ext.refl g);rw [ar3 aS,ic] at fa;by_cases aV:p[i]<0
   . have nE:=arD aV;simp +contextual only [c2,cC,b',dS,dG,g0,cd,fK,nE,B.g,↓aj,aC,simprocAttr];rw [arz (.inl aV)] at fa;rw [<-fa];exact ⟨_,rfl,XC _ _,E.set (by omega) _⟩
   . have nE:=arx aV;by_cases iH:(u.l.length:Int)<=p[i]
     . have Fm:=arD iH;simp +contextual only [c2,cC,b',dS,dG,g0,cd,fK,nE,Fm,hw,A.g,B.g,↓aj,aC,simprocAttr];rw [arz (.inr iH)] at fa;rw [<-fa];exact ⟨_,rfl,XC _ _,E.set (by omega) _⟩
     . have Fm:=arx iH;rw [arw (by omega)] at fa;obtain ⟨j,bp⟩:=asJ (show 0<=p[i] by omega);have fC:j<u.l.length:=by omega
       rw [bp] at fK nE Fm fa;simp only [ary,ars fC] at fa;obtain ⟨bR,k7,ao8,j1,X,eT,w7⟩:=bZ.k3 W (k:=.i64) fC;have dR:=w7 g (Ext.refl g);have dM:=hj aS (by unfold top at dh;omega);simp +contextual only [c2,cC,b',dS,dG,g0,cd,fK,nE,Fm,hw,A.g,B.g,j1,dR,dM,eT.one.1,eT.one.2.1,↓aj,aC,simprocAttr];have no:=zt (h:=h) (arv _);exact ⟨⟨i+1,u.l[j],ao8,rfl,aS,fa,A.put _,B.set (by omega) _,X.set no _,P.set no _,E.set (arv _) _⟩,by omega⟩
 . have g0:((i:Int) < (p.length:Int))=False:=arx (by omega);simp +contextual only [c2,cC,b',dS,dG,g0,A.g,B.g,gM.1,gM.2.1,↓aj,aC,simprocAttr];rw [asy (by omega),ic] at fa;rw [<-fa];exact ⟨_,rfl,(U.set (zt (by omega)) _).gy fun _ _=>trivial,E.set (by omega) _⟩
theorem M0:∀(N:Nat) (t:bZ),t.size<=N->∀(af:List V) (h:ae),bM Any h t.enc af->cR Tryz.prog 57 [.agg af] h fun x ab=>x=.bool (rT t)/\Ext h ab
 | 0,t,aU,_,_,_=>by cases t;simp only [bZ.size] at aU;omega
 | N+1,t,aU,af,h,H=>by
   obtain ⟨cm,rfl,L⟩:=bZ.open H;have ol:=L.one;have ax:=L.len;have hle:=L.le;rw [List.length_map] at ax hle;refine aaO.z rfl (cp ?_);unfold PQ;obtain ⟨aa,al,aJ,cH⟩:=fq h [.int .i64 t.k,.int .i64 t.n,cm];have cN:rT t=if t.k=1 then decide (-1073741824<=t.n)&&decide (t.n<=1073741823)&&decide (t.l.length=0) else if t.k=3 then decide (t.n=0)&&decide (t.l.length=0)
    else if t.k=2 then xd t.l&&decide (0<=t.n)&&decide (t.n<=1048575) else false:=by cases t;rw [rT];rfl
   by_cases b3:t.k=1
   . have bN:=arD b3;rw [cN,arz b3];by_cases bE:-1073741824<=t.n
     . by_cases a2:t.n<=1073741823
       . by_cases a3:(t.l.length:Int)=0
         . simp +contextual only [ol.1,ol.2.1,al,cH.g,bN,arD bE,arD a2,arD a3,ax,↓aj,aC,simprocAttr]
           first | exact aJ | exact ⟨by simp [show t.l.length=0 by omega],aJ⟩
         . simp +contextual only [ol.1,ol.2.1,al,cH.g,bN,arD bE,arD a2,arx a3,ax,↓aj,aC,simprocAttr]
           first | exact aJ | exact ⟨by simp [show ¬t.l.length=0 by omega],aJ⟩
       . simp +contextual only [ol.1,ol.2.1,al,cH.g,bN,arD bE,arx a2,↓aj,aC,simprocAttr]
         first | exact aJ | exact ⟨by simp [a2],aJ⟩
     . simp +contextual only [ol.1,ol.2.1,al,cH.g,bN,arx bE,↓aj,aC,simprocAttr]
       first | exact aJ | exact ⟨by simp [bE],aJ⟩
   have bN:=arx b3;rw [cN,arw b3];by_cases dW:t.k=3
   . have z3:=arD dW;rw [arz dW];by_cases bE:t.n=0
     . by_cases a3:(t.l.length:Int)=0
       . simp +contextual only [ol.1,ol.2.1,al,cH.g,bN,z3,arD bE,arD a3,ax,↓aj,aC,simprocAttr]
         first | exact aJ | exact ⟨by simp [show t.l.length=0 by omega],aJ⟩
       . simp +contextual only [ol.1,ol.2.1,al,cH.g,bN,z3,arD bE,arx a3,ax,↓aj,aC,simprocAttr]
         first | exact aJ | exact ⟨by simp [show ¬t.l.length=0 by omega],aJ⟩
     . simp +contextual only [ol.1,ol.2.1,al,cH.g,bN,z3,arx bE,↓aj,aC,simprocAttr]
       first | exact aJ | exact ⟨by simp [bE],aJ⟩
   have z3:=arx dW;rw [arw dW];by_cases b5:t.k=2
   rotate_left
   . have z2:=arx b5;simp +contextual only [ol.1,ol.2.1,al,cH.g,bN,z3,z2,↓aj,aC,simprocAttr]
     first | exact aJ | exact ⟨by simp [b5],aJ⟩
   have z2:=arD b5;rw [arz b5];simp +contextual only [ol.1,ol.2.1,al,cH.g,bN,z3,z2,ax,↓aj,aC,simprocAttr];refine fR (fun r g=>r 1=.ptr (az h.next) 0/\r 37=cm/\r 38=.int .i64 t.l.length/\∃i:Nat,r 39=.int .i64 i/\i<=t.l.length/\Ext aa g/\xd (t.l.drop i)=xd t.l) (fun r g=>t.l.length - (r 39).toN) ?_ ?_
   . exact ⟨by simp only [↓aj,bD,simprocAttr],by simp only [↓aj,bD,simprocAttr],by simp only [↓aj,bD,simprocAttr],0,by simp only [↓aj,bD,simprocAttr]<;>rfl,by omega,Ext.refl aa,by rw [asf]⟩
   rintro r g ⟨bH,qK,qL,i,r4,aw,E,cY⟩;unfold PR;have A:=cH.ext E;have n9:=L.ext (aJ.trans E);by_cases aS:i<t.l.length
   . have g0:((i:Int) < (t.l.length:Int))=True:=arD (by omega);obtain ⟨b,off,wl,cd,X,eT,ld⟩:=bZ.k3 n9 (k:=.i64) aS;have fK:=ld g (Ext.refl g);have gM:=eT.one;have dM:=hj aS (by unfold top at hle;omega);rw [ar3 aS,xd] at cY;have cu:=Wx (t:=t) (arY aS);obtain ⟨g1,du,bu,B⟩:=fy g [.int .i64 0,.int .i64 0,.bj] [.int .i64 t.l[i].k,.int .i64 t.l[i].n,wl];simp +contextual only [bH,qK,qL,r4,g0,cd,fK,du,B.g,gM.1,gM.2.1,↓aj,aC,simprocAttr];refine cb (M0 N t.l[i] (by omega) _ g1 (X.ext bu)) ?_;rintro x g2 ⟨rfl,aR⟩;cases hm:rT t.l[i] with
     | true=>
       rw [hm,ar8] at cY;simp +contextual only [bH,qK,qL,r4,dM,↓aj,aC,simprocAttr];exact ⟨⟨i+1,rfl,aS,E.trans (bu.trans aR),cY⟩,by omega⟩
     | false=>
       rw [hm,ar9] at cY;simp +contextual only [bH,qK,qL,r4,dM,↓aj,aC,simprocAttr];exact ⟨by rw [<-cY];rfl,aJ.trans (E.trans (bu.trans aR))⟩
   . have g0:((i:Int) < (t.l.length:Int))=False:=arx (by omega);rw [asy (by omega)] at cY;rw [<-cY];by_cases bE:0<=t.n
     . by_cases a2:t.n<=1048575
       . simp +contextual only [bH,qK,qL,r4,g0,A.g,ax,arD bE,arD a2,↓aj,aC,simprocAttr]
         first | exact aJ.trans E | exact ⟨by simp [bE,a2,xd],aJ.trans E⟩
       . simp +contextual only [bH,qK,qL,r4,g0,A.g,ax,arD bE,arx a2,↓aj,aC,simprocAttr]
         first | exact aJ.trans E | exact ⟨by simp [a2],aJ.trans E⟩
     . simp +contextual only [bH,qK,qL,r4,g0,A.g,ax,arx bE,↓aj,aC,simprocAttr]
       first | exact aJ.trans E | exact ⟨by simp [bE],aJ.trans E⟩
theorem W6:∀(N:Nat) (t:bZ),t.size<=N->∀(m:Int) (af:List V) (h:ae),bM Any h t.enc af->cR Tryz.prog 61 [.agg af,.int .i64 m] h fun x ab=>(∃n:Int,x=.int .i64 n)/\Ext h ab
 | 0,t,aU,_,_,_,_=>by cases t;simp only [bZ.size] at aU;omega
 | N+1,t,aU,m,af,h,H=>by
   obtain ⟨cm,rfl,L⟩:=bZ.open H;have ol:=L.one;have ax:=L.len;have hle:=L.le;rw [List.length_map] at ax hle;refine aaT.z rfl (cp ?_);unfold PY;obtain ⟨aa,al,aJ,cH⟩:=fq h [.int .i64 t.k,.int .i64 t.n,cm];simp +contextual only [ol.1,ol.2.1,al,↓aj,aC,simprocAttr];refine fR (fun r g=>r 1=.int .i64 m/\r 2=.ptr (az h.next) 0/\∃(i:Nat) (n:Int),r 5=.int .i64 n/\r 6=.int .i64 i/\i<=t.l.length/\Ext aa g) (fun r g=>t.l.length - (r 6).toN) ?_ ?_
   . exact ⟨by simp only [↓aj,bD,simprocAttr],by simp only [↓aj,bD,simprocAttr],0,1,by simp only [↓aj,bD,simprocAttr],by simp only [↓aj,bD,simprocAttr]<;>rfl,by omega,Ext.refl aa⟩
   rintro r g ⟨bH,c2,i,n,bK,ed,aw,E⟩;unfold PZ;have A:=cH.ext E;have n9:=L.ext (aJ.trans E);by_cases aS:i<t.l.length
   . have g0:((i:Int) < (t.l.length:Int))=True:=arD (by omega);by_cases aV:n<=m
     . have nE:=arD aV;obtain ⟨b,off,wl,cd,X,eT,ld⟩:=bZ.k3 n9 (k:=.i64) aS;have fK:=ld g (Ext.refl g);have dM:=hj aS (by unfold top at hle;omega);have cu:=Wx (t:=t) (arY aS);simp +contextual only [bH,c2,bK,ed,g0,nE,A.g,ax,cd,fK,↓aj,aC,simprocAttr];refine cb (W6 N t.l[i] (by omega) _ _ g X) ?_;rintro x g2 ⟨⟨k,rfl⟩,aR⟩;simp +contextual only [bH,c2,bK,ed,dM,↓aj,aC,simprocAttr];exact ⟨⟨i+1,_,rfl,rfl,aS,E.trans aR⟩,by omega⟩
     . have nE:=arx aV;simp +contextual only [bH,c2,bK,ed,g0,nE,A.g,ax,↓aj,aC,simprocAttr];exact ⟨⟨_,rfl⟩,aJ.trans E⟩
   . have g0:((i:Int) < (t.l.length:Int))=False:=arx (by omega);simp +contextual only [bH,c2,bK,ed,g0,A.g,ax,↓aj,aC,simprocAttr];exact ⟨⟨_,rfl⟩,aJ.trans E⟩
theorem ajN (t:bZ) (m:Int) (af:List V) (h:ae) (H:bM Any h t.enc af):cR Tryz.prog 33 [.agg af,.int .i64 m] h fun x ab=>(∃b,x=.bool b)/\Ext h ab:=by obtain ⟨cm,rfl,L⟩:=bZ.open H;have ol:=L.one;refine aaE.z rfl (cp ?_);unfold PC;obtain ⟨aa,al,aJ,cH⟩:=fq h [.int .i64 t.k,.int .i64 t.n,cm];simp +contextual only [ol.1,ol.2.1,al,cH.g,↓aj,aC,simprocAttr];refine cb (W6 t.size t (arv _) m _ aa (H.ext aJ)) ?_;rintro x g2 ⟨⟨k,rfl⟩,aR⟩;simp +contextual only [↓aj,aC,simprocAttr];exact ⟨⟨_,rfl⟩,aJ.trans aR⟩
theorem FV {F:aM->Prop} {h:ae} {l:List Int} {v:V} (H:bY F h 1 (l.map gB) v) {i:Nat} (aw:i<l.length):
 ∃b off,fX 1 v (.int .i64 i)=some (.ptr b off)/\∀ab,Ext h ab->gq (ab.get b) off=some (.int .i64 l[i]):=by
 obtain ⟨b,off,u,aJ,aR,bP,b4,dD⟩:=H.at (k:=.i64) (i:=i) (by rw [arC];exact aw);rw [as8,gB] at aR;obtain ⟨_,rfl,f⟩:=aR.int;obtain rfl:=f.no;exact ⟨b,_,aJ,fun ab e=>by simpa using dD ab e 0 (by omega)⟩
theorem ZO (cs:List bz) (l:List aL) (t:bZ) (dC v:V) (af:List V) (h:ae) (iD:bY Any h 5 (cs.map bz.enc) dC) (L:bY Any h 5 (l.map aL.enc) v) (H:bM Any h t.enc af):cR Tryz.prog 7 [dC,v,.agg af] h fun x ab=>(∃b,x=.bool b)/\Ext h ab:=by
 have ax:=L.len;have aq:=iD.len;rw [arC] at ax aq;obtain ⟨cm,rfl,YG⟩:=bZ.open H;have ol:=YG.one;obtain ⟨aa,al,aJ,cH⟩:=fq h [.int .i64 t.k,.int .i64 t.n,cm];refine aa3.z rfl (cp ?_);unfold A8;by_cases bJ:12<cs.length
 . have g1:((cs.length:Int)>12)=True:=arD (by omega);simp +contextual only [aq,ax,g1,al,cH.g,ol.1,ol.2.1,ol.2.2,↓aj,aC,simprocAttr];exact ⟨⟨_,rfl⟩,aJ⟩
 . have g1:((cs.length:Int)>12)=False:=arx (by omega);by_cases bO:10<l.length
   . have g2:((l.length:Int)>10)=True:=arD (by omega);simp +contextual only [aq,ax,g1,g2,al,cH.g,ol.1,ol.2.1,ol.2.2,↓aj,aC,simprocAttr];exact ⟨⟨_,rfl⟩,aJ⟩
   . have g2:((l.length:Int)>10)=False:=arx (by omega);simp +contextual only [aq,ax,g1,g2,al,cH.g,ol.1,ol.2.1,ol.2.2,↓aj,aC,simprocAttr];refine cb (ajM l 60 v aa (L.ext aJ)) ?_;rintro x ad ⟨⟨b,rfl⟩,rfl⟩;cases b with
     | true=>
       simp +contextual only [↓aj,aC,simprocAttr];exact ⟨⟨_,rfl⟩,aJ⟩
     | false=>
       simp +contextual only [cH.g,ol.1,ol.2.1,ol.2.2,↓aj,aC,simprocAttr];refine cb (ajN t 60 _ ad (H.ext aJ)) ?_;rintro x aH ⟨⟨b,rfl⟩,bP⟩;simp +contextual only [↓aj,aC,simprocAttr];exact ⟨⟨_,rfl⟩,aJ.trans bP⟩
def vv (cs:List bz) (p:aL):List fH:=if gC cs [p]=0 then fm cs p [] else []
theorem aoh (cs:List bz) (p:aL):(vv cs p).length<=p.size:=by
 unfold vv
 split
 . exact Hk cs p []
 . exact asP _
theorem yp {cs:List bz} {l:List aL} (h:gC cs l=0):j6 [] cs=true:=by
 unfold gC at h
 split at h
 . rename_i c;simp only [arp] at c;exact c.1.1
 . cases h
theorem amr (cs:List bz) (p:aL) (aU:p.size+2<=500000000) (dC fu:V) (h:ae) (iD:bY Any h 5 (cs.map bz.enc) dC) (X:bM (Old h) h p.enc (dq p fu)):
 cR Tryz.prog 9 [dC,.agg (dq p fu)] h fun x ab=>∃v,x=.tuple [v,.int .i64 (gC cs [p])]/\ia h.next ab (vv cs p) v/\Ext h ab:=by
 obtain ⟨cm,e,eT,uU⟩:=aL.open X;obtain rfl:fu=cm:=by simp only [dq,List.cons.injEq] at e;exact e.2.2.2.2.1
 have ol:=eT.one;obtain ⟨aa,al,aJ,cH⟩:=fq h (dq p fu);obtain ⟨ad,ao,aR,fN⟩:=u7 (F:=Any) (size:=5) (h:=aa) (ds:=p.enc) (cs:=dq p fu) rfl ((X.ext aJ).gy fun _ _=>trivial) trivial;have c1:=cH.ext aR;have bC:=aJ.trans aR;refine aa7.z rfl (cp ?_);unfold Qi;simp only [dq] at al ao cH c1;simp only [dq];simp +contextual only [al,ao,cH.g,ol.1,ol.2.1,ol.2.2,↓aj,aC,simprocAttr];refine cb (CT cs [p] (by simp only [b8];omega) dC _ ad (iD.ext bC) fN) ?_;rintro x aH ⟨rfl,bP⟩;have ep:=c1.ext bP;have e':=bC.trans bP;rcases Bl cs [p] with z | z
 . have a8:vv cs p=fm cs p []:=arz z;rw [z,a8];have aF:lz p:=⟨(wg z).1 p (by simp),by omega⟩;simp +contextual only [ep.g,ol.1,ol.2.1,ol.2.2,↓aj,aC,simprocAttr];refine cb (Hi cs (yp z) dC aH (iD.ext e')) ?_;rintro x bw ⟨rfl,T,b4⟩;have iB:=ep.ext b4;have lZ:=e'.trans b4;simp +contextual only [ep.g,iB.g,ol.1,ol.2.1,ol.2.2,↓aj,aC,simprocAttr];have aW:Old bw (az aH.next):=by obtain ⟨aO,q,_⟩:=T.ex;exact q.bL
   have cf:=Ou cs p aF (by omega) (az aH.next) fu bw T aW ((X.ext lZ).gy fun b z=>lZ.bL z);simp only [dq] at cf;refine cb cf ?_;rintro v cM ⟨AO,dD⟩;have tT:=iB.ext dD;simp +contextual only [ep.g,iB.g,tT.g,ol.1,ol.2.1,ol.2.2,↓aj,aC,simprocAttr];exact ⟨v,rfl,AO.mono lZ.next,lZ.trans dD⟩
 . have a8:vv cs p=[]:=arw (by rw [z];decide);rw [z,a8];simp +contextual only [↓aj,aC,simprocAttr];exact ⟨_,rfl,ia.nil _ _,e'⟩
end
section
open Go aX Go.RowKit
end
section
open Go aX
end
section
open Go aX Go.RowKit
set_option maxRecDepth 100000 in
theorem ZF:M4 ctx 100000 8 []=true:=by kernel_rfl
theorem ZD (h:ae):e4 Tryz.prog 8 [] h (.bool true) h:=
 abC (by kernel_rfl) (fun E x q=>by subst q;simp [Rel]) ⟨_,Tryz.func8,by kernel_rfl⟩ (fun w hw=>aow (C:=ctx) follows zp hw Me (by kernel_rfl) (by kernel_rfl) ZF) h
theorem ZE (h:ae):cR Tryz.prog 8 [] h fun x ab=>x=.bool true/\ab=h:=⟨_,_,ZD h,rfl,rfl⟩
end
section
open Go aX
mutual
def iY (cs:List bz):aL->bZ->Bool
 | .mk k _ _ s l,v=>
   if k=12 then decide (v.k=1)
   else if k=13\/k=14 then decide (v.k=2)&&decide (v.l.length=0)
   else if k=15 then decide (v.k=2)&&(decide (v.l.length=2)&&j4 cs l v.l)
   else if k=16 then decide (v.k=2)&&(cs.all (fun c=>!(decide (c.ty=jR cs s)&&(decide (c.tag=v.n)&&decide (c.arg.length≠v.l.length))))&&(if v.n=jP cs s/\l.length=1 then j4 cs l v.l else true))
   else true
def j4 (cs:List bz):List aL->List bZ->Bool
 | [],_=>true
 | _::_,[]=>false
 | p::l,t::m=>iY cs p t&&j4 cs l m
end
mutual
def nx (cs:List bz):aL->bZ->Bool
 | .mk k n _ s l,v=>if k=12\/k=14 then decide (v.n=n) else (if k=16 then decide (v.n=jP cs s) else true)&&mU cs l v.l
def mU (cs:List bz):List aL->List bZ->Bool
 | [],_=>true
 | _::_,[]=>false
 | p::l,t::m=>nx cs p t&&mU cs l m
end
mutual
def l4 (cs:List bz):aL->Bool
 | .mk k _ _ s l=>(if k=16 then (match eh s cs with
   | some c=>decide (c.arg.length=l.length)
   | none=>false) else true)&&yf cs l
def yf (cs:List bz):List aL->Bool
 | []=>true
 | p::l=>l4 cs p&&yf cs l
end
theorem Hh (cs:List bz) (p:aL) (v:bZ):iY cs p v=(if p.k=12 then decide (v.k=1)
 else if p.k=13\/p.k=14 then decide (v.k=2)&&decide (v.l.length=0)
 else if p.k=15 then decide (v.k=2)&&(decide (v.l.length=2)&&j4 cs p.l v.l)
 else if p.k=16 then decide (v.k=2)&&(cs.all (fun c=>!(decide (c.ty=jR cs p.s)&&(decide (c.tag=v.n)&&decide (c.arg.length≠v.l.length))))&&(if v.n=jP cs p.s/\p.l.length=1 then j4 cs p.l v.l else true))
 else true):=by cases p;rfl
theorem RT (cs:List bz) (p:aL) (v:bZ):nx cs p v=(if p.k=12\/p.k=14 then decide (v.n=p.n) else (if p.k=16 then decide (v.n=jP cs p.s) else true)&&mU cs p.l v.l):=by cases p;rfl
theorem IY (cs:List bz) (p:aL):l4 cs p=((if p.k=16 then (match eh p.s cs with
 | some c=>decide (c.arg.length=p.l.length)
 | none=>false) else true)&&yf cs p.l):=by cases p;rfl
theorem I0 {cs:List bz}:∀{l:List aL},yf cs l=true↔∀p ∈ l,l4 cs p=true
 | []=>by simp [yf]
 | p::l=>by simp [yf,I0 (l:=l)]
theorem QH {cs:List bz}:∀(n:Nat) (p:aL),p.size<=n->lz p->∀l,XG cs l->p ∈ l->l4 cs p=true
 | 0,p,aV,_,_,_,_=>by have:=nT p;omega
 | n+1,p,aV,aF,l,lA,dc=>by
   rw [IY,arp];cases hw:nY p with
   | true=>
     have ax:=aeh aF hw;simp only [nY,asF,arF] at hw;rw [ax,arw (by omega)];exact ⟨rfl,rfl⟩
   | false=>
     have hM:p ∈ h8 l:=LB.2 ⟨dc,hw⟩;obtain ⟨q,s,aU⟩:∃q s,h8 l=q::s:=ath fun z=>by rw [z] at hM;cases hM
     refine ⟨?_,?_⟩
     . have:=(zZ.1 (lA 1) q s aU).1 p (by rw [<-aU];exact hM);by_cases hc:p.k=16
       . rw [arz hc];obtain ⟨aJ,aR⟩:=yv.1 this;obtain ⟨c,bJ,bO,c3⟩:=aR (by rw [<-aJ];exact hc);rw [bJ];simpa using c3
       . rw [arw hc]
     . rw [I0];intro x ak;obtain ⟨i,aw,e⟩:=atx ak;have aB:=u5 ak;refine QH n x (by omega) (Bt aF ak) (hh (q::s) (fB p) i) (fun m=>?_) ?_
       . exact (zZ.1 (lA (m+1)) q s aU).2 p (by rw [<-aU];exact hM) i aw
       . rw [<-aU];exact LA.2 ⟨p,hM,rfl,by rw [ars aw,e]⟩
theorem Ji {cs:List bz} {l:List aL} (h:gC cs l=0) (aU:b8 l<=1000000000):∀p ∈ l,l4 cs p=true:=by obtain ⟨a,b⟩:=wg h;intro p ag;exact QH p.size p (arv _) ⟨a p ag,by have:=nb ag;omega⟩ l (fun n=>MS n _ l (arv _) b) ag
theorem QG {cs:List bz} {p:aL} (h:l4 cs p=true) (hc:p.k=16):∃c,eh p.s cs=some c/\c.arg.length=p.l.length:=by
 rw [IY,arp,arz hc] at h;cases aq:eh p.s cs with
 | none=>rw [aq] at h;cases h.1
 | some c=>rw [aq] at h;exact ⟨c,rfl,by simpa using h.1⟩
theorem IZ {cs:List bz} {p q:aL} (h:l4 cs p=true) (ay:q ∈ p.l):l4 cs q=true:=by rw [IY,arp] at h;exact I0.1 h.2 q ay
theorem IX {cs:List bz} {s:List UInt8} {c:bz} (h:eh s cs=some c):c ∈ cs/\c.name=s:=by
 induction cs with
 | nil=>cases h
 | cons d cs bc=>
   simp only [eh] at h
   split at h
   . rename_i e;rw [arq] at h;subst h;exact ⟨ar1,e⟩
   . exact ⟨arT _ (bc h).1,(bc h).2⟩
theorem an5 {cs:List bz} {p:aL} {v:bZ} (aq:l4 cs p=true) (hc:p.k=16) (h:iY cs p v=true) (aV:v.n=jP cs p.s):p.l.length=v.l.length/\(p.l.length=1->j4 cs p.l v.l=true)/\v.k=2:=by
 obtain ⟨c,bJ,bO⟩:=QG aq hc;rw [Hh,arw (by omega),arw (by omega),arw (by omega),arz hc] at h;simp only [arp,arF,arU] at h;obtain ⟨aa,ad,aH⟩:=h;have hm:=IX bJ;have bw:=ad c hm.1;have aG:c.ty=jR cs p.s:=by unfold jR;rw [bJ]
 have aF:c.tag=v.n:=by rw [aV];unfold jP;rw [bJ]
 simp only [aG,aF,as7,ar8,aso,asr,ne_eq,Decidable.not_not] at bw;refine ⟨by omega,fun ax=>?_,aa⟩;rw [arz ⟨aV,ax⟩] at aH;exact aH
def PK:a1:=
 a1.seq (a1.an [⟨(some 9),.dZ 0 (.t 4),none,[4]⟩,
  ⟨(some 10),.dR (.t 9),none,[9]⟩])
  (a1.block 0 (a1.seq (a1.seq (a1.an [⟨(some 12),.bin (.int .eql) (.t 10) (.c (.int .i64 12)),none,[10]⟩,
    ⟨(some 11),.cO (.t 12),none,[12]⟩])
    (a1.cond (.t 11)
     (a1.skip)
     (a1.an [⟨(some 13),.bin (.int .eql) (.t 10) (.c (.int .i64 14)),none,[10]⟩,
       ⟨(some 11),.cO (.t 13),none,[13]⟩])))
   (a1.cond (.t 11)
    (a1.seq (a1.an [⟨(some 14),.dZ 1 (.t 5),none,[5]⟩,
      ⟨(some 15),.dR (.t 14),none,[14]⟩,
      ⟨(some 16),.dZ 1 (.t 4),none,[4]⟩,
      ⟨(some 17),.dR (.t 16),none,[16]⟩,
      ⟨(some 18),.bin (.int .eql) (.t 15) (.t 17),none,[15,17]⟩,
      ⟨(some 6),.cO (.t 18),none,[18]⟩])
     (a1.ret))
    (a1.seq (a1.an [⟨(some 20),.bin (.int .eql) (.t 10) (.c (.int .i64 16)),none,[10]⟩,
      ⟨(some 19),.cO (.t 20),none,[20]⟩])
     (a1.cond (.t 19)
      (a1.seq (a1.an [⟨(some 21),.dZ 1 (.t 5),none,[5]⟩,
        ⟨(some 22),.dR (.t 21),none,[21]⟩,
        ⟨(some 23),.cO (.t 0),none,[0]⟩,
        ⟨(some 24),.dZ 3 (.t 4),none,[4]⟩,
        ⟨(some 25),.dR (.t 24),none,[24]⟩,
        ⟨(some 26),.look .str (.agg [(.str []),(.str []),(.int .i64 0),(.int .i64 0),.bj]) false (.t 23) (.t 25),none,[23,25]⟩,
        ⟨(some 27),.ph 2 (.t 26),none,[26]⟩,
        ⟨(some 28),.bin (.int .neq) (.t 22) (.t 27),none,[22,27]⟩])
       (a1.cond (.t 28)
        (a1.seq (a1.an [⟨(some 6),.cO (.c (.bool false)),none,[]⟩])
         (a1.ret))
        (a1.skip)))
      (a1.skip))))))
def PL:a1:=
 a1.seq (a1.seq (a1.an [⟨(some 29),.dZ 4 (.t 4),none,[4]⟩,
  ⟨(some 30),.dR (.t 29),none,[29]⟩,
  ⟨(some 31),.len .slice (.t 30),none,[30]⟩,
  ⟨(some 32),.cO (.c (.int .i64 0)),none,[]⟩])
  (a1.block 1 (a1.loop II)))
 (a1.seq (a1.an [⟨(some 6),.cO (.c (.bool true)),none,[]⟩])
 (a1.ret))
theorem aaL:PJ=(a1.seq (a1.an [⟨(some 4),.box (.t 1),none,[1]⟩,
 ⟨(some 5),.box (.t 2),none,[2]⟩,
 ⟨(some 6),.cO (.c (.bool false)),none,[]⟩])
 (a1.seq (PK)
 (PL))):=rfl
theorem TX {cs:List bz}:∀{l:List aL} {m:List bZ},j4 cs l m=true->∀(i:Nat) (aw:i<l.length),∃hm:i<m.length,iY cs l[i] m[i]=true
 | [],m,_,i,aw=>by simp at aw
 | p::l,[],h,_,_=>by simp [j4] at h
 | p::l,t::m,h,0,aw=>by simp only [j4,arp] at h;exact ⟨by simp,by simpa using h.1⟩
 | p::l,t::m,h,i+1,aw=>by simp only [j4,arp] at h;obtain ⟨a,b⟩:=TX h.2 i (by simpa using aw);exact ⟨by simpa using a,by simpa using b⟩
theorem TV {cs:List bz}:∀{l:List aL} {m:List bZ},(∀(i:Nat) (aw:i<l.length),∃hm:i<m.length,nx cs l[i] m[i]=true)->mU cs l m=true
 | [],m,_=>by simp [mU]
 | p::l,[],h=>by obtain ⟨a,_⟩:=h 0 (by simp);simp at a
 | p::l,t::m,h=>by simp only [mU,arp];refine ⟨by obtain ⟨_,b⟩:=h 0 (by simp);simpa using b,TV fun i aw=>?_⟩;obtain ⟨a,b⟩:=h (i+1) (by simpa using aw);exact ⟨by simpa using a,by simpa using b⟩
theorem TU {cs:List bz}:∀{l:List aL} {m:List bZ} (i:Nat) (aw:i<l.length) (hm:i<m.length),nx cs l[i] m[i]=false->mU cs l m=false
 | [],m,i,aw,_,_=>by simp at aw
 | p::l,[],i,aw,hm,_=>by simp at hm
 | p::l,t::m,0,aw,hm,h=>by simp only [mU];rw [show nx cs p t=false from by simpa using h];rfl
 | p::l,t::m,i+1,aw,hm,h=>by simp only [mU];rw [TU (l:=l) (m:=m) i (by simpa using aw) (by simpa using hm) (by simpa using h),asL]
theorem WT {cs:List bz} {p:aL} {v:bZ} (aF:lz p) (aq:l4 cs p=true) (h:iY cs p v=true) (aa:¬(p.k=12\/p.k=14)) (ad:p.k=16->v.n=jP cs p.s):j4 cs p.l v.l=true:=by
 obtain ⟨g1,g2,g3,g4,g5,_⟩:=CR aF.2 aF.1;by_cases E3:p.k=15
 . rw [Hh,arw (by omega),arw (by omega),arz E3] at h;simp only [arp] at h;exact h.2.2
 . by_cases hc:p.k=16
   . obtain ⟨a,b,_⟩:=an5 aq hc h (ad hc);have:=(g4 hc).1;by_cases ax:p.l.length=1
     . exact b ax
     . have:p.l=[]:=asj (by omega);rw [this];simp [j4]
   . rw [g5 E3 hc];simp [j4]
def e_ (t:bZ) (cm:V):List V:=[.int .i64 t.k,.int .i64 t.n,cm]
def HD (cs:List bz) (n:Nat):Prop:=∀(p:aL),p.size<=n->lz p->l4 cs p=true->∀(t:bZ),iY cs p t=true->∀(cv:aM) (fu gx:V) (h:ae),jW cs h cv->bM Any h p.enc (dq p fu)->bM Any h t.enc (e_ t gx)->
 cR Tryz.prog 54 [.map cv,.agg (dq p fu),.agg (e_ t gx)] h fun x ab=>x=.bool (nx cs p t)/\Ext h ab
theorem adx {cs:List bz} {n:Nat} (Aw:HD cs n):HD cs (n+1):=by
 intro p hM aF aq t cE cv fu gx h T X Y;obtain ⟨cm,e,eT,uU⟩:=aL.open X;obtain rfl:fu=cm:=by simp only [dq,List.cons.injEq] at e;exact e.2.2.2.2.1
 obtain ⟨jQ,cF,np⟩:=bZ.open Y;obtain rfl:gx=jQ:=by simp only [e_,List.cons.injEq] at cF;exact cF.2.2.1
 have ol:=eT.one;have fS:=np.one;have je:=eT.len;rw [arC] at je;have dh:=nc p.l;have cu:=size_eq p;have Fp:=aF.2;obtain ⟨aa,al,aJ,cH⟩:=fq h (dq p fu);have dp:aa.next=h.next+1:=by rw [<-al];exact gv _ _
 obtain ⟨ad,ao,aR,dv⟩:=fq aa (e_ t gx);have c1:=cH.ext aR;have bC:=aJ.trans aR;have su:=T.ext bC;obtain ⟨WY,C',ty,aq5,W5⟩:=su.look p.s;refine aaK.z rfl (cp ?_);rw [aaL];simp only [dq] at al cH c1;simp only [e_] at ao dv;simp only [dq,e_];simp +contextual only [al,ao,ol.1,ol.2.1,ol.2.2,fS.1,fS.2.1,fS.2.2,c1.g,dv.g,↓aj,aC,simprocAttr];have aqq:(p.k=12)=True\/(p.k=12)=False:=by by_cases q:p.k=12<;>simp [q]
 have av:=RT cs p t;refine Nc (fun r G=>r 0=.map cv/\r 4=.ptr (az h.next) 0/\r 5=.ptr (az aa.next) 0/\ad=G/\nx cs p t=mU cs p.l t.l/\¬(p.k=12\/p.k=14)/\(p.k=16->t.n=jP cs p.s)) rfl (cp ?_) ?_
 . unfold PK;by_cases jx:p.k=12
   . have g2:(p.k=12)=True:=arD jx;rw [arz (.inl jx)] at av;simp +contextual only [c1.g,dv.g,g2,hn,↓aj,aC,simprocAttr];rw [av];exact ⟨by congr 1,bC⟩
   . have g2:(p.k=12)=False:=arx jx;by_cases mA:p.k=14
     . have g3:(p.k=14)=True:=arD mA;rw [arz (.inr mA)] at av;simp +contextual only [c1.g,dv.g,g2,g3,hn,↓aj,aC,simprocAttr];rw [av];exact ⟨by congr 1,bC⟩
     . have g3:(p.k=14)=False:=arx mA;rw [arw (by omega)] at av;by_cases jy:p.k=16
       . have g4:(p.k=16)=True:=arD jy;rw [arz jy] at av;by_cases rf:t.n=jP cs p.s
         . have g5:(t.n=jP cs p.s)=True:=arD rf;rw [asm rf,ar8] at av;simp +contextual only [c1.g,dv.g,g2,g3,g4,g5,W5,er,↓aj,aC,simprocAttr];exact ⟨av,by simp⟩
         . have g5:(t.n=jP cs p.s)=False:=arx rf;rw [asp rf,ar9] at av;simp +contextual only [c1.g,dv.g,g2,g3,g4,g5,W5,er,hn,↓aj,aC,simprocAttr];rw [av];exact ⟨rfl,bC⟩
       . have g4:(p.k=16)=False:=arx jy;rw [arw jy,ar8] at av;simp +contextual only [c1.g,dv.g,g2,g3,g4,er,↓aj,aC,simprocAttr];exact ⟨av,by simp⟩
 . rintro r G ⟨a_,cC,bK,e,av,Jw,hc⟩;subst e;have rF:=WT aF aq cE Jw hc;unfold PL;simp +contextual only [a_,cC,bK,c1.g,je,↓aj,aC,simprocAttr];refine fR (fun r g=>r 0=.map cv/\r 5=.ptr (az aa.next) 0/\r 30=fu/\r 31=.int .i64 p.l.length/\Ext ad g/\∃i:Nat,r 32=.int .i64 i/\i<=p.l.length/\∀j (bp:j<p.l.length),j<i->∃hm:j<t.l.length,nx cs p.l[j] t.l[j]=true) (fun r g=>p.l.length - (r 32).toN) ?_ ?_
   . exact ⟨by simp only [a_,↓aj,bD,simprocAttr],by simp only [bK,↓aj,bD,simprocAttr],by simp only [↓aj,bD,simprocAttr],by simp only [↓aj,bD,simprocAttr],Ext.refl ad,0,by simp only [↓aj,bD,simprocAttr]<;>rfl,by omega,fun j bp bk=>by omega⟩
   clear a_ cC bK;rintro r g ⟨a_,bK,ix,tz,ei,i,r32,aw,cY⟩;unfold II;have ln:=bC.trans ei;by_cases aS:i<p.l.length
   . have g0:((i:Int) < (p.l.length:Int))=True:=arD (by omega);obtain ⟨J8,agu⟩:=TX rF i aS;obtain ⟨b,off,js,cd,oi,oj,ld,_,_,_⟩:=aL.nJ eT (k:=.i64) aS;obtain ⟨bR,k7,Aa,j1,YW,YX,w7⟩:=bZ.k3 np (k:=.i64) J8;have d5:=ld g ln;have ok:=oj.one;have iu:=YX.one;have dM:=hj aS (by omega);have dc:p.l[i] ∈ p.l:=arY aS;have aqc:=u5 dc;have Fo:=Bt aF dc;have jH:=IZ aq dc;obtain ⟨g1,aK,bP,ep⟩:=fy g z5 (dq p.l[i] js);have xN:=ln.trans bP;have lX:=(dv.ext ei).ext bP;have d6:=w7 g1 xN;simp only [dq] at aK ep;simp +contextual only [a_,bK,ix,tz,r32,g0,cd,j1,d5,d6,ok.1,ok.2.1,iu.1,iu.2.1,aK,ep.g,lX.g,↓aj,aC,simprocAttr];have cf:=Aw p.l[i] (by omega) Fo jH t.l[i] agu cv js Aa g1 (T.ext xN) (oi.ext xN) (YW.ext xN);simp only [dq,e_] at cf;refine cb cf ?_;rintro x g2 ⟨rfl,b4⟩;have iB:=ep.ext b4;have ll:=lX.ext b4;have d7:=w7 g2 (xN.trans b4);cases nA:nx cs p.l[i] t.l[i] with
     | true=>
       simp +contextual only [a_,bK,ix,tz,r32,ep.g,iB.g,lX.g,ll.g,d6,d7,j1,ok.1,ok.2.1,iu.1,iu.2.1,dM,↓aj,aC,simprocAttr];refine ⟨⟨(ei.trans bP).trans b4,i+1,rfl,aS,fun j bp BR=>?_⟩,by omega⟩;by_cases J':j<i
       . exact cY j bp J'
       . obtain rfl:j=i:=by omega
         exact ⟨J8,nA⟩
     | false=>
       have Kw:=TU i aS J8 nA;simp +contextual only [a_,bK,ix,tz,r32,ep.g,iB.g,lX.g,ll.g,d6,d7,j1,ok.1,ok.2.1,iu.1,iu.2.1,dM,↓aj,aC,simprocAttr];rw [av,Kw];exact ⟨rfl,xN.trans b4⟩
   . have g0:((i:Int) < (p.l.length:Int))=False:=arx (by omega);have agT:mU cs p.l t.l=true:=TV fun j bp=>cY j bp (by omega);simp +contextual only [a_,bK,ix,tz,r32,g0,↓aj,aC,simprocAttr];rw [av,agT];exact ⟨rfl,ln⟩
theorem RU (cs:List bz):∀n,HD cs n
 | 0=>fun p hM=>by have:=nT p;omega
 | n+1=>adx (RU cs n)
theorem Ew [Lay] {P:Program} {c:aT} {a b:a1} {t:Bool} {r:bf} {h:ae} {Q:cT->bf->ae->Prop} (aq:c.aQ r=.bool t) (XZ:t=true->fj P a r h Q) (X0:t=false->fj P b r h Q):fj P (.cond c a b) r h Q:=by simp only [fj,aq];exact ⟨XZ,X0⟩
theorem RD:∀{aO:List (List UInt8 × V)} {es:List b_},tW (fun v=>v) aO es->kd V.str aO es
 | [],[],_=>trivial
 | (s,a)::aO,m::es,H=>⟨H.1,H.2.1,RD H.2.2⟩
 | [],_::_,H=>H.elim
 | _::_,[],H=>H.elim
theorem akC {h:ae} {b:aM} {aO:List (List UInt8 × V)} (H:jV (fun v=>v) h b aO):hk V.str h b aO:=by obtain ⟨es,clock,al,ao,aK⟩:=H.ex;exact ⟨⟨es,clock,al,RD ao,aK⟩,H.bL⟩
theorem Up {s:List UInt8} {x:V}:∀{aO:List (List UInt8 × V)},iK s aO=some x->(s,x) ∈ aO
 | (n,a)::aO,h=>by
   simp only [iK] at h
   split at h
   . rename_i e;rw [arq] at h;subst h;subst e;exact ar1
   . exact arT _ (Up h)
theorem Uq {s:List UInt8} {x:V}:∀{aO:List (List UInt8 × V)},(aO.map Prod.fst).Nodup->(s,x) ∈ aO->iK s aO=some x
 | (n,a)::aO,aV,h=>by
   simp only [ast,atr] at aV;simp only [iK];rcases arM.1 h with h | h
   . rw [asi] at h;rw [arz h.1,h.2]
   . rw [arw (fun e=>aV.1 (by rw [<-e];exact atM.2 ⟨_,h,rfl⟩))];exact Uq aV.2 h
def HA (cs:List bz) (lQ:List UInt8 × V) (c:bz):Prop:=eh lQ.1 cs=some c/\∃dA,lQ.2=.agg (kM c dA)/\ht dA=some (.int .i64 c.arg.length)/\dA.one=true/\dA.cells=[dA]/\dA.eU=true
theorem jW.range {cs:List bz} {h:ae} {cv:aM} (H:jW cs h cv):∃aO,hk V.str h cv aO/\(∀lQ ∈ aO,∃c,HA cs lQ c)/\∀c ∈ cs,eh c.name cs=some c->∃x ∈ aO,x.1=c.name:=by
 obtain ⟨aO,a,n,b⟩:=H.ex;refine ⟨aO,akC a,fun ⟨s,x⟩ ag=>?_,fun c _ aq=>?_⟩
 . have aa:=Uq n ag;have ad:=b s;cases aq:eh s cs with
   | none=>rw [aq] at ad;rw [show iK s aO=none from ad] at aa;cases aa
   | some c=>
     rw [aq] at ad;obtain ⟨dA,f1,f2⟩:=ad;rw [aa,arq] at f1;exact ⟨c,aq,dA,f1,f2⟩
 . have ad:=b c.name;rw [aq] at ad;obtain ⟨dA,f1,f2⟩:=ad;exact ⟨_,Up f1,rfl⟩
theorem jW.find {cs:List bz} {h:ae} {cv:aM} (H:jW cs h cv) {s:List UInt8} {c:bz} (aq:eh s cs=some c):∃dA,gK jt.str.eq (.agg [.str [],.str [],.int .i64 0,.int .i64 0,.bj]) false h (.map cv) (.str s)=some (.agg (kM c dA))/\dA.one=true/\dA.cells=[dA]/\dA.eU=true:=by obtain ⟨aO,a,_,b⟩:=H.ex;have aa:=a.look s (.agg mo) false;have ad:=b s;rw [aq] at ad;obtain ⟨dA,f,_,f2⟩:=ad;refine ⟨dA,?_,f2⟩;show gK jE _ _ _ _ _=_;rw [aa,f];rfl
theorem jW.bL {cs:List bz} {h:ae} {cv:aM} (H:jW cs h cv):Old h cv:=by obtain ⟨aO,q,_⟩:=H.ex;exact q.bL
def jg (t:bZ) (ty:List UInt8) (c:bz):Bool:=!(decide (c.ty=ty)&&(decide (c.tag=t.n)&&decide (c.arg.length≠t.l.length)))
theorem ajI {cs:List bz} {l:List aL} {m:List bZ} (i0:0<l.length) (i1:1<l.length) (qu:0<m.length) (qv:1<m.length) (aa:l.length=2) (ad:m.length=2):j4 cs l m=(iY cs l[0] m[0]&&iY cs l[1] m[1]):=by
 cases l with
 | nil=>simp at i0
 | cons a l=>
   cases l with
   | nil=>simp at i1
   | cons b l=>
     cases m with
     | nil=>simp at qu
     | cons c m=>
       cases m with
       | nil=>simp at qv
       | cons d m=>
         obtain rfl:l=[]:=asj (by simpa using aa);simp [j4]
theorem ajH {cs:List bz} {l:List aL} {m:List bZ} (i0:0<l.length) (qu:0<m.length) (aa:l.length=1):j4 cs l m=iY cs l[0] m[0]:=by
 cases l with
 | nil=>simp at i0
 | cons a l=>
   cases m with
   | nil=>simp at qu
   | cons c m=>
     obtain rfl:l=[]:=asj (by simpa using aa);simp [j4]
def H_ (cs:List bz) (n:Nat):Prop:=∀(p:aL),p.size<=n->lz p->l4 cs p=true->∀(t:bZ) (cv:aM) (fu gx:V) (h:ae),jW cs h cv->bM Any h p.enc (dq p fu)->bM Any h t.enc (e_ t gx)->
 e4 Tryz.prog 59 [.map cv,.agg (dq p fu),.agg (e_ t gx)] h (.bool (iY cs p t)) h
theorem an6 {cs:List bz} (rz:∀c ∈ cs,eh c.name cs=some c) {n:Nat} (Aw:H_ cs n):H_ cs (n+1):=by
 intro p hM aF aq t cv fu gx h T X Y;obtain ⟨cm,e,eT,uU⟩:=aL.open X;obtain rfl:fu=cm:=by simp only [dq,List.cons.injEq] at e;exact e.2.2.2.2.1
 obtain ⟨jQ,cF,np⟩:=bZ.open Y;obtain rfl:gx=jQ:=by simp only [e_,List.cons.injEq] at cF;exact cF.2.2.1
 have ol:=eT.one;have fS:=np.one;have je:=eT.len;have oH:=np.len;rw [arC] at je oH;have dh:=nc p.l;have cu:=size_eq p;have Fp:=aF.2;obtain ⟨g1,g2,g15,g16,g0,_⟩:=CR aF.2 aF.1;obtain ⟨aa,al,aJ,cH⟩:=fq h (dq p fu);have dp:aa.next=h.next+1:=by rw [<-al];exact gv _ _
 obtain ⟨ad,ao,aR,dv⟩:=fq aa (e_ t gx);have fZ:ad.next=aa.next+1:=by rw [<-ao];exact gv _ _
 have c1:=cH.ext aR;have bC:=aJ.trans aR;have su:=T.ext bC;have av:=Hh cs p t;simp only [dq] at al cH c1;simp only [e_] at ao dv;refine aaQ.d rfl ?_;unfold PU;simp only [dq,e_];refine mD (fun r g=>r 0=.map cv/\r 4=.ptr (az h.next) 0/\r 5=.ptr (az aa.next) 0/\ad=g) rfl (cp ?_) fun r g ⟨a_,cC,bK,e⟩=>?_
 . simp +contextual only [al,ao,ol.1,ol.2.1,ol.2.2,fS.1,fS.2.1,fS.2.2,er,↓aj,aC,simprocAttr]
 subst e;rw [Ja];refine mD (fun r g=>r 0=.map cv/\r 4=.ptr (az h.next) 0/\r 5=.ptr (az aa.next) 0/\r 11=.int .i64 p.k/\ad=g) rfl (cp ?_) fun r g ⟨a_,cC,bK,gj,e⟩=>?_
 . simp +contextual only [a_,cC,bK,c1.g,er,↓aj,aC,simprocAttr]
 subst e;rw [I'];refine mD (fun r g=>r 0=.map cv/\r 4=.ptr (az h.next) 0/\r 5=.ptr (az aa.next) 0/\r 11=.int .i64 p.k/\r 12=.bool (decide (p.k=12))/\ad=g) rfl (cp ?_) fun r g ⟨a_,cC,bK,gj,ka,e⟩=>?_
 . simp +contextual only [a_,cC,bK,gj,er,↓aj,aC,simprocAttr]
 subst e;refine Ew (t:=decide (p.k=12)) (by simp only [aT.aQ,ka]) (fun z=>?_) (fun z=>?_)
 . have jx:p.k=12:=by simpa using z
   rw [arz jx] at av;refine ov rfl (cp ?_);simp +contextual only [a_,cC,bK,gj,dv.g,er,hn,↓aj,aC,simprocAttr];exact ⟨bC,av.symm⟩
 have jx:¬p.k=12:=by simpa using z
 clear z ka;rw [arw jx] at av;refine mD (fun r g=>r 0=.map cv/\r 4=.ptr (az h.next) 0/\r 5=.ptr (az aa.next) 0/\r 11=.int .i64 p.k/\r 17=.bool (decide (p.k=13\/p.k=14))/\ad=g) rfl (cp ?_) fun r g ⟨a_,cC,bK,gj,oQ,e⟩=>?_
 . by_cases yc:p.k=13
   . simp +contextual only [a_,cC,bK,gj,arD yc,er,↓aj,aC,simprocAttr]
     try simp
   . have tQ:(p.k=13)=False:=arx yc;simp +contextual only [a_,cC,bK,gj,tQ,er,↓aj,aC,simprocAttr]
     try simp
 subst e;refine Ew (t:=decide (p.k=13\/p.k=14)) (by simp only [aT.aQ,oQ]) (fun z=>?_) (fun z=>?_)
 . have yc:p.k=13\/p.k=14:=by simpa using z
   rw [arz yc] at av;refine ov rfl (cp ?_);by_cases bO:t.k=2
   . have g3:(t.k=2)=True:=arD bO;rw [asm bO,ar8] at av;have bk:((t.l.length:Int)=0)=(t.l.length=0):=by apply propext;omega
     simp +contextual only [a_,cC,bK,gj,dv.g,oH,g3,er,hn,↓aj,aC,simprocAttr];refine ⟨bC,?_⟩;rw [av]
     try congr 1
     all_goals try simp
   . have g3:(t.k=2)=False:=arx bO;rw [asp bO,ar9] at av;simp +contextual only [a_,cC,bK,gj,dv.g,oH,g3,er,hn,↓aj,aC,simprocAttr];exact ⟨bC,by rw [av]⟩
 have yc:¬(p.k=13\/p.k=14):=by simpa using z
 clear z oQ;rw [arw yc] at av;refine mD (fun r g=>r 0=.map cv/\r 4=.ptr (az h.next) 0/\r 5=.ptr (az aa.next) 0/\r 11=.int .i64 p.k/\r 29=.bool (decide (p.k=15))/\ad=g) rfl (cp ?_) fun r g ⟨a_,cC,bK,gj,jm,e⟩=>?_
 . simp +contextual only [a_,cC,bK,gj,er,↓aj,aC,simprocAttr]
 subst e;have call:∀(G:ae) (i j:Nat) (aw:i<p.l.length) (bp:j<t.l.length) (js Aa:V),Ext h G->bM Any h p.l[i].enc (dq p.l[i] js)->bM Any h t.l[j].enc (e_ t.l[j] Aa)->cR Tryz.prog 59 [.map cv,.agg (dq p.l[i] js),.agg (e_ t.l[j] Aa)] G fun x ab=>x=.bool (iY cs p.l[i] t.l[j])/\G=ab:=fun G i j aw bp js Aa E DW N'=>by have dc:p.l[i] ∈ p.l:=arY aw;have rF:=u5 dc;exact ⟨_,_,Aw p.l[i] (by omega) (Bt aF dc) (IZ aq dc) t.l[j] cv js Aa G (T.ext E) (DW.ext E) (N'.ext E),rfl,rfl⟩
 refine Ew (t:=decide (p.k=15)) (by simp only [aT.aQ,jm]) (fun z=>?_) (fun z=>?_)
 . have Eh:p.k=15:=by simpa using z
   rw [arz Eh] at av;have kX:=(g15 Eh).1;refine ov rfl (cp ?_);by_cases bO:t.k=2
   . have g3:(t.k=2)=True:=arD bO;rw [asm bO,ar8] at av;by_cases c3:t.l.length=2
     . have g4:((t.l.length:Int)=2)=True:=arD (by omega);rw [asm c3,ar8] at av;have i0:0<p.l.length:=by omega
       have i1:1<p.l.length:=by omega
       have qu:0<t.l.length:=by omega
       have qv:1<t.l.length:=by omega
       have aB:=ajI (cs:=cs) i0 i1 qu qv kX c3;obtain ⟨om,gX,v0,K1,Ic,YM,fK,_⟩:=aL.nJ eT (k:=.i64) i0;obtain ⟨cc,da,v1,s_,hF,apw,dR,_⟩:=aL.nJ eT (k:=.i64) i1;obtain ⟨cj,cw,v2,w0,sv,YN,w8⟩:=bZ.k3 np (k:=.i64) qu;obtain ⟨eI,ml,v3,tb,YJ,apx,mV⟩:=bZ.k3 np (k:=.i64) qv;have d0:=fK ad bC;have d1:=dR ad bC;have d2:=w8 ad bC;have d3:=mV ad bC;have j3:=call ad 0 0 i0 qu v0 v2 bC Ic sv;have b3:=call ad 1 1 i1 qv v1 v3 bC hF YJ;simp only [dq,e_] at j3 b3;have s':fX 5 fu (.int .i64 0)=some (.ptr om (gX+0 * 5)):=K1;have mS:fX 5 fu (.int .i64 1)=some (.ptr cc (da+1 * 5)):=s_;have ta:fX 3 gx (.int .i64 0)=some (.ptr cj (cw+0 * 3)):=w0;have Cd:fX 3 gx (.int .i64 1)=some (.ptr eI (ml+1 * 3)):=tb;generalize gX+0 * 5=z0 at s' d0;generalize da+1 * 5=bN at mS d1;generalize cw+0 * 3=z2 at ta d2;generalize ml+1 * 3=z3 at Cd d3;simp +contextual only [a_,cC,bK,gj,c1.g,dv.g,oH,g3,g4,s',mS,ta,Cd,d0,d1,d2,d3,er,hn,↓aj,aC,simprocAttr];refine cb j3 ?_;rintro x G ⟨rfl,e⟩;subst e;cases uS:iY cs p.l[0] t.l[0] with
       | true=>
         simp +contextual only [a_,cC,bK,gj,c1.g,dv.g,oH,g3,g4,s',mS,ta,Cd,d0,d1,d2,d3,er,hn,↓aj,aC,simprocAttr];refine cb b3 ?_;rintro x G ⟨rfl,e⟩;subst e;simp +contextual only [a_,cC,bK,gj,c1.g,dv.g,oH,g3,g4,s',mS,ta,Cd,d0,d1,d2,d3,er,hn,↓aj,aC,simprocAttr];refine ⟨bC,?_⟩;rw [av,aB,uS,ar8]
       | false=>
         simp +contextual only [a_,cC,bK,gj,c1.g,dv.g,oH,g3,g4,s',mS,ta,Cd,d0,d1,d2,d3,er,hn,↓aj,aC,simprocAttr];refine ⟨bC,?_⟩;rw [av,aB,uS,ar9]
     . have g4:((t.l.length:Int)=2)=False:=arx (by omega);rw [asp c3,ar9] at av;simp +contextual only [a_,cC,bK,gj,c1.g,dv.g,oH,g3,g4,er,hn,↓aj,aC,simprocAttr];exact ⟨bC,by rw [av]⟩
   . have g3:(t.k=2)=False:=arx bO;rw [asp bO,ar9] at av;simp +contextual only [a_,cC,bK,gj,c1.g,dv.g,oH,g3,er,hn,↓aj,aC,simprocAttr];exact ⟨bC,by rw [av]⟩
 have Eh:¬p.k=15:=by simpa using z
 clear z jm;rw [arw Eh] at av;refine mD (fun r g=>r 0=.map cv/\r 4=.ptr (az h.next) 0/\r 5=.ptr (az aa.next) 0/\r 11=.int .i64 p.k/\r 64=.bool (decide (p.k=16))/\ad=g) rfl (cp ?_) fun r g ⟨a_,cC,bK,gj,C0,e⟩=>?_
 . simp +contextual only [a_,cC,bK,gj,er,↓aj,aC,simprocAttr]
 subst e;refine Ew (t:=decide (p.k=16)) (by simp only [aT.aQ,C0]) (fun z=>?_) (fun z=>?_)
 rotate_left
 . have jy:¬p.k=16:=by simpa using z
   rw [arw jy] at av;refine ov rfl (cp ?_);simp +contextual only [a_,cC,bK,gj,er,hn,↓aj,aC,simprocAttr];refine ov rfl (cp ?_);simp +contextual only [a_,cC,bK,gj,er,hn,↓aj,aC,simprocAttr];exact ⟨bC,av.symm⟩
 have jy:p.k=16:=by simpa using z
 clear z C0;rw [arz jy] at av;obtain ⟨c,Fc,ap6⟩:=QG aq jy;obtain ⟨dA,W4,kB⟩:=su.find Fc;have agz:jP cs p.s=c.tag:=by unfold jP;rw [Fc]
 have agC:jR cs p.s=c.ty:=by unfold jR;rw [Fc]
 rw [agz,agC] at av;obtain ⟨aH,aK,bP,Nq⟩:=fy ad mo (kM c dA);have n3:aH.next=ad.next+1:=by rw [<-aK];rfl
 simp only [kM] at W4 aK Nq;have ep:=c1.ext bP;have lX:=dv.ext bP;have e':=bC.trans bP;refine mD (fun r g=>r 0=.map cv/\r 4=.ptr (az h.next) 0/\r 5=.ptr (az aa.next) 0/\r 7=.ptr (az ad.next) 0/\aH=g) rfl (cp ?_) fun r g ⟨a_,cC,bK,cy,e⟩=>?_
 . simp +contextual only [a_,cC,bK,gj,c1.g,W4,aK,kB.1,kB.2.1,kB.2.2,er,↓aj,aC,simprocAttr]
 subst e;refine mD (fun r g=>r 0=.map cv/\r 4=.ptr (az h.next) 0/\r 5=.ptr (az aa.next) 0/\r 7=.ptr (az ad.next) 0/\t.k=2/\aH=g) rfl (cp ?_) fun r g ⟨a_,cC,bK,cy,bO,e⟩=>?_
 . by_cases bO:t.k=2
   . have g3:(t.k=2)=True:=arD bO;simp +contextual only [a_,cC,bK,cy,lX.g,g3,er,↓aj,aC,simprocAttr]
   . have g3:(t.k=2)=False:=arx bO;rw [asp bO,ar9] at av;simp +contextual only [a_,cC,bK,cy,lX.g,g3,er,hn,↓aj,aC,simprocAttr];exact ⟨e',by rw [av]⟩
 subst e;rw [asm bO,ar8] at av;have Ia:=su.ext bP;obtain ⟨aO,H0,JY,Fe⟩:=Ia.range;obtain ⟨cZ,bN,RK⟩:=H0.range;have yl:Ext aH (aH.new cZ):=(Ext.refl aH).new cZ;rw [Ja];refine Rc rfl (cp ?_);simp +contextual only [a_,bN,er,↓nf,↓aj,aC,simprocAttr];rw [I'];refine Ra (fun r G=>r 0=.map cv/\r 4=.ptr (az h.next) 0/\r 5=.ptr (az aa.next) 0/\r 7=.ptr (az ad.next) 0/\r 74=.ptr (az aH.next) 0/\Ext aH G/\∃h2,od V.str G cv aH.next aO h2/\(∀x ∈ h2,x ∈ aO)/\∀d ∈ cs,(∃x ∈ h2,x.1=d.name)\/jg t c.ty d=true) (fun r G=>GX aO cv aH.next G) ?_ ?_
 . exact ⟨by simp only [a_,↓aj,bD,simprocAttr],by simp only [cC,↓aj,bD,simprocAttr],by simp only [bK,↓aj,bD,simprocAttr],by simp only [cy,↓aj,bD,simprocAttr],by simp only [↓aj,bD,simprocAttr],yl,aO,RK,fun x ak=>ak,fun d aI=>.inl (Fe d aI (rz d aI))⟩
 clear RK a_ cC bK cy yl bN;rintro r G ⟨a_,cC,bK,cy,zH,uw,h2,RK,s8,Ff⟩;unfold PV;have nh:=ep.ext uw;have Ah:=lX.ext uw;have Al:=Nq.ext uw;refine Rb ?_;rw [zH];refine RK.next (fun uK=>?_) fun lQ KE jT qy SK DS aS KR ae8 sh uM=>?_
 . have cY:cs.all (jg t c.ty)=true:=by
    rw [arU];intro d aI;rcases Ff d aI with ⟨x,ak,_⟩ | z
    . rw [uK] at ak;cases ak
    . exact z
   have aeU:cs.all (fun d=>!(decide (d.ty=c.ty)&&(decide (d.tag=t.n)&&decide (d.arg.length≠t.l.length))))=true:=cY;rw [aeU,ar8] at av;refine ov rfl (cp ?_);simp +contextual only [a_,cC,bK,cy,zH,er,vV,↓aj,aC,simprocAttr];refine ov rfl (cp ?_);have xM:=e'.trans uw;by_cases rf:t.n=c.tag
   . have g3:(t.n=c.tag)=True:=arD rf;by_cases rb:p.l.length=1
     . have g4:((p.l.length:Int)=1)=True:=arD (by omega);rw [arz ⟨rf,rb⟩] at av;have il:jg t c.ty c=true:=arU.1 cY c (IX Fc).1;have rM:t.l.length=1:=by
        simp only [jg,as7,ar8,rf,aso,asr,ne_eq,Decidable.not_not] at il;omega
       have i0:0<p.l.length:=by omega
       have qu:0<t.l.length:=by omega
       rw [ajH i0 qu rb] at av;obtain ⟨om,gX,v0,K1,Ic,YM,fK,_⟩:=aL.nJ eT (k:=.i64) i0;obtain ⟨cj,cw,v2,w0,sv,YN,w8⟩:=bZ.k3 np (k:=.i64) qu;have d0:=fK G xM;have d2:=w8 G xM;have j3:=call G 0 0 i0 qu v0 v2 xM Ic sv;simp only [dq,e_] at j3;have s':fX 5 fu (.int .i64 0)=some (.ptr om (gX+0 * 5)):=K1;have ta:fX 3 gx (.int .i64 0)=some (.ptr cj (cw+0 * 3)):=w0;generalize gX+0 * 5=z0 at s' d0;generalize cw+0 * 3=z2 at ta d2;simp +contextual only [a_,cC,bK,cy,nh.g,Ah.g,Al.g,je,g3,g4,s',ta,d0,d2,er,hn,↓aj,aC,simprocAttr];refine cb j3 ?_;rintro x oY ⟨rfl,e⟩;subst e;simp +contextual only [a_,cC,bK,cy,nh.g,Ah.g,Al.g,je,g3,g4,s',ta,d0,d2,er,hn,↓aj,aC,simprocAttr];exact ⟨xM,by rw [av]⟩
     . have g4:((p.l.length:Int)=1)=False:=arx (by omega);rw [arw (fun z=>rb z.2)] at av;simp +contextual only [a_,cC,bK,cy,nh.g,Ah.g,Al.g,je,g3,g4,er,hn,↓aj,aC,simprocAttr];refine ov rfl (cp ?_);simp +contextual only [er,hn,↓aj,aC,simprocAttr];exact ⟨xM,by rw [av]⟩
   . have g3:(t.n=c.tag)=False:=arx rf;rw [arw (fun z=>rf z.1)] at av;simp +contextual only [a_,cC,bK,cy,nh.g,Ah.g,Al.g,je,g3,er,hn,↓aj,aC,simprocAttr];refine ov rfl (cp ?_);simp +contextual only [er,hn,↓aj,aC,simprocAttr];exact ⟨xM,by rw [av]⟩
 . obtain ⟨d,SF,Xj,SH,Fj,pG⟩:=JY lQ (s8 lQ KE);have aI:=IX SF;have aqI:∀b n,n<aH.next->b=az n->¬b=az aH.next:=fun b n aV e z=>by rw [e,m_] at z;omega
   have Nl:=nh.mod sh fun z=>by rw [m_] at z;omega
   have XJ:=Ah.mod sh fun z=>by rw [m_] at z;omega
   have XM:=Al.mod sh fun z=>by rw [m_] at z;omega
   have Bf:Ext aH jT:=uw.oL sh fun b z=>by rw [z,c7];exact arv _
   obtain ⟨amm,gi⟩:=lQ;simp only at SH;subst SH;simp only [kM] at SK;obtain ⟨q1,cK,dD,n0⟩:=fy jT mo (kM d Xj);simp only [kM] at cK n0;have api:=Nl.ext dD;have Di:=XJ.ext dD;have Dk:=XM.ext dD;have DT:=DS.ext dD;have Ex:=Bf.trans dD;have Fl:sM (.ptr (az aH.next) 0) jT=.val (.tuple [.str amm,.agg [.str d.name,.str d.ty,.int .i64 d.tag,.int .i64 d.par,Xj]]) jT:=SK;refine ov rfl (cp ?_);have ct:jg t c.ty d=true->∀jA ∈ cs,(∃x ∈ qy,x.1=jA.name)\/jg t c.ty jA=true:=fun bB jA Fg=>by
    rcases Ff jA Fg with ⟨x,ak,wY⟩ | z
    . rcases ae8 x ak with rfl | gT
      . refine .inr ?_;have aJ:=rz jA Fg;rw [<-wY,SF,arq] at aJ;rw [<-aJ];exact bB
      . exact .inl ⟨x,gT,wY⟩
    . exact .inr z
   have Cc:=GW DT;have Cb:=GW RK;have fin:jg t c.ty d=false->iY cs p t=false:=fun bB=>by
    rw [av];have:cs.all (fun d=>!(decide (d.ty=c.ty)&&(decide (d.tag=t.n)&&decide (d.arg.length≠t.l.length))))=false:=by rw [att];exact ⟨d,aI.1,by show ¬jg t c.ty d=true;rw [bB];simp⟩
    rw [this,ar9]
   by_cases bu:d.ty=c.ty
   . have du:(d.ty=c.ty)=True:=arD bu;by_cases eQ:d.tag=t.n
     . have e3:(d.tag=t.n)=True:=arD eQ;by_cases ng:d.arg.length=t.l.length
       . have y3:((d.arg.length:Int)=(t.l.length:Int))=True:=arD (by omega);have bB:jg t c.ty d=true:=by simp [jg,ng]
         simp +contextual only [a_,cC,bK,cy,zH,Fl,pG.1,pG.2.1,pG.2.2,cK,n0.g,Di.g,Dk.g,du,e3,y3,Fj,oH,er,vV,↓nf,↓aj,aC,simprocAttr];exact ⟨⟨Ex,qy,DT,fun x ak=>s8 x (KR x ak),ct bB⟩,by rw [Cc,Cb];exact aS⟩
       . have y3:((d.arg.length:Int)=(t.l.length:Int))=False:=arx (by omega);have bB:jg t c.ty d=false:=by simp [jg,bu,eQ,ng]
         simp +contextual only [a_,cC,bK,cy,zH,Fl,pG.1,pG.2.1,pG.2.2,cK,n0.g,Di.g,Dk.g,du,e3,y3,Fj,oH,er,hn,vV,↓nf,↓aj,aC,simprocAttr];exact ⟨e'.trans Ex,by rw [fin bB]⟩
     . have e3:(d.tag=t.n)=False:=arx eQ;have bB:jg t c.ty d=true:=by simp [jg,eQ]
       simp +contextual only [a_,cC,bK,cy,zH,Fl,pG.1,pG.2.1,pG.2.2,cK,n0.g,Di.g,Dk.g,du,e3,Fj,oH,er,vV,↓nf,↓aj,aC,simprocAttr];exact ⟨⟨Ex,qy,DT,fun x ak=>s8 x (KR x ak),ct bB⟩,by rw [Cc,Cb];exact aS⟩
   . have du:(d.ty=c.ty)=False:=arx bu;have bB:jg t c.ty d=true:=by simp [jg,bu]
     simp +contextual only [a_,cC,bK,cy,zH,Fl,pG.1,pG.2.1,pG.2.2,cK,n0.g,Di.g,Dk.g,du,Fj,oH,er,vV,↓nf,↓aj,aC,simprocAttr];exact ⟨⟨Ex,qy,DT,fun x ak=>s8 x (KR x ak),ct bB⟩,by rw [Cc,Cb];exact aS⟩
theorem WS {cs:List bz} (rz:∀c ∈ cs,eh c.name cs=some c):∀n,H_ cs n
 | 0=>fun p hM=>by have:=nT p;omega
 | n+1=>an6 rz (WS rz n)
theorem Ek {len i:Nat} {c:cW} (k:c.kind=1) (h:c.yes<=i\/c.no<=i\/(len:Int)<=c.yes\/(len:Int)<=c.no):ns len i c=false:=by unfold ns;rw [arz k];rcases h with h | h | h | h<;>simp [h]
theorem Qs {len i:Nat} {c:cW} (k:c.kind=1) (aa:¬c.yes<=i) (ad:¬c.no<=i) (aH:¬(len:Int)<=c.yes) (bw:¬(len:Int)<=c.no):ns len i c=true:=by unfold ns;rw [arz k];simp [aa,ad,aH,bw]
theorem El {len i:Nat} {c:cW} (k:c.kind=2\/c.kind=3):ns len i c=true:=by unfold ns;rw [arw (by omega)];rcases k with k | k<;>simp [k]
theorem abz {len i:Nat} {c:cW} (b3:¬c.kind=1) (b5:¬c.kind=2) (dW:¬c.kind=3):ns len i c=false:=by unfold ns;rw [arw b3];simp [b5,dW]
theorem aoe (d:List cW) (v:V) (h:ae) (H:bY Any h 7 (d.map cW.enc) v):cR Tryz.prog 56 [v] h fun x ab=>x=.bool (ot d)/\Ext h ab:=by
 have ax:=H.len;have hle:=H.le;rw [arC] at ax hle;refine aaN.z rfl (cp ?_);unfold PN;simp +contextual only [ax,↓aj,aC,simprocAttr];refine fR (fun r g=>r 0=v/\r 5=v/\r 6=.int .i64 d.length/\∃i:Nat,r 7=.int .i64 i/\i<=d.length/\Ext h g/\oo d.length i (d.drop i)=oo d.length 0 d) (fun r g=>d.length - (r 7).toN) ?_ ?_
 . exact ⟨by simp only [↓aj,bD,simprocAttr],by simp only [↓aj,bD,simprocAttr],by simp only [↓aj,bD,simprocAttr],0,by simp only [↓aj,bD,simprocAttr]<;>rfl,by omega,Ext.refl h,by rw [asf]⟩
 rintro r g ⟨a_,bK,ed,i,rc,aw,E,cY⟩;unfold PO;have jU:=H.ext E;by_cases aS:i<d.length
 . have g0:((i:Int) < (d.length:Int))=True:=arD (by omega);obtain ⟨b,off,iZ,cd,sl,ld⟩:=cW.at jU (k:=.i64) aS;have fK:=ld g (Ext.refl g);have gw:=sl.one;have dM:=hj aS (by unfold top at hle;omega);obtain ⟨g1,du,bu,B⟩:=fy g [.int .i64 0,.int .i64 0,.bj,.bool false,.int .i64 0,.int .i64 0,.int .i64 0] [.int .i64 d[i].kind,.int .i64 d[i].row,iZ,.bool d[i].num,.int .i64 d[i].n,.int .i64 d[i].yes,.int .i64 d[i].no];have X:=E.trans bu;rw [ar3 aS,oo] at cY;have bad:ns d.length i d[i]=false->ot d=false:=fun q=>by
    rw [q,ar9] at cY;rw [ot,<-cY,ar9]
   have eU:ns d.length i d[i]=true->oo d.length (i+1) (d.drop (i+1))=oo d.length 0 d:=fun q=>by rw [q,ar8] at cY;exact cY
   by_cases b3:d[i].kind=1
   . have bN:=arD b3;by_cases bE:d[i].yes<=i
     . have ah:=bad (Ek b3 (.inl bE));rw [ah];simp +contextual only [a_,bK,ed,rc,g0,cd,fK,du,B.g,ax,gw.1,gw.2.1,dM,bN,arD bE,↓aj,aC,simprocAttr];exact X
     by_cases a2:d[i].no<=i
     . have ah:=bad (Ek b3 (.inr (.inl a2)));rw [ah];simp +contextual only [a_,bK,ed,rc,g0,cd,fK,du,B.g,ax,gw.1,gw.2.1,dM,bN,arx bE,arD a2,↓aj,aC,simprocAttr];exact X
     by_cases a3:(d.length:Int)<=d[i].yes
     . have ah:=bad (Ek b3 (.inr (.inr (.inl a3))));rw [ah];simp +contextual only [a_,bK,ed,rc,g0,cd,fK,du,B.g,ax,gw.1,gw.2.1,dM,bN,arx bE,arx a2,arD a3,↓aj,aC,simprocAttr];exact X
     by_cases a4:(d.length:Int)<=d[i].no
     . have ah:=bad (Ek b3 (.inr (.inr (.inr a4))));rw [ah];simp +contextual only [a_,bK,ed,rc,g0,cd,fK,du,B.g,ax,gw.1,gw.2.1,dM,bN,arx bE,arx a2,arx a3,arD a4,↓aj,aC,simprocAttr];exact X
     . have aF:=eU (Qs b3 bE a2 a3 a4);simp +contextual only [a_,bK,ed,rc,g0,cd,fK,du,B.g,ax,gw.1,gw.2.1,dM,bN,arx bE,arx a2,arx a3,arx a4,↓aj,aC,simprocAttr];exact ⟨⟨i+1,rfl,aS,X,aF⟩,by omega⟩
   have bN:=arx b3;by_cases b5:d[i].kind=2
   . have aF:=eU (El (.inl b5));simp +contextual only [a_,bK,ed,rc,g0,cd,fK,du,B.g,ax,gw.1,gw.2.1,dM,bN,arD b5,↓aj,aC,simprocAttr];exact ⟨⟨i+1,rfl,aS,X,aF⟩,by omega⟩
   by_cases dW:d[i].kind=3
   . have aF:=eU (El (.inr dW));simp +contextual only [a_,bK,ed,rc,g0,cd,fK,du,B.g,ax,gw.1,gw.2.1,dM,bN,arx b5,arD dW,↓aj,aC,simprocAttr];exact ⟨⟨i+1,rfl,aS,X,aF⟩,by omega⟩
   . have ah:=bad (abz b3 b5 dW);rw [ah];simp +contextual only [a_,bK,ed,rc,g0,cd,fK,du,B.g,ax,gw.1,gw.2.1,dM,bN,arx b5,arx dW,↓aj,aC,simprocAttr];exact X
 . have g0:((i:Int) < (d.length:Int))=False:=arx (by omega);rw [asy (by omega),oo] at cY;have aI:ot d=decide (0<d.length):=by rw [ot,<-cY,ar8]
   rw [aI];by_cases bk:(0:Int) < (d.length:Int)
   . simp +contextual only [a_,bK,ed,rc,g0,ax,arD bk,↓aj,aC,simprocAttr]
     first | exact E | exact ⟨by simp [show 0<d.length by omega],E⟩
   . simp +contextual only [a_,bK,ed,rc,g0,ax,arx bk,↓aj,aC,simprocAttr]
     first | exact E | exact ⟨by simp [show ¬0<d.length by omega],E⟩
def Hm (p:Int × Int × Int):V:=.tuple [.int .i64 p.1,.int .i64 p.2.1,.int .i64 p.2.2]
theorem Qw {len:Nat}:∀{l:List cW} {k:Nat},oo len k l=true->∀(i:Nat) (h:i<l.length),ns len (k+i) l[i]=true
 | c::l,k,q,0,_=>by simp only [oo,arp] at q;exact q.1
 | c::l,k,q,i+1,h=>by simp only [oo,arp] at q;have:=Qw q.2 i (by simpa using h);rw [show k + (i+1)=k+1+i by omega];exact this
theorem ab8 {d:List cW} (h:ot d=true) (i:Nat) (aw:i<d.length):(d[i].kind=1/\(i:Int)<d[i].yes/\d[i].yes<d.length/\(i:Int)<d[i].no/\d[i].no<d.length)\/d[i].kind=2\/d[i].kind=3:=by
 unfold ot at h;simp only [arp] at h;have:=Qw h.1 i aw;rw [arV] at this;unfold ns at this
 split at this
 . rename_i k;left;simp only [aso,as9,asr] at this;omega
 . right;simpa using this
theorem ab9 {d:List cW} (h:ot d=true):0<d.length:=by unfold ot at h;simp only [arp,arF] at h;exact h.2
theorem MZ (d:List cW) (t:bZ) (v:V) (af:List V) (h:ae) (de:bY Any h 7 (d.map cW.enc) v) (H:bM Any h t.enc af):cR Tryz.prog 30 [v,.agg af] h fun x ab=>x=Hm (sP d t)/\Ext h ab:=by
 obtain ⟨cm,rfl,L⟩:=bZ.open H;have ol:=L.one;have ax:=de.len;have hle:=de.le;rw [List.length_map] at ax hle;refine aaB.z rfl (cp ?_);unfold Px;obtain ⟨aa,al,aJ,cH⟩:=fq h [.int .i64 t.k,.int .i64 t.n,cm];simp +contextual only [ol.1,ol.2.1,al,↓aj,aC,simprocAttr];refine cb (aoe d v aa (de.ext aJ)) ?_;rintro x ad ⟨rfl,aR⟩;have c1:=cH.ext aR;cases BI:ot d with
 | false=>
   simp +contextual only [↓aj,aC,simprocAttr];exact ⟨by rw [sP,BI,ar9,arw (by simp)];rfl,aJ.trans aR⟩
 | true=>
 simp +contextual only [c1.g,↓aj,aC,simprocAttr];refine cb (M0 t.size t (arv _) _ ad (H.ext (aJ.trans aR))) ?_;rintro x aH ⟨rfl,bP⟩;have ep:=c1.ext bP;have e':=(aJ.trans aR).trans bP;cases s0:rT t with
 | false=>
   simp +contextual only [↓aj,aC,simprocAttr];exact ⟨by rw [sP,BI,s0,ar8,arw (by simp)];rfl,e'⟩
 | true=>
 have wC:sP d t=pj d t d.length 0 0:=by rw [sP,BI,s0,ar8,arz rfl]
 rw [wC];have s5:=ab9 BI;obtain ⟨b,off,iZ,cd,sl,ld⟩:=cW.at (de.ext e') (k:=.i64) s5;simp only [atu,asB] at cd ld;have fK:=ld aH (Ext.refl aH);obtain ⟨bw,bG,b4,ll⟩:=fy aH [.int .i64 0,.int .i64 0,.bj,.bool false,.int .i64 0,.int .i64 0,.int .i64 0] [.int .i64 d[0].kind,.int .i64 d[0].row,iZ,.bool d[0].num,.int .i64 d[0].n,.int .i64 d[0].yes,.int .i64 d[0].no];rw [show ((0:Nat):Int)=0 from rfl] at cd;have fL:=ld _ ((Ext.refl aH).new (.bU [.int .i64 0,.int .i64 0,.bj,.bool false,.int .i64 0,.int .i64 0,.int .i64 0] 0 false));rw [ig] at fL;have n3:=ep.lt;have gw:=sl.one;simp +contextual only [cd,fK,fL,bG,gw.1,gw.2.1,↓aj,aC,simprocAttr];have cG:∀b,Old h b->b≠az aH.next:=fun b q e=>by
  unfold Old at q;rw [e,c7] at q;have:=e'.next
  omega
 refine fR (fun r g=>r 0=v/\r 3=.ptr (az h.next) 0/\r 8=.ptr (az aH.next) 0/\∃(i asked Bq:Nat) (iZ:V),r 7=.int .i64 asked/\asked<=i/\∃aw:i<d.length,d.length<=Bq+i/\pj d t Bq i asked=pj d t d.length 0 0/\
  Has g h.next [.int .i64 t.k,.int .i64 t.n,cm]/\Has g aH.next [.int .i64 d[i].kind,.int .i64 d[i].row,iZ,.bool d[i].num,.int .i64 d[i].n,.int .i64 d[i].yes,.int .i64 d[i].no]/\bY (Old h) g 1 (d[i].path.map gB) iZ/\bY (Old h) g 7 (d.map cW.enc) v/\bM (Old h) g t.enc [.int .i64 t.k,.int .i64 t.n,cm]/\Ext h g) (fun r g=>d.length - (r 7).toN) ?_ ?_
 . refine ⟨by simp only [↓aj,bD,simprocAttr],by simp only [↓aj,bD,simprocAttr],by simp only [↓aj,bD,simprocAttr],0,0,d.length,iZ,by simp only [↓aj,bD,simprocAttr]<;>rfl,by omega,s5,by omega,rfl,ep.ext b4,ll,?_,(de.qC.ext e').ext b4,(H.qC.ext e').ext b4,e'.trans b4⟩;obtain ⟨bR,k7,aq',j1,Yp,w7⟩:=cW.at (de.qC.ext e') (k:=.i64) s5;simp only [atu,asB] at j1 w7;rw [show ((0:Nat):Int)=0 from rfl,cd] at j1;simp only [arq,V.ptr.injEq] at j1;have q:=w7 aH (Ext.refl aH);rw [<-j1.1,<-j1.2,fK] at q;simp only [arq,V.agg.injEq,asY,atC,atn] at q;rw [q];exact Yp.ext b4
 rintro r g ⟨a_,cz,b',i,asked,Bq,iZ,cy,ap4,aw,SO,ct,A,B,sl,jU,x6,E⟩;unfold Py;obtain ⟨kj,rfl⟩:∃kj,Bq=kj+1:=⟨Bq-1,by omega⟩;rw [pj,ars aw] at ct;simp only at ct;rcases ab8 BI i aw with ⟨b3,du,e3,y3,y4⟩ | b5 | dW
 rotate_left
 . rw [arz b5] at ct;by_cases aD:d[i].row<0
   . rw [arz aD] at ct;simp +contextual only [a_,cz,b',cy,B.g,b5,arD b5,arD aD,arx (show ¬d[i].kind=1 by omega),arx (show ¬d[i].kind=3 by omega),↓aj,aC,simprocAttr];exact ⟨by rw [<-ct];rfl,E⟩
   . rw [arw aD] at ct;simp +contextual only [a_,cz,b',cy,B.g,b5,arD b5,arx aD,arx (show ¬d[i].kind=1 by omega),arx (show ¬d[i].kind=3 by omega),↓aj,aC,simprocAttr];exact ⟨by rw [<-ct];rfl,E⟩
 . rw [arw (by omega),arz dW] at ct;simp +contextual only [a_,cz,b',cy,B.g,dW,arx (show ¬d[i].kind=2 by omega),arx (show ¬d[i].kind=1 by omega),arD dW,↓aj,aC,simprocAttr];exact ⟨by rw [<-ct];rfl,E⟩
 rw [arw (by omega),arw (by omega)] at ct;have bN:=arD b3;have z2:=arx (show ¬d[i].kind=2 by omega);have z3:=arx (show ¬d[i].kind=3 by omega);have dM:=hj (show asked<d.length by omega) (by unfold top at hle;omega);have aqt:=jU.len;cases FB:d[i].num with
 | true=>
   simp +contextual only [a_,cz,b',cy,B.g,A.g,bN,z2,z3,FB,↓aj,aC,simprocAttr];refine cb (W2 t d[i].path _ iZ g (x6.gy fun _ _=>trivial) (sl.gy fun _ _=>trivial)) ?_;rintro x g1 ⟨us,rfl,U,bu⟩;obtain ⟨ul,rfl,Ib⟩:=bZ.open U;have lT:=Ib.one;obtain ⟨g2,bA,eQ,mr⟩:=fy g1 [.int .i64 0,.int .i64 0,.bj] [.int .i64 ((ic t d[i].path).getD Ac).k,.int .i64 ((ic t d[i].path).getD Ac).n,ul];have X:=bu.trans eQ;have dv:=B.ext X;have r':=A.ext X;rw [FB] at ct dv;cases fa:ic t d[i].path with
   | none=>
     rw [fa] at ct bA mr;simp +contextual only [a_,cz,b',cy,bA,dv.g,mr.g,lT.1,lT.2.1,Option.isSome_none,↓aj,aC,simprocAttr];exact ⟨by rw [<-ct];rfl,E.trans X⟩
   | some u=>
     rw [fa] at ct bA mr;simp only [ar0] at ct bA mr;by_cases aB:u.k=1
     rotate_left
     . rw [arw (by simpa using aB)] at ct;simp +contextual only [a_,cz,b',cy,bA,dv.g,mr.g,lT.1,lT.2.1,asQ,ar0,arx aB,↓aj,aC,simprocAttr];exact ⟨by rw [<-ct];rfl,E.trans X⟩
     rw [arz (by simpa using aB)] at ct;have oB:¬Old h (az aH.next):=fun q=>cG _ q rfl;have akV:g1.next≠aH.next:=by have:=(B.ext bu).lt;omega
     by_cases aV:u.n=d[i].n
     . rw [arz aV] at ct;obtain ⟨j,bp⟩:=asJ (show 0<=d[i].yes by omega);rw [bp] at ct du e3;simp only [ary] at ct;have fC:j<d.length:=by omega
       obtain ⟨eI,LU,xH,tb,pS,mV⟩:=cW.at (jU.ext X) (k:=.i64) fC;have tj:=mV g2 (Ext.refl g2);have qI:=pS.one;simp +contextual only [a_,cz,b',cy,bA,dv.g,mr.g,r'.g,lT.1,lT.2.1,asQ,ar0,arD aB,arD aV,bp,tb,tj,dM,qI.1,qI.2.1,↓aj,aC,simprocAttr];exact ⟨⟨j,asked+1,kj,xH,rfl,by omega,fC,by omega,ct,r'.set (by omega) _,dv.put _,pS.set oB _,(jU.ext X).set oB _,(x6.ext X).set oB _,(E.trans X).set (by omega) _⟩,by omega⟩
     . rw [arw aV] at ct;obtain ⟨j,bp⟩:=asJ (show 0<=d[i].no by omega);rw [bp] at ct y3 y4;simp only [ary] at ct;have fC:j<d.length:=by omega
       obtain ⟨eI,LU,xH,tb,pS,mV⟩:=cW.at (jU.ext X) (k:=.i64) fC;have tj:=mV g2 (Ext.refl g2);have qI:=pS.one;simp +contextual only [a_,cz,b',cy,bA,dv.g,mr.g,r'.g,lT.1,lT.2.1,asQ,ar0,arD aB,arx aV,bp,tb,tj,dM,qI.1,qI.2.1,↓aj,aC,simprocAttr];exact ⟨⟨j,asked+1,kj,xH,rfl,by omega,fC,by omega,ct,r'.set (by omega) _,dv.put _,pS.set oB _,(jU.ext X).set oB _,(x6.ext X).set oB _,(E.trans X).set (by omega) _⟩,by omega⟩
 | false=>
   simp +contextual only [a_,cz,b',cy,B.g,A.g,bN,z2,z3,FB,↓aj,aC,simprocAttr];refine cb (W2 t d[i].path _ iZ g (x6.gy fun _ _=>trivial) (sl.gy fun _ _=>trivial)) ?_;rintro x g1 ⟨us,rfl,U,bu⟩;obtain ⟨ul,rfl,Ib⟩:=bZ.open U;have lT:=Ib.one;obtain ⟨g2,bA,eQ,mr⟩:=fy g1 [.int .i64 0,.int .i64 0,.bj] [.int .i64 ((ic t d[i].path).getD Ac).k,.int .i64 ((ic t d[i].path).getD Ac).n,ul];have X:=bu.trans eQ;have dv:=B.ext X;have r':=A.ext X;rw [FB] at ct dv;cases fa:ic t d[i].path with
   | none=>
     rw [fa] at ct bA mr;simp +contextual only [a_,cz,b',cy,bA,dv.g,mr.g,lT.1,lT.2.1,Option.isSome_none,↓aj,aC,simprocAttr];exact ⟨by rw [<-ct];rfl,E.trans X⟩
   | some u=>
     rw [fa] at ct bA mr;simp only [ar0] at ct bA mr;by_cases aB:u.k=2
     rotate_left
     . rw [arw (by simpa using aB)] at ct;simp +contextual only [a_,cz,b',cy,bA,dv.g,mr.g,lT.1,lT.2.1,asQ,ar0,arx aB,↓aj,aC,simprocAttr];exact ⟨by rw [<-ct];rfl,E.trans X⟩
     rw [arz (by simpa using aB)] at ct;have oB:¬Old h (az aH.next):=fun q=>cG _ q rfl;have akV:g1.next≠aH.next:=by have:=(B.ext bu).lt;omega
     by_cases aV:u.n=d[i].n
     . rw [arz aV] at ct;obtain ⟨j,bp⟩:=asJ (show 0<=d[i].yes by omega);rw [bp] at ct du e3;simp only [ary] at ct;have fC:j<d.length:=by omega
       obtain ⟨eI,LU,xH,tb,pS,mV⟩:=cW.at (jU.ext X) (k:=.i64) fC;have tj:=mV g2 (Ext.refl g2);have qI:=pS.one;simp +contextual only [a_,cz,b',cy,bA,dv.g,mr.g,r'.g,lT.1,lT.2.1,asQ,ar0,arD aB,arD aV,bp,tb,tj,dM,qI.1,qI.2.1,↓aj,aC,simprocAttr];exact ⟨⟨j,asked+1,kj,xH,rfl,by omega,fC,by omega,ct,r'.set (by omega) _,dv.put _,pS.set oB _,(jU.ext X).set oB _,(x6.ext X).set oB _,(E.trans X).set (by omega) _⟩,by omega⟩
     . rw [arw aV] at ct;obtain ⟨j,bp⟩:=asJ (show 0<=d[i].no by omega);rw [bp] at ct y3 y4;simp only [ary] at ct;have fC:j<d.length:=by omega
       obtain ⟨eI,LU,xH,tb,pS,mV⟩:=cW.at (jU.ext X) (k:=.i64) fC;have tj:=mV g2 (Ext.refl g2);have qI:=pS.one;simp +contextual only [a_,cz,b',cy,bA,dv.g,mr.g,r'.g,lT.1,lT.2.1,asQ,ar0,arD aB,arx aV,bp,tb,tj,dM,qI.1,qI.2.1,↓aj,aC,simprocAttr];exact ⟨⟨j,asked+1,kj,xH,rfl,by omega,fC,by omega,ct,r'.set (by omega) _,dv.put _,pS.set oB _,(jU.ext X).set oB _,(x6.ext X).set oB _,(E.trans X).set (by omega) _⟩,by omega⟩
theorem QD (s:List UInt8) (c:bz) (post:List bz):∀pre:List bz,eh s pre=none->c.name=s->eh s (pre++c::post)=some c
 | [],_,h=>by simp only [asb,eh];rw [arz h]
 | d::pre,h,aq=>by
   simp only [eh] at h
   split at h
   . cases h
   . rename_i aV;simp only [arR,eh];rw [arw aV];exact QD s c post pre h aq
theorem aj4 {cs:List bz} (h:j6 [] cs=true):∀c ∈ cs,eh c.name cs=some c:=fun c aq=>by
 obtain ⟨i,aw,rfl⟩:=atx aq;have aa:=Ll cs [] h i aw;rw [asb] at aa;have ad:=QD cs[i].name cs[i] (cs.drop (i+1)) (cs.take i) aa rfl;have aH:cs=cs.take i++cs[i]::cs.drop (i+1):=by rw [<-ar3 aw,asI]
 rw [<-aH] at ad;exact ad
def iy (cs:List bz) (l:List aL) (t:bZ):Bool × Int:=if gC cs l=0 then (if rT t=true then (l.all (fun p=>iY cs p t),0) else (false,2)) else (false,gC cs l)
def oy (cs:List bz) (t:bZ):Nat->List aL->Int
 | _,[]=>-1
 | i,p::l=>if nx cs p t=true then (i:Int) else oy cs t (i+1) l
def nw (cs:List bz) (l:List aL) (t:bZ):Int × Int:=if (iy cs l t).2=0 then (if (iy cs l t).1=true then (oy cs t 0 l,0) else (0,2)) else (0,(iy cs l t).2)
theorem Zg {α:Type} {f:α->Bool} {l:List α} {i:Nat} (aw:i<l.length):(l.take (i+1)).all f=((l.take i).all f&&f l[i]):=by rw [asg aw,List.all_append];simp
theorem N7 (cs:List bz) (l:List aL) (aU:b8 l<=100000000) (t:bZ) (dC v gx:V) (h:ae) (iD:bY Any h 5 (cs.map bz.enc) dC) (L:bY Any h 5 (l.map aL.enc) v) (Y:bM Any h t.enc (e_ t gx)):
 cR Tryz.prog 31 [dC,v,.agg (e_ t gx)] h fun x ab=>x=.tuple [.bool (iy cs l t).1,.int .i64 (iy cs l t).2]/\Ext h ab:=by
 obtain ⟨jQ,cF,np⟩:=bZ.open Y;obtain rfl:gx=jQ:=by simp only [e_,List.cons.injEq] at cF;exact cF.2.2.1
 have fS:=np.one;have ax:=L.len;rw [arC] at ax;have dh:=nc l;obtain ⟨aa,al,aJ,lW⟩:=fq h (e_ t gx);refine aaC.z rfl (cp ?_);unfold Pz;simp only [e_] at al lW;simp only [e_];simp +contextual only [al,fS.1,fS.2.1,fS.2.2,lW.g,↓aj,aC,simprocAttr];refine cb (CT cs l (by omega) dC v aa (iD.ext aJ) (L.ext aJ)) ?_;rintro x ad ⟨rfl,aR⟩;have dv:=lW.ext aR;have bC:=aJ.trans aR;rcases Bl cs l with z | z
 rotate_left
 . have a8:iy cs l t=(false,2):=by unfold iy;rw [arw (by rw [z];decide),z]
   rw [z,a8];simp +contextual only [↓aj,aC,simprocAttr];exact bC
 rw [z];simp +contextual only [dv.g,fS.1,fS.2.1,fS.2.2,↓aj,aC,simprocAttr];have cf:=M0 t.size t (arv _) _ ad (Y.ext bC);simp only [e_] at cf;refine cb cf ?_;rintro x aH ⟨rfl,bP⟩;have lX:=dv.ext bP;have e':=bC.trans bP;cases hm:rT t with
 | false=>
   have a8:iy cs l t=(false,2):=by unfold iy;rw [arz z,arw (by rw [hm];simp)]
   rw [a8];simp +contextual only [↓aj,aC,simprocAttr];exact e'
 | true=>
 have a8:iy cs l t=(l.all (fun p=>iY cs p t),0):=by unfold iy;rw [arz z,arz hm]
 rw [a8];have rz:=aj4 (yp z);have BG:=Ji z (by omega);have wQ:=(wg z).1;simp +contextual only [↓aj,aC,simprocAttr];refine cb (Hi cs (yp z) dC aH (iD.ext e')) ?_;rintro x bw ⟨rfl,T,b4⟩;have ll:=lX.ext b4;have lZ:=e'.trans b4;simp +contextual only [ax,↓aj,aC,simprocAttr];refine fR (fun r g=>r 5=.ptr (az h.next) 0/\r 9=.map (az aH.next)/\r 23=v/\r 24=.int .i64 l.length/\Ext bw g/\∃i:Nat,r 25=.int .i64 i/\i<=l.length/\(l.take i).all (fun p=>iY cs p t)=true) (fun r g=>l.length - (r 25).toN) ?_ ?_
 . exact ⟨by simp only [↓aj,bD,simprocAttr],by simp only [↓aj,bD,simprocAttr],by simp only [↓aj,bD,simprocAttr],by simp only [↓aj,bD,simprocAttr],Ext.refl bw,0,by simp only [↓aj,bD,simprocAttr]<;>rfl,by omega,by simp⟩
 rintro r g ⟨bK,dS,tw,tx,ei,i,GI,aw,cY⟩;unfold PA;have ln:=lZ.trans ei;have Ai:=ll.ext ei;by_cases aS:i<l.length
 . have g0:((i:Int) < (l.length:Int))=True:=arD (by omega);obtain ⟨b,off,js,cd,oi,oj,ld,_,_,_⟩:=aL.nJ L (k:=.i64) aS;have d5:=ld g ln;have ok:=oj.one;have dM:=hj aS (by omega);have dc:l[i] ∈ l:=arY aS;have uT:=nb dc;obtain ⟨g1,aK,ow,ep⟩:=fy g z5 (dq l[i] js);have Hw:=Ai.ext ow;have vG:=ln.trans ow;simp only [dq] at aK ep;simp +contextual only [bK,dS,tw,tx,GI,g0,cd,d5,ok.1,ok.2.1,aK,ep.g,Hw.g,fS.1,fS.2.1,↓aj,aC,simprocAttr];have BF:cR Tryz.prog 59 [.map (az aH.next),.agg (dq l[i] js),.agg (e_ t gx)] g1 fun x ab=>x=.bool (iY cs l[i] t)/\g1=ab:=
    ⟨_,_,WS rz l[i].size l[i] (arv _) ⟨wQ _ dc,by omega⟩ (BG _ dc) t (az aH.next) js gx g1 ((T.ext ei).ext ow) (oi.ext vG) (Y.ext vG),rfl,rfl⟩
   simp only [dq,e_] at BF;refine cb BF ?_;rintro x g2 ⟨rfl,e⟩;subst e;have fa:=Zg (f:=fun p=>iY cs p t) aS;rw [cY,ar8] at fa;cases mP:iY cs l[i] t with
   | true=>
     rw [mP] at fa;simp +contextual only [bK,dS,tw,tx,GI,dM,↓aj,aC,simprocAttr];exact ⟨⟨ei.trans ow,i+1,rfl,aS,fa⟩,by omega⟩
   | false=>
     have Kw:l.all (fun p=>iY cs p t)=false:=by rw [att];exact ⟨_,dc,by rw [mP];simp⟩
     rw [Kw];simp +contextual only [bK,dS,tw,tx,GI,dM,↓aj,aC,simprocAttr];exact vG
 . have g0:((i:Int) < (l.length:Int))=False:=arx (by omega);rw [asu (by omega)] at cY;rw [cY];simp +contextual only [bK,dS,tw,tx,GI,g0,↓aj,aC,simprocAttr];exact ln
theorem WU {cs:List bz} {l:List aL} {t:bZ} (h:(iy cs l t).2=0) (aa:(iy cs l t).1=true):gC cs l=0/\rT t=true/\∀p ∈ l,iY cs p t=true:=by
 unfold iy at h aa
 split at h
 . rename_i z;rw [arz z] at aa
   split at h
   . rename_i m;rw [arz m] at aa;exact ⟨z,m,arU.1 aa⟩
   . cases h
 . rename_i z;exact absurd h z
theorem an7 (cs:List bz) (l:List aL) (t:bZ):(iy cs l t).2=0\/(iy cs l t).2=2:=by
 unfold iy
 split
 . split
   . exact .inl rfl
   . exact .inr rfl
 . rcases Bl cs l with z | z
   . exact .inl z
   . exact .inr z
theorem HC (cs:List bz) (l:List aL) (aU:b8 l<=100000000) (t:bZ) (dC v gx:V) (h:ae) (iD:bY Any h 5 (cs.map bz.enc) dC) (L:bY Any h 5 (l.map aL.enc) v) (Y:bM Any h t.enc (e_ t gx)):
 cR Tryz.prog 24 [dC,v,.agg (e_ t gx)] h fun x ab=>x=.tuple [.int .i64 (nw cs l t).1,.int .i64 (nw cs l t).2]/\Ext h ab:=by
 obtain ⟨jQ,cF,np⟩:=bZ.open Y;obtain rfl:gx=jQ:=by simp only [e_,List.cons.injEq] at cF;exact cF.2.2.1
 have fS:=np.one;have ax:=L.len;rw [arC] at ax;have dh:=nc l;obtain ⟨aa,al,aJ,lW⟩:=fq h (e_ t gx);refine aav.z rfl (cp ?_);unfold Pm;have gS:=N7 cs l aU t dC v gx aa (iD.ext aJ) (L.ext aJ) (Y.ext aJ);simp only [e_] at al lW gS;simp only [e_];simp +contextual only [al,fS.1,fS.2.1,fS.2.2,lW.g,↓aj,aC,simprocAttr];refine cb gS ?_;rintro x ad ⟨rfl,aR⟩;have dv:=lW.ext aR;have bC:=aJ.trans aR;rcases an7 cs l t with z | z
 rotate_left
 . have a8:nw cs l t=(0,2):=by unfold nw;rw [arw (by rw [z];decide),z]
   rw [z,a8];simp +contextual only [↓aj,aC,simprocAttr];exact bC
 cases ah:(iy cs l t).1 with
 | false=>
   have a8:nw cs l t=(0,2):=by unfold nw;rw [arz z,arw (by rw [ah];simp)]
   rw [z,a8];simp +contextual only [↓aj,aC,simprocAttr];exact bC
 | true=>
 have a8:nw cs l t=(oy cs t 0 l,0):=by unfold nw;rw [arz z,arz ah]
 obtain ⟨z0,_,mP⟩:=WU z ah;rw [z,a8];have BG:=Ji z0 (by omega);have wQ:=(wg z0).1;simp +contextual only [↓aj,aC,simprocAttr];refine cb (Hi cs (yp z0) dC ad (iD.ext bC)) ?_;rintro x bw ⟨rfl,T,b4⟩;have ll:=dv.ext b4;have lZ:=bC.trans b4;simp +contextual only [ax,↓aj,aC,simprocAttr];refine fR (fun r g=>r 5=.ptr (az h.next) 0/\r 10=.map (az ad.next)/\r 29=v/\r 30=.int .i64 l.length/\Ext bw g/\∃i:Nat,r 31=.int .i64 i/\i<=l.length/\oy cs t 0 l=oy cs t i (l.drop i)) (fun r g=>l.length - (r 31).toN) ?_ ?_
 . exact ⟨by simp only [↓aj,bD,simprocAttr],by simp only [↓aj,bD,simprocAttr],by simp only [↓aj,bD,simprocAttr],by simp only [↓aj,bD,simprocAttr],Ext.refl bw,0,by simp only [↓aj,bD,simprocAttr]<;>rfl,by omega,rfl⟩
 rintro r g ⟨bK,dG,jm,ix,ei,i,tz,aw,nA⟩;unfold Pn;have ln:=lZ.trans ei;have Ai:=ll.ext ei;by_cases aS:i<l.length
 . have g0:((i:Int) < (l.length:Int))=True:=arD (by omega);obtain ⟨b,off,js,cd,oi,oj,ld,_,_,_⟩:=aL.nJ L (k:=.i64) aS;have d5:=ld g ln;have ok:=oj.one;have dM:=hj aS (by omega);have dc:l[i] ∈ l:=arY aS;have uT:=nb dc;obtain ⟨g1,aK,ow,ep⟩:=fy g z5 (dq l[i] js);have Hw:=Ai.ext ow;have vG:=ln.trans ow;rw [ar3 aS,oy] at nA;have BF:=RU cs l[i].size l[i] (arv _) ⟨wQ _ dc,by omega⟩ (BG _ dc) t (mP _ dc) (az ad.next) js gx g1 ((T.ext ei).ext ow) (oi.ext vG) (Y.ext vG);simp only [dq,e_] at aK ep BF;simp +contextual only [bK,dG,jm,ix,tz,g0,cd,d5,ok.1,ok.2.1,aK,ep.g,Hw.g,fS.1,fS.2.1,↓aj,aC,simprocAttr];refine cb BF ?_;rintro x g2 ⟨rfl,dD⟩;cases qd:nx cs l[i] t with
   | true=>
     rw [qd,arz rfl] at nA;rw [nA];simp +contextual only [bK,dG,jm,ix,tz,dM,↓aj,aC,simprocAttr];exact vG.trans dD
   | false=>
     rw [qd,arw (by simp)] at nA;simp +contextual only [bK,dG,jm,ix,tz,dM,↓aj,aC,simprocAttr];exact ⟨⟨(ei.trans ow).trans dD,i+1,rfl,aS,nA⟩,by omega⟩
 . have g0:((i:Int) < (l.length:Int))=False:=arx (by omega);rw [asy (by omega),oy] at nA;rw [nA];simp +contextual only [bK,dG,jm,ix,tz,g0,↓aj,aC,simprocAttr];exact ln
section
variable [Lay]
theorem RV {size:Nat} {y:V} {j:Nat}:∀(us:List (List V)) (i:Nat) (aw:i<us.length),(∀w ∈ us,w.length=size)->j<size->us.flatten.set (i * size+j) y=(us.set i (us[i].set j y)).flatten
 | [],i,aw,_,_=>by simp at aw
 | u::us,0,aw,h,bp=>by have hu:=h u ar1;simp only [asG,atu,arV,List.set_cons_zero,List.getElem_cons_zero];rw [List.set_append_left _ _ (by omega)]
 | u::us,i+1,aw,h,bp=>by have hu:=h u ar1;simp only [asG,List.set_cons_succ,List.getElem_cons_succ];rw [List.set_append_right _ _ (by rw [hu,atB];omega),hu,show (i+1) * size+j-size=i * size+j by rw [atB];omega,RV us i (by simpa using aw) (fun w hw=>h w (arT _ hw)) bp]
theorem bM.C5 {F:aM->Prop} {h:ae} {o y:Int} {post:List D}:∀{pre:List D} {u:List V},bM F h (pre++.i .i64 o::post) u->bM F h (pre++.i .i64 y::post) (u.set pre.length (.int .i64 y))
 | [],u,H=>by obtain ⟨us,rfl,ef⟩:=bM.int H;exact .i ef
 | .i k n::pre,u,H=>by obtain ⟨us,rfl,ef⟩:=bM.int H;exact .i (bM.C5 ef)
 | .b x::pre,u,H=>by obtain ⟨us,rfl,ef⟩:=bM.bool H;exact .b (bM.C5 ef)
 | .s x::pre,u,H=>by obtain ⟨us,rfl,ak,ef⟩:=bM.str H;exact .s ak (bM.C5 ef)
 | .l size es::pre,u,H=>by obtain ⟨w,us,rfl,S,ef⟩:=bM.eW H;exact S.cons (bM.C5 ef)
theorem bM.Cr {F:aM->Prop} {h:ae}:∀{ds:List D} {u:List V},bM F h ds u->u.length=ds.length
 | [],u,H=>by rw [bM.no H];rfl
 | .i k n::ds,u,H=>by obtain ⟨us,rfl,ef⟩:=bM.int H;simp [bM.Cr ef]
 | .b x::ds,u,H=>by obtain ⟨us,rfl,ef⟩:=bM.bool H;simp [bM.Cr ef]
 | .s x::ds,u,H=>by obtain ⟨us,rfl,_,ef⟩:=bM.str H;simp [bM.Cr ef]
 | .l size es::ds,u,H=>by obtain ⟨w,us,rfl,S,ef⟩:=bM.eW H;simp [bM.Cr ef]
theorem eH.amx {B:Nat} {G:aM->Prop} {h:ae} {size:Nat} {es:List (List D)} {v:V} (H:eH B G h size es v) {i:Nat} (aw:i<es.length) {pre post:List D} {o:Int} (he:es[i]=pre++.i .i64 o::post) (y:Int):
 ∃b off k,fX size v (.int .i64 i)=some (.ptr b off)/\nK 1 h b (off+pre.length) (.int .i64 y) (h.get b)=some (h.set b k)/\eH B G (h.set b k) size (es.set i (pre++.i .i64 y::post)) v/\Mod v.aZ h (h.set b k):=by
 obtain ⟨us,a,b,c,d⟩:=H.ex;have sW:i<us.length:=by omega
 have uV:=ars sW;obtain ⟨OK,off,aJ,aR⟩:=a.v.cd (k:=.i64) aw;have mG:=d i es[i] us[i] (ars aw) uV;rw [he] at mG;have cu:us[i].length=size:=c _ (arY sW);have dh:pre.length<size:=by have:=bM.Cr mG;rw [arE,arA] at this;omega
 have fa:=Ov a.v aw aJ;have jd:=yw us c;have aS:i * size+pre.length<us.flatten.length:=by rw [jd,b];have:=asE size (show i+1<=es.length from aw);rw [atB] at this;omega
 obtain ⟨k,f1,_,f2,f3⟩:=a.VS fa aS (y:=.int .i64 y) rfl rfl;have ms:Mod v.aZ h (h.set OK k):=(Mod.refl v.aZ h).set (fun _=>f3) _;rw [RV us i sW c dh] at f2;refine ⟨OK,off+i * size,k,aJ,by rw [asC];exact f1,⟨us.set i (us[i].set pre.length (.int .i64 y)),by rw [atd];exact f2,by rw [atd,atd];exact b,fun u hu=>?_,fun j e u al ao=>?_⟩,ms⟩
 . rcases List.mem_or_eq_of_mem_set hu with hu | hu
   . exact c u hu
   . rw [hu,atd];exact cu
 . by_cases BR:j=i
   . subst BR;rw [List.getElem?_set_self aw] at al;rw [List.getElem?_set_self sW] at ao;cases al;cases ao;exact (bM.C5 mG).mod ms fun b q o=>⟨q.2,q⟩
   . rw [List.getElem?_set_ne (fun z=>BR z.symm)] at al ao;exact (d j e u al ao).mod ms fun b q o=>⟨q.2,q⟩
end
def hg (cr:Nat):Nat->List fH->List cW
 | _,[]=>[]
 | j,t::bn=>⟨1,0,t.1,t.2.1,t.2.2,((j+1:Nat):Int),(cr:Int)⟩::hg cr (j+1) bn
def tD (r:Nat):cW:=⟨2,(r:Int),[],false,0,0,0⟩
def qB:cW:=⟨3,0,[],false,0,0,0⟩
def oS (r bT:Nat) (bn:List fH):List cW:=hg (bT+bn.length+1) bT bn++[tD r]
def lS (cs:List bz):List cW->Nat->List aL->List cW
 | acc,_,[]=>acc
 | acc,r,p::l=>lS cs (acc++oS r acc.length (fm cs p [])) (r+1) l
def ie (cs:List bz) (l:List aL):List cW:=lS cs [] 0 l++[qB]
theorem ti (cr:Nat):∀(j:Nat) (bn:List fH),(hg cr j bn).length=bn.length
 | _,[]=>rfl
 | j,t::bn=>by simp [hg,ti cr (j+1) bn]
theorem T1 (cr:Nat):∀(j:Nat) (a b:List fH),hg cr j (a++b)=hg cr j a++hg cr (j+a.length) b
 | j,[],b=>rfl
 | j,t::a,b=>by simp only [arR,hg,T1 cr (j+1) a b,arA];rw [show j+1+a.length=j + (a.length+1) by omega]
theorem Wi (cs:List bz) (p:aL):∀(l:List aL) (acc:List cW) (r:Nat),lS cs acc r (l++[p])=lS cs acc r l++oS (r+l.length) (lS cs acc r l).length (fm cs p [])
 | [],acc,r=>rfl
 | q::l,acc,r=>by simp only [arR,lS];rw [Wi cs p l _ (r+1),arA,show r+1+l.length=r + (l.length+1) by omega]
theorem r5 (r bT:Nat) (bn:List fH):(oS r bT bn).length=bn.length+1:=by simp [oS,ti]
theorem MC (cs:List bz):∀(l:List aL) (acc:List cW) (r:Nat),(lS cs acc r l).length<=acc.length+2 * b8 l
 | [],acc,r=>by simp [lS,b8]
 | p::l,acc,r=>by have aa:=MC cs l (acc++oS r acc.length (fm cs p [])) (r+1);have ad:=Hk cs p [];have aH:=nT p;simp only [lS,b8];rw [arE,r5] at aa;omega
def Du (B N:Nat) (b:aM):Prop:=B<=b0 b/\b0 b<N
structure kf (B N cJ:Nat) (h:ae) (es:List cW) (v:V):Prop where
 out:Has h cJ [v]
 own:eH B (Du B N) h 7 (es.map cW.enc) v
 j8:cJ<B
 le:B<=h.next
theorem kf.ext {B N cJ:Nat} {h ab:ae} {es:List cW} {v:V} (R:kf B N cJ h es v) (e:Ext h ab):kf B N cJ ab es v:=
 ⟨R.out.ext e,R.own.ext e,R.j8,asq R.le e.next⟩
def sH (c:cW) (u:V):List V:=[.int .i64 c.kind,.int .i64 c.row,u,.bool c.num,.int .i64 c.n,.int .i64 c.yes,.int .i64 c.no]
theorem aby {F:aM->Prop} {h:ae} {c:cW} {u:V} (S:bY F h 1 (c.path.map gB) u):bM F h c.enc (sH c u):=by unfold cW.enc sH;exact .i (.i (S.cons (.b (.i (.i (.i .nil))))))
theorem Lh {B N cJ:Nat} {h:ae} {es:List cW} {v:V} (R:kf B N cJ h es v) (ax:es.length+1<=1000000000) (c:cW) (u:V) (S:bY (fun b=>Du B N b/\¬v.aZ b) h 1 (c.path.map gB) u):
 cR Tryz.prog 55 [.agg (sH c u),.ptr (az cJ) 0] h fun x ab=>x=.int .i64 es.length/\∃cl,kf B N cJ ab (es++[c]) cl/\Mod (o1 cJ v) h ab/\∀b,cl.aZ b->v.aZ b\/h.next<=b0 b:=by
 have xl:=S.one;have c0:∀n,n<B->¬v.aZ (az n):=fun n aV z=>by have:=R.own.base z;rw [c7] at this;omega
 obtain ⟨aa,al,aJ,cH⟩:=fq h (sH c u);have pU:=R.ext aJ;obtain ⟨cl,ad,bE,a2,a3,a4,a5⟩:=pU.own.add (aby (S.ext aJ)) (by omega) pU.le (by rw [arC];unfold top;omega) rfl;have da:=pU.out;have cw:=da.mod a3 (c0 _ R.j8);obtain ⟨G,d'⟩:∃G,ad.set (az cJ) (.bU [cl] 0 false)=G:=⟨_,rfl⟩;have ms:Mod (fun b=>b=az cJ) ad G:=by rw [<-d'];exact (Mod.refl (fun b=>b=az cJ) ad).set (fun _=>rfl) _
 have one:=a2.one;have ml:Has G cJ [cl]:=by rw [<-d'];exact cw.put _
 have dp:=aJ.next
 have x8:eH B (Du B N) G 7 ((es++[c]).map cW.enc) cl:=by rw [atp];exact a2.mod ms (fun b z y=>by have:=a2.base z;rw [y,c7] at this;have:=R.j8;omega) fun b z _ _ y=>by have:=z.1;rw [y,c7] at this;have:=R.j8;omega
 have cm:=x8.len;rw [arC,arE,ato] at cm;have s8:((es.length+1:Nat):Int)-1=(es.length:Int):=by omega
 have wl:IntKind.i64.wrap (es.length:Int)=(es.length:Int):=by
  have:=hj (show es.length-1<es.length+1 by omega) (by omega);by_cases bk:es.length=0
  . rw [bk];rfl
  . rw [show ((es.length-1:Nat):Int)+1=(es.length:Int) by omega] at this;rw [this];omega
 refine aaM.z rfl (cp ?_);unfold PM;simp only [sH] at al cH bE;simp only [sH];simp +contextual only [al,cH.g,xl.1,xl.2.1,xl.2.2,da.g,cw.g,ml.g,bE,one.1,one.2.1,d',cm,s8,wl,↓aj,aC,simprocAttr];refine ⟨cl,⟨ml,x8,R.j8,by have:=R.le;have:=ms.next;omega⟩,mg (mg (aJ.mod _) a3 fun _ _ z=>.inr z) ms fun _ _ z=>.inl z,fun b z=>?_⟩;rcases a5 b z with z | z
 . exact .inl z
 . exact .inr (by omega)
theorem aog [Lay] {h:ae} {n:Nat} {dA:V} {us:List V} {bn:List fH} (H:fp h 3 dA n (List.zipWith o' us bn).flatten) (hu:us.length=n) (aG:bn.length=n) {i:Nat} (aw:i<n) {u:V} {t:fH} (e:us[i]? =some u) (cF:bn[i]? =some t):
 ∃b off,fX 3 dA (.int .i64 i)=some (.ptr b off)/\mW 3 (h.get b) off=some (.agg (o' u t)):=by
 obtain ⟨b,off,aJ,aR⟩:=H.cd (k:=.i64) aw;have bk:(List.zipWith o' us bn)[i]? =some (o' u t):=by rw [List.getElem?_zipWith,e,cF]
 have ax:∀x ∈ List.zipWith o' us bn,x.length=3:=fun x ak=>by obtain ⟨j,bp,q⟩:=atx ak;rw [List.getElem_zipWith] at q;rw [<-q];rfl
 have av:=EP _ i _ ax bk;have hlen:=yw _ ax;have:=aR.fL (i:=i * 3) (n:=3) (by rw [hlen,atw];omega);rw [av] at this;exact ⟨b,_,aJ,this⟩
def oF (bT j:Nat):List Int:=(List.range j).map fun k=>((bT+k:Nat):Int)
theorem af4 (bT j:Nat):oF bT (j+1)=oF bT j++[((bT+j:Nat):Int)]:=by simp [oF,List.range_succ]
theorem af3 (bT j:Nat):(oF bT j).length=j:=by simp [oF]
theorem ajL {cr j:Nat} {bn:List fH} {k:Nat} (aB:k<bn.length):hg cr j (bn.drop k)=⟨1,0,bn[k].1,bn[k].2.1,bn[k].2.2,((j+1:Nat):Int),(cr:Int)⟩::hg cr (j+1) (bn.drop (k+1)):=by rw [ar3 aB,hg]
theorem T3 {cr j:Nat} {bn:List fH} {k:Nat} (aB:k<bn.length):hg cr j (bn.take (k+1))=hg cr j (bn.take k)++[⟨1,0,bn[k].1,bn[k].2.1,bn[k].2.2,((j+k+1:Nat):Int),(cr:Int)⟩]:=by rw [asg aB,T1,ar6,ats (by omega)];rfl
theorem kf.Xf {B N AM cJ:Nat} {h:ae} {es:List cW} {v:V} (R:kf B N cJ h es v) (bF:N<=AM):kf B AM cJ h es v:=
 ⟨R.out,R.own.gy fun b z=>⟨z.1,by have:=z.2;omega⟩,R.j8,R.le⟩
def DO (B cJ:Nat) (b:aM):Prop:=b=az cJ\/B<=b0 b
theorem kf.mod {B N cJ:Nat} {h ab:ae} {es:List cW} {v:V} {M:aM->Prop} (R:kf B N cJ h es v) (m:Mod M h ab) (aa:∀b,M b->N<=b0 b/\¬v.aZ b) (bF:B<=N):kf B N cJ ab es v:=
 ⟨R.out.mod m fun z=>by have:=(aa _ z).1;rw [c7] at this;have:=R.j8;omega,R.own.mod m (fun b z y=>(aa b y).2 z) fun b z _ _ y=>by have:=(aa b y).1;have:=z.2;omega,R.j8,asq R.le m.next⟩
theorem kf.put {B N cJ:Nat} {h:ae} {a:List cW} {c fz:cW} {z:List cW} {v:V} (R:kf B N cJ h (a++c::z) v) {pre post:List D} {o y:Int} (he:c.enc=pre++.i .i64 o::post) (et:fz.enc=pre++.i .i64 y::post):
 ∃b off k,fX 7 v (.int .i64 a.length)=some (.ptr b off)/\nK 1 h b (off+pre.length) (.int .i64 y) (h.get b)=some (h.set b k)/\kf B N cJ (h.set b k) (a++fz::z) v/\Mod v.aZ h (h.set b k):=by
 have aw:a.length < ((a++c::z).map cW.enc).length:=by simp
 have aF:((a++c::z).map cW.enc)[a.length]=pre++.i .i64 o::post:=by rw [<-he];simp
 obtain ⟨b,off,k,f1,f2,f3,f4⟩:=eH.amx R.own aw aF y;have c0:¬v.aZ (az cJ):=fun z=>by have:=R.own.base z;rw [c7] at this;have:=R.j8;omega
 refine ⟨b,off,k,f1,f2,⟨R.out.mod f4 c0,?_,R.j8,asq R.le f4.next⟩,f4⟩;have:((a++c::z).map cW.enc).set a.length (pre++.i .i64 y::post)=(a++fz::z).map cW.enc:=by rw [<-et,atp,atp,ast,ast];rw [List.set_append_right _ _ (by simp)];simp
 rw [this] at f3;exact f3
theorem Qt (j:Nat) (t:fH) (y n:Int):(⟨1,0,t.1,t.2.1,t.2.2,y,n⟩:cW).enc=[.i .i64 1,.i .i64 0,.l 1 (t.1.map gB),.b t.2.1,.i .i64 t.2.2]++.i .i64 y::[.i .i64 n]:=rfl
theorem Qu (t:fH) (y n:Int):(⟨1,0,t.1,t.2.1,t.2.2,y,n⟩:cW).enc=[.i .i64 1,.i .i64 0,.l 1 (t.1.map gB),.b t.2.1,.i .i64 t.2.2,.i .i64 y]++.i .i64 n::[]:=rfl
theorem af2 {B:Nat} {h:ae} {v:V} {bT m:Nat} (H:dY B h 1 v m (gU (oF bT m))) {k:Nat} (aB:k<m):∃b off,fX 1 v (.int .i64 k)=some (.ptr b off)/\gq (h.get b) off=some (.int .i64 ((bT+k:Nat):Int)):=by
 obtain ⟨b,off,aJ,aR⟩:=H.v.cd (k:=.i64) aB;have hlen:(gU (oF bT m)).length=m:=by rw [K7,af3]
 have:=aR.dR (i:=k * 1) (by rw [hlen];omega);refine ⟨b,_,aJ,?_⟩;rw [this];simp [gU,oF]
theorem Hx (cs:List bz) (l:List aL) (aU:b8 l<=100000000) (dC v:V) (h:ae) (iD:bY Any h 5 (cs.map bz.enc) dC) (L:bY Any h 5 (l.map aL.enc) v):
 cR Tryz.prog 29 [dC,v] h fun x ab=>∃d,x=.tuple [d,.int .i64 (gC cs l)]/\bY Any ab 7 ((if gC cs l=0 then ie cs l else []).map cW.enc) d/\Ext h ab:=by
 have ax:=L.len;rw [arC] at ax;have dh:=nc l;refine aaA.z rfl (cp ?_);unfold Ps;simp +contextual only [↓aj,aC,simprocAttr];refine cb (CT cs l (by omega) dC v h iD L) ?_;rintro x aa ⟨rfl,aJ⟩;rcases Bl cs l with z | z
 rotate_left
 . rw [z];simp +contextual only [↓aj,aC,simprocAttr];exact ⟨_,rfl,bY.nil _ _ _,aJ⟩
 rw [z];have wQ:=(wg z).1;simp +contextual only [↓aj,aC,simprocAttr];refine cb (Hi cs (yp z) dC aa (iD.ext aJ)) ?_;rintro x ad ⟨rfl,su,aR⟩;obtain ⟨aH,aK,bP,H3⟩:=fq ad [.bj];have n3:aH.next=ad.next+1:=by rw [<-aK];exact gv _ _
 have fZ:aa.next<ad.next:=by have:=su.bL;unfold Old at this;rw [c7] at this;exact this
 have e':=(aJ.trans aR).trans bP;have Ia:=su.ext bP;simp +contextual only [aK,ax,↓aj,aC,simprocAttr];refine fR (fun r g=>r 7=.map (az aa.next)/\r 8=.ptr (az ad.next) 0/\r 9=.func 55 [.ptr (az ad.next) 0]/\r 28=v/\r 29=.int .i64 l.length/\Mod (DO aH.next ad.next) aH g/\∃(i:Nat) (qV:V),r 30=.int .i64 i/\i<=l.length/\kf aH.next g.next ad.next g (lS cs [] 0 (l.take i)) qV) (fun r g=>l.length - (r 30).toN) ?_ ?_
 . exact ⟨by simp only [↓aj,bD,simprocAttr],by simp only [↓aj,bD,simprocAttr],by simp only [↓aj,bD,simprocAttr],by simp only [↓aj,bD,simprocAttr],by simp only [↓aj,bD,simprocAttr],Mod.refl _ _,0,.bj,by simp only [↓aj,bD,simprocAttr]<;>rfl,by omega,⟨H3,eH.nil _ _ _ _,by omega,arv _⟩⟩
 rintro r g ⟨cy,b',dS,kD,jm,m,i,qV,ix,aw,R⟩;unfold Pw;have alv:∀b,Old h b->¬DO aH.next ad.next b:=fun b o y=>by
  unfold Old at o;have:=e'.next
  have:=aJ.next
  rcases y with y | y
  . rw [y,c7] at o;omega
  . omega
 by_cases aS:i<l.length
 . have g0:((i:Int) < (l.length:Int))=True:=arD (by omega);have dM:=hj aS (by omega);have X':bY (fun b=>Old h b/\Old g b) g 5 (l.map aL.enc) v:=(L.qC.ext e').mod m fun b Ae o=>⟨alv b Ae,Ae,m.bL o⟩;obtain ⟨b,off,js,cd,oi,oj,ld,_,_,_⟩:=aL.nJ X' (k:=.i64) aS;have d5:=ld g (Ext.refl g);have ok:=oj.one;have dc:l[i] ∈ l:=arY aS;have uT:=nb dc;have rB:lz l[i]:=⟨wQ _ dc,by omega⟩;have uR:=MC cs (l.take i) [] 0;simp only [asd,arV] at uR;have rL:lS cs [] 0 (l.take (i+1))=lS cs [] 0 (l.take i)++oS i (lS cs [] 0 (l.take i)).length (fm cs l[i] []):=by
    rw [take_one aS,Wi,ar6,ats (by omega),arV]
   have hM:=VG aS;have ks:=Mh l (i+1);have rM:=Hk cs l[i] [];generalize l[i]=p at oi oj ld cd d5 dc uT rB rL hM rM;obtain ⟨g1,bG,b4,iB⟩:=fy g z5 (dq p js);have CA:¬DO aH.next ad.next (az aa.next):=fun y=>by
    rcases y with y | y
    . rw [m_] at y;omega
    . rw [c7] at y;omega
   have N8:=(Ia.mod m CA).ext b4;have cf:=Ou cs p rB (by omega) (az aa.next) js g1 N8 N8.bL ((oi.ext b4).gy fun b Ae=>b4.bL Ae.2);simp only [dq] at bG iB cf;simp +contextual only [cy,b',dS,kD,jm,ix,g0,cd,d5,ok.1,ok.2.1,bG,iB.g,↓aj,aC,simprocAttr];refine cb cf ?_;rintro dA g2 ⟨AO,dD⟩;have n2:=b4.trans dD;have ue:=(R.ext n2).Xf (AM:=g2.next) n2.next
   obtain ⟨us,a,ul,c,d⟩:=AO.ex;have val:=a.v.len;have Xn:∀b,qV.aZ b->b0 b<g.next:=fun b Ae=>by have:=R.own.rW Ae;unfold Old at this;exact this
   have LK:=n2.next
   have aqF:=b4.next
   have aqG:=dD.next
   generalize fl:fm cs p []=bn at *;generalize lC:lS cs [] 0 (l.take i)=base at *;have gE:=R.j8;have hle:=R.le;have Ye:∀b,(b=az ad.next\/qV.aZ b\/g2.next<=b0 b)->DO aH.next ad.next b:=fun b y=>by
    rcases y with y | y | y
    . exact .inl y
    . exact .inr (R.own.base y)
    . exact .inr (by omega)
   simp +contextual only [val,↓aj,aC,simprocAttr];refine fR (fun r G=>r 7=.map (az aa.next)/\r 8=.ptr (az ad.next) 0/\r 9=.func 55 [.ptr (az ad.next) 0]/\r 28=v/\r 29=.int .i64 l.length/\r 30=.int .i64 i/\r 10=.int .i64 i/\r 37=dA/\r 38=.int .i64 bn.length/\∃(j:Nat) (qU bt:V),r 39=.int .i64 j/\j<=bn.length/\r 12=bt/\kf aH.next g2.next ad.next G (base++hg 0 base.length (bn.take j)) qU/\dY g2.next G 1 bt j (gU (oF base.length j))/\(∀b,bt.aZ b->¬qU.aZ b)/\Mod (fun b=>b=az ad.next\/qV.aZ b\/g2.next<=b0 b) g2 G/\∀b,qU.aZ b->qV.aZ b\/g2.next<=b0 b) (fun r G=>bn.length - (r 39).toN) ?_ ?_
   . refine ⟨by simp only [cy,↓aj,bD,simprocAttr],by simp only [b',↓aj,bD,simprocAttr],by simp only [dS,↓aj,bD,simprocAttr],by simp only [kD,↓aj,bD,simprocAttr],by simp only [jm,↓aj,bD,simprocAttr],by simp only [ix,↓aj,bD,simprocAttr],by simp only [ix,↓aj,bD,simprocAttr],by simp only [↓aj,bD,simprocAttr],by simp only [↓aj,bD,simprocAttr],0,qV,.bj,by simp only [↓aj,bD,simprocAttr]<;>rfl,by omega,by simp only [↓aj,bD,simprocAttr],?_,⟨by simp [oF,gU],rfl⟩,fun b y=>y.elim,Mod.refl _ _,fun b y=>.inl y⟩;simpa [hg] using ue
   clear cy b' dS kD jm ix;rintro r G ⟨cy,b',dS,kD,jm,ix,dG,qK,qL,j,qU,bt,GL,bp,ka,sr,O,Eu,Cy,pR⟩;unfold Pt;have hlen:(base++hg 0 base.length (bn.take j)).length=base.length+j:=by rw [arE,ti,ar6,ats bp]
   have Ga:=Cy.next
   by_cases fC:j<bn.length
   . have sQ:((j:Int) < (bn.length:Int))=True:=arD (by omega);have vB:=hj fC (by omega);have hu:us[j]? =some us[j]:=ars (by omega);have aG:bn[j]? =some bn[j]:=ars fC;have sZ:=T3 (cr:=0) (j:=base.length) fC;generalize us[j]=u at hu;generalize bn[j]=t at aG sZ;obtain ⟨bJ,bO,c3⟩:=c j u t hu aG;have UM:∀b,g1.next<=b0 b->Old g2 b->¬(b=az ad.next\/qV.aZ b\/g2.next<=b0 b):=fun b y o w=>by
      unfold Old at o;rcases w with w | w | w
      . rw [w,c7] at y;omega
      . have:=Xn b w;omega
      . omega
     have bm:=a.mod Cy fun b y=>UM b (a.base y) (a.v.bL y);have A7:=bO.mod Cy fun b y=>UM b (bO.base y) (bO.v.bL y);obtain ⟨apz,kB,j1,zc⟩:=aog bm.v ul rfl fC hu aG;have xl:=bO.v.one;obtain ⟨jT,ev,gA,Nu⟩:=fy G [.bj,.bool false,.int .i64 0] (o' u t);have aqD:=gA.next
     have S:bY (fun b=>Du aH.next g2.next b/\¬qU.aZ b) jT 1 (t.1.map gB) u:=Wy (A7.ext gA) (by unfold top;omega) fun b y=>by
      have du:=bO.base y;have e3:=bO.v.bL y;unfold Old at e3;refine ⟨⟨by omega,e3⟩,fun w=>?_⟩;rcases pR b w with w | w
      . have:=Xn b w;omega
      . omega
     have fQ:=Lh (sr.ext gA) (by omega) ⟨1,0,t.1,t.2.1,t.2.2,0,0⟩ u S;simp only [sH] at fQ;simp only [o'] at zc ev Nu;rw [hlen] at fQ;simp +contextual only [cy,b',dS,kD,jm,ix,dG,qK,qL,GL,ka,sQ,j1,zc,ev,Nu.g,xl.1,xl.2.1,xl.2.2,↓aj,aC,simprocAttr];refine cb fQ ?_;rintro x q1 ⟨rfl,v2,DR,n',x1⟩;have xi:=DR.out;obtain ⟨jv,vc,kv,f1,f2,nk,uc⟩:=kf.put (a:=base++hg 0 base.length (bn.take j)) (c:=⟨1,0,t.1,t.2.1,t.2.2,0,0⟩) (fz:=⟨1,0,t.1,t.2.1,t.2.2,((base.length+j+1:Nat):Int),0⟩) (z:=[]) DR (Qt 0 t 0 0) (Qt 0 t _ 0);rw [hlen] at f1;have Bn:nK 1 q1 jv (vc+5) (.int .i64 ((base.length+j+1:Nat):Int)) (q1.get jv)=some (q1.set jv kv):=f2;obtain ⟨xP,aeE⟩:∃xP,q1.set jv kv=xP:=⟨_,rfl⟩;rw [aeE] at Bn nk uc;have akW:=n'.next
     have aqE:=uc.next
     have KV:∀b,bt.aZ b->b0 b<G.next:=fun b y=>by have:=O.v.bL y;unfold Old at this;exact this
     have Bc:∀b,bt.aZ b->¬v2.aZ b:=fun b y w=>by
      rcases x1 b w with w | w
      . exact Eu b y w
      . have:=KV b y;omega
     have H3:dY g2.next xP 1 bt j (gU (oF base.length j)):=((O.ext gA).mod n' fun b y w=>by
      rcases w with w | w
      . have:=O.base y;rw [w,c7] at this;omega
      . exact Eu b y w).mod uc fun b y w=>Bc b y w
     obtain ⟨FI,HE,ck,cB,eL,kC,pH⟩:=Go.Proofs.YtgmhjhgoamjeeaaGreatDoor.aX.AT (by omega) H3 (by omega) (by unfold top;omega) (cs:=[.int .i64 ((base.length+j:Nat):Int)]) rfl rfl;have wl:=hj (show base.length+j<base.length+j+1 by omega) (by omega);simp +contextual only [cy,b',dS,kD,jm,ix,dG,qK,qL,GL,ka,xi.g,f1,Bn,wl,ck,vB,↓aj,aC,simprocAttr];refine ⟨⟨j+1,v2,FI,rfl,fC,rfl,?_,?_,fun b y w=>?_,?_,fun b y=>?_⟩,by omega⟩
     . rw [sZ,<-ar_];exact nk.mod eL (fun b y=>⟨O.base y,Bc b y⟩) (by omega)
     . rw [af4,TI];exact cB
     . rcases pH b y with y | y
       . exact Bc b y w
       . have:=nk.own.rW w;unfold Old at this;omega
     . refine mg (mg (mg (mg Cy (gA.mod (fun _=>False)) fun _ _ y=>y.elim) n' fun b o y=>?_) uc fun b o y=>?_) eL fun b o y=>.inr (.inr (O.base y))
       . rcases y with y | y
         . exact .inl y
         . exact .inr (pR b y)
       . rcases x1 b y with y | y
         . exact .inr (pR b y)
         . exact .inr (.inr (by omega))
     . rcases x1 b y with y | y
       . exact pR b y
       . exact .inr (by omega)
   . have sQ:((j:Int) < (bn.length:Int))=False:=arx (by omega);obtain rfl:j=bn.length:=by omega
     rw [asZ] at sr hlen;have fQ:=Lh sr (by omega) (tD i) .bj (bY.nil _ _ _);simp only [sH,tD] at fQ;rw [hlen] at fQ;simp +contextual only [cy,b',dS,kD,jm,ix,dG,qK,qL,GL,ka,sQ,↓aj,aC,simprocAttr];refine cb fQ ?_;rintro x q1 ⟨rfl,v3,DR,n',x1⟩;have KV:∀b,bt.aZ b->b0 b<G.next:=fun b y=>by have:=O.v.bL y;unfold Old at this;exact this
     have Bc:∀b,bt.aZ b->¬v3.aZ b:=fun b y w=>by
      rcases x1 b w with w | w
      . exact Eu b y w
      . have:=KV b y;omega
     have NQ:dY g2.next q1 1 bt bn.length (gU (oF base.length bn.length)):=O.mod n' fun b y w=>by
      rcases w with w | w
      . have:=O.base y;rw [w,c7] at this;omega
      . exact Eu b y w
     have akw:Mod (fun b=>b=az ad.next\/qV.aZ b\/g2.next<=b0 b) g2 q1:=mg Cy n' fun b o y=>by
      rcases y with y | y
      . exact .inl y
      . exact .inr (pR b y)
     have Yi:∀b,v3.aZ b->qV.aZ b\/g2.next<=b0 b:=fun b y=>by
      rcases x1 b y with y | y
      . exact pR b y
      . exact .inr (by omega)
     have B8:=NQ.v.len;have wl:=hj (show base.length+bn.length<base.length+bn.length+1 by omega) (by omega);have akW:=n'.next
     simp +contextual only [cy,b',dS,kD,jm,ix,dG,ka,wl,B8,↓aj,aC,simprocAttr];refine fR (fun r G=>r 7=.map (az aa.next)/\r 8=.ptr (az ad.next) 0/\r 9=.func 55 [.ptr (az ad.next) 0]/\r 28=v/\r 29=.int .i64 l.length/\r 30=.int .i64 i/\r 16=.int .i64 ((base.length+bn.length+1:Nat):Int)/\r 63=bt/\r 64=.int .i64 bn.length/\Mod (fun b=>b=az ad.next\/qV.aZ b\/g2.next<=b0 b) g2 G/\dY g2.next G 1 bt bn.length (gU (oF base.length bn.length))/\∃k:Nat,r 65=.int .i64 k/\k<=bn.length/\kf aH.next g2.next ad.next G (base++(hg (base.length+bn.length+1) base.length (bn.take k)++(hg 0 (base.length+k) (bn.drop k)++[tD i]))) v3) (fun r G=>bn.length - (r 65).toN) ?_ ?_
     . refine ⟨by simp only [cy,↓aj,bD,simprocAttr],by simp only [b',↓aj,bD,simprocAttr],by simp only [dS,↓aj,bD,simprocAttr],by simp only [kD,↓aj,bD,simprocAttr],by simp only [jm,↓aj,bD,simprocAttr],by simp only [ix,↓aj,bD,simprocAttr],by simp only [↓aj,bD,simprocAttr],by simp only [↓aj,bD,simprocAttr],by simp only [↓aj,bD,simprocAttr],akw,NQ,0,by simp only [↓aj,bD,simprocAttr]<;>rfl,by omega,?_⟩;simpa [hg,tD] using DR
     clear cy b' dS kD jm ix dG qK qL GL ka;rintro r As ⟨cy,b',dS,kD,jm,ix,r16,V1,C0,Lv,NR,k,V2,aB,nk⟩;unfold Pv;by_cases kp:k<bn.length
     . have Jt:((k:Int) < (bn.length:Int))=True:=arD (by omega);have aoU:=hj kp (by omega);obtain ⟨apA,aqO,bc,akg⟩:=af2 NR kp;have vc:=nk.out;rw [ajL kp,arR,<-ar_ base] at nk;have sZ:=T3 (cr:=base.length+bn.length+1) (j:=base.length) kp;generalize bn[k]=t at nk sZ;have kS:(base++hg (base.length+bn.length+1) base.length (bn.take k)).length=base.length+k:=by rw [arE,ti,ar6,ats aB]
       obtain ⟨o9,Gk,nI,f1,f2,NZ,si⟩:=kf.put (fz:=⟨1,0,t.1,t.2.1,t.2.2,((base.length+k+1:Nat):Int),((base.length+bn.length+1:Nat):Int)⟩) nk (Qu t _ _) (Qu t _ _);rw [kS] at f1;have Bn:nK 1 As o9 (Gk+6) (.int .i64 ((base.length+bn.length+1:Nat):Int)) (As.get o9)=some (As.set o9 nI):=f2;obtain ⟨ND,aeF⟩:∃ND,As.set o9 nI=ND:=⟨_,rfl⟩;rw [aeF] at Bn NZ si;simp +contextual only [cy,b',dS,kD,jm,ix,r16,V1,C0,V2,Jt,bc,akg,vc.g,f1,Bn,aoU,↓aj,aC,simprocAttr];refine ⟨⟨mg Lv si fun b o y=>.inr (Yi b y),NR.mod si fun b y w=>Bc b y w,k+1,rfl,kp,?_⟩,by omega⟩;rw [sZ];simpa [ar_,asC] using NZ
     . have Jt:((k:Int) < (bn.length:Int))=False:=arx (by omega);obtain rfl:k=bn.length:=by omega
       rw [asZ,atk] at nk;have UL:=Lv.next
       simp +contextual only [cy,b',dS,kD,jm,ix,r16,V1,C0,V2,Jt,dM,↓aj,aC,simprocAttr];refine ⟨⟨mg (mg m (n2.mod (fun _=>False)) fun _ _ y=>y.elim) Lv fun b o y=>Ye b y,i+1,v3,rfl,aS,?_⟩,by omega⟩;have Yv:=nk.Xf (AM:=As.next) (by omega);rw [rL];simpa [oS,hg] using Yv
 . have g0:((i:Int) < (l.length:Int))=False:=arx (by omega);rw [asu (by omega)] at R;have uR:=MC cs l [] 0;simp +contextual only [cy,b',dS,kD,jm,ix,g0,↓aj,aC,simprocAttr];have cf:=Lh R (by simp at uR;omega) qB .bj (bY.nil _ _ _);simp only [sH,qB] at cf;refine cb cf ?_;rintro x g1 ⟨rfl,cl,NY,vN,AM⟩;have da:=NY.out;simp +contextual only [b',da.g,↓aj,aC,simprocAttr];refine ⟨_,rfl,?_,?_⟩
   . have:=NY.own.eW (F:=Any) (by rw [arC,arE];simp at uR ⊢;unfold top;omega) (fun _ _=>trivial) (fun _ _=>trivial);exact this
   . refine e'.oL (mg m vN fun b o y=>?_) fun b y=>?_
     . rcases y with y | y
       . exact .inl y
       . exact .inr (R.own.base y)
     . rcases y with y | y
       . rw [y,c7];have:=aJ.next;omega
       . have:=e'.next;omega
def ib (T:bZ):List fH->Option (Nat × Bool)
 | []=>some (0,true)
 | t::bn=>match ic T t.1 with
   | none=>none
   | some x=>if x.k=(if t.2.1 then 1 else 2) then (if x.n=t.2.2 then (ib T bn).map (fun p=>(p.1+1,p.2)) else some (1,false)) else none
theorem Om (T:bZ):∀(a b:List fH) (k:Nat) (y:Bool),ib T a=some (k,y)->ib T (a++b)=if y=true then (ib T b).map (fun p=>(k+p.1,p.2)) else some (k,false)
 | [],b,k,y,h=>by
   simp only [ib,arq,asi] at h;obtain ⟨rfl,rfl⟩:=h;cases ah:ib T b with
   | none=>simp [ah]
   | some p=>simp [ah]
 | t::a,b,k,y,h=>by
   simp only [arR,ib] at h ⊢;cases ak:ic T t.1 with
   | none=>rw [ak] at h;cases h
   | some x=>
     rw [ak] at h;simp only at h ⊢;by_cases bJ:x.k=(if t.2.1 then 1 else 2)
     . rw [arz bJ] at h ⊢;by_cases bO:x.n=t.2.2
       . rw [arz bO] at h ⊢;cases bs:ib T a with
         | none=>rw [bs] at h;cases h
         | some p=>
           obtain ⟨br,mn⟩:=p;rw [bs] at h;simp only [asD,arq,asi] at h;obtain ⟨rfl,rfl⟩:=h;rw [Om T a b br mn bs];cases mn with
           | true=>
             simp only [ar2];cases ib T b with
             | none=>rfl
             | some p=>simp only [asD,arq,asi,atC];omega
           | false=>simp
       . rw [arw bO] at h ⊢;simp only [arq,asi] at h;obtain ⟨rfl,rfl⟩:=h;simp
     . rw [arw bJ] at h;cases h
theorem Oq (T:bZ):∀(a:List fH) (k:Nat) (y:Bool),ib T a=some (k,y)->k<=a.length
 | [],k,y,h=>by simp only [ib,arq,asi] at h;omega
 | t::a,k,y,h=>by
   simp only [ib] at h;cases ak:ic T t.1 with
   | none=>rw [ak] at h;cases h
   | some x=>
     rw [ak] at h;simp only at h;by_cases bJ:x.k=(if t.2.1 then 1 else 2)
     . rw [arz bJ] at h;by_cases bO:x.n=t.2.2
       . rw [arz bO] at h;cases bs:ib T a with
         | none=>rw [bs] at h;cases h
         | some p=>
           obtain ⟨br,mn⟩:=p;have:=Oq T a br mn bs;rw [bs] at h;simp only [asD,arq,asi] at h;simp only [arA];omega
       . rw [arw bO] at h;simp only [arq,asi] at h;simp only [arA];omega
     . rw [arw bJ] at h;cases h
theorem Ow (i:Nat):∀(path:List Int) (T v:bZ),ic T path=some v->∀x,v.l[i]? =some x->ic T (path++[(i:Int)])=some x
 | [],T,v,h,x,ak=>by simp only [ic,arq] at h;subst h;have ax:i<T.l.length:=(arL.1 ak).1;simp only [asb,ic];rw [arw (by omega),ary,ak]
 | a::path,T,v,h,x,ak=>by
   simp only [ic] at h;simp only [arR,ic];by_cases c:a<0\/(T.l.length:Int)<=a
   . rw [arz c] at h;cases h
   . rw [arw c] at h ⊢;cases hu:T.l[a.toNat]? with
     | none=>rw [hu] at h;cases h
     | some u=>
       rw [hu] at h;exact Ow i path u v h x ak
theorem On {cs:List bz} (T:bZ):∀(n:Nat) (p:aL),p.size<=n->lz p->l4 cs p=true->∀(path:List Int) (v:bZ),ic T path=some v->iY cs p v=true->∃k,ib T (fm cs p path)=some (k,nx cs p v)
 | 0,p,aV,_,_,_,_,_,_=>by have:=nT p;omega
 | n+1,p,aV,aF,aq,path,v,fa,aU=>by
   have cu:=size_eq p;have Fp:=aF.2;have kids:∀(l:List aL) (i:Nat),b8 l<=n->(∀q ∈ l,lz q/\l4 cs q=true)->j4 cs l (v.l.drop i)=true->∃k,ib T (j5 cs l path i)=some (k,mU cs l (v.l.drop i)):=by
    intro l
    induction l with
    | nil=>intro i _ _ _;exact ⟨0,by simp [j5,ib,mU]⟩
    | cons q l bc=>
      intro i ax ay aB;cases aI:v.l.drop i with
      | nil=>rw [aI] at aB;simp [j4] at aB
      | cons x m=>
        rw [aI] at aB;simp only [j4,arp] at aB;have ak:v.l[i]? =some x:=by have:=asH (xs:=v.l) (i:=i) (j:=0);rw [aI] at this;simpa using this.symm
        have hm:v.l.drop (i+1)=m:=by
         have:v.l.drop (i+1)=(v.l.drop i).drop 1:=by rw [asM]
         rw [this,aI];rfl
        simp only [b8] at ax;have aqm:=nT q;obtain ⟨b3,bE⟩:=On T n q (by omega) (ay q ar1).1 (ay q ar1).2 (path++[(i:Int)]) x (Ow i path T v fa x ak) aB.1;obtain ⟨b5,a2⟩:=bc (i+1) (by omega) (fun fc ab=>ay fc (arT _ ab)) (by rw [hm];exact aB.2);simp only [j5,mU];rw [Om T _ _ _ _ bE,a2,hm];cases nx cs q x with
        | true=>exact ⟨b3+b5,by simp⟩
        | false=>exact ⟨b3,by simp⟩
   have afI:∀q ∈ p.l,lz q/\l4 cs q=true:=fun q ay=>⟨Bt aF ay,IZ aq ay⟩;obtain ⟨g1,g2,g15,g16,g0,_⟩:=CR aF.2 aF.1;have uJ:∀aa:¬(p.k=12\/p.k=14),(p.k=16->v.n=jP cs p.s)->∃k,ib T (j5 cs p.l path 0)=some (k,mU cs p.l v.l):=fun aa ad=>by have:=kids p.l 0 (by omega) afI (by rw [asf];exact WT aF aq aU aa ad);rwa [asf] at this
   rw [W3,RT];rw [Hh] at aU;by_cases jx:p.k=12
   . rw [arz jx] at aU;have bt:v.k=1:=by simpa using aU
     rw [arz (.inl jx),g0 (by omega) (by omega)];simp only [jY,jx,ar2,j5,asS,ib,fa,bt];by_cases iQ:v.n=p.n
     . exact ⟨1,by simp [iQ]⟩
     . exact ⟨1,by simp [iQ]⟩
   . rw [arw jx] at aU;by_cases mA:p.k=14
     . rw [arz (.inr mA)] at aU;have bt:v.k=2:=by simp only [arp,arF] at aU;exact aU.1
       rw [arz (.inr mA),g0 (by omega) (by omega)];have Jv:¬((14:Int)=12):=by decide
       simp only [jY,mA,Jv,ar2,ar5,j5,asS,ib,fa,bt];by_cases iQ:v.n=p.n
       . exact ⟨1,by simp [iQ]⟩
       . exact ⟨1,by simp [iQ]⟩
     . rw [arw (show ¬(p.k=12\/p.k=14) by omega)];by_cases jy:p.k=16
       . rw [arw (by omega),arw (by omega),arz jy] at aU;have bt:v.k=2:=by simp only [arp,arF] at aU;exact aU.1
         rw [arz jy];have a8:jY cs p.k p.n p.s path=[(path,false,jP cs p.s)]:=by unfold jY;rw [arw jx,arw mA,arz jy]
         rw [a8];by_cases iQ:v.n=jP cs p.s
         . obtain ⟨k,aB⟩:=uJ (by omega) (fun _=>iQ);refine ⟨k+1,?_⟩;simp only [arR,asb,ib,fa,bt,iQ];rw [aB];simp
         . refine ⟨1,?_⟩;simp only [arR,asb,ib,fa,bt,iQ];simp
       . rw [arw jy];obtain ⟨k,aB⟩:=uJ (by omega) (fun z=>absurd z jy);have a8:jY cs p.k p.n p.s path=[]:=by unfold jY;rw [arw jx,arw mA,arw jy]
         rw [a8,asb];exact ⟨k,by rw [aB];simp⟩
def jN (cs:List bz):Nat->Nat->List aL->List cW
 | _,_,[]=>[]
 | bT,r,p::l=>oS r bT (fm cs p [])++jN cs (bT + (fm cs p []).length+1) (r+1) l
def hV (cs:List bz):List aL->Nat
 | []=>0
 | p::l=>(fm cs p []).length+hV cs l
theorem Wh (cs:List bz):∀(l:List aL) (acc:List cW) (r:Nat),lS cs acc r l=acc++jN cs acc.length r l
 | [],acc,r=>by simp [lS,jN]
 | p::l,acc,r=>by simp only [lS,jN];rw [Wh cs l,ar_,arE,r5];rfl
theorem zO (cs:List bz):∀(l:List aL) (bT r:Nat),(jN cs bT r l).length=hV cs l+l.length
 | [],_,_=>rfl
 | p::l,bT,r=>by simp only [jN,arE,r5,zO cs l,hV,arA];omega
theorem I3 (cs:List bz) (l:List aL):ie cs l=jN cs 0 0 l++[qB]:=by unfold ie;rw [Wh];rfl
theorem Er (cs:List bz) (l:List aL):(ie cs l).length=hV cs l+l.length+1:=by rw [I3,arE,zO];rfl
def IT (N R:Nat) (i:Nat) (c:cW):Prop:=(c.kind=1/\(i:Int)<c.yes/\(i:Int)<c.no/\c.yes < (N:Int)/\c.no < (N:Int))\/(c.kind=2/\0<=c.row/\c.row < (R:Int))\/c.kind=3
theorem T2 (N R cr:Nat) (afm:cr<N):∀(bn:List fH) (j:Nat),j+bn.length<cr->∀(i:Nat) (c:cW),(hg cr j bn)[i]? =some c->IT N R (j+i) c
 | [],j,_,i,c,h=>by simp [hg] at h
 | t::bn,j,bp,0,c,h=>by simp only [hg,arG,arq] at h;subst h;simp only [arA] at bp;refine .inl ⟨rfl,?_,?_,?_,?_⟩<;>simp only [asB]<;>omega
 | t::bn,j,bp,i+1,c,h=>by simp only [hg,ash] at h;simp only [arA] at bp;have:=T2 N R cr afm bn (j+1) (by omega) i c h;rwa [show j+1+i=j + (i+1) by omega] at this
theorem Wg (N R:Nat) (cs:List bz):∀(l:List aL) (bT r:Nat),bT + (jN cs bT r l).length<N->r+l.length<=R->∀(i:Nat) (c:cW),(jN cs bT r l)[i]? =some c->IT N R (bT+i) c
 | [],bT,r,_,_,i,c,h=>by simp [jN] at h
 | p::l,bT,r,bF,cQ,i,c,h=>by
   have lE:=zO cs l (bT + (fm cs p []).length+1) (r+1);simp only [jN,arE,r5,arA] at h bF cQ;by_cases aw:i < (oS r bT (fm cs p [])).length
   . rw [arI aw] at h;rw [r5] at aw;unfold oS at h;by_cases bp:i < (fm cs p []).length
     . rw [arI (by rw [ti];exact bp)] at h;exact T2 N R _ (by omega) _ bT (by omega) i c h
     . rw [arJ (by rw [ti];omega),ti,show i - (fm cs p []).length=0 by omega] at h;simp only [arG,arq] at h;subst h;exact .inr (.inl ⟨rfl,by simp [tD],by simp only [tD];omega⟩)
   . rw [arJ (by omega),r5] at h;rw [r5] at aw;have:=Wg N R cs l (bT + (fm cs p []).length+1) (r+1) (by omega) (by omega) _ c h;rwa [show bT + (fm cs p []).length+1 + (i - ((fm cs p []).length+1))=bT+i by omega] at this
theorem QU (cs:List bz) (l:List aL) (i:Nat) (c:cW) (h:(ie cs l)[i]? =some c):IT (ie cs l).length l.length i c:=by
 have bF:=Er cs l;have ax:=zO cs l 0 0;rw [I3] at h;by_cases aw:i < (jN cs 0 0 l).length
 . rw [arI aw] at h;have:=Wg (ie cs l).length l.length cs l 0 0 (by omega) (by omega) i c h;rwa [arV] at this
 . rw [arJ (by omega)] at h;have bk:i - (jN cs 0 0 l).length=0:=by
    have:=(arL.1 h).1;simp at this;omega
   rw [bk] at h;simp only [arG,arq] at h;subst h;exact .inr (.inr rfl)
theorem Qx (N:Nat):∀(d:List cW) (k:Nat),(∀(i:Nat) (c:cW),d[i]? =some c->ns N (k+i) c=true)->oo N k d=true
 | [],_,_=>rfl
 | c::d,k,h=>by simp only [oo,arp];refine ⟨h 0 c rfl,Qx N d (k+1) fun i fz ab=>?_⟩;have:=h (i+1) fz (by simpa using ab);rwa [show k + (i+1)=k+1+i by omega] at this
theorem ab' (cs:List bz) (l:List aL):ot (ie cs l)=true:=by
 have bF:=Er cs l;unfold ot;rw [arp];refine ⟨Qx _ _ _ fun i c h=>?_,by rw [bF];simp⟩;rw [arV];rcases QU cs l i c h with ⟨k,a,b,e,f⟩ | ⟨k,_⟩ | k
 . exact Qs k (by omega) (by omega) (by omega) (by omega)
 . exact El (.inl k)
 . exact El (.inr k)
theorem Sa (d:List cW) (T:bZ) (cr:Nat):∀(bn:List fH) (n:Nat),(∀(j:Nat) (c:cW),(hg cr n bn)[j]? =some c->d[n+j]? =some c)->∀(k:Nat) (y:Bool),ib T bn=some (k,y)->∀(f asked:Nat),bn.length<=f->
 ∃kj,f<=kj+bn.length/\pj d T f n asked=pj d T kj (if y=true then n+bn.length else cr) (asked+k)
 | [],n,_,k,y,h,f,asked,av=>by simp only [ib,arq,asi] at h;obtain ⟨rfl,rfl⟩:=h;exact ⟨f,by simp,by simp⟩
 | t::bn,n,aI,k,y,h,f,asked,av=>by
   simp only [arA] at av;obtain ⟨f0,rfl⟩:∃f0,f=f0+1:=⟨f-1,by omega⟩;have aY:=aI 0 ⟨1,0,t.1,t.2.1,t.2.2,((n+1:Nat):Int),(cr:Int)⟩ (by simp only [hg,arG]);rw [asB] at aY;simp only [ib] at h;simp only [pj,aY];have b5:¬((1:Int)=2):=by decide
   have dW:¬((1:Int)=3):=by decide
   simp only [b5,dW,ar5];cases ak:ic T t.1 with
   | none=>rw [ak] at h;cases h
   | some x=>
     rw [ak] at h;simp only at h ⊢;by_cases bJ:x.k=(if t.2.1 then 1 else 2)
     . rw [arz bJ] at h;have Z4:x.k=(if t.2.1=true then 1 else 2):=bJ;rw [arz Z4];by_cases bO:x.n=t.2.2
       . rw [arz bO] at h;rw [arz bO];cases bs:ib T bn with
         | none=>rw [bs] at h;cases h
         | some p=>
           obtain ⟨br,mn⟩:=p;rw [bs] at h;simp only [asD,arq,asi] at h;obtain ⟨rfl,rfl⟩:=h
           obtain ⟨kj,g1,g2⟩:=Sa d T cr bn (n+1) (fun j c bp=>by
            have:=aI (j+1) c (by simpa only [hg,ash] using bp)
            rwa [show n + (j+1)=n+1+j by omega] at this) br mn bs f0 (asked+1) (by omega)
           refine ⟨kj,by simp only [arA];omega,?_⟩;rw [ary,g2];simp only [arA];rw [show n+1+bn.length=n + (bn.length+1) by omega,show asked+1+br=asked + (br+1) by omega]
       . rw [arw bO] at h;rw [arw bO];simp only [arq,asi] at h;obtain ⟨rfl,rfl⟩:=h;exact ⟨f0,by simp only [arA];omega,by simp⟩
     . rw [arw bJ] at h;cases h
theorem R' {cs:List bz} (d:List cW) (T:bZ):∀(l:List aL) (bT r:Nat),(∀(j:Nat) (c:cW),(jN cs bT r l++[qB])[j]? =some c->d[bT+j]? =some c)->(∀p ∈ l,lz p/\l4 cs p=true/\iY cs p T=true)->∀(f asked:Nat),(jN cs bT r l).length+1<=f->
 ∃k,k<=hV cs l/\pj d T f bT asked=(oy cs T r l,((asked+k:Nat):Int),0)
 | [],bT,r,aI,_,f,asked,av=>by obtain ⟨f0,rfl⟩:∃f0,f=f0+1:=⟨f-1,by omega⟩;have aY:=aI 0 qB (by simp [jN]);rw [asB] at aY;exact ⟨0,asP _,by simp [pj,aY,qB,oy]⟩
 | p::l,bT,r,aI,ag,f,asked,av=>by
   obtain ⟨bE,a2,a3⟩:=ag p ar1;obtain ⟨k,aB⟩:=On (cs:=cs) T p.size p (arv _) bE a2 [] T rfl a3;have kp:=Oq T _ _ _ aB;have lE:=zO cs l (bT + (fm cs p []).length+1) (r+1);have hlen:(jN cs bT r (p::l)).length=(fm cs p []).length+1 + (jN cs (bT + (fm cs p []).length+1) (r+1) l).length:=by simp only [jN,arE,r5]
   have dc:∀(j:Nat) (c:cW),(oS r bT (fm cs p []))[j]? =some c->d[bT+j]? =some c:=fun j c bp=>by have fC:=(arL.1 bp).1;refine aI j c ?_;simp only [jN,ar_];rw [arI fC];exact bp
   obtain ⟨kj,g1,g2⟩:=Sa d T (bT + (fm cs p []).length+1) (fm cs p []) bT (fun j c bp=>dc j c (by
    unfold oS
    rw [arI (arL.1 bp).1];exact bp)) k _ aB f asked (by omega)
   rw [g2];cases qd:nx cs p T with
   | true=>
     obtain ⟨f0,rfl⟩:∃f0,kj=f0+1:=⟨kj-1,by omega⟩;have aY:=dc (fm cs p []).length (tD r) (by unfold oS;rw [arJ (by rw [ti];omega),ti,as6];rfl);refine ⟨k,by simp only [hV];omega,?_⟩;simp only [ar2,pj,aY,tD,oy,qd];rw [arw (by omega)]
     try simp
   | false=>
     obtain ⟨b5,cc,cj⟩:=R' (cs:=cs) d T l (bT + (fm cs p []).length+1) (r+1) (fun j c bp=>by
      have:=aI (j + ((fm cs p []).length+1)) c (by simp only [jN,ar_];rw [arJ (by rw [r5];omega),r5,Nat.add_sub_cancel];exact bp)
      rwa [show bT + (j + ((fm cs p []).length+1))=bT + (fm cs p []).length+1+j by omega] at this) (fun q ay=>ag q (arT _ ay)) kj (asked+k) (by omega)
     refine ⟨k+b5,by simp only [hV];omega,?_⟩;simp only [arK,ar5];rw [cj];simp only [oy,qd,arK,ar5];rw [show asked+k+b5=asked + (k+b5) by omega]
theorem ab_ {cs:List bz} {l:List aL} {t:bZ} (aU:b8 l<=1000000000) (h:(iy cs l t).2=0) (aa:(iy cs l t).1=true):∃k,k<=hV cs l/\sP (ie cs l) t=(oy cs t 0 l,(k:Int),0):=by obtain ⟨z,m,mP⟩:=WU h aa;have BG:=Ji z aU;have wQ:=(wg z).1;unfold sP;rw [ab',m];simp only [Bool.and_self,ar2];have bF:=Er cs l;have ax:=zO cs l 0 0;obtain ⟨k,a,b⟩:=R' (cs:=cs) (ie cs l) t l 0 0 (fun j c bp=>by rw [arV,I3];exact bp) (fun p ag=>⟨⟨wQ p ag,by have:=nb ag;omega⟩,BG p ag,mP p ag⟩) (ie cs l).length 0 (by omega);exact ⟨k,a,by rw [b,arV]⟩
def c5:a1:=
 .seq (.an [ec 0])
 (.seq (.an [⟨some 19,.call 23 [(.c (.int .i64 10)),(.c .bj)],none,[]⟩,l0 1,⟨none,.st 5 (.t 1) (.t 19),none,[1,19]⟩])
 (.seq (.draw [fo 23 1,t' 24 23,⟨some 21,.call 25 [],none,[]⟩,⟨some 22,.call 26 [(.c (.str [78,105,108])),(.c .bj)],none,[]⟩,⟨some 25,.call 26 [(.c (.str [67,111,110,115])),(.t 24)],none,[24]⟩,NH 26 22 25,⟨some 27,.call 28 [(.c (.int .i64 5))],none,[]⟩,HV 28,⟨some 29,.hS 2 3 [(.int .i64 0),(.int .i64 0),.bj] [(0,3,(.t 27)),(3,3,(.t 28))],none,[27,28]⟩,⟨some 30,.call 27 [(.c (.int .i64 0)),(.t 29)],none,[29]⟩,⟨some 31,.hS 1 3 [(.int .i64 0),(.int .i64 0),.bj] [(0,3,(.t 30))],none,[30]⟩,⟨some 32,.call 27 [(.c (.int .i64 1)),(.t 31)],none,[31]⟩,⟨some 33,.call 24 [(.t 21),(.t 26),(.t 32)],none,[21,26,32]⟩,ai 20 33,hA 34 20,hB 35 20,ai 2 34,ai 3 35] [(0,[2,3,4])])
 (.seq (.an [fo 37 1,t' 38 37,⟨some 39,.call 29 [(.c .bj),(.t 38)],none,[38]⟩,ai 36 39,hA 40 36,hB 41 36,ai 4 40,ai 5 41])
 (.seq (.an [ai 43 4,⟨some 44,.call 28 [(.c (.int .i64 3))],none,[]⟩,⟨some 45,.call 30 [(.t 43),(.t 44)],none,[43,44]⟩,ai 42 45,hA 46 42,hB 47 42,⟨some 48,.ext (.t 42) 2,none,[42]⟩,ai 6 46,ai 7 47,ai 8 48])
 (.seq (.an [⟨some 50,.call 29 [(.c .bj),(.c .bj)],none,[]⟩,ai 49 50,hA 51 49,hB 52 49,ai 9 51,ai 10 52])
 (.seq (.an [ai 54 9,⟨some 55,.call 28 [(.c (.int .i64 3))],none,[]⟩,⟨some 56,.call 30 [(.t 54),(.t 55)],none,[54,55]⟩,ai 53 56,hA 57 53,hB 58 53,⟨some 59,.ext (.t 53) 2,none,[53]⟩,ai 11 57,ai 12 58,ai 13 59])
 (.seq (.an [⟨some 61,.call 23 [(.c (.int .i64 12)),(.c .bj)],none,[]⟩,t' 62 61,HV 63,⟨some 64,.call 24 [(.c .bj),(.t 62),(.t 63)],none,[62,63]⟩,ai 60 64,hA 65 60,hB 66 60,ai 14 65,ai 15 66])
 (.seq (.an [⟨some 68,.call 23 [(.c (.int .i64 12)),(.c .bj)],none,[]⟩,t' 69 68,HV 70,⟨some 71,.call 31 [(.c .bj),(.t 69),(.t 70)],none,[69,70]⟩,ai 67 71,hA 72 67,hB 73 67,ai 16 72,ai 17 73])
 (.seq (.an [ai 74 2,tZ 75 74,ai 76 75,dw 77 3 76,mw 78 77 76,dV 79 76 78,ai 80 79,dw 81 5 80,mw 82 81 80,dV 83 80 82,ai 84 83,dw 85 6 84,mw 86 85 84,dV 87 84 86,ai 88 87,dw 89 7 88,mw 90 89 88,dV 91 88 90,ai 92 91,dw 93 8 92,mw 94 93 92,dV 95 92 94,ai 18 95])
 (.seq (.an [⟨some 96,.call 8 [],none,[]⟩,ai 97 96,dw 98 18 97,dV 99 97 98,ai 100 99,dw 101 10 100,mw 102 101 100,dV 103 100 102,ai 104 103,dw 105 9 104,q4 106 105 104,HP 107 106 104,dV 108 104 107,ai 109 108,dw 110 9 109,⟨some 111,.cd 7 (.t 110) (.c (.int .i64 0)),(some (109,true)),[110,109]⟩,AJ 112 111 109,hC 113 112 109,⟨some 114,.bin (.int .eql) (.t 113) (.c (.int .i64 3)),(some (109,true)),[113,109]⟩,dV 115 109 114,ai 116 115,dw 117 11 116,⟨some 118,.bin (.int .eql) (.t 117) (.c (.int .i64 (-1))),(some (116,true)),[117,116]⟩,dV 119 116 118,ai 120 119,dw 121 12 120,mw 122 121 120,dV 123 120 122,ai 124 123,dw 125 13 124,mw 126 125 124,dV 127 124 126,ai 128 127,dw 129 15 128,⟨some 130,.bin (.int .eql) (.t 129) (.c (.int .i64 2)),(some (128,true)),[129,128]⟩,dV 131 128 130,ai 132 131,dw 133 16 132,⟨some 134,.un .not (.t 133),(some (132,true)),[133,132]⟩,dV 135 132 134,ai 136 135,dw 137 17 136,mw 138 137 136,dV 139 136 138,ai 0 139])
 (.ret)))))))))))
theorem aaR:dm 5 140 Tryz.f5 c5 [.t 0]:=⟨Tryz.func5,by kernel_rfl⟩
def Pl:a1:=
 .seq (.an [l0 4])
 (.seq (.an [ai 5 0,ai 6 1,⟨some 7,.build [(.int .i64 0),(.int .i64 0),(.int .i64 0),(.str []),.bj] [(0,1,(.t 5)),(4,1,(.t 6))],none,[5,6]⟩,⟨none,.st 5 (.t 4) (.t 7),none,[4,7]⟩])
 (.ret))
theorem aau:dm 23 8 Tryz.f23 Pl [.iQ 4 5]:=⟨Tryz.func23,by kernel_rfl⟩
def Po:a1:=
 .seq (.an [lp 0])
 (.seq (.an [⟨some 1,.build [(.str []),(.str []),(.int .i64 0),(.int .i64 0),.bj] [(0,1,(.c (.str [78,105,108]))),(1,1,(.c (.str [108,105,115,116])))],none,[]⟩,⟨some 2,.build [(.int .i64 0),(.int .i64 0),(.str []),.bj] [(0,1,(.c (.int .i64 2))),(2,1,(.c (.str [105,110,116])))],none,[]⟩,⟨some 3,.hS 1 4 [(.int .i64 0),(.int .i64 0),(.str []),.bj] [(0,4,(.t 2))],none,[2]⟩,⟨some 4,.build [(.str []),(.str []),(.int .i64 0),(.int .i64 0),.bj] [(0,1,(.c (.str [67,111,110,115]))),(1,1,(.c (.str [108,105,115,116]))),(2,1,(.c (.int .i64 1))),(4,1,(.t 3))],none,[3]⟩,⟨some 5,.hS 2 5 [(.str []),(.str []),(.int .i64 0),(.int .i64 0),.bj] [(0,5,(.t 1)),(5,5,(.t 4))],none,[1,4]⟩,ai 0 5])
 (.ret))
theorem aaw:dm 25 6 Tryz.f25 Po [.t 0]:=⟨Tryz.func25,by kernel_rfl⟩
def Pp:a1:=
 .seq (.an [l0 4])
 (.seq (.an [ai 5 0,ai 6 1,⟨some 7,.build [(.int .i64 0),(.int .i64 0),(.int .i64 0),(.str []),.bj] [(0,1,(.c (.int .i64 16))),(3,1,(.t 5)),(4,1,(.t 6))],none,[5,6]⟩,⟨none,.st 5 (.t 4) (.t 7),none,[4,7]⟩])
 (.ret))
theorem aax:dm 26 8 Tryz.f26 Pp [.iQ 4 5]:=⟨Tryz.func26,by kernel_rfl⟩
def Pq:a1:=
 .seq (.an [AE 4])
 (.seq (.an [ai 5 0,ai 6 1,⟨some 7,.build [(.int .i64 0),(.int .i64 0),.bj] [(0,1,(.c (.int .i64 2))),(1,1,(.t 5)),(2,1,(.t 6))],none,[5,6]⟩,⟨none,.st 3 (.t 4) (.t 7),none,[4,7]⟩])
 (.ret))
theorem aay:dm 27 8 Tryz.f27 Pq [.iQ 4 3]:=⟨Tryz.func27,by kernel_rfl⟩
def Pr:a1:=
 .seq (.an [AE 2])
 (.seq (.an [ai 3 0,⟨some 4,.build [(.int .i64 0),(.int .i64 0),.bj] [(0,1,(.c (.int .i64 1))),(1,1,(.t 3))],none,[3]⟩,⟨none,.st 3 (.t 2) (.t 4),none,[2,4]⟩])
 (.ret))
theorem aaz:dm 28 5 Tryz.f28 Pr [.iQ 2 3]:=⟨Tryz.func28,by kernel_rfl⟩
theorem L9 (k:Int) (h:ae):cR Tryz.prog 23 [.int .i64 k,.bj] h fun x ab=>x=.agg [.int .i64 k,.int .i64 0,.int .i64 0,.str [],.bj]/\Ext h ab:=by refine aau.z rfl (cp ?_);unfold Pl;obtain ⟨aa,al,aJ,cH⟩:=fq h z5;have ag:=cH.put [.int .i64 k,.int .i64 0,.int .i64 0,.str [],.bj];simp +contextual only [al,cH.g,ag.g,↓aj,aC,simprocAttr];exact aJ.set (arv _) _
theorem QK (s:List UInt8) (w:V) (gM:w.one=true/\w.cells=[w]/\w.eU=true) (h:ae):cR Tryz.prog 26 [.str s,w] h fun x ab=>x=.agg [.int .i64 16,.int .i64 0,.int .i64 0,.str s,w]/\Ext h ab:=by refine aax.z rfl (cp ?_);unfold Pp;obtain ⟨aa,al,aJ,cH⟩:=fq h z5;have ag:=cH.put [.int .i64 16,.int .i64 0,.int .i64 0,.str s,w];simp +contextual only [al,gM.1,gM.2.1,gM.2.2,cH.g,ag.g,↓aj,aC,simprocAttr];exact aJ.set (arv _) _
theorem C_ (n:Int) (w:V) (gM:w.one=true/\w.cells=[w]/\w.eU=true) (h:ae):cR Tryz.prog 27 [.int .i64 n,w] h fun x ab=>x=.agg [.int .i64 2,.int .i64 n,w]/\Ext h ab:=by refine aay.z rfl (cp ?_);unfold Pq;obtain ⟨aa,al,aJ,cH⟩:=fq h [.int .i64 0,.int .i64 0,.bj];have ag:=cH.put [.int .i64 2,.int .i64 n,w];simp +contextual only [al,gM.1,gM.2.1,gM.2.2,cH.g,ag.g,↓aj,aC,simprocAttr];exact aJ.set (arv _) _
theorem LQ (n:Int) (h:ae):cR Tryz.prog 28 [.int .i64 n] h fun x ab=>x=.agg [.int .i64 1,.int .i64 n,.bj]/\Ext h ab:=by refine aaz.z rfl (cp ?_);unfold Pr;obtain ⟨aa,al,aJ,cH⟩:=fq h [.int .i64 0,.int .i64 0,.bj];have ag:=cH.put [.int .i64 1,.int .i64 n,.bj];simp +contextual only [al,cH.g,ag.g,↓aj,aC,simprocAttr];exact aJ.set (arv _) _
def K6:List D:=[.i .i64 2,.i .i64 0,.s [105,110,116],.l 4 []]
def UR:bz:=⟨[78,105,108],[108,105,115,116],0,0,[]⟩
def QL:bz:=⟨[67,111,110,115],[108,105,115,116],1,0,[K6]⟩
def Lq:List bz:=[UR,QL]
theorem aki (h:ae):cR Tryz.prog 25 [] h fun x ab=>bY Any ab 5 (Lq.map bz.enc) x/\Ext h ab:=by refine aaw.z rfl (cp ?_);unfold Po;have YP:bM Any h K6 [.int .i64 2,.int .i64 0,.str [105,110,116],.bj]:=.i (.i (.s (by decide) ((bY.nil _ _ _).cons .nil)));obtain ⟨aa,al,aJ,H8⟩:=u7 (F:=Any) (size:=4) (h:=h) (ds:=K6) (cs:=[.int .i64 2,.int .i64 0,.str [105,110,116],.bj]) rfl YP trivial;have hF:bM Any aa UR.enc [.str [78,105,108],.str [108,105,115,116],.int .i64 0,.int .i64 0,.bj]:=.s (by decide) (.s (by decide) (.i (.i ((bY.nil _ _ _).cons .nil))));have sv:bM Any aa QL.enc [.str [67,111,110,115],.str [108,105,115,116],.int .i64 1,.int .i64 0,.slice (az h.next) 0 1 1]:=.s (by decide) (.s (by decide) (.i (.i (H8.cons .nil))));obtain ⟨ad,ao,aR,fN⟩:=F5 (F:=Any) (size:=5) (h:=aa) rfl rfl hF sv trivial;simp only [arR,asb] at ao;simp +contextual only [al,ao,↓aj,aC,simprocAttr];exact ⟨fN,aJ.trans aR⟩
abbrev uk:aL:=.mk 10 0 0 [] []
abbrev LL:aL:=.mk 16 0 0 [78,105,108] []
abbrev I1:aL:=.mk 16 0 0 [67,111,110,115] [uk]
abbrev za:aL:=.mk 12 0 0 [] []
abbrev t5:bZ:=.mk 1 5 []
abbrev t0:bZ:=.mk 2 0 []
abbrev C8:bZ:=.mk 2 0 [t5,t0]
abbrev z1:bZ:=.mk 2 1 [C8]
abbrev t3:bZ:=.mk 1 3 []
theorem ac9:nw Lq [LL,I1] z1=(1,0):=by kernel_rfl
theorem RE:gC [] [uk]=0:=by kernel_rfl
theorem ac':sP (ie [] [uk]) t3=(0,0,0):=by kernel_rfl
theorem RF:gC [] []=0:=by kernel_rfl
theorem ac_:ie [] []=[qB]:=by kernel_rfl
theorem ada:sP [qB] t3=(-1,0,0):=by kernel_rfl
theorem adb:nw [] [za] t0=(0,2):=by kernel_rfl
theorem ade:iy [] [za] t0=(false,0):=by kernel_rfl
theorem zs {F:aM->Prop} {h:ae}:bY F h 5 (([]:List aL).map aL.enc) .bj:=bY.nil _ _ _
theorem Gg {F:aM->Prop} {h:ae}:bY F h 5 (([]:List bz).map bz.enc) .bj:=bY.nil _ _ _
theorem zF {F:aM->Prop} {h:ae} {k n a:Int} {s:List UInt8} {l:List aL} {w:V} (aU:s.length<=top) (S:bY F h 5 (l.map aL.enc) w):bM F h (aL.mk k n a s l).enc [.int .i64 k,.int .i64 n,.int .i64 a,.str s,w]:=by rw [zA];exact .i (.i (.i (.s aU (S.cons .nil))))
theorem vx {F:aM->Prop} {h:ae} {k n:Int} {l:List bZ} {w:V} (S:bY F h 3 (l.map bZ.enc) w):bM F h (bZ.mk k n l).enc [.int .i64 k,.int .i64 n,w]:=by rw [EA];exact .i (.i (S.cons .nil))
theorem zr {F:aM->Prop} {h:ae}:bY F h 3 (([]:List bZ).map bZ.enc) .bj:=bY.nil _ _ _
theorem ajG (h:ae):cR Tryz.prog 5 [] h fun x ab=>x=.bool true/\Ext h ab:=by have on:V.bj.one=true/\V.bj.cells=[.bj]/\V.bj.eU=true:=⟨rfl,rfl,rfl⟩;refine aaR.z rfl (cp ?_);unfold c5;simp +contextual only [↓aj,aC,simprocAttr];refine cb (L9 10 h) ?_;rintro x aa ⟨rfl,aJ⟩;obtain ⟨ad,ao,aR,c1⟩:=fy aa z5 [.int .i64 10,.int .i64 0,.int .i64 0,.str [],.bj];obtain ⟨aH,aK,bP,q7⟩:=u7 (F:=Any) (size:=5) (h:=ad) (ds:=uk.enc) (cs:=[.int .i64 10,.int .i64 0,.int .i64 0,.str [],.bj]) rfl (zF (by decide) zs) trivial;have ep:=c1.ext bP;simp +contextual only [ao,aK,c1.g,↓aj,aC,simprocAttr];refine cb (aki aH) ?_;rintro lc bw ⟨YB,b4⟩;have iB:=ep.ext b4;simp +contextual only [c1.g,ep.g,iB.g,↓aj,aC,simprocAttr];refine cb (QK _ _ on bw) ?_;rintro x cM ⟨rfl,dD⟩;have tT:=iB.ext dD;simp +contextual only [c1.g,ep.g,iB.g,tT.g,↓aj,aC,simprocAttr];have H9:=(q7.ext b4).ext dD;refine cb (QK _ _ q7.one cM) ?_;rintro x gb ⟨rfl,gA⟩;have Hs:=tT.ext gA;have DU:=H9.ext gA;obtain ⟨ij,h6,jB,YA⟩:=F5 (F:=Any) (size:=5) (h:=gb) (ds:=LL.enc) (mC:=I1.enc) (cs:=[.int .i64 16,.int .i64 0,.int .i64 0,.str [78,105,108],.bj]) (oq:=[.int .i64 16,.int .i64 0,.int .i64 0,.str [67,111,110,115],.slice (az ad.next) 0 1 1]) rfl rfl (zF (by decide) zs) (zF (l:=[uk]) (by decide) DU) trivial;simp only [arR,asb] at h6;have Ht:=Hs.ext jB;simp +contextual only [c1.g,ep.g,iB.g,tT.g,Hs.g,Ht.g,h6,↓aj,aC,simprocAttr];refine cb (LQ 5 ij) ?_;rintro x uB ⟨rfl,Rm⟩;simp +contextual only [↓aj,aC,simprocAttr];refine cb (C_ 0 _ on uB) ?_;rintro x yC ⟨rfl,acN⟩;obtain ⟨aem,VU,acB,N3⟩:=F5 (F:=Any) (size:=3) (h:=yC) (ds:=t5.enc) (mC:=t0.enc) (cs:=[.int .i64 1,.int .i64 5,.bj]) (oq:=[.int .i64 2,.int .i64 0,.bj]) rfl rfl (vx zr) (vx zr) trivial;simp only [arR,asb] at VU;simp +contextual only [VU,↓aj,aC,simprocAttr];refine cb (C_ 0 _ N3.one aem) ?_;rintro x Sh ⟨rfl,Rd⟩;obtain ⟨Jv,amA,Be,N4⟩:=u7 (F:=Any) (size:=3) (h:=Sh) (ds:=C8.enc) (cs:=[.int .i64 2,.int .i64 0,.slice (az yC.next) 0 2 2]) rfl (vx (l:=[t5,t0]) (N3.ext Rd)) trivial;simp +contextual only [amA,↓aj,aC,simprocAttr];refine cb (C_ 1 _ N4.one Jv) ?_;rintro x Si ⟨rfl,Rf⟩;have XS:=((dD.trans gA).trans jB);have Ds:=((((Rm.trans acN).trans acB).trans Rd).trans Be).trans Rf;have YV:bM Any Si z1.enc (e_ z1 (.slice (az Sh.next) 0 1 1)):=vx (l:=[C8]) (N4.ext Rf);have hd:=HC Lq [LL,I1] (by decide) z1 lc _ _ Si (YB.ext (XS.trans Ds)) (YA.ext Ds) YV;rw [ac9] at hd;simp only [e_,bZ.k,bZ.n] at hd;simp +contextual only [↓aj,aC,simprocAttr];refine cb hd ?_;rintro x Jw ⟨rfl,Rh⟩;have XE:=((Ht.ext Ds).ext Rh);simp +contextual only [c1.g,ep.g,iB.g,tT.g,Hs.g,Ht.g,XE.g,↓aj,aC,simprocAttr];obtain ⟨E3,amB,acC,Yx⟩:=u7 (F:=Any) (size:=5) (h:=Jw) (ds:=uk.enc) (cs:=[.int .i64 10,.int .i64 0,.int .i64 0,.str [],.bj]) rfl (zF (by decide) zs) trivial;simp +contextual only [amB,↓aj,aC,simprocAttr];refine cb (Hx [] [uk] (by decide) .bj _ E3 Gg Yx) ?_;rintro x hc ⟨d,rfl,N5,acD⟩;rw [RE,arz rfl] at N5;rw [RE];simp +contextual only [↓aj,aC,simprocAttr];refine cb (LQ 3 hc) ?_;rintro x Sj ⟨rfl,Ri⟩;have YR:bM Any Sj t3.enc [.int .i64 1,.int .i64 3,.bj]:=vx zr;have d':=MZ (ie [] [uk]) t3 d _ Sj (N5.ext Ri) YR;rw [ac'] at d';simp only [Hm] at d';simp +contextual only [↓aj,aC,simprocAttr];refine cb d' ?_;rintro x aen ⟨rfl,acE⟩;simp +contextual only [↓aj,aC,simprocAttr];refine cb (Hx [] [] (by decide) .bj .bj aen Gg zs) ?_;rintro x Sk ⟨d2,rfl,H',acF⟩;rw [RF,arz rfl,ac_] at H';rw [RF];simp +contextual only [↓aj,aC,simprocAttr];refine cb (LQ 3 Sk) ?_;rintro x Sm ⟨rfl,Rj⟩;have YS:bM Any Sm t3.enc [.int .i64 1,.int .i64 3,.bj]:=vx zr;have JC:=MZ [qB] t3 d2 _ Sm (H'.ext Rj) YS;rw [ada] at JC;simp only [Hm] at JC;simp +contextual only [↓aj,aC,simprocAttr];refine cb JC ?_;rintro x aep ⟨rfl,acG⟩;simp +contextual only [↓aj,aC,simprocAttr];refine cb (L9 12 aep) ?_;rintro x aeq ⟨rfl,acH⟩;obtain ⟨aer,amC,acI,Yy⟩:=u7 (F:=Any) (size:=5) (h:=aeq) (ds:=za.enc) (cs:=[.int .i64 12,.int .i64 0,.int .i64 0,.str [],.bj]) rfl (zF (by decide) zs) trivial;simp +contextual only [amC,↓aj,aC,simprocAttr];refine cb (C_ 0 _ on aer) ?_;rintro x Sn ⟨rfl,Rk⟩;have YT:bM Any Sn t0.enc (e_ t0 .bj):=vx zr;have By:=HC [] [za] (by decide) t0 .bj _ _ Sn Gg (Yy.ext Rk) YT;rw [adb] at By;simp only [e_,bZ.k,bZ.n] at By;simp +contextual only [↓aj,aC,simprocAttr];refine cb By ?_;rintro x aes ⟨rfl,acJ⟩;simp +contextual only [↓aj,aC,simprocAttr];refine cb (L9 12 aes) ?_;rintro x aet ⟨rfl,acK⟩;obtain ⟨Bu,amD,acL,Yz⟩:=u7 (F:=Any) (size:=5) (h:=aet) (ds:=za.enc) (cs:=[.int .i64 12,.int .i64 0,.int .i64 0,.str [],.bj]) rfl (zF (by decide) zs) trivial;simp +contextual only [amD,↓aj,aC,simprocAttr];refine cb (C_ 0 _ on Bu) ?_;rintro x So ⟨rfl,Rl⟩;have YU:bM Any So t0.enc (e_ t0 .bj):=vx zr;have jF:=N7 [] [za] (by decide) t0 .bj _ _ So Gg (Yz.ext Rl) YU;rw [ade] at jF;simp only [e_,bZ.k,bZ.n] at jF;simp +contextual only [↓aj,aC,simprocAttr];refine cb jF ?_;rintro x ap3 ⟨rfl,acM⟩;simp +contextual only [↓aj,aC,simprocAttr];refine cb (ZE _) ?_;rintro x wm ⟨rfl,rfl⟩;have Nx:Ext Sk wm:=((((((((Rj.trans acG).trans acH).trans acI).trans Rk).trans acJ).trans acK).trans acL).trans Rl).trans acM;have N6:=H'.ext Nx;have ab6:=N6.len;obtain ⟨OA,LS,aq9,i1,i2,i3,i4,i5⟩:=N6.at (k:=.i64) (i:=0) (by decide);have Tz:fX 7 d2 (.int .i64 0)=some (.ptr OA (LS+0 * 7)):=i1;obtain ⟨iZ,rfl,_⟩:=cW.open (c:=qB) i2;have kx:gq (wm.get OA) (LS+0 * 7)=some (.int .i64 3):=i5 wm (Ext.refl _) 0 (by decide);generalize LS+0 * 7=aqS at Tz kx;have ab7:ht d2=some (.int .i64 1):=ab6;simp +contextual only [ab7,Tz,kx,↓aj,aC,simprocAttr];exact (((((((((((((((((((aJ.trans aR).trans bP).trans b4).trans dD).trans gA).trans jB).trans Ds).trans Rh).trans acC).trans acD).trans Ri).trans acE).trans acF).trans Nx))))))
theorem acZ {cs:List bz} {l:List aL} (h:gC cs l=0) {p:aL} (ag:p ∈ l):gC cs [p]=0:=by
 obtain ⟨a,b⟩:=wg h;have aa:gk cs (b8 l) [p]=true:=WW _ _ l (fun x ak _=>by rw [asl] at ak;rw [ak];exact ag) b;have hle:b8 [p]<=b8 l:=by have:=nb ag;simp only [b8];omega
 have ad:=MS (b8 [p]) (b8 l) [p] hle aa;have aH:∀q ∈ [p],jk q=true:=fun q ay=>by rw [asl] at ay;rw [ay];exact a p ag
 rw [RA (yp h) aH,arz ad]
theorem QA (cs:List bz):∀(l:List aL) (i:Nat) (aw:i<l.length),hV cs (l.take (i+1))=hV cs (l.take i) + (fm cs l[i] []).length
 | p::l,0,_=>by simp [hV]
 | p::l,i+1,aw=>by have:=QA cs l i (by simpa using aw);simp only [asA,hV,List.getElem_cons_succ];omega
theorem IW {cs:List bz}:∀(l:List aL),(∀p ∈ l,gC cs [p]=0)->hV cs l<=b8 l
 | [],_=>asP _
 | p::l,h=>by have aa:=aoh cs p;unfold vv at aa;rw [arz (h p ar1)] at aa;have:=IW l fun q ay=>h q (arT _ ay);simp only [hV,b8];omega
theorem abH {cs:List bz} {l:List aL} (h:∀p ∈ l,gC cs [p]=0) (i:Nat):hV cs (l.take i)<=b8 l:=by
 refine asq (IW _ fun p ag=>h p (List.mem_of_mem_take ag)) ?_;have:b8 l=b8 (l.take i)+b8 (l.drop i):=by rw [<-zD,asI]
 omega
theorem adu {cs:List bz} {l:List aL} {t:bZ} (h:(nw cs l t).2=0):(iy cs l t).2=0/\(iy cs l t).1=true/\(nw cs l t).1=oy cs t 0 l:=by
 unfold nw at h ⊢;by_cases z:(iy cs l t).2=0
 . rw [arz z] at h ⊢;cases b:(iy cs l t).1 with
   | true=>exact ⟨z,rfl,by simp⟩
   | false=>rw [b] at h;simp at h
 . rw [arw z] at h;exact absurd h z
theorem aca (cs:List bz) (l:List aL) (aU:b8 l<=100000000) (t:bZ) (dC v:V) (gx:List V) (h:ae) (iD:bY Any h 5 (cs.map bz.enc) dC) (L:bY Any h 5 (l.map aL.enc) v) (Y:bM Any h t.enc gx):cR Tryz.prog 6 [dC,v,.agg gx] h fun x ab=>x=.bool true:=by
 obtain ⟨cm,rfl,np⟩:=bZ.open Y;have fS:=np.one;have ax:=L.len;rw [List.length_map] at ax;have dh:=nc l;obtain ⟨aa,al,aJ,lW⟩:=fq h [.int .i64 t.k,.int .i64 t.n,cm];refine aaX.z rfl (cp ?_);unfold uq;simp +contextual only [al,fS.1,fS.2.1,fS.2.2,↓aj,aC,simprocAttr];refine cb (ajG aa) ?_;rintro x ad ⟨rfl,aR⟩;have dv:=lW.ext aR;have bC:=aJ.trans aR;simp +contextual only [dv.g,fS.1,fS.2.1,fS.2.2,↓aj,aC,simprocAttr];refine cb (ZO cs l t dC v _ ad (iD.ext bC) (L.ext bC) (Y.ext bC)) ?_;rintro x aH ⟨⟨b,rfl⟩,bP⟩;have lX:=dv.ext bP;have e':=bC.trans bP;cases b with
 | true=>simp +contextual only [↓aj,aC,simprocAttr]
 | false=>
 simp +contextual only [↓aj,aC,simprocAttr];refine cb (Hx cs l aU dC v aH (iD.ext e') (L.ext e')) ?_;rintro x bw ⟨d,rfl,D,b4⟩;have ll:=lX.ext b4;have lZ:=e'.trans b4;simp +contextual only [↓aj,aC,simprocAttr];refine cb (CT cs l (by omega) dC v bw (iD.ext lZ) (L.ext lZ)) ?_;rintro x cM ⟨rfl,dD⟩;have mq:=ll.ext dD;have n2:=lZ.trans dD;rcases Bl cs l with z | z
 rotate_left
 . rw [z,arw (by decide)] at D;have dl:=D.len;have acm:ht d=some (.int .i64 0):=dl;rw [z];simp +contextual only [acm,↓aj,aC,simprocAttr];refine cb (CT cs l (by omega) dC v cM (iD.ext n2) (L.ext n2)) ?_;rintro x gb ⟨rfl,gA⟩;rw [z];simp +contextual only [↓aj,aC,simprocAttr]
 rw [z,arz rfl] at D;have Jx:∀p ∈ l,gC cs [p]=0:=fun p ag=>acZ z ag;have n0:=D.ext dD;have dl:=n0.len;rw [arC] at dl;have apN:=Er cs l;have apJ:=IW l Jx;rw [z];simp +contextual only [ax,↓aj,aC,simprocAttr];refine fR (fun r g=>r 0=dC/\r 1=v/\r 5=.ptr (az h.next) 0/\r 7=.bool true/\r 8=d/\Ext cM g/\∃i:Nat,r 11=.int .i64 i/\i<=l.length/\r 10=.int .i64 (hV cs (l.take i))) (fun r g=>l.length - (r 11).toN) ?_ ?_
 . exact ⟨by simp only [↓aj,bD,simprocAttr],by simp only [↓aj,bD,simprocAttr],by simp only [↓aj,bD,simprocAttr],by simp only [↓aj,bD,simprocAttr],by simp only [↓aj,bD,simprocAttr],Ext.refl cM,0,by simp only [↓aj,bD,simprocAttr]<;>rfl,by omega,by simp only [↓aj,bD,simprocAttr]<;>rfl⟩
 rintro r g ⟨a_,bH,bK,cy,b',ei,i,gj,aw,dG⟩;unfold P6;have ln:=n2.trans ei;have Ai:=mq.ext ei;by_cases aS:i<l.length
 . have g0:((i:Int) < (l.length:Int))=True:=arD (by omega);obtain ⟨b,off,js,cd,oi,oj,ld,_,_,_⟩:=aL.nJ L.qC (k:=.i64) aS;have d5:=ld g ln;have ok:=oj.one;have dM:=hj aS (by omega);have dc:l[i] ∈ l:=arY aS;have uT:=nb dc;have ae6:=QA cs l i aS;have fQ:=abH Jx (i+1);have bk:=Jx _ dc;have dI:vv cs l[i]=fm cs l[i] []:=by unfold vv;rw [arz bk]
   have aoP:IntKind.i64.wrap ((hV cs (l.take i):Int) + ((fm cs l[i] []).length:Int))=(hV cs (l.take (i+1)):Int):=by rw [ae6,Int.natCast_add];exact wrap_i64 (by omega) (by omega)
   simp +contextual only [a_,bH,bK,cy,b',dG,gj,ax,g0,cd,d5,ok.1,ok.2.1,ok.2.2,↓aj,aC,simprocAttr];have call9:=amr cs l[i] (by omega) dC js g (iD.ext ln) ((oi.ext ln).gy fun b z=>ln.bL z);simp only [dq] at call9;refine cb call9 ?_;rintro x g2 ⟨vA,rfl,AO,gA⟩;obtain ⟨us,a4,ul,hT,apM⟩:=AO.ex;have Xm:=a4.v.len;rw [dI] at Xm;rw [bk];simp +contextual only [a_,bH,bK,cy,b',dG,gj,Xm,dM,aoP,↓aj,aC,simprocAttr];exact ⟨⟨ei.trans gA,i+1,rfl,aS,rfl⟩,by omega⟩
 . have g0:((i:Int) < (l.length:Int))=False:=arx (by omega);obtain rfl:i=l.length:=by omega
   rw [asZ] at dG;have XN:=n0.ext ei;have bX:IntKind.i64.wrap ((hV cs l:Int) + (l.length:Int))=((hV cs l+l.length:Nat):Int):=by rw [Int.natCast_add];exact wrap_i64 (by omega) (by omega)
   have bA:IntKind.i64.wrap (((hV cs l+l.length:Nat):Int)+1)=((hV cs l+l.length+1:Nat):Int):=by rw [Int.natCast_add (hV cs l+l.length) 1];exact wrap_i64 (by omega) (by omega)
   have f1:(((ie cs l).length:Int)<1)=False:=arx (by omega);have f2:(((hV cs l+l.length+1:Nat):Int) < ((ie cs l).length:Int))=False:=arx (by omega);simp +contextual only [a_,bH,bK,cy,b',dG,gj,ax,g0,dl,bX,bA,f1,f2,↓aj,aC,simprocAttr];refine fR (fun a7 dz=>a7 0=dC/\a7 1=v/\a7 5=.ptr (az h.next) 0/\a7 7=.bool true/\a7 8=d/\a7 10=.int .i64 (hV cs l)/\Ext g dz/\∃j:Nat,a7 14=.int .i64 j/\j<=(ie cs l).length) (fun r g=>(ie cs l).length - (r 14).toN) ?_ ?_
   . exact ⟨by simp only [a_,↓aj,bD,simprocAttr],by simp only [bH,↓aj,bD,simprocAttr],by simp only [bK,↓aj,bD,simprocAttr],by simp only [cy,↓aj,bD,simprocAttr],by simp only [b',↓aj,bD,simprocAttr],by simp only [dG,↓aj,bD,simprocAttr],Ext.refl g,0,by simp only [↓aj,bD,simprocAttr]<;>rfl,by omega⟩
   clear a_ bH bK cy b' dG gj;rintro a7 dz ⟨a_,bH,bK,cy,b',dG,jC,j,GC,bp⟩;unfold P7;have Dt:=ln.trans jC;have Np:=Ai.ext jC;have Nv:=XN.ext jC;by_cases sY:j < (ie cs l).length
   . have sQ:((j:Int) < ((ie cs l).length:Int))=True:=arD (by omega);obtain ⟨b,off,iZ,cd,sl,ld⟩:=cW.at Nv (k:=.i64) sY;have fK:=ld dz (Ext.refl dz);have gw:=sl.one;have vB:=hj sY (by omega);have Br:=QU cs l j _ (ars sY);generalize (ie cs l)[j]=c at cd ld fK sl Br;obtain ⟨g1,aK,ow,ep⟩:=fy dz [.int .i64 0,.int .i64 0,.bj,.bool false,.int .i64 0,.int .i64 0,.int .i64 0] [.int .i64 c.kind,.int .i64 c.row,iZ,.bool c.num,.int .i64 c.n,.int .i64 c.yes,.int .i64 c.no];rcases Br with ⟨b3,du,e3,y3,y4⟩ | ⟨b5,du,e3⟩ | dW
     . have bN:=arD b3;have z2:=arx (show ¬c.kind=2 by omega);have Nf:=arx (show ¬c.yes<=(j:Int) by omega);have Ng:=arx (show ¬c.no<=(j:Int) by omega);have apg:=arx (show ¬((ie cs l).length:Int)<=c.yes by omega);have Hr:=arx (show ¬((ie cs l).length:Int)<=c.no by omega);simp +contextual only [a_,bH,bK,cy,b',dG,GC,sQ,dl,cd,fK,aK,ep.g,gw.1,gw.2.1,bN,z2,Nf,Ng,apg,Hr,vB,↓aj,aC,simprocAttr];exact ⟨⟨jC.trans ow,j+1,rfl,sY⟩,by omega⟩
     . have bN:=arx (show ¬c.kind=1 by omega);have z2:=arD b5;have Nf:=arx (show ¬c.row<0 by omega);have Ng:=arx (show ¬(l.length:Int)<=c.row by omega);simp +contextual only [a_,bH,bK,cy,b',dG,GC,sQ,dl,ax,cd,fK,aK,ep.g,gw.1,gw.2.1,bN,z2,Nf,Ng,vB,↓aj,aC,simprocAttr];exact ⟨⟨jC.trans ow,j+1,rfl,sY⟩,by omega⟩
     . have bN:=arx (show ¬c.kind=1 by omega);have z2:=arx (show ¬c.kind=2 by omega);simp +contextual only [a_,bH,bK,cy,b',dG,GC,sQ,dl,cd,fK,aK,ep.g,gw.1,gw.2.1,bN,z2,vB,↓aj,aC,simprocAttr];exact ⟨⟨jC.trans ow,j+1,rfl,sY⟩,by omega⟩
   . have sQ:((j:Int) < ((ie cs l).length:Int))=False:=arx (by omega);simp +contextual only [a_,bH,bK,cy,b',dG,GC,sQ,dl,Np.g,fS.1,fS.2.1,fS.2.2,↓aj,aC,simprocAttr];have hd:=HC cs l aU t dC v cm dz (iD.ext Dt) (L.ext Dt) (Y.ext Dt);simp only [e_] at hd;refine cb hd ?_;rintro x g2 ⟨rfl,jB⟩;have Hv:=Np.ext jB;have Hz:=Dt.trans jB;by_cases av:(nw cs l t).2=0
     . obtain ⟨s1,s2,iO⟩:=adu av;obtain ⟨k,aB,afr⟩:=ab_ (by omega) s1 s2;rw [av,iO];simp +contextual only [a_,bH,bK,cy,b',dG,Hv.g,fS.1,fS.2.1,fS.2.2,↓aj,aC,simprocAttr];have d':=MZ (ie cs l) t d _ g2 (Nv.ext jB) (Y.ext Hz);rw [afr] at d';simp only [Hm] at d';refine cb d' ?_;rintro x g3 ⟨rfl,Rm⟩;have gn:((k:Int)<=(hV cs l:Int))=True:=arD (by omega);simp +contextual only [cy,dG,gn,↓aj,aC,simprocAttr]
     . have nz:=arx av;simp +contextual only [a_,bH,bK,cy,b',dG,nz,↓aj,aC,simprocAttr]
end
end Go.Proofs.YtgmhjhgoamjeeaaGreatDoor
