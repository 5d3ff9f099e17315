/- The chapter's functions, walked by the abstract machine: plain lemmas, no condition. Printed by a program from longer texts: names made short. -/
import Derived.Test.YtahfljfikfkpnaaGreatDoorM10
import Derived.Test.YtahfljfikfkpnaaGreatDoorM11
import Derived.Test.YtahfljfikfkpnaaGreatDoorM8
set_option linter.unusedSectionVars false
set_option linter.unusedSimpArgs false
set_option linter.unusedVariables false
set_option maxHeartbeats 64000000
noncomputable section
namespace Go.Proofs.YtahfljfikfkpnaaGreatDoor
section
open Go bf
section
variable {W:List aK} {ao aO:Nat} {h ab:ae} {d:Nat} {ws:List aK} {bB:V} {i:Nat}
theorem WN (s:List UInt8) (dW:List (List UInt8)) (ws:List aK):ue (s::dW) ws=(cl s ws||ue dW ws):=rfl
theorem WM (C:dY W ao aO h d ws bB i) (dW:List (List UInt8)) {cI:V} (L:fD h 1 cI dW.length (dW.map V.str)) (afK:dW.length<=1000):gm Tryz.prog 148 [.ptr (aE aO) 0,cI] h (.bool (ue dW ws)) h:=by
 refine n2 (aaa.z rfl (dw ?_));unfold Qu;simp only [L.len,↓ag,ak,simprocAttr];refine iV (fun r g=>g=h/\r 0=.ptr (aE aO) 0/\r 7=cI/\r 8=.int .i64 dW.length/\∃j:Nat,r 9=.int .i64 j/\j<=dW.length/\ue dW ws=ue (dW.drop j) ws) (fun r g=>dW.length - (r 9).toN) ?_ ?_
 . exact ⟨rfl,by simp only [↓ag,dv,simprocAttr],by simp only [↓ag,dv,simprocAttr],by simp only [↓ag,dv,simprocAttr],0,by simp only [↓ag,dv,simprocAttr]<;>rfl,aqZ _,rfl⟩
 rintro r g ⟨rfl,bZ,eM,e5,j,ly,bU,az⟩;unfold Qv;by_cases a':j<dW.length
 . have g0:((j:Int) < (dW.length:Int))=True:=aqO (by omega);obtain ⟨b,off,an,av⟩:=L.fy (k:=.i64) a';have aH:=av.hc (i:=j * 1) (by simp;omega);rw [arJ] at aH;have jA:=rA a' (by omega);have bh:dW.drop j=dW[j]::dW.drop (j+1):=aq0 a';have aM:dW[j * 1]'(by omega)=dW[j]:=by congr 1;omega
   simp only [bZ,eM,e5,ly,g0,an,aH,aM,↓ag,ak,simprocAttr];refine eo (Wx C dW[j]) ?_;cases bE:cl dW[j] ws with
   | true=>
     simp only [↓ag,ak,simprocAttr];rw [az,bh,WN,bE,Bool.true_or]
   | false=>
     simp only [bZ,eM,e5,ly,jA,↓ag,ak,simprocAttr];refine ⟨⟨j+1,rfl,a',?_⟩,by omega⟩;rw [az,bh,WN,bE,ar8]
 . have g0:((j:Int) < (dW.length:Int))=False:=aqx (by omega);have bh:dW.drop j=[]:=ara (by omega);rw [bh] at az;simp only [bZ,eM,e5,ly,g0,↓ag,ak,simprocAttr];exact az.symm
theorem PW (C:dY W ao aO h d ws bB i):e9 Tryz.prog 232 [.ptr (aE aO) 0] h fun x ab=>x=.bool (rR ws)/\Ext h ab:=by
 refine aav.z rfl (dw ?_);unfold QV;obtain ⟨U,an,aM,L,_⟩:=CE h 1 4 [.str jj,.str tH,.str lX,.str lW] rfl (by unfold top;omega);have cO:=C.ext aM;simp only [jj,tH,lX,lW] at an;simp only [an,↓ag,ak,simprocAttr];refine eo (WM cO [jj,tH,lX,lW] L (by simp)) ?_;cases aV:ue [jj,tH,lX,lW] ws with
 | true=>
   simp only [↓ag,ak,simprocAttr];exact ⟨by simp [rR,aV],aM⟩
 | false=>
   simp only [↓ag,ak,simprocAttr];refine eo (jJ cO 1) ?_;cases c1:eG 1 ws with
   | true=>
     simp only [↓ag,ak,simprocAttr];exact ⟨by simp [rR,aV,c1],aM⟩
   | false=>
     simp only [↓ag,ak,simprocAttr];refine eo (jJ cO 2) ?_;cases dF:eG 2 ws with
     | true=>
       simp only [↓ag,ak,simprocAttr];exact ⟨by simp [rR,aV,c1,dF],aM⟩
     | false=>
       simp only [↓ag,ak,simprocAttr];refine eo (jJ cO 3) ?_;cases iv:eG 3 ws with
       | true=>
         simp only [↓ag,ak,simprocAttr];exact ⟨by simp [rR,aV,c1,dF,iv],aM⟩
       | false=>
         simp only [↓ag,ak,simprocAttr];refine eo (jJ cO 4) ?_;simp only [↓ag,ak,simprocAttr];exact ⟨by simp [rR,aV,c1,dF,iv],aM⟩
def mH:Nat->List (List UInt8)
 | 0=>[ji,vU,vT]
 | 1=>[vV,kI]
 | 2=>[qq,vW,vr]
 | _=>[]
def ow (dW:List (List UInt8)) (ws:List aK):Option (List UInt8):=dW.find? fun s=>cl s ws
theorem adh (ws:List aK):ow (mH 0) ws=ss ws:=by unfold ow mH ss;cases U:cl ji ws<;>cases ad:cl vU ws<;>cases aC:cl vT ws<;>simp [List.find?,U,ad,aC]
theorem adi (ws:List aK):ow (mH 1) ws=su ws:=by unfold ow mH su;cases U:cl vV ws<;>cases ad:cl kI ws<;>simp [List.find?,U,ad]
theorem adj (ws:List aK):ow (mH 2) ws=sv ws:=by unfold ow mH sv;cases U:cl qq ws<;>cases ad:cl vW ws<;>cases aC:cl vr ws<;>simp [List.find?,U,ad,aC]
theorem ajI (h:ae):vy none h=.val (.map (aE h.next)) (h.new (.mp [] 0)):=rfl
theorem Ar {h ab:ae} {v:V} {n:Nat} {af:List V} {b:aN} (L:fD h 1 v n af) (m:Mod (fun p=>p=b) h ab) (ah:¬v.bd b):fD ab 1 v n af:=fD.mod m L fun p q e=>ah (by rw [<-show p=b from e];exact q)
theorem ai5 (h:ae) {k:Nat} (ar:k<=2):e9 Tryz.prog 224 [] h fun x ab=>Ext h ab/\∃cI,ln kO .cn false ab x (.int .i64 k)=some cI/\fD ab 1 cI (mH k).length ((mH k).map V.str)/\∀b,cI.bd b->h.next<=cM b:=by
 refine aaq.z rfl (dw ?_);unfold QQ;have cq:=qF.new (α:=V) id h;have aM:Ext h (h.new (.mp [] 0)):=(Ext.refl h).new _;generalize an:h.new (.mp [] 0)=U at cq aM;obtain ⟨ad,av,bh,yR,_,c6⟩:=CE U 1 3 ((mH 0).map V.str) rfl (by unfold top;omega);obtain ⟨aC,aH,b',m3,n3⟩:=(cq.ext bh).qy 0 (.slice (aE U.next) 0 3 3);obtain ⟨aX,bP,dA,rJ,_,mZ⟩:=CE aC 1 2 ((mH 1).map V.str) rfl (by unfold top;omega);obtain ⟨bF,cE,cr,m5,L2⟩:=(b'.ext dA).qy 1 (.slice (aE aC.next) 0 2 2);obtain ⟨bR,dG,gE,uI,_,s'⟩:=CE bF 1 3 ((mH 2).map V.str) rfl (by unfold top;omega);obtain ⟨cv,fX,ek,m7,n7⟩:=(cr.ext gE).qy 2 (.slice (aE bF.next) 0 3 3);simp only [mH,List.map,ji,vU,vT,vV,kI,qq,vW,vr] at av bP dG;have bY:=aM.next;have j7:=bh.next;have yH:=dA.next;have ap_:=gE.next
 have cV:=cq.cA;unfold Old at cV;rw [dj] at cV;have dR:∀(m n c:Nat),h.next<m->¬(V.slice (aE m) 0 n c).bd (aE h.next):=fun m n c aD q=>by
  have e:aE h.next=aE m:=q
  rw [ns] at e;omega
 have e8:=dR U.next 3 3 (by omega)
 have y3:=dR aC.next 2 2 (by omega)
 have OI:=dR bF.next 3 3 (by omega)
 have N6:∀{h ab:ae} {v:V} {n:Nat} {af:List V},fD h 1 v n af->Ext h ab->fD ab 1 v n af:=fun L e=>fD.mod (e.mod (fun _=>False)) L (fun _ _ q=>q);have X':=Ar (N6 (Ar (N6 (Ar yR m3 e8) dA) m5 e8) gE) m7 e8;have Yb:=Ar (N6 (Ar rJ m5 y3) gE) m7 y3;have Yd:=Ar uI m7 OI;have aol:Ext h cv:=by have b7:=aM.trans bh;have a2:=b7.oP m3 (fun b q=>by rw [show b=aE h.next from q,dj];omega);have a3:=(a2.trans dA).oP m5 (fun b q=>by rw [show b=aE h.next from q,dj];omega);exact (a3.trans gE).oP m7 (fun b q=>by rw [show b=aE h.next from q,dj];omega)
 simp only [id_eq] at aH cE fX;simp only [ajI,an,av,aH,bP,cE,dG,fX,od.eq,↓ag,ak,simprocAttr];refine ⟨aol,?_⟩
 match k,ar with
 | 0,_=>exact ⟨_,(ek.look 0 .cn false).trans rfl,X',fun b q=>by rw [c6 b q,dj];omega⟩
 | 1,_=>exact ⟨_,(ek.look 1 .cn false).trans rfl,Yb,fun b q=>by rw [mZ b q,dj];omega⟩
 | 2,_=>exact ⟨_,(ek.look 2 .cn false).trans rfl,Yd,fun b q=>by rw [s' b q,dj];omega⟩
theorem adk (s:List UInt8) (dW:List (List UInt8)) (ws:List aK):ow (s::dW) ws=if cl s ws then some s else ow dW ws:=by unfold ow;rw [List.find?_cons];cases cl s ws<;>rfl
theorem MB (C:dY W ao aO h d ws bB i) {k:Nat} (ar:k<=2):e9 Tryz.prog 208 [.ptr (aE aO) 0,.int .i64 k] h fun x ab=>x=.tuple [.str ((ow (mH k) ws).getD []),.bool (ow (mH k) ws).isSome]/\Mod (cb aO) h ab/\∃hb,dY W ao aO ab d (if (ow (mH k) ws).isSome then ws.tail else ws) bB hb:=by
 refine aan.z rfl (dw ?_);unfold c208;simp only [↓ag,ak,simprocAttr];refine cT (ai5 h ar) ?_;rintro x U ⟨aM,cI,an,L,tr⟩;have cO:=C.ext aM;have ae':(mH k).length<=3:=by
  match k,ar with
  | 0,_=>decide
  | 1,_=>decide
  | 2,_=>decide
 generalize afK:mH k=dW at L ae';simp only [od.eq,an,L.len,↓ag,ak,simprocAttr];refine iV (fun r g=>r 0=.ptr (aE aO) 0/\r 10=cI/\r 11=.int .i64 dW.length/\Mod (cb aO) U g/\(∃hb,dY W ao aO g d ws bB hb)/\∃j:Nat,r 12=.int .i64 j/\j<=dW.length/\ow dW ws=ow (dW.drop j) ws) (fun r g=>dW.length - (r 12).toN) ?_ ?_
 . exact ⟨by simp only [↓ag,dv,simprocAttr],by simp only [↓ag,dv,simprocAttr],by simp only [↓ag,dv,simprocAttr],Mod.refl _ _,⟨_,cO⟩,0,by simp only [↓ag,dv,simprocAttr]<;>rfl,aqZ _,rfl⟩
 rintro r g ⟨bZ,kl,n5,m,⟨hb,OX⟩,j,Nu,bU,az⟩;unfold QN;by_cases a':j<dW.length
 . have g0:((j:Int) < (dW.length:Int))=True:=aqO (by omega);have Li:∀b,cI.bd b->¬cb aO b:=fun b q z=>by
    have:=tr b q;rw [show b=aE aO from z,dj] at this;have:=C.at_.lt;omega
   have Yg:fD g 1 cI dW.length (dW.map V.str):=fD.mod m L Li;obtain ⟨b,off,an,av⟩:=Yg.fy (k:=.i64) a';have aH:=av.hc (i:=j * 1) (by simp;omega);rw [arJ] at aH;have jA:=rA a' (by omega);have bh:dW.drop j=dW[j]::dW.drop (j+1):=aq0 a';have acx:dW[j * 1]'(by omega)=dW[j]:=by congr 1;omega
   simp only [bZ,kl,n5,Nu,g0,an,aH,acx,↓ag,ak,simprocAttr];refine cT (gQ OX dW[j]) ?_;rintro x g1 ⟨rfl,m1,i2,cC⟩;rw [az,bh,adk];cases bE:cl dW[j] ws with
   | true=>
     rw [bE] at cC;simp only [↓ag,ak,simprocAttr];exact ⟨(aM.mod _).trans (m.trans m1),i2,cC⟩
   | false=>
     rw [bE] at cC;simp only [bZ,kl,n5,Nu,jA,↓ag,ak,simprocAttr];exact ⟨⟨m.trans m1,⟨i2,cC⟩,j+1,rfl,a',rfl⟩,by omega⟩
 . have g0:((j:Int) < (dW.length:Int))=False:=aqx (by omega);have bh:dW.drop j=[]:=ara (by omega);rw [bh] at az;simp only [bZ,kl,n5,Nu,g0,↓ag,ak,simprocAttr];rw [az];exact ⟨rfl,(aM.mod _).trans m,hb,OX⟩
end
section
variable {α β:Type}
theorem ZL (x:α) (f:α->cP β):(Except.ok x >>= f)=f x:=rfl
theorem ZK (e:Int × Nat) (f:α->cP β):((Except.error e:cP α) >>= f)=.error e:=rfl
theorem ZM (x:α):(pure x:cP α)=.ok x:=rfl
theorem ajv (x:α) (f:α->β):(Except.ok x:cP α).map f=.ok (f x):=rfl
theorem aju (e:Int × Nat) (f:α->β):(Except.error e:cP α).map f=.error e:=rfl
set_option linter.defProp false in
def bt:=And.intro @ZL<|And.intro @ZK<|And.intro @ZM<|And.intro @ajv @aju
end
theorem iQ {xs:List V} {s:V}:wW (.func 104 []) xs s=some (.tuple (.func 104 (xs++[])::s.list)):=R8 (show Nat.beq 104 dx=false by decide)
theorem bN {aO n:Nat} (h:aO<n):¬cb aO (aE n):=fun z=>by have OK:aE n=aE aO:=z;rw [ns] at OK;omega
theorem ajK {M V:aN->Prop} {aV h ab:ae} (a:Mod M aV h) (m:Mod V h ab) (EZ:∀b,V b->aV.next<=cM b):Mod M aV ab:=
 ⟨aqn a.next m.next,fun b ah q=>(m.get b (a.cA ah) fun z=>by have:=EZ b z;unfold Old at ah;omega).trans (a.get b ah q)⟩
theorem qT {B n:Nat} (h:B<=n):Fr B (aE n):=by show B<=cM (aE n);rw [dj];exact h
theorem UN {F:aN->Prop} {h:ae} {size:Nat} {d1 d2 d3:List D} {bS cJ c3:List V} (cp:bS.length=size) (z2:cJ.length=size) (z3:c3.length=size) (H1:dX F h d1 bS) (ey:dX F h d2 cJ) (AN:dX F h d3 c3) (lL:F (aE h.next)):∃g,h.new (.bz (bS++(cJ++c3)) 0 false)=g/\Ext h g/\e1 F g size [d1,d2,d3] (.slice (aE h.next) 0 3 3):=by
 have:=LP (F:=F) (h:=h) (size:=size) [d1,d2,d3] [bS,cJ,c3] rfl (fun c q=>by
  simp only [aqN,List.not_mem_nil,or_false] at q;rcases q with rfl | rfl | rfl
  . exact cp
  . exact z2
  . exact z3) (fun i e u a b=>by
  match i with
  | 0=>simp only [aqz,aqj] at a b;subst a b;exact H1
  | 1=>simp only [aq6,aqz,aqj] at a b;subst a b;exact ey
  | 2=>simp only [aq6,aqz,aqj] at a b;subst a b;exact AN
  | i+3=>simp at a) lL (by show _<=top;unfold top;simp)
 simpa using this
theorem qo {F:aN->Prop} {h:ae} {v:V} {l:List aR} {es:List (List D)} (k n a:Int) (s:List UInt8) (L:e1 F h 5 es v) (he:es=l.map aR.enc) (az:s.length<=top):ee F h (.mk k n a s l) v:=⟨by subst he;exact L,az⟩
theorem le_top {s:List UInt8} (h:s.length<=100000):s.length<=top:=by unfold top;omega
section
variable {B:Nat} {G F:aN->Prop} {h ab:ae} {size:Nat} {es jG:List (List D)} {v w:V}
theorem SO {F:aN->Prop}:∀(us:List (List V)) (es:List (List D)),us.length=es.length->(∀(i:Nat) (e:List D) (u:List V),es[i]? =some e->us[i]? =some u->dX F h e u)->fs us.flatten=true
 | [],_,_,_=>rfl
 | u::us,[],h,_=>by simp at h
 | u::us,e::es,aD,H=>by
   have U:=(H 0 e u rfl rfl).fs;have ad:=SO us es (by simpa using aD) fun i e u a b=>H (i+1) e u (by simpa using a) (by simpa using b);have app:∀a b:List V,fs a=true->fs b=true->fs (a++b)=true:=by
    intro a
    induction a with
    | nil=>intro b _ q;exact q
    | cons x a aT=>
      intro b an av;simp only [fs,aqi,aqP] at an ⊢;exact ⟨an.1,aT b an.2 av⟩
   rw [arq];exact app _ _ U ad
theorem ak6 (H:ec B G h size es v) (L:e1 F h size jG w) (lL:∀b,F b->G b/\¬v.bd b) (cX:1<=size) (cU:B<=h.next) (hlen:(es.length+jG.length) * size<=top):
 ∃ej ab,ml size v w h=.val ej ab/\ec B G ab size (es++jG) ej/\Mod v.bd h ab/\∀b,ej.bd b->v.bd b\/h.next<=cM b:=by
 obtain ⟨us,a,b,c,d⟩:=H.ex;obtain ⟨Xi,a2,c6,cJ,d2⟩:=L.ex;obtain ⟨ej,ab,an,av,aH,bP⟩:=PN cX a a2 cU hlen (SO Xi jG c6 d2)
 have gy:∀b,(G b/\¬v.bd b)->Old h b->¬v.bd b/\(G b/\¬ej.bd b):=fun b q o=>⟨q.2,q.1,fun z=>by
  rcases bP b z with z | z
  . exact q.2 z
  . unfold Old at o;omega⟩
 refine ⟨ej,ab,an,⟨us++Xi,?_,by simp [b,c6],?_,?_⟩,aH,bP⟩
 . rw [aqC,asc];exact av
 . intro u hu;rcases arH.1 hu with hu | hu
   . exact c u hu
   . exact cJ u hu
 . intro i e u aM bh;by_cases aG:i<es.length
   . rw [aqG aG] at aM;rw [aqG (by omega)] at bh;exact (d i e u aM bh).mod aH gy
   . rw [aqH (by omega)] at aM;rw [aqH (by omega),b] at bh;exact (d2 _ e u aM bh).mod aH fun b q o=>gy b (lL b q) o
theorem ak' {ds:List D} {cs:List V} (bK:cs.length=size) (H:dX F h ds cs):∃g,h.new (.bz cs 0 false)=g/\Ext h g/\ec h.next (fun b=>F b/\Old h b) g size [ds] (.slice (aE h.next) 0 1 1):=by
 obtain ⟨g,an,av,aH⟩:=F6 h size 1 cs (by omega) (by unfold top;omega);refine ⟨g,an,av,⟨[cs],by simpa using aH,rfl,fun u hu=>by rw [aqV] at hu;subst hu;exact bK,fun i e u a b=>?_⟩⟩;cases i with
 | zero=>
   simp only [aqz,aqj] at a b;subst a b;refine (H.cA.ext av).fQ fun b q=>⟨q,fun z=>?_⟩;exact dh (aqh _) (by rw [<-show b=aE h.next from z];exact q.2)
 | succ i=>simp at a
theorem mM {aO kL:Nat} (O:ec B (Fr kL) h size es v) (m:Mod (cb aO) h ab) (U:aO<B) (ad:aO<kL):ec B (Fr kL) ab size es v:=
 O.mod m (fun b q z=>by have:=O.base q;rw [show b=aE aO from z,dj] at this;omega) fun b q _ _ z=>by unfold Fr at q;rw [show b=aE aO from z,dj] at q;omega
theorem dY.own {W:List aK} {ao aO d hH i hb:Nat} {ws bw:List aK} {bB:V} {H jC:ae} {M:aN->Prop} (c:dY W ao aO h d ws bB i) (fl:dY W ao aO H hH bw bB hb) (m:Mod M H jC) (dt:∀b,M b->h.next<=cM b):dY W ao aO jC hH bw bB hb:=
 ⟨fl.at_.mod m fun z=>by have:=dt _ z;rw [dj] at this;have:=c.at_.lt;omega,fl.e6.mod m fun b q z=>by have:=dt _ z;have:=c.e6.cA q;unfold Old at this;omega,fl.ap,fl.le,fl.eq,fl.uQ,fl.wX,fl.jy,fl.num⟩
end
theorem GH (s k:Bool):V.bif s (.bool true) (V.opt (!s) (.bool k))=.bool (s||k):=by cases s<;>rfl
theorem akN {ws:List aK} {s:List UInt8} (h:ss ws=some s):s.length<=top:=by
 unfold ss at h
 repeat' split at h
 all_goals first
  | (cases h;exact le_top (by decide))
  | cases h
theorem akQ {ws:List aK} {s:List UInt8} (h:su ws=some s):s.length<=top:=by
 unfold su at h
 repeat' split at h
 all_goals first
  | (cases h;exact le_top (by decide))
  | cases h
theorem akS {ws:List aK} {s:List UInt8} (h:sv ws=some s):s.length<=top:=by
 unfold sv at h
 repeat' split at h
 all_goals first
  | (cases h;exact le_top (by decide))
  | cases h
def ga (W:List aK) (ao aO f:Nat) (args:List V) (d:Nat) (ws:List aK) (res:cP (aR × List aK)):Prop:=
 ∀(h:ae) (bB:V) (i:Nat),dY W ao aO h d ws bB i->res≠.error b3->
  jB Tryz.prog f (.ptr (aE aO) 0::args) h (fun x ab=>∃p bw v hb,res=.ok (p,bw)/\x=.agg (vcs p v)/\ee (Fr h.next) ab p v/\Mod (cb aO) h ab/\dY W ao aO ab d bw bB hb) (s4 W ao aO h res)
def A5 (W:List aK) (ao aO f:Nat) (args:List V) (d:Nat) (ws:List aK) (res:cP (List aR × List aK)):Prop:=
 ∀(h:ae) (bB:V) (i:Nat),dY W ao aO h d ws bB i->res≠.error b3->
  jB Tryz.prog f (.ptr (aE aO) 0::args) h (fun x ab=>∃l bw hb,res=.ok (l,bw)/\ec h.next (Fr h.next) ab 5 (l.map aR.enc) x/\l.length<=1000000/\Mod (cb aO) h ab/\dY W ao aO ab d bw bB hb) (s4 W ao aO h res)
structure im (W:List aK) (ao aO n:Nat):Prop where
 ty:∀d ws,ga W ao aO 101 [] d ws ((bD ao n).ty d ws)
 ix:∀d ws,ga W ao aO 146 [] d ws ((bD ao n).ix d ws)
 named:∀d ws,ga W ao aO 184 [] d ws ((bD ao n).named d ws)
 j6:∀d ws,ga W ao aO 206 [] d ws ((bD ao n).j6 d ws)
 pat:∀d ws,ga W ao aO 55 [] d ws ((bD ao n).pat d ws)
 jO:∀d ws,ga W ao aO 105 [] d ws ((bD ao n).jO d ws)
 hq:∀d ws,ga W ao aO 147 [] d ws ((bD ao n).hq d ws)
 seq:∀d ws,ga W ao aO 56 [] d ws ((bD ao n).seq d ws)
 cases:∀d ws,A5 W ao aO 186 [] d ws ((bD ao n).cases d [] (if cl nv ws then ws.tail else ws))
 fn:∀d (a:Nat) ws,ga W ao aO 102 [.int .i64 a] d ws ((bD ao n).fn d a ws)
 one:∀d ws,ga W ao aO 107 [] d ws ((bD ao n).one d ws)
 iD:∀d k (a:Nat) ws,ga W ao aO 150 [.int .i64 k,.int .i64 a] d ws ((bD ao n).iD d k a ws)
 lt:∀d (a:Nat) ws,ga W ao aO 149 [.int .i64 a] d ws ((bD ao n).lt d a ws)
 binds:∀d ws,A5 W ao aO 54 [] d ws ((bD ao n).binds d [] ws)
 pair:∀d ws,ga W ao aO 151 [] d ws ((bD ao n).pair d ws)
 j9:∀d ws,ga W ao aO 187 [] d ws ((bD ao n).j9 d ws)
 h8:∀d ws,ga W ao aO 207 [.int .i64 1] d ws ((bD ao n).h8 d ws)
 ih:∀d ws,ga W ao aO 207 [.int .i64 2] d ws ((bD ao n).ih d ws)
 pre:∀d ws,ga W ao aO 223 [] d ws ((bD ao n).pre d ws)
 app:∀d ws,ga W ao aO 229 [] d ws ((bD ao n).app d ws)
 atom:∀d ws,ga W ao aO 231 [] d ws ((bD ao n).atom d ws)
section
variable {W:List aK} {ao aO n:Nat}
theorem alh (I:im W ao aO n) (d:Nat) (ws:List aK):ga W ao aO 146 [] d ws ((bD ao (n+1)).ix d ws):=by
 intro h bB i C bX;generalize aa:(bD ao (n+1)).ix d ws=res at bX ⊢;replace aa:MW (bD ao n) d ws=res:=aa;unfold MW at aa;refine Z'.x rfl (dw ?_);unfold Qs;have bW:=C.at_.lt;obtain ⟨U,an,aM,bA⟩:=gd h er;have m1:Mod (cb aO) h U:=aM.mod _;have cq:=m1;have cO:=C.ext aM;simp only [an,↓ag,ak,simprocAttr];have g2:(bD ao n).named d ws≠.error b3:=fun q=>by rw [q] at aa;exact bX aa.symm
 refine ch (I.named d ws U bB i cO g2) ?_ ?_
 rotate_left
 . rintro x ad ⟨e,he,rfl,m,bk⟩;simp only [cg,bx,↓ag,ak,simprocAttr];exact ⟨e,by rw [he] at aa;exact aa.symm,rfl,(cq.trans m),bk⟩
 rintro x ad ⟨a,br,dB,i2,b5,rfl,aN,m2,cC⟩;rw [b5] at aa
 try simp only [bt] at aa
 have M2:=cq.trans m2;have eR:=aN.one;obtain ⟨aC,aH,cu,fT⟩:=fw ad er (vcs a dB);have m3:Mod (cb aO) ad aC:=cu.mod _;have b':=M2.trans m3;have dm:=cC.ext cu;simp only [eR.1,eR.2.1,eR.2.2,aH,↓ag,ak,simprocAttr];refine cT (gQ dm qq) ?_;rintro x aX ⟨rfl,m4,i4,cW⟩;have cN:=b'.trans m4;cases ea:cl qq br with
 | true=>
   simp only [ea,aqu,aqk,aqs,bt] at aa cW;have iA:=fT.mod m4 (bN (by have:=M2.next;omega));simp only [iA.g,↓ag,ak,simprocAttr];have g5:(bD ao n).ix d br.tail≠.error b3:=fun q=>by rw [q] at aa;exact bX aa.symm
   refine ch (I.ix d br.tail aX bB i4 cW g5) ?_ ?_
   rotate_left
   . rintro x bF ⟨e,he,rfl,m,bk⟩;simp only [cg,bx,iA.g,↓ag,ak,simprocAttr];exact ⟨rfl,e,by rw [he] at aa;exact aa.symm,rfl,(cN.trans m),bk⟩
   rintro x bF ⟨b,gY,jl,i5,cK,rfl,fv,m5,cD⟩;rw [cK] at aa
   try simp only [bt] at aa
   have cr:=cN.trans m5;have f':=iA.mod m5 (bN (by have:=M2.next;omega));simp only [iA.g,f'.g,↓ag,ak,simprocAttr];have mi:=aN.mod (m3.trans (m4.trans m5)) (by have:=cq.next;omega);refine cT (uo 3 mi (fv.eA (by have:=(m2.trans (m3.trans m4)).next;omega))) ?_;rintro x bR ⟨hh,rfl,kv,gE⟩;have dZ:=kv.fQ (ew:=Fr U.next) fun b q=>q.elim (fun q=>q.1) (fun q=>by have:=(m2.trans (m3.trans (m4.trans m5))).next;unfold Fr;omega);have m6:Mod (cb aO) bF bR:=gE.mod _;have c0:=cr.trans m6;have dq:=cD.ext gE;have iM:=bA.mod (m2.trans (m3.trans (m4.trans (m5.trans m6)))) (bN bW);have jU:=f'.mod m6 (bN (by have:=M2.next;omega));have o:=dZ.one;simp only [o.1,o.2.1,o.2.2,bx,vcs,dd,iM.g,jU.g,iA.g,f'.g,↓ag,ak,simprocAttr];exact ⟨_,_,_,_,aa.symm,rfl,(dZ.box (by have:=bW;have:=bA.lt;omega) _).eA (by have:=m1.next;omega),c0.set (fun o=>absurd o (dh (aqh _))) _,C.box dq (aqh _) _⟩
 | false=>
   simp only [ea,aqu,aqk,aqs,bt] at aa cW;have iA:=fT.mod m4 (bN (by have:=M2.next;omega));have uL:=aN.mod (m3.trans m4) (by have:=cq.next;omega);have ks:=bA.mod (m2.trans (m3.trans m4)) (bN bW);have o:=uL.one;simp only [o.1,o.2.1,o.2.2,bx,vcs,dd,iA.g,ks.g,↓ag,ak,simprocAttr];exact ⟨_,_,_,_,aa.symm,rfl,(uL.box (by have:=bW;have:=bA.lt;omega) _).eA (by have:=m1.next;omega),cN.set (fun o=>absurd o (dh (aqh _))) _,C.box cW (aqh _) _⟩
theorem alg (I:im W ao aO n) (d:Nat) (ws:List aK):ga W ao aO 151 [] d ws ((bD ao (n+1)).pair d ws):=by
 intro h bB i C bX;generalize aa:(bD ao (n+1)).pair d ws=res at bX ⊢;replace aa:MT (bD ao n) d ws=res:=aa;unfold MT at aa;refine aae.x rfl (dw ?_);unfold QA;have bW:=C.at_.lt;obtain ⟨U,an,aM,bA⟩:=gd h er;have m1:Mod (cb aO) h U:=aM.mod _;have cq:=m1;have cO:=C.ext aM;simp only [an,↓ag,ak,simprocAttr];have g2:(bD ao n).j9 d ws≠.error b3:=fun q=>by rw [q] at aa;exact bX aa.symm
 refine ch (I.j9 d ws U bB i cO g2) ?_ ?_
 rotate_left
 . rintro x ad ⟨e,he,rfl,m,bk⟩;simp only [cg,bx,↓ag,ak,simprocAttr];exact ⟨e,by rw [he] at aa;exact aa.symm,rfl,(cq.trans m),bk⟩
 rintro x ad ⟨a,br,dB,i2,b5,rfl,aN,m2,cC⟩;rw [b5] at aa
 try simp only [bt] at aa
 have M2:=cq.trans m2;have eR:=aN.one;obtain ⟨aC,aH,cu,fT⟩:=fw ad er (vcs a dB);have m3:Mod (cb aO) ad aC:=cu.mod _;have b':=M2.trans m3;have dm:=cC.ext cu;simp only [eR.1,eR.2.1,eR.2.2,aH,↓ag,ak,simprocAttr];refine cT (gQ dm nw) ?_;rintro x aX ⟨rfl,m4,i4,cW⟩;have cN:=b'.trans m4;cases ea:cl nw br with
 | true=>
   simp only [ea,aqu,aqk,aqs,bt] at aa cW;have iA:=fT.mod m4 (bN (by have:=M2.next;omega));simp only [iA.g,↓ag,ak,simprocAttr];have g5:(bD ao n).pair d br.tail≠.error b3:=fun q=>by rw [q] at aa;exact bX aa.symm
   refine ch (I.pair d br.tail aX bB i4 cW g5) ?_ ?_
   rotate_left
   . rintro x bF ⟨e,he,rfl,m,bk⟩;simp only [cg,bx,iA.g,↓ag,ak,simprocAttr];exact ⟨rfl,e,by rw [he] at aa;exact aa.symm,rfl,(cN.trans m),bk⟩
   rintro x bF ⟨b,gY,jl,i5,cK,rfl,fv,m5,cD⟩;rw [cK] at aa
   try simp only [bt] at aa
   have cr:=cN.trans m5;have f':=iA.mod m5 (bN (by have:=M2.next;omega));simp only [iA.g,f'.g,↓ag,ak,simprocAttr];have mi:=aN.mod (m3.trans (m4.trans m5)) (by have:=cq.next;omega);refine cT (uo 26 mi (fv.eA (by have:=(m2.trans (m3.trans m4)).next;omega))) ?_;rintro x bR ⟨hh,rfl,kv,gE⟩;have dZ:=kv.fQ (ew:=Fr U.next) fun b q=>q.elim (fun q=>q.1) (fun q=>by have:=(m2.trans (m3.trans (m4.trans m5))).next;unfold Fr;omega);have m6:Mod (cb aO) bF bR:=gE.mod _;have c0:=cr.trans m6;have dq:=cD.ext gE;have iM:=bA.mod (m2.trans (m3.trans (m4.trans (m5.trans m6)))) (bN bW);have jU:=f'.mod m6 (bN (by have:=M2.next;omega));have o:=dZ.one;simp only [o.1,o.2.1,o.2.2,bx,vcs,dd,iM.g,jU.g,iA.g,f'.g,↓ag,ak,simprocAttr];exact ⟨_,_,_,_,aa.symm,rfl,(dZ.box (by have:=bW;have:=bA.lt;omega) _).eA (by have:=m1.next;omega),c0.set (fun o=>absurd o (dh (aqh _))) _,C.box dq (aqh _) _⟩
 | false=>
   simp only [ea,aqu,aqk,aqs,bt] at aa cW;have iA:=fT.mod m4 (bN (by have:=M2.next;omega));have uL:=aN.mod (m3.trans m4) (by have:=cq.next;omega);have ks:=bA.mod (m2.trans (m3.trans m4)) (bN bW);have o:=uL.one;simp only [o.1,o.2.1,o.2.2,bx,vcs,dd,iA.g,ks.g,↓ag,ak,simprocAttr];exact ⟨_,_,_,_,aa.symm,rfl,(uL.box (by have:=bW;have:=bA.lt;omega) _).eA (by have:=m1.next;omega),cN.set (fun o=>absurd o (dh (aqh _))) _,C.box cW (aqh _) _⟩
theorem anQ (I:im W ao aO n) (d:Nat) (ws:List aK):ga W ao aO 101 [] d ws ((bD ao (n+1)).ty d ws):=by
 intro h bB i C bX;generalize aa:(bD ao (n+1)).ty d ws=res at bX ⊢;replace aa:On ao (bD ao n) d ws=res:=aa;unfold On at aa;refine ZX.x rfl (dw ?_);unfold Qb;have bW:=C.at_.lt;obtain ⟨U,an,aM,bA⟩:=gd h er;have m1:Mod (cb aO) h U:=aM.mod _;have cq:=m1;have cO:=C.ext aM;simp only [an,↓ag,ak,simprocAttr];refine ch (Eu cO) ?_ ?_
 rotate_left
 . rintro x ad ⟨aY,e,he,rfl,m,bk⟩;cases he;simp only [cg,bx,eJ,cd,↓ag,ak,simprocAttr];unfold m_ at aa;rw [aqw aY] at aa;exact ⟨_,aa.symm,rfl,cq.trans m,bk⟩
 rintro x ad ⟨aY,m2,cC⟩;unfold m_ at aa;rw [aqr (by omega)] at aa;have M2:=cq.trans m2;simp only [eJ,aqI,iQ,cd,↓ag,ak,simprocAttr];have g3:(bD ao n).ix (d+1) ws≠.error b3:=fun q=>by rw [q] at aa;exact bX aa.symm
 refine ch (I.ix (d+1) ws ad bB i cC g3) ?_ ?_
 rotate_left
 . rintro x aC ⟨e,he,rfl,m,dn,a0,mY,mm,bk⟩;simp only [cg,bx,eJ,cd,↓ag,ak,simprocAttr];refine (tJ bk.1).mono ?_;rintro u aX ⟨rfl,b4,cV,b7,ct,bS,mq⟩;exact ⟨e,by rw [he] at aa;exact aa.symm,rfl,(M2.trans m).trans b4,cV,b7,ct,bS,mq,bk.2⟩
 rintro x aC ⟨a,dT,dB,i3,b6,rfl,aN,m3,dm⟩;rw [b6] at aa
 try simp only [bt] at aa
 have b':=M2.trans m3;have hf:=aN.one;obtain ⟨aX,bP,dA,h9⟩:=fw aC er (vcs a dB);have m4:Mod (cb aO) aC aX:=dA.mod _;have cN:=b'.trans m4;have cW:=dm.ext dA;simp only [hf.1,hf.2.1,hf.2.2,bP,eJ,aqI,iQ,cd,↓ag,ak,simprocAttr];refine cT (gQ cW rq) ?_;rintro x bF ⟨rfl,m5,i5,cD⟩;have cr:=cN.trans m5;cases ea:cl rq dT with
 | true=>
   simp only [ea,aqu,aqk,aqs,bt] at aa cD;have gN:=h9.mod m5 (bN (by have:=b'.next;omega));simp only [gN.g,eJ,aqI,iQ,cd,↓ag,ak,simprocAttr];have g6:(bD ao n).ty (d+1) dT.tail≠.error b3:=fun q=>by rw [q] at aa;exact bX aa.symm
   refine ch (I.ty (d+1) dT.tail bF bB i5 cD g6) ?_ ?_
   rotate_left
   . rintro x bR ⟨e,he,rfl,m,dn,a0,mY,mm,bk⟩;simp only [cg,bx,gN.g,eJ,cd,↓ag,ak,simprocAttr];refine ⟨rfl,?_⟩;refine (tJ bk.1).mono ?_;rintro u cv ⟨rfl,b4,cV,b7,ct,bS,mq⟩;exact ⟨e,by rw [he] at aa;exact aa.symm,rfl,(cr.trans m).trans b4,cV,b7,ct,bS,mq,bk.2⟩
   rintro x bR ⟨b,kr,jl,i6,eH,rfl,fv,m6,dq⟩;rw [eH] at aa
   try simp only [bt] at aa
   have c0:=cr.trans m6;have jm:=gN.mod m6 (bN (by have:=b'.next;omega));simp only [eJ,aqI,iQ,cd,gN.g,jm.g,↓ag,ak,simprocAttr];have uM:=aN.mod (m4.trans (m5.trans m6)) (by have:=M2.next;omega);refine cT (uo 4 uM (fv.eA (by have:=(m3.trans (m4.trans m5)).next;omega))) ?_;rintro x cv ⟨hh,rfl,kv,e'⟩;have dZ:=kv.fQ (ew:=Fr ad.next) fun b q=>q.elim (fun q=>q.1) (fun q=>by have:=(m3.trans (m4.trans (m5.trans m6))).next;unfold Fr;omega);have m7:Mod (cb aO) bR cv:=e'.mod _;have ek:=c0.trans m7;have eV:=dq.ext e';have gZ:=bA.mod (m2.trans (m3.trans (m4.trans (m5.trans (m6.trans m7))))) (bN bW);have kt:=jm.mod m7 (bN (by have:=b'.next;omega));have o:=dZ.one;simp only [o.1,o.2.1,o.2.2,bx,vcs,dd,gZ.g,kt.g,eJ,aqI,iQ,cd,gN.g,jm.g,↓ag,ak,simprocAttr];have fB:=gZ.put (vcs (two 4 a b) hh);refine (tI (C.box eV (aqh _) _)).mono ?_;rintro u fR ⟨rfl,b4,ij⟩;have mf:=fB.mod b4 (bN bW);simp only [mf.g,eJ,vcs,dd,↓ag,ak,simprocAttr];exact ⟨_,_,_,_,aa.symm,rfl,((dZ.box (by have:=m2.next;have:=bA.lt;omega) _).mod b4 (by have:=bA.lt;have:=m2.next;omega)).eA (by have:=(m1.trans m2).next;omega),(ek.set (fun o=>absurd o (dh (aqh _))) _).trans b4,ij⟩
 | false=>
   simp only [ea,aqu,aqk,aqs,bt] at aa cD;have gN:=h9.mod m5 (bN (by have:=b'.next;omega));have mi:=aN.mod (m4.trans m5) (by have:=M2.next;omega);have hs:=bA.mod (m2.trans (m3.trans (m4.trans m5))) (bN bW);have o:=mi.one;simp only [o.1,o.2.1,o.2.2,bx,vcs,dd,gN.g,hs.g,eJ,aqI,iQ,cd,↓ag,ak,simprocAttr];have fB:=hs.put (vcs a dB);refine (tI (C.box cD (aqh _) _)).mono ?_;rintro u bR ⟨rfl,b4,ij⟩;have mf:=fB.mod b4 (bN bW);simp only [mf.g,eJ,vcs,dd,↓ag,ak,simprocAttr];exact ⟨_,_,_,_,aa.symm,rfl,((mi.box (by have:=m2.next;have:=bA.lt;omega) _).mod b4 (by have:=bA.lt;have:=m2.next;omega)).eA (by have:=(m1.trans m2).next;omega),(cr.set (fun o=>absurd o (dh (aqh _))) _).trans b4,ij⟩
theorem alD (I:im W ao aO n) (d:Nat) (ws:List aK):ga W ao aO 55 [] d ws ((bD ao (n+1)).pat d ws):=by
 intro h bB i C bX;generalize aa:(bD ao (n+1)).pat d ws=res at bX ⊢;replace aa:M6 ao (bD ao n) d ws=res:=aa;unfold M6 at aa;refine aaN.x rfl (dw ?_);unfold Rf;have bW:=C.at_.lt;obtain ⟨U,an,aM,bA⟩:=gd h er;have m1:Mod (cb aO) h U:=aM.mod _;have cq:=m1;have cO:=C.ext aM;simp only [an,↓ag,ak,simprocAttr];refine ch (Eu cO) ?_ ?_
 rotate_left
 . rintro x ad ⟨aY,e,he,rfl,m,bk⟩;cases he;simp only [cg,bx,eJ,cd,↓ag,ak,simprocAttr];unfold m_ at aa;rw [aqw aY] at aa;exact ⟨_,aa.symm,rfl,cq.trans m,bk⟩
 rintro x ad ⟨aY,m2,cC⟩;unfold m_ at aa;rw [aqr (by omega)] at aa;have M2:=cq.trans m2;simp only [eJ,aqI,iQ,cd,↓ag,ak,simprocAttr];have g3:(bD ao n).jO (d+1) ws≠.error b3:=fun q=>by rw [q] at aa;exact bX aa.symm
 refine ch (I.jO (d+1) ws ad bB i cC g3) ?_ ?_
 rotate_left
 . rintro x aC ⟨e,he,rfl,m,dn,a0,mY,mm,bk⟩;simp only [cg,bx,eJ,cd,↓ag,ak,simprocAttr];refine (tJ bk.1).mono ?_;rintro u aX ⟨rfl,b4,cV,b7,ct,bS,mq⟩;exact ⟨e,by rw [he] at aa;exact aa.symm,rfl,(M2.trans m).trans b4,cV,b7,ct,bS,mq,bk.2⟩
 rintro x aC ⟨a,dT,dB,i3,b6,rfl,aN,m3,dm⟩;rw [b6] at aa
 try simp only [bt] at aa
 have b':=M2.trans m3;have hf:=aN.one;obtain ⟨aX,bP,dA,h9⟩:=fw aC er (vcs a dB);have m4:Mod (cb aO) aC aX:=dA.mod _;have cN:=b'.trans m4;have cW:=dm.ext dA;simp only [hf.1,hf.2.1,hf.2.2,bP,eJ,aqI,iQ,cd,↓ag,ak,simprocAttr];refine cT (gQ cW nw) ?_;rintro x bF ⟨rfl,m5,i5,cD⟩;have cr:=cN.trans m5;cases ea:cl nw dT with
 | true=>
   simp only [ea,aqu,aqk,aqs,bt] at aa cD;have gN:=h9.mod m5 (bN (by have:=b'.next;omega));simp only [gN.g,eJ,aqI,iQ,cd,↓ag,ak,simprocAttr];have g6:(bD ao n).pat (d+1) dT.tail≠.error b3:=fun q=>by rw [q] at aa;exact bX aa.symm
   refine ch (I.pat (d+1) dT.tail bF bB i5 cD g6) ?_ ?_
   rotate_left
   . rintro x bR ⟨e,he,rfl,m,dn,a0,mY,mm,bk⟩;simp only [cg,bx,gN.g,eJ,cd,↓ag,ak,simprocAttr];refine ⟨rfl,?_⟩;refine (tJ bk.1).mono ?_;rintro u cv ⟨rfl,b4,cV,b7,ct,bS,mq⟩;exact ⟨e,by rw [he] at aa;exact aa.symm,rfl,(cr.trans m).trans b4,cV,b7,ct,bS,mq,bk.2⟩
   rintro x bR ⟨b,kr,jl,i6,eH,rfl,fv,m6,dq⟩;rw [eH] at aa
   try simp only [bt] at aa
   have c0:=cr.trans m6;have jm:=gN.mod m6 (bN (by have:=b'.next;omega));simp only [eJ,aqI,iQ,cd,gN.g,jm.g,↓ag,ak,simprocAttr];have uM:=aN.mod (m4.trans (m5.trans m6)) (by have:=M2.next;omega);refine cT (uo 15 uM (fv.eA (by have:=(m3.trans (m4.trans m5)).next;omega))) ?_;rintro x cv ⟨hh,rfl,kv,e'⟩;have dZ:=kv.fQ (ew:=Fr ad.next) fun b q=>q.elim (fun q=>q.1) (fun q=>by have:=(m3.trans (m4.trans (m5.trans m6))).next;unfold Fr;omega);have m7:Mod (cb aO) bR cv:=e'.mod _;have ek:=c0.trans m7;have eV:=dq.ext e';have gZ:=bA.mod (m2.trans (m3.trans (m4.trans (m5.trans (m6.trans m7))))) (bN bW);have kt:=jm.mod m7 (bN (by have:=b'.next;omega));have o:=dZ.one;simp only [o.1,o.2.1,o.2.2,bx,vcs,dd,gZ.g,kt.g,eJ,aqI,iQ,cd,gN.g,jm.g,↓ag,ak,simprocAttr];have fB:=gZ.put (vcs (two 15 a b) hh);refine (tI (C.box eV (aqh _) _)).mono ?_;rintro u fR ⟨rfl,b4,ij⟩;have mf:=fB.mod b4 (bN bW);simp only [mf.g,eJ,vcs,dd,↓ag,ak,simprocAttr];exact ⟨_,_,_,_,aa.symm,rfl,((dZ.box (by have:=m2.next;have:=bA.lt;omega) _).mod b4 (by have:=bA.lt;have:=m2.next;omega)).eA (by have:=(m1.trans m2).next;omega),(ek.set (fun o=>absurd o (dh (aqh _))) _).trans b4,ij⟩
 | false=>
   simp only [ea,aqu,aqk,aqs,bt] at aa cD;have gN:=h9.mod m5 (bN (by have:=b'.next;omega));have mi:=aN.mod (m4.trans m5) (by have:=M2.next;omega);have hs:=bA.mod (m2.trans (m3.trans (m4.trans m5))) (bN bW);have o:=mi.one;simp only [o.1,o.2.1,o.2.2,bx,vcs,dd,gN.g,hs.g,eJ,aqI,iQ,cd,↓ag,ak,simprocAttr];have fB:=hs.put (vcs a dB);refine (tI (C.box cD (aqh _) _)).mono ?_;rintro u bR ⟨rfl,b4,ij⟩;have mf:=fB.mod b4 (bN bW);simp only [mf.g,eJ,vcs,dd,↓ag,ak,simprocAttr];exact ⟨_,_,_,_,aa.symm,rfl,((mi.box (by have:=m2.next;have:=bA.lt;omega) _).mod b4 (by have:=bA.lt;have:=m2.next;omega)).eA (by have:=(m1.trans m2).next;omega),(cr.set (fun o=>absurd o (dh (aqh _))) _).trans b4,ij⟩
theorem amM (I:im W ao aO n) (d:Nat) (ws:List aK):ga W ao aO 56 [] d ws ((bD ao (n+1)).seq d ws):=by
 intro h bB i C bX;generalize aa:(bD ao (n+1)).seq d ws=res at bX ⊢;replace aa:NS ao (bD ao n) d ws=res:=aa;unfold NS at aa;refine aaO.x rfl (dw ?_);unfold Rh;have bW:=C.at_.lt;obtain ⟨U,an,aM,bA⟩:=gd h er;have m1:Mod (cb aO) h U:=aM.mod _;have cq:=m1;have cO:=C.ext aM;simp only [an,↓ag,ak,simprocAttr];refine ch (Eu cO) ?_ ?_
 rotate_left
 . rintro x ad ⟨aY,e,he,rfl,m,bk⟩;cases he;simp only [cg,bx,eJ,cd,↓ag,ak,simprocAttr];unfold m_ at aa;rw [aqw aY] at aa;exact ⟨_,aa.symm,rfl,cq.trans m,bk⟩
 rintro x ad ⟨aY,m2,cC⟩;unfold m_ at aa;rw [aqr (by omega)] at aa;have M2:=cq.trans m2;simp only [eJ,aqI,iQ,cd,↓ag,ak,simprocAttr];have g3:(bD ao n).one (d+1) ws≠.error b3:=fun q=>by rw [q] at aa;exact bX aa.symm
 refine ch (I.one (d+1) ws ad bB i cC g3) ?_ ?_
 rotate_left
 . rintro x aC ⟨e,he,rfl,m,dn,a0,mY,mm,bk⟩;simp only [cg,bx,eJ,cd,↓ag,ak,simprocAttr];refine (tJ bk.1).mono ?_;rintro u aX ⟨rfl,b4,cV,b7,ct,bS,mq⟩;exact ⟨e,by rw [he] at aa;exact aa.symm,rfl,(M2.trans m).trans b4,cV,b7,ct,bS,mq,bk.2⟩
 rintro x aC ⟨a,dT,dB,i3,b6,rfl,aN,m3,dm⟩;rw [b6] at aa
 try simp only [bt] at aa
 have b':=M2.trans m3;have hf:=aN.one;obtain ⟨aX,bP,dA,h9⟩:=fw aC er (vcs a dB);have m4:Mod (cb aO) aC aX:=dA.mod _;have cN:=b'.trans m4;have cW:=dm.ext dA;simp only [hf.1,hf.2.1,hf.2.2,bP,eJ,aqI,iQ,cd,↓ag,ak,simprocAttr];refine cT (gQ cW G9) ?_;rintro x bF ⟨rfl,m5,i5,cD⟩;have cr:=cN.trans m5;cases ea:cl G9 dT with
 | true=>
   simp only [ea,aqu,aqk,aqs,bt] at aa cD;have gN:=h9.mod m5 (bN (by have:=b'.next;omega));simp only [gN.g,eJ,aqI,iQ,cd,↓ag,ak,simprocAttr];have g6:(bD ao n).seq (d+1) dT.tail≠.error b3:=fun q=>by rw [q] at aa;exact bX aa.symm
   refine ch (I.seq (d+1) dT.tail bF bB i5 cD g6) ?_ ?_
   rotate_left
   . rintro x bR ⟨e,he,rfl,m,dn,a0,mY,mm,bk⟩;simp only [cg,bx,gN.g,eJ,cd,↓ag,ak,simprocAttr];refine ⟨rfl,?_⟩;refine (tJ bk.1).mono ?_;rintro u cv ⟨rfl,b4,cV,b7,ct,bS,mq⟩;exact ⟨e,by rw [he] at aa;exact aa.symm,rfl,(cr.trans m).trans b4,cV,b7,ct,bS,mq,bk.2⟩
   rintro x bR ⟨b,kr,jl,i6,eH,rfl,fv,m6,dq⟩;rw [eH] at aa
   try simp only [bt] at aa
   have c0:=cr.trans m6;have jm:=gN.mod m6 (bN (by have:=b'.next;omega));simp only [eJ,aqI,iQ,cd,gN.g,jm.g,↓ag,ak,simprocAttr];have uM:=aN.mod (m4.trans (m5.trans m6)) (by have:=M2.next;omega);refine cT (uo 35 uM (fv.eA (by have:=(m3.trans (m4.trans m5)).next;omega))) ?_;rintro x cv ⟨hh,rfl,kv,e'⟩;have dZ:=kv.fQ (ew:=Fr ad.next) fun b q=>q.elim (fun q=>q.1) (fun q=>by have:=(m3.trans (m4.trans (m5.trans m6))).next;unfold Fr;omega);have m7:Mod (cb aO) bR cv:=e'.mod _;have ek:=c0.trans m7;have eV:=dq.ext e';have gZ:=bA.mod (m2.trans (m3.trans (m4.trans (m5.trans (m6.trans m7))))) (bN bW);have kt:=jm.mod m7 (bN (by have:=b'.next;omega));have o:=dZ.one;simp only [o.1,o.2.1,o.2.2,bx,vcs,dd,gZ.g,kt.g,eJ,aqI,iQ,cd,gN.g,jm.g,↓ag,ak,simprocAttr];have fB:=gZ.put (vcs (two 35 a b) hh);refine (tI (C.box eV (aqh _) _)).mono ?_;rintro u fR ⟨rfl,b4,ij⟩;have mf:=fB.mod b4 (bN bW);simp only [mf.g,eJ,vcs,dd,↓ag,ak,simprocAttr];exact ⟨_,_,_,_,aa.symm,rfl,((dZ.box (by have:=m2.next;have:=bA.lt;omega) _).mod b4 (by have:=bA.lt;have:=m2.next;omega)).eA (by have:=(m1.trans m2).next;omega),(ek.set (fun o=>absurd o (dh (aqh _))) _).trans b4,ij⟩
 | false=>
   simp only [ea,aqu,aqk,aqs,bt] at aa cD;have gN:=h9.mod m5 (bN (by have:=b'.next;omega));have mi:=aN.mod (m4.trans m5) (by have:=M2.next;omega);have hs:=bA.mod (m2.trans (m3.trans (m4.trans m5))) (bN bW);have o:=mi.one;simp only [o.1,o.2.1,o.2.2,bx,vcs,dd,gN.g,hs.g,eJ,aqI,iQ,cd,↓ag,ak,simprocAttr];have fB:=hs.put (vcs a dB);refine (tI (C.box cD (aqh _) _)).mono ?_;rintro u bR ⟨rfl,b4,ij⟩;have mf:=fB.mod b4 (bN bW);simp only [mf.g,eJ,vcs,dd,↓ag,ak,simprocAttr];exact ⟨_,_,_,_,aa.symm,rfl,((mi.box (by have:=m2.next;have:=bA.lt;omega) _).mod b4 (by have:=bA.lt;have:=m2.next;omega)).eA (by have:=(m1.trans m2).next;omega),(cr.set (fun o=>absurd o (dh (aqh _))) _).trans b4,ij⟩
theorem adq (I:im W ao aO n) (d:Nat) (a0:Nat) (ws:List aK):ga W ao aO 102 [.int .i64 a0] d ws ((bD ao (n+1)).fn d a0 ws):=by
 intro h bB i C bX;generalize aa:(bD ao (n+1)).fn d a0 ws=res at bX ⊢;replace aa:JP ao (bD ao n) d a0 ws=res:=aa;unfold JP at aa;refine ZY.x rfl (dw ?_);unfold Qc;have bW:=C.at_.lt;obtain ⟨U,an,aM,bA⟩:=gd h er;have m1:Mod (cb aO) h U:=aM.mod _;have cq:=m1;have cO:=C.ext aM;simp only [an,↓ag,ak,simprocAttr];have g2:(bD ao n).pat d ws≠.error b3:=fun q=>by rw [q] at aa;exact bX aa.symm
 refine ch (I.pat d ws U bB i cO g2) ?_ ?_
 rotate_left
 . rintro x ad ⟨e,he,rfl,m,bk⟩;simp only [cg,bx,↓ag,ak,simprocAttr];exact ⟨e,by rw [he] at aa;exact aa.symm,rfl,(cq.trans m),bk⟩
 rintro x ad ⟨a,br,dB,i2,b5,rfl,aN,m2,cC⟩;rw [b5] at aa
 try simp only [bt] at aa
 have M2:=cq.trans m2;have eR:=aN.one;obtain ⟨aC,aH,cu,fT⟩:=fw ad er (vcs a dB);have m3:Mod (cb aO) ad aC:=cu.mod _;have b':=M2.trans m3;have dm:=cC.ext cu;simp only [eR.1,eR.2.1,eR.2.2,aH,↓ag,ak,simprocAttr];refine ch (ke dm rq) ?_ ?_
 rotate_left
 . rintro x aX ⟨e,he,rfl,m,bk⟩;simp only [cg,bx,↓ag,ak,simprocAttr];exact ⟨e,by rw [he] at aa;exact aa.symm,rfl,(b'.trans m),bk⟩
 rintro x aX ⟨fJ,eh,m4,i4,cW⟩;rw [eh] at aa
 try simp only [bt] at aa
 have cN:=b'.trans m4;have iA:=fT.mod m4 (bN (by have:=M2.next;omega));simp only [iA.g,↓ag,ak,simprocAttr];have g5:(bD ao n).seq d fJ≠.error b3:=fun q=>by rw [q] at aa;exact bX aa.symm
 refine ch (I.seq d fJ aX bB i4 cW g5) ?_ ?_
 rotate_left
 . rintro x bF ⟨e,he,rfl,m,bk⟩;simp only [cg,bx,iA.g,↓ag,ak,simprocAttr];exact ⟨rfl,e,by rw [he] at aa;exact aa.symm,rfl,(cN.trans m),bk⟩
 rintro x bF ⟨b,gY,jl,i5,cK,rfl,fv,m5,cD⟩;rw [cK] at aa
 try simp only [bt] at aa
 have cr:=cN.trans m5;have f':=iA.mod m5 (bN (by have:=M2.next;omega));have mi:=aN.mod (m3.trans (m4.trans m5)) (by have:=cq.next;omega);have x3:=mi.one;have Ml:=fv.one;obtain ⟨bR,dG,gE,uI⟩:=LQ (F:=Fr U.next) (h:=bF) (size:=5) rfl rfl mi.cs (fv.eA (hS:=U.next) (by have:=(m2.trans (m3.trans m4)).next;omega)).cs (qT (m2.trans (m3.trans (m4.trans m5))).next);simp only [vcs,aqP,aq5] at dG;have m6:Mod (cb aO) bF bR:=gE.mod _;have c0:=cr.trans m6;have dq:=cD.ext gE;have dZ:=qo (l:=[a,b]) 27 0 a0 [] uI rfl (aqZ _);have iM:=bA.mod (m2.trans (m3.trans (m4.trans (m5.trans m6)))) (bN bW);have jU:=f'.mod m6 (bN (by have:=M2.next;omega));have o:=dZ.one;simp only [o.1,o.2.1,o.2.2,bx,vcs,dd,x3.1,x3.2.1,x3.2.2,Ml.1,Ml.2.1,Ml.2.2,dG,iM.g,jU.g,iA.g,f'.g,↓ag,ak,simprocAttr];exact ⟨_,_,_,_,aa.symm,rfl,(dZ.box (by have:=bW;have:=bA.lt;omega) _).eA (by have:=m1.next;omega),c0.set (fun o=>absurd o (dh (aqh _))) _,C.box dq (aqh _) _⟩
end
section
variable {W:List aK} {ao aO n:Nat}
theorem akF (I:im W ao aO n) (d:Nat) (ws:List aK):ga W ao aO 107 [] d ws ((bD ao (n+1)).one d ws):=by
 intro h bB i C bX;generalize aa:(bD ao (n+1)).one d ws=res at bX ⊢;replace aa:x9 ao (bD ao n) d ws=res:=aa;unfold x9 at aa;dsimp only at aa;refine Z2.x rfl (dw ?_);unfold Qh;have bW:=C.at_.lt;obtain ⟨U,an,aM,bA⟩:=gd h er;have m1:Mod (cb aO) h U:=aM.mod _;have cq:=m1;have cO:=C.ext aM;simp only [an,↓ag,ak,simprocAttr];refine eo (qn cO) ?_;simp only [↓ag,ak,simprocAttr];refine cT (gQ cO vq) ?_;rintro x ad ⟨rfl,m2,i2,cC⟩;have M2:=cq.trans m2;cases ea:cl vq ws with
 | true=>
   simp only [ea,aqu,aqk,aqs,bt] at aa cC;simp only [↓ag,ak,simprocAttr];have g3:(bD ao n).lt d (c2 ao ws) ws.tail≠.error b3:=fun q=>by rw [q] at aa;exact bX aa.symm
   refine ch (I.lt d (c2 ao ws) ws.tail ad bB i2 cC g3) ?_ ?_
   rotate_left
   . rintro x aC ⟨e,he,rfl,m,bk⟩;simp only [cg,bx,↓ag,ak,simprocAttr];exact ⟨e,by rw [he] at aa;exact aa.symm,rfl,(M2.trans m),bk⟩
   rintro x aC ⟨a,dT,dB,i3,b6,rfl,aN,m3,dm⟩;rw [b6] at aa
   try simp only [bt] at aa
   have b':=M2.trans m3;have lB:=bA.mod (m2.trans m3) (bN bW);have o:=aN.one;simp only [o.1,o.2.1,o.2.2,bx,vcs,dd,lB.g,↓ag,ak,simprocAttr];exact ⟨_,_,_,_,aa.symm,rfl,(aN.box (by have:=m2.next;have:=bA.lt;omega) _).eA (by have:=(m1.trans m2).next;omega),b'.set (fun o=>absurd o (dh (aqh _))) _,C.box dm (aqh _) _⟩
 | false=>
   simp only [ea,aqu,aqk,aqs,bt] at aa cC;simp only [↓ag,ak,simprocAttr];refine cT (gQ cC vp) ?_;rintro x aC ⟨rfl,m3,i3,dm⟩;have b':=M2.trans m3;cases gk:cl vp ws with
   | true=>
     simp only [gk,aqu,aqk,aqs,bt] at aa dm;simp only [↓ag,ak,simprocAttr];have g4:(bD ao n).fn d (c2 ao ws) ws.tail≠.error b3:=fun q=>by rw [q] at aa;exact bX aa.symm
     refine ch (I.fn d (c2 ao ws) ws.tail aC bB i3 dm g4) ?_ ?_
     rotate_left
     . rintro x aX ⟨e,he,rfl,m,bk⟩;simp only [cg,bx,↓ag,ak,simprocAttr];exact ⟨e,by rw [he] at aa;exact aa.symm,rfl,(b'.trans m),bk⟩
     rintro x aX ⟨a,fJ,dB,i4,eh,rfl,aN,m4,cW⟩;rw [eh] at aa
     try simp only [bt] at aa
     have cN:=b'.trans m4;have ks:=bA.mod (m2.trans (m3.trans m4)) (bN bW);have o:=aN.one;simp only [o.1,o.2.1,o.2.2,bx,vcs,dd,ks.g,↓ag,ak,simprocAttr];exact ⟨_,_,_,_,aa.symm,rfl,(aN.box (by have:=(m2.trans m3).next;have:=bA.lt;omega) _).eA (by have:=(m1.trans (m2.trans m3)).next;omega),cN.set (fun o=>absurd o (dh (aqh _))) _,C.box cW (aqh _) _⟩
   | false=>
     simp only [gk,aqu,aqk,aqs,bt] at aa dm;simp only [↓ag,ak,simprocAttr];refine cT (gQ dm FK) ?_;rintro x aX ⟨rfl,m4,i4,cW⟩;have cN:=b'.trans m4;cases ic:cl FK ws with
     | true=>
       simp only [ic,aqu,aqk,aqs,bt] at aa cW;simp only [↓ag,ak,simprocAttr];have g5:(bD ao n).seq d ws.tail≠.error b3:=fun q=>by rw [q] at aa;exact bX aa.symm
       refine ch (I.seq d ws.tail aX bB i4 cW g5) ?_ ?_
       rotate_left
       . rintro x bF ⟨e,he,rfl,m,bk⟩;simp only [cg,bx,↓ag,ak,simprocAttr];exact ⟨e,by rw [he] at aa;exact aa.symm,rfl,(cN.trans m),bk⟩
       rintro x bF ⟨a,gY,dB,i5,cK,rfl,aN,m5,cD⟩;rw [cK] at aa
       try simp only [bt] at aa
       have cr:=cN.trans m5;have nZ:=aN.one;obtain ⟨bR,dG,gE,sH⟩:=fw bF er (vcs a dB);have m6:Mod (cb aO) bF bR:=gE.mod _;have c0:=cr.trans m6;have dq:=cD.ext gE;simp only [nZ.1,nZ.2.1,nZ.2.2,dG,↓ag,ak,simprocAttr];refine ch (ke dq LD) ?_ ?_
       rotate_left
       . rintro x cv ⟨e,he,rfl,m,bk⟩;simp only [cg,bx,↓ag,ak,simprocAttr];exact ⟨e,by rw [he] at aa;exact aa.symm,rfl,(c0.trans m),bk⟩
       rintro x cv ⟨me,eM,m7,i7,eV⟩;rw [eM] at aa
       try simp only [bt] at aa
       have ek:=c0.trans m7;simp only [↓ag,ak,simprocAttr];have g8:(bD ao n).one d me≠.error b3:=fun q=>by rw [q] at aa;exact bX aa.symm
       refine ch (I.one d me cv bB i7 eV g8) ?_ ?_
       rotate_left
       . rintro x fR ⟨e,he,rfl,m,bk⟩;simp only [cg,bx,↓ag,ak,simprocAttr];exact ⟨e,by rw [he] at aa;exact aa.symm,rfl,(ek.trans m),bk⟩
       rintro x fR ⟨b,wg,jl,i8,e5,rfl,fv,m8,gr⟩;rw [e5] at aa
       try simp only [bt] at aa
       have gC:=ek.trans m8;have x5:=fv.one;obtain ⟨hZ,Nt,Bx,uy⟩:=fw fR er (vcs b jl);have m9:Mod (cb aO) fR hZ:=Bx.mod _;have jW:=gC.trans m9;have hU:=gr.ext Bx;simp only [x5.1,x5.2.1,x5.2.2,Nt,↓ag,ak,simprocAttr];refine ch (ke hU LA) ?_ ?_
       rotate_left
       . rintro x nD ⟨e,he,rfl,m,bk⟩;simp only [cg,bx,↓ag,ak,simprocAttr];exact ⟨e,by rw [he] at aa;exact aa.symm,rfl,(jW.trans m),bk⟩
       rintro x nD ⟨Ht,kl,m10,i10,n_⟩;rw [kl] at aa
       try simp only [bt] at aa
       have og:=jW.trans m10;have Dz:=sH.mod (m7.trans (m8.trans (m9.trans m10))) (bN (by have:=cr.next;omega));have yJ:=uy.mod m10 (bN (by have:=gC.next;omega));simp only [Dz.g,yJ.g,↓ag,ak,simprocAttr];have g11:(bD ao n).one d Ht≠.error b3:=fun q=>by rw [q] at aa;exact bX aa.symm
       refine ch (I.one d Ht nD bB i10 n_ g11) ?_ ?_
       rotate_left
       . rintro x ox ⟨e,he,rfl,m,bk⟩;simp only [cg,bx,Dz.g,yJ.g,↓ag,ak,simprocAttr];exact ⟨rfl,e,by rw [he] at aa;exact aa.symm,rfl,(og.trans m),bk⟩
       rintro x ox ⟨c,Xu,hh,i11,n5,rfl,dZ,m11,lC⟩;rw [n5] at aa
       try simp only [bt] at aa
       have uK:=og.trans m11;have OU:=Dz.mod m11 (bN (by have:=cr.next;omega));have OV:=yJ.mod m11 (bN (by have:=gC.next;omega));have Pn:=aN.mod (m6.trans (m7.trans (m8.trans (m9.trans (m10.trans m11))))) (by have:=cN.next;omega);have Pq:=fv.mod (m9.trans (m10.trans m11)) (by have:=ek.next;omega);have Mg:=Pn.one;have Mh:=Pq.one;have Mi:=dZ.one;obtain ⟨zi,GO,Eo,X9⟩:=UN (F:=Fr aX.next) (h:=ox) (size:=5) rfl rfl rfl Pn.cs (Pq.eA (hS:=aX.next) (by have:=(m5.trans (m6.trans m7)).next;omega)).cs (dZ.eA (hS:=aX.next) (by have:=(m5.trans (m6.trans (m7.trans (m8.trans (m9.trans m10))))).next;omega)).cs (qT (m5.trans (m6.trans (m7.trans (m8.trans (m9.trans (m10.trans m11)))))).next);simp only [vcs,aqP,aq5] at GO;have m12:Mod (cb aO) ox zi:=Eo.mod _;have HX:=uK.trans m12;have wu:=lC.ext Eo;have A3:=qo (l:=[a,b,c]) 31 0 (c2 ao ws) [] X9 rfl (aqZ _);have XE:=bA.mod (m2.trans (m3.trans (m4.trans (m5.trans (m6.trans (m7.trans (m8.trans (m9.trans (m10.trans (m11.trans m12)))))))))) (bN bW);have XG:=OU.mod m12 (bN (by have:=cr.next;omega));have XJ:=OV.mod m12 (bN (by have:=gC.next;omega));have o:=A3.one;simp only [o.1,o.2.1,o.2.2,bx,vcs,dd,Mg.1,Mg.2.1,Mg.2.2,Mh.1,Mh.2.1,Mh.2.2,Mi.1,Mi.2.1,Mi.2.2,GO,XE.g,XG.g,XJ.g,Dz.g,yJ.g,OU.g,OV.g,↓ag,ak,simprocAttr];exact ⟨_,_,_,_,aa.symm,rfl,(A3.box (by have:=(m2.trans (m3.trans m4)).next;have:=bA.lt;omega) _).eA (by have:=(m1.trans (m2.trans (m3.trans m4))).next;omega),HX.set (fun o=>absurd o (dh (aqh _))) _,C.box wu (aqh _) _⟩
     | false=>
       simp only [ic,aqu,aqk,aqs,bt] at aa cW;simp only [↓ag,ak,simprocAttr];refine cT (gQ cW FL) ?_;rintro x bF ⟨rfl,m5,i5,cD⟩;have cr:=cN.trans m5;cases oF:cl FL ws with
       | true=>
         simp only [oF,aqu,aqk,aqs,bt] at aa cD;simp only [↓ag,ak,simprocAttr];have g6:(bD ao n).iD d 32 (c2 ao ws) ws.tail≠.error b3:=fun q=>by rw [q] at aa;exact bX aa.symm
         refine ch (I.iD d 32 (c2 ao ws) ws.tail bF bB i5 cD g6) ?_ ?_
         rotate_left
         . rintro x bR ⟨e,he,rfl,m,bk⟩;simp only [cg,bx,↓ag,ak,simprocAttr];exact ⟨e,by rw [he] at aa;exact aa.symm,rfl,(cr.trans m),bk⟩
         rintro x bR ⟨a,kr,dB,i6,eH,rfl,aN,m6,dq⟩;rw [eH] at aa
         try simp only [bt] at aa
         have c0:=cr.trans m6;have iM:=bA.mod (m2.trans (m3.trans (m4.trans (m5.trans m6)))) (bN bW);have o:=aN.one;simp only [o.1,o.2.1,o.2.2,bx,vcs,dd,iM.g,↓ag,ak,simprocAttr];exact ⟨_,_,_,_,aa.symm,rfl,(aN.box (by have:=(m2.trans (m3.trans (m4.trans m5))).next;have:=bA.lt;omega) _).eA (by have:=(m1.trans (m2.trans (m3.trans (m4.trans m5)))).next;omega),c0.set (fun o=>absurd o (dh (aqh _))) _,C.box dq (aqh _) _⟩
       | false=>
         simp only [oF,aqu,aqk,aqs,bt] at aa cD;simp only [↓ag,ak,simprocAttr];refine cT (gQ cD FO) ?_;rintro x bR ⟨rfl,m6,i6,dq⟩;have c0:=cr.trans m6;cases vh:cl FO ws with
         | true=>
           simp only [vh,aqu,aqk,aqs,bt] at aa dq;simp only [↓ag,ak,simprocAttr];have g7:(bD ao n).iD d 33 (c2 ao ws) ws.tail≠.error b3:=fun q=>by rw [q] at aa;exact bX aa.symm
           refine ch (I.iD d 33 (c2 ao ws) ws.tail bR bB i6 dq g7) ?_ ?_
           rotate_left
           . rintro x cv ⟨e,he,rfl,m,bk⟩;simp only [cg,bx,↓ag,ak,simprocAttr];exact ⟨e,by rw [he] at aa;exact aa.symm,rfl,(c0.trans m),bk⟩
           rintro x cv ⟨a,me,dB,i7,eM,rfl,aN,m7,eV⟩;rw [eM] at aa
           try simp only [bt] at aa
           have ek:=c0.trans m7;have gZ:=bA.mod (m2.trans (m3.trans (m4.trans (m5.trans (m6.trans m7))))) (bN bW);have o:=aN.one;simp only [o.1,o.2.1,o.2.2,bx,vcs,dd,gZ.g,↓ag,ak,simprocAttr];exact ⟨_,_,_,_,aa.symm,rfl,(aN.box (by have:=(m2.trans (m3.trans (m4.trans (m5.trans m6)))).next;have:=bA.lt;omega) _).eA (by have:=(m1.trans (m2.trans (m3.trans (m4.trans (m5.trans m6))))).next;omega),ek.set (fun o=>absurd o (dh (aqh _))) _,C.box eV (aqh _) _⟩
         | false=>
           simp only [vh,aqu,aqk,aqs,bt] at aa dq;simp only [↓ag,ak,simprocAttr];have g7:(bD ao n).pair d ws≠.error b3:=fun q=>by rw [q] at aa;exact bX aa.symm
           refine ch (I.pair d ws bR bB i6 dq g7) ?_ ?_
           rotate_left
           . rintro x cv ⟨e,he,rfl,m,bk⟩;simp only [cg,bx,↓ag,ak,simprocAttr];exact ⟨e,by rw [he] at aa;exact aa.symm,rfl,(c0.trans m),bk⟩
           rintro x cv ⟨a,me,dB,i7,eM,rfl,aN,m7,eV⟩;rw [eM] at aa
           try simp only [bt] at aa
           have ek:=c0.trans m7;have iW:=aN.one;obtain ⟨fR,eE,lH,oX⟩:=fw cv er (vcs a dB);have m8:Mod (cb aO) cv fR:=lH.mod _;have gC:=ek.trans m8;have gr:=eV.ext lH;simp only [iW.1,iW.2.1,iW.2.2,eE,↓ag,ak,simprocAttr];refine cT (gQ gr G') ?_;rintro x hZ ⟨rfl,m9,i9,hU⟩;have jW:=gC.trans m9;cases vi:cl G' me with
           | true=>
             simp only [vi,aqu,aqk,aqs,bt] at aa hU;have sJ:=oX.mod m9 (bN (by have:=ek.next;omega));simp only [sJ.g,↓ag,ak,simprocAttr];have g10:(bD ao n).one d me.tail≠.error b3:=fun q=>by rw [q] at aa;exact bX aa.symm
             refine ch (I.one d me.tail hZ bB i9 hU g10) ?_ ?_
             rotate_left
             . rintro x nD ⟨e,he,rfl,m,bk⟩;simp only [cg,bx,sJ.g,↓ag,ak,simprocAttr];exact ⟨rfl,e,by rw [he] at aa;exact aa.symm,rfl,(jW.trans m),bk⟩
             rintro x nD ⟨b,Ht,jl,i10,kl,rfl,fv,m10,n_⟩;rw [kl] at aa
             try simp only [bt] at aa
             have og:=jW.trans m10;have HA:=sJ.mod m10 (bN (by have:=ek.next;omega));simp only [sJ.g,HA.g,↓ag,ak,simprocAttr];have DU:=aN.mod (m8.trans (m9.trans m10)) (by have:=c0.next;omega);refine cT (uo 37 DU (fv.eA (by have:=(m7.trans (m8.trans m9)).next;omega))) ?_;rintro x ox ⟨hh,rfl,kv,Sj⟩;have dZ:=kv.fQ (ew:=Fr bR.next) fun b q=>q.elim (fun q=>q.1) (fun q=>by have:=(m7.trans (m8.trans (m9.trans m10))).next;unfold Fr;omega);have m11:Mod (cb aO) nD ox:=Sj.mod _;have uK:=og.trans m11;have lC:=n_.ext Sj;have Dy:=bA.mod (m2.trans (m3.trans (m4.trans (m5.trans (m6.trans (m7.trans (m8.trans (m9.trans (m10.trans m11))))))))) (bN bW);have XI:=HA.mod m11 (bN (by have:=ek.next;omega));have o:=dZ.one;simp only [o.1,o.2.1,o.2.2,bx,vcs,dd,Dy.g,XI.g,sJ.g,HA.g,↓ag,ak,simprocAttr];exact ⟨_,_,_,_,aa.symm,rfl,(dZ.box (by have:=(m2.trans (m3.trans (m4.trans (m5.trans m6)))).next;have:=bA.lt;omega) _).eA (by have:=(m1.trans (m2.trans (m3.trans (m4.trans (m5.trans m6))))).next;omega),uK.set (fun o=>absurd o (dh (aqh _))) _,C.box lC (aqh _) _⟩
           | false=>
             simp only [vi,aqu,aqk,aqs,bt] at aa hU;have sJ:=oX.mod m9 (bN (by have:=ek.next;omega));have uN:=aN.mod (m8.trans m9) (by have:=c0.next;omega);have Hy:=bA.mod (m2.trans (m3.trans (m4.trans (m5.trans (m6.trans (m7.trans (m8.trans m9))))))) (bN bW);have o:=uN.one;simp only [o.1,o.2.1,o.2.2,bx,vcs,dd,sJ.g,Hy.g,↓ag,ak,simprocAttr];exact ⟨_,_,_,_,aa.symm,rfl,(uN.box (by have:=(m2.trans (m3.trans (m4.trans (m5.trans m6)))).next;have:=bA.lt;omega) _).eA (by have:=(m1.trans (m2.trans (m3.trans (m4.trans (m5.trans m6))))).next;omega),jW.set (fun o=>absurd o (dh (aqh _))) _,C.box hU (aqh _) _⟩
end
section
variable {W:List aK} {ao aO n:Nat}
theorem alC (I:im W ao aO n) (d:Nat) (ws:List aK):ga W ao aO 147 [] d ws ((bD ao (n+1)).hq d ws):=by
 intro h bB i C bX;generalize aa:(bD ao (n+1)).hq d ws=res at bX ⊢;replace aa:yf ao (bD ao n) d ws=res:=aa;unfold yf at aa;dsimp only at aa;refine Z_.x rfl (dw ?_);unfold Qt;have bW:=C.at_.lt;obtain ⟨U,an,aM,bA⟩:=gd h er;have m1:Mod (cb aO) h U:=aM.mod _;have cq:=m1;have cO:=C.ext aM;simp only [an,↓ag,ak,simprocAttr];refine eo (qn cO) ?_;simp only [↓ag,ak,simprocAttr];refine cT (gQ cO ua) ?_;rintro x ad ⟨rfl,m2,i2,cC⟩;have M2:=cq.trans m2;cases ea:cl ua ws with
 | true=>
   simp only [ea,aqu,aqk,aqs,bt] at aa cC;have jT:=bA.mod m2 (bN bW);simp only [bx,vcs,dd,jT.g,↓ag,ak,simprocAttr];exact ⟨_,_,_,_,aa.symm,rfl,jQ _ _ _ _ _ (aqZ _),M2.set (fun o=>absurd o (dh (aqh _))) _,C.box cC (aqh _) _⟩
 | false=>
   simp only [ea,aqu,aqk,aqs,bt] at aa cC;simp only [↓ag,ak,simprocAttr];refine eo (jJ cC 3) ?_;cases gk:eG 3 ws with
   | true=>
     simp only [gk,aqu,aqk,aqs,bt] at aa;simp only [↓ag,ak,simprocAttr];refine ch (mb cC 3) ?_ ?_
     rotate_left
     . rintro x aC ⟨e,he,rfl,m,bk⟩;simp only [cg,bx,↓ag,ak,simprocAttr];exact ⟨e,by rw [he] at aa;exact aa.symm,rfl,(M2.trans m),bk⟩
     rintro x aC ⟨⟨gM,dT⟩,b6,rfl,⟨tA,r_⟩,m3,i3,dm⟩;rw [b6] at aa
     try simp only [bt] at aa
     have b':=M2.trans m3;have lB:=bA.mod (m2.trans m3) (bN bW);simp only [bx,vcs,dd,aK.enc,lB.g,↓ag,ak,simprocAttr];exact ⟨_,_,_,_,aa.symm,rfl,jQ _ _ _ _ _ (le_top (C.jy gM tA)),b'.set (fun o=>absurd o (dh (aqh _))) _,C.box dm (aqh _) _⟩
   | false=>
     simp only [gk,aqu,aqk,aqs,bt] at aa;simp only [↓ag,ak,simprocAttr];refine eo (jJ cC 4) ?_;cases ic:eG 4 ws with
     | true=>
       simp only [ic,aqu,aqk,aqs,bt] at aa;simp only [↓ag,ak,simprocAttr];refine ch (mb cC 4) ?_ ?_
       rotate_left
       . rintro x aC ⟨e,he,rfl,m,bk⟩;simp only [cg,bx,↓ag,ak,simprocAttr];exact ⟨e,by rw [he] at aa;exact aa.symm,rfl,(M2.trans m),bk⟩
       rintro x aC ⟨⟨gM,dT⟩,b6,rfl,⟨tA,r_⟩,m3,i3,dm⟩;rw [b6] at aa
       try simp only [bt] at aa
       have b':=M2.trans m3;have lB:=bA.mod (m2.trans m3) (bN bW);simp only [bx,vcs,dd,aK.enc,lB.g,↓ag,ak,simprocAttr];exact ⟨_,_,_,_,aa.symm,rfl,jQ _ _ _ _ _ (le_top (C.jy gM tA)),b'.set (fun o=>absurd o (dh (aqh _))) _,C.box dm (aqh _) _⟩
     | false=>
       simp only [ic,aqu,aqk,aqs,bt] at aa;simp only [↓ag,ak,simprocAttr];refine eo (jJ cC 1) ?_;cases oF:eG 1 ws with
       | true=>
         simp only [oF,aqu,aqk,aqs,bt] at aa;simp only [↓ag,ak,simprocAttr];refine ch (mb cC 1) ?_ ?_
         rotate_left
         . rintro x aC ⟨e,he,rfl,m,bk⟩;simp only [cg,bx,↓ag,ak,simprocAttr];exact ⟨e,by rw [he] at aa;exact aa.symm,rfl,(M2.trans m),bk⟩
         rintro x aC ⟨⟨gM,dT⟩,b6,rfl,⟨tA,r_⟩,m3,i3,dm⟩;rw [b6] at aa
         try simp only [bt] at aa
         have b':=M2.trans m3;have lB:=bA.mod (m2.trans m3) (bN bW);simp only [bx,vcs,dd,aK.enc,lB.g,↓ag,ak,simprocAttr];exact ⟨_,_,_,_,aa.symm,rfl,jQ _ _ _ _ _ (aqZ _),b'.set (fun o=>absurd o (dh (aqh _))) _,C.box dm (aqh _) _⟩
       | false=>
         simp only [oF,aqu,aqk,aqs,bt] at aa;simp only [↓ag,ak,simprocAttr];refine cT (gQ cC kI) ?_;rintro x aC ⟨rfl,m3,i3,dm⟩;have b':=M2.trans m3;cases vh:cl kI ws with
         | true=>
           simp only [vh,aqu,aqk,aqs,bt] at aa dm;simp only [↓ag,ak,simprocAttr];refine ch (mb dm 1) ?_ ?_
           rotate_left
           . rintro x aX ⟨e,he,rfl,m,bk⟩;simp only [cg,bx,↓ag,ak,simprocAttr];exact ⟨e,by rw [he] at aa;exact aa.symm,rfl,(b'.trans m),bk⟩
           rintro x aX ⟨⟨hi,fJ⟩,eh,rfl,⟨Ft,xv⟩,m4,i4,cW⟩;rw [eh] at aa
           try simp only [bt] at aa
           have cN:=b'.trans m4;simp only [aK.enc,↓ag,ak,simprocAttr];refine eo (ajR _ (C.num hi Ft xv).1 (C.num hi Ft xv).2 _) ?_;have ks:=bA.mod (m2.trans (m3.trans m4)) (bN bW);simp only [bx,vcs,dd,ks.g,↓ag,ak,simprocAttr];exact ⟨_,_,_,_,aa.symm,rfl,jQ _ _ _ _ _ (aqZ _),cN.set (fun o=>absurd o (dh (aqh _))) _,C.box cW (aqh _) _⟩
         | false=>
           simp only [vh,aqu,aqk,aqs,bt] at aa dm;simp only [↓ag,ak,simprocAttr];refine cT (gQ dm lX) ?_;rintro x aX ⟨rfl,m4,i4,cW⟩;have cN:=b'.trans m4;cases vi:cl lX ws with
           | true=>
             simp only [vi,aqu,aqk,aqs,bt] at aa cW;have ks:=bA.mod (m2.trans (m3.trans m4)) (bN bW);simp only [bx,vcs,dd,ks.g,↓ag,ak,simprocAttr];exact ⟨_,_,_,_,aa.symm,rfl,jQ _ _ _ _ _ (aqZ _),cN.set (fun o=>absurd o (dh (aqh _))) _,C.box cW (aqh _) _⟩
           | false=>
             simp only [vi,aqu,aqk,aqs,bt] at aa cW;simp only [↓ag,ak,simprocAttr];refine cT (gQ cW lW) ?_;rintro x bF ⟨rfl,m5,i5,cD⟩;have cr:=cN.trans m5;cases Cc:cl lW ws with
             | true=>
               simp only [Cc,aqu,aqk,aqs,bt] at aa cD;have hs:=bA.mod (m2.trans (m3.trans (m4.trans m5))) (bN bW);simp only [bx,vcs,dd,hs.g,↓ag,ak,simprocAttr];exact ⟨_,_,_,_,aa.symm,rfl,jQ _ _ _ _ _ (aqZ _),cr.set (fun o=>absurd o (dh (aqh _))) _,C.box cD (aqh _) _⟩
             | false=>
               simp only [Cc,aqu,aqk,aqs,bt] at aa cD;simp only [↓ag,ak,simprocAttr];refine ch (ke cD jj) ?_ ?_
               rotate_left
               . rintro x bR ⟨e,he,rfl,m,bk⟩;simp only [cg,bx,↓ag,ak,simprocAttr];exact ⟨e,by rw [he] at aa;exact aa.symm,rfl,(cr.trans m),bk⟩
               rintro x bR ⟨kr,eH,m6,i6,dq⟩;rw [eH] at aa
               try simp only [bt] at aa
               have c0:=cr.trans m6;simp only [↓ag,ak,simprocAttr];refine cT (gQ dq kH) ?_;rintro x cv ⟨rfl,m7,i7,eV⟩;have ek:=c0.trans m7;cases Cd:cl kH kr with
               | true=>
                 simp only [Cd,aqu,aqk,aqs,bt] at aa eV;have gZ:=bA.mod (m2.trans (m3.trans (m4.trans (m5.trans (m6.trans m7))))) (bN bW);simp only [bx,vcs,dd,gZ.g,↓ag,ak,simprocAttr];exact ⟨_,_,_,_,aa.symm,rfl,jQ _ _ _ _ _ (aqZ _),ek.set (fun o=>absurd o (dh (aqh _))) _,C.box eV (aqh _) _⟩
               | false=>
                 simp only [Cd,aqu,aqk,aqs,bt] at aa eV;simp only [↓ag,ak,simprocAttr];have g8:(bD ao n).pat d kr≠.error b3:=fun q=>by rw [q] at aa;exact bX aa.symm
                 refine ch (I.pat d kr cv bB i7 eV g8) ?_ ?_
                 rotate_left
                 . rintro x fR ⟨e,he,rfl,m,bk⟩;simp only [cg,bx,↓ag,ak,simprocAttr];exact ⟨e,by rw [he] at aa;exact aa.symm,rfl,(ek.trans m),bk⟩
                 rintro x fR ⟨a,wg,dB,i8,e5,rfl,aN,m8,gr⟩;rw [e5] at aa
                 try simp only [bt] at aa
                 have gC:=ek.trans m8;have x5:=aN.one;obtain ⟨hZ,Nt,Bx,uy⟩:=fw fR er (vcs a dB);have m9:Mod (cb aO) fR hZ:=Bx.mod _;have jW:=gC.trans m9;have hU:=gr.ext Bx;simp only [x5.1,x5.2.1,x5.2.2,Nt,↓ag,ak,simprocAttr];refine ch (ke hU kH) ?_ ?_
                 rotate_left
                 . rintro x nD ⟨e,he,rfl,m,bk⟩;simp only [cg,bx,↓ag,ak,simprocAttr];exact ⟨e,by rw [he] at aa;exact aa.symm,rfl,(jW.trans m),bk⟩
                 rintro x nD ⟨Ht,kl,m10,i10,n_⟩;rw [kl] at aa
                 try simp only [bt] at aa
                 have og:=jW.trans m10;have yJ:=uy.mod m10 (bN (by have:=gC.next;omega));have DU:=aN.mod (m9.trans m10) (by have:=ek.next;omega);have wk:=bA.mod (m2.trans (m3.trans (m4.trans (m5.trans (m6.trans (m7.trans (m8.trans (m9.trans m10)))))))) (bN bW);have o:=DU.one;simp only [o.1,o.2.1,o.2.2,bx,vcs,dd,yJ.g,wk.g,↓ag,ak,simprocAttr];exact ⟨_,_,_,_,aa.symm,rfl,(DU.box (by have:=(m2.trans (m3.trans (m4.trans (m5.trans (m6.trans m7))))).next;have:=bA.lt;omega) _).eA (by have:=(m1.trans (m2.trans (m3.trans (m4.trans (m5.trans (m6.trans m7)))))).next;omega),og.set (fun o=>absurd o (dh (aqh _))) _,C.box n_ (aqh _) _⟩
theorem Zr (I:im W ao aO n) (d:Nat) (ws:List aK):ga W ao aO 231 [] d ws ((bD ao (n+1)).atom d ws):=by
 intro h bB i C bX;generalize aa:(bD ao (n+1)).atom d ws=res at bX ⊢;replace aa:wP ao (bD ao n) d ws=res:=aa;unfold wP at aa;dsimp only at aa;refine aau.x rfl (dw ?_);unfold QU;have bW:=C.at_.lt;obtain ⟨U,an,aM,bA⟩:=gd h er;have m1:Mod (cb aO) h U:=aM.mod _;have cq:=m1;have cO:=C.ext aM;simp only [an,↓ag,ak,simprocAttr];refine eo (qn cO) ?_;simp only [↓ag,ak,simprocAttr];refine eo (jJ cO 1) ?_;cases ea:eG 1 ws with
 | true=>
   simp only [ea,aqu,aqk,aqs,bt] at aa;simp only [↓ag,ak,simprocAttr];refine ch (mb cO 1) ?_ ?_
   rotate_left
   . rintro x ad ⟨e,he,rfl,m,bk⟩;simp only [cg,bx,↓ag,ak,simprocAttr];exact ⟨e,by rw [he] at aa;exact aa.symm,rfl,(cq.trans m),bk⟩
   rintro x ad ⟨⟨bn,br⟩,b5,rfl,⟨hN,lP⟩,m2,i2,cC⟩;rw [b5] at aa
   try simp only [bt] at aa
   have M2:=cq.trans m2;have jT:=bA.mod m2 (bN bW);simp only [bx,vcs,dd,aK.enc,jT.g,↓ag,ak,simprocAttr];exact ⟨_,_,_,_,aa.symm,rfl,jQ _ _ _ _ _ (aqZ _),M2.set (fun o=>absurd o (dh (aqh _))) _,C.box cC (aqh _) _⟩
 | false=>
   simp only [ea,aqu,aqk,aqs,bt] at aa;simp only [↓ag,ak,simprocAttr];refine eo (jJ cO 2) ?_;cases gk:eG 2 ws with
   | true=>
     simp only [gk,aqu,aqk,aqs,bt] at aa;simp only [↓ag,ak,simprocAttr];refine ch (mb cO 2) ?_ ?_
     rotate_left
     . rintro x ad ⟨e,he,rfl,m,bk⟩;simp only [cg,bx,↓ag,ak,simprocAttr];exact ⟨e,by rw [he] at aa;exact aa.symm,rfl,(cq.trans m),bk⟩
     rintro x ad ⟨⟨bn,br⟩,b5,rfl,⟨hN,lP⟩,m2,i2,cC⟩;rw [b5] at aa
     try simp only [bt] at aa
     have M2:=cq.trans m2;have jT:=bA.mod m2 (bN bW);simp only [bx,vcs,dd,aK.enc,jT.g,↓ag,ak,simprocAttr];exact ⟨_,_,_,_,aa.symm,rfl,jQ _ _ _ _ _ (le_top (C.jy bn hN)),M2.set (fun o=>absurd o (dh (aqh _))) _,C.box cC (aqh _) _⟩
   | false=>
     simp only [gk,aqu,aqk,aqs,bt] at aa;simp only [↓ag,ak,simprocAttr];refine eo (jJ cO 3) ?_;cases ic:eG 3 ws with
     | true=>
       simp only [ic,aqu,aqk,aqs,bt] at aa;simp only [↓ag,ak,simprocAttr];refine ch (mb cO 3) ?_ ?_
       rotate_left
       . rintro x ad ⟨e,he,rfl,m,bk⟩;simp only [cg,bx,↓ag,ak,simprocAttr];exact ⟨e,by rw [he] at aa;exact aa.symm,rfl,(cq.trans m),bk⟩
       rintro x ad ⟨⟨bn,br⟩,b5,rfl,⟨hN,lP⟩,m2,i2,cC⟩;rw [b5] at aa
       try simp only [bt] at aa
       have M2:=cq.trans m2;have jT:=bA.mod m2 (bN bW);simp only [bx,vcs,dd,aK.enc,jT.g,↓ag,ak,simprocAttr];exact ⟨_,_,_,_,aa.symm,rfl,jQ _ _ _ _ _ (le_top (C.jy bn hN)),M2.set (fun o=>absurd o (dh (aqh _))) _,C.box cC (aqh _) _⟩
     | false=>
       simp only [ic,aqu,aqk,aqs,bt] at aa;simp only [↓ag,ak,simprocAttr];refine eo (jJ cO 4) ?_;cases oF:eG 4 ws with
       | true=>
         simp only [oF,aqu,aqk,aqs,bt] at aa;simp only [↓ag,ak,simprocAttr];refine ch (mb cO 4) ?_ ?_
         rotate_left
         . rintro x ad ⟨e,he,rfl,m,bk⟩;simp only [cg,bx,↓ag,ak,simprocAttr];exact ⟨e,by rw [he] at aa;exact aa.symm,rfl,(cq.trans m),bk⟩
         rintro x ad ⟨⟨bn,br⟩,b5,rfl,⟨hN,lP⟩,m2,i2,cC⟩;rw [b5] at aa
         try simp only [bt] at aa
         have M2:=cq.trans m2;have jT:=bA.mod m2 (bN bW);simp only [bx,vcs,dd,aK.enc,jT.g,↓ag,ak,simprocAttr];exact ⟨_,_,_,_,aa.symm,rfl,jQ _ _ _ _ _ (le_top (C.jy bn hN)),M2.set (fun o=>absurd o (dh (aqh _))) _,C.box cC (aqh _) _⟩
       | false=>
         simp only [oF,aqu,aqk,aqs,bt] at aa;simp only [↓ag,ak,simprocAttr];refine cT (gQ cO lX) ?_;rintro x ad ⟨rfl,m2,i2,cC⟩;have M2:=cq.trans m2;cases vh:cl lX ws with
         | true=>
           simp only [vh,aqu,aqk,aqs,bt] at aa cC;have jT:=bA.mod m2 (bN bW);simp only [bx,vcs,dd,jT.g,↓ag,ak,simprocAttr];exact ⟨_,_,_,_,aa.symm,rfl,jQ _ _ _ _ _ (aqZ _),M2.set (fun o=>absurd o (dh (aqh _))) _,C.box cC (aqh _) _⟩
         | false=>
           simp only [vh,aqu,aqk,aqs,bt] at aa cC;simp only [↓ag,ak,simprocAttr];refine cT (gQ cC lW) ?_;rintro x aC ⟨rfl,m3,i3,dm⟩;have b':=M2.trans m3;cases vi:cl lW ws with
           | true=>
             simp only [vi,aqu,aqk,aqs,bt] at aa dm;have lB:=bA.mod (m2.trans m3) (bN bW);simp only [bx,vcs,dd,lB.g,↓ag,ak,simprocAttr];exact ⟨_,_,_,_,aa.symm,rfl,jQ _ _ _ _ _ (aqZ _),b'.set (fun o=>absurd o (dh (aqh _))) _,C.box dm (aqh _) _⟩
           | false=>
             simp only [vi,aqu,aqk,aqs,bt] at aa dm;simp only [↓ag,ak,simprocAttr];refine cT (gQ dm tH) ?_;rintro x aX ⟨rfl,m4,i4,cW⟩;have cN:=b'.trans m4;cases Cc:cl tH ws with
             | true=>
               simp only [Cc,aqu,aqk,aqs,bt] at aa cW;simp only [↓ag,ak,simprocAttr];have g5:(bD ao n).seq d ws.tail≠.error b3:=fun q=>by rw [q] at aa;exact bX aa.symm
               refine ch (I.seq d ws.tail aX bB i4 cW g5) ?_ ?_
               rotate_left
               . rintro x bF ⟨e,he,rfl,m,bk⟩;simp only [cg,bx,↓ag,ak,simprocAttr];exact ⟨e,by rw [he] at aa;exact aa.symm,rfl,(cN.trans m),bk⟩
               rintro x bF ⟨a,gY,dB,i5,cK,rfl,aN,m5,cD⟩;rw [cK] at aa
               try simp only [bt] at aa
               have cr:=cN.trans m5;have nZ:=aN.one;obtain ⟨bR,dG,gE,sH⟩:=fw bF er (vcs a dB);have m6:Mod (cb aO) bF bR:=gE.mod _;have c0:=cr.trans m6;have dq:=cD.ext gE;simp only [nZ.1,nZ.2.1,nZ.2.2,dG,↓ag,ak,simprocAttr];refine ch (ke dq LB) ?_ ?_
               rotate_left
               . rintro x cv ⟨e,he,rfl,m,bk⟩;simp only [cg,bx,↓ag,ak,simprocAttr];exact ⟨e,by rw [he] at aa;exact aa.symm,rfl,(c0.trans m),bk⟩
               rintro x cv ⟨me,eM,m7,i7,eV⟩;rw [eM] at aa
               try simp only [bt] at aa
               have ek:=c0.trans m7;have XH:=sH.mod m7 (bN (by have:=cr.next;omega));have pG:=aN.mod (m6.trans m7) (by have:=cN.next;omega);have gZ:=bA.mod (m2.trans (m3.trans (m4.trans (m5.trans (m6.trans m7))))) (bN bW);have o:=pG.one;simp only [o.1,o.2.1,o.2.2,bx,vcs,dd,XH.g,gZ.g,↓ag,ak,simprocAttr];exact ⟨_,_,_,_,aa.symm,rfl,(pG.box (by have:=(m2.trans (m3.trans m4)).next;have:=bA.lt;omega) _).eA (by have:=(m1.trans (m2.trans (m3.trans m4))).next;omega),ek.set (fun o=>absurd o (dh (aqh _))) _,C.box eV (aqh _) _⟩
             | false=>
               simp only [Cc,aqu,aqk,aqs,bt] at aa cW;simp only [↓ag,ak,simprocAttr];refine ch (ke cW jj) ?_ ?_
               rotate_left
               . rintro x bF ⟨e,he,rfl,m,bk⟩;simp only [cg,bx,↓ag,ak,simprocAttr];exact ⟨e,by rw [he] at aa;exact aa.symm,rfl,(cN.trans m),bk⟩
               rintro x bF ⟨gY,cK,m5,i5,cD⟩;rw [cK] at aa
               try simp only [bt] at aa
               have cr:=cN.trans m5;simp only [↓ag,ak,simprocAttr];refine cT (gQ cD kH) ?_;rintro x bR ⟨rfl,m6,i6,dq⟩;have c0:=cr.trans m6;cases Cd:cl kH gY with
               | true=>
                 simp only [Cd,aqu,aqk,aqs,bt] at aa dq;have iM:=bA.mod (m2.trans (m3.trans (m4.trans (m5.trans m6)))) (bN bW);simp only [bx,vcs,dd,iM.g,↓ag,ak,simprocAttr];exact ⟨_,_,_,_,aa.symm,rfl,jQ _ _ _ _ _ (aqZ _),c0.set (fun o=>absurd o (dh (aqh _))) _,C.box dq (aqh _) _⟩
               | false=>
                 simp only [Cd,aqu,aqk,aqs,bt] at aa dq;simp only [↓ag,ak,simprocAttr];have g7:(bD ao n).seq d gY≠.error b3:=fun q=>by rw [q] at aa;exact bX aa.symm
                 refine ch (I.seq d gY bR bB i6 dq g7) ?_ ?_
                 rotate_left
                 . rintro x cv ⟨e,he,rfl,m,bk⟩;simp only [cg,bx,↓ag,ak,simprocAttr];exact ⟨e,by rw [he] at aa;exact aa.symm,rfl,(c0.trans m),bk⟩
                 rintro x cv ⟨a,me,dB,i7,eM,rfl,aN,m7,eV⟩;rw [eM] at aa
                 try simp only [bt] at aa
                 have ek:=c0.trans m7;have iW:=aN.one;obtain ⟨fR,eE,lH,oX⟩:=fw cv er (vcs a dB);have m8:Mod (cb aO) cv fR:=lH.mod _;have gC:=ek.trans m8;have gr:=eV.ext lH;simp only [iW.1,iW.2.1,iW.2.2,eE,↓ag,ak,simprocAttr];refine ch (ke gr kH) ?_ ?_
                 rotate_left
                 . rintro x hZ ⟨e,he,rfl,m,bk⟩;simp only [cg,bx,↓ag,ak,simprocAttr];exact ⟨e,by rw [he] at aa;exact aa.symm,rfl,(gC.trans m),bk⟩
                 rintro x hZ ⟨Xv,ly,m9,i9,hU⟩;rw [ly] at aa
                 try simp only [bt] at aa
                 have jW:=gC.trans m9;have sJ:=oX.mod m9 (bN (by have:=ek.next;omega));have uN:=aN.mod (m8.trans m9) (by have:=c0.next;omega);have Hy:=bA.mod (m2.trans (m3.trans (m4.trans (m5.trans (m6.trans (m7.trans (m8.trans m9))))))) (bN bW);have o:=uN.one;simp only [o.1,o.2.1,o.2.2,bx,vcs,dd,sJ.g,Hy.g,↓ag,ak,simprocAttr];exact ⟨_,_,_,_,aa.symm,rfl,(uN.box (by have:=(m2.trans (m3.trans (m4.trans (m5.trans m6)))).next;have:=bA.lt;omega) _).eA (by have:=(m1.trans (m2.trans (m3.trans (m4.trans (m5.trans m6))))).next;omega),jW.set (fun o=>absurd o (dh (aqh _))) _,C.box hU (aqh _) _⟩
theorem alP (I:im W ao aO n) (d:Nat) (ws:List aK):ga W ao aO 223 [] d ws ((bD ao (n+1)).pre d ws):=by
 intro h bB i C bX;generalize aa:(bD ao (n+1)).pre d ws=res at bX ⊢;replace aa:Nl ao (bD ao n) d ws=res:=aa;unfold Nl at aa;dsimp only at aa;refine aap.x rfl (dw ?_);unfold QP;have bW:=C.at_.lt;obtain ⟨U,an,aM,bA⟩:=gd h er;have m1:Mod (cb aO) h U:=aM.mod _;have cq:=m1;have cO:=C.ext aM;simp only [an,↓ag,ak,simprocAttr];refine ch (Eu cO) ?_ ?_
 rotate_left
 . rintro x ad ⟨aY,e,he,rfl,m,bk⟩;cases he;simp only [cg,bx,eJ,cd,↓ag,ak,simprocAttr];unfold m_ at aa;rw [aqw aY] at aa;exact ⟨_,aa.symm,rfl,cq.trans m,bk⟩
 rintro x ad ⟨aY,m2,cC⟩;unfold m_ at aa;rw [aqr (by omega)] at aa;have M2:=cq.trans m2;simp only [eJ,aqI,iQ,cd,↓ag,ak,simprocAttr];refine eo (qn cC) ?_;simp only [eJ,aqI,iQ,cd,↓ag,ak,simprocAttr];refine cT (gQ cC kI) ?_;rintro x aC ⟨rfl,m3,i3,dm⟩;have b':=M2.trans m3;cases ea:cl kI ws with
 | true=>
   simp only [ea,aqu,aqk,aqs,bt] at aa dm;simp only [eJ,aqI,iQ,cd,↓ag,ak,simprocAttr];have g4:(bD ao n).pre (d+1) ws.tail≠.error b3:=fun q=>by rw [q] at aa;exact bX aa.symm
   refine ch (I.pre (d+1) ws.tail aC bB i3 dm g4) ?_ ?_
   rotate_left
   . rintro x aX ⟨e,he,rfl,m,dn,a0,mY,mm,bk⟩;simp only [cg,bx,eJ,cd,↓ag,ak,simprocAttr];refine (tJ bk.1).mono ?_;rintro u bF ⟨rfl,b4,cV,b7,ct,bS,mq⟩;exact ⟨e,by rw [he] at aa;exact aa.symm,rfl,(b'.trans m).trans b4,cV,b7,ct,bS,mq,bk.2⟩
   rintro x aX ⟨a,fJ,dB,i4,eh,rfl,aN,m4,cW⟩;rw [eh] at aa
   try simp only [bt] at aa
   have cN:=b'.trans m4;have Mk:=aN.one;obtain ⟨bF,cE,eY,rK⟩:=vx (F:=Fr aC.next) (h:=aX) (size:=5) rfl aN.cs (qT m4.next);have m5:Mod (cb aO) aX bF:=eY.mod _;have cr:=cN.trans m5;have cD:=cW.ext eY;have dZ:=qo (l:=[a]) 39 0 (c2 ao ws) [] rK rfl (aqZ _);have hs:=bA.mod (m2.trans (m3.trans (m4.trans m5))) (bN bW);have o:=dZ.one;simp only [o.1,o.2.1,o.2.2,bx,vcs,dd,Mk.1,Mk.2.1,Mk.2.2,cE,hs.g,eJ,aqI,iQ,cd,↓ag,ak,simprocAttr];have fB:=hs.put (vcs (.mk 39 0 (c2 ao ws) [] [a]) (.slice (aE aX.next) 0 1 1));refine (tI (C.box cD (aqh _) _)).mono ?_;rintro u bR ⟨rfl,b4,ij⟩;have mf:=fB.mod b4 (bN bW);simp only [mf.g,eJ,vcs,dd,↓ag,ak,simprocAttr];exact ⟨_,_,_,_,aa.symm,rfl,((dZ.box (by have:=(m2.trans m3).next;have:=bA.lt;omega) _).mod b4 (by have:=bA.lt;have:=(m2.trans m3).next;omega)).eA (by have:=(m1.trans (m2.trans m3)).next;omega),(cr.set (fun o=>absurd o (dh (aqh _))) _).trans b4,ij⟩
 | false=>
   simp only [ea,aqu,aqk,aqs,bt] at aa dm;simp only [eJ,aqI,iQ,cd,↓ag,ak,simprocAttr];refine cT (gQ dm G8) ?_;rintro x aX ⟨rfl,m4,i4,cW⟩;have cN:=b'.trans m4;cases gk:cl G8 ws with
   | true=>
     simp only [gk,aqu,aqk,aqs,bt] at aa cW;simp only [eJ,aqI,iQ,cd,↓ag,ak,simprocAttr];have g5:(bD ao n).pre (d+1) ws.tail≠.error b3:=fun q=>by rw [q] at aa;exact bX aa.symm
     refine ch (I.pre (d+1) ws.tail aX bB i4 cW g5) ?_ ?_
     rotate_left
     . rintro x bF ⟨e,he,rfl,m,dn,a0,mY,mm,bk⟩;simp only [cg,bx,eJ,cd,↓ag,ak,simprocAttr];refine (tJ bk.1).mono ?_;rintro u bR ⟨rfl,b4,cV,b7,ct,bS,mq⟩;exact ⟨e,by rw [he] at aa;exact aa.symm,rfl,(cN.trans m).trans b4,cV,b7,ct,bS,mq,bk.2⟩
     rintro x bF ⟨a,gY,dB,i5,cK,rfl,aN,m5,cD⟩;rw [cK] at aa
     try simp only [bt] at aa
     have cr:=cN.trans m5;have x3:=aN.one;obtain ⟨bR,dG,gE,uI⟩:=vx (F:=Fr aX.next) (h:=bF) (size:=5) rfl aN.cs (qT m5.next);have m6:Mod (cb aO) bF bR:=gE.mod _;have c0:=cr.trans m6;have dq:=cD.ext gE;have dZ:=qo (l:=[a]) 36 0 (c2 ao ws) [] uI rfl (aqZ _);have iM:=bA.mod (m2.trans (m3.trans (m4.trans (m5.trans m6)))) (bN bW);have o:=dZ.one;simp only [o.1,o.2.1,o.2.2,bx,vcs,dd,x3.1,x3.2.1,x3.2.2,dG,iM.g,eJ,aqI,iQ,cd,↓ag,ak,simprocAttr];have fB:=iM.put (vcs (.mk 36 0 (c2 ao ws) [] [a]) (.slice (aE bF.next) 0 1 1));refine (tI (C.box dq (aqh _) _)).mono ?_;rintro u cv ⟨rfl,b4,ij⟩;have mf:=fB.mod b4 (bN bW);simp only [mf.g,eJ,vcs,dd,↓ag,ak,simprocAttr];exact ⟨_,_,_,_,aa.symm,rfl,((dZ.box (by have:=(m2.trans (m3.trans m4)).next;have:=bA.lt;omega) _).mod b4 (by have:=bA.lt;have:=(m2.trans (m3.trans m4)).next;omega)).eA (by have:=(m1.trans (m2.trans (m3.trans m4))).next;omega),(c0.set (fun o=>absurd o (dh (aqh _))) _).trans b4,ij⟩
   | false=>
     simp only [gk,aqu,aqk,aqs,bt] at aa cW;simp only [eJ,aqI,iQ,cd,↓ag,ak,simprocAttr];have g5:(bD ao n).app (d+1) ws≠.error b3:=fun q=>by rw [q] at aa;exact bX aa.symm
     refine ch (I.app (d+1) ws aX bB i4 cW g5) ?_ ?_
     rotate_left
     . rintro x bF ⟨e,he,rfl,m,dn,a0,mY,mm,bk⟩;simp only [cg,bx,eJ,cd,↓ag,ak,simprocAttr];refine (tJ bk.1).mono ?_;rintro u bR ⟨rfl,b4,cV,b7,ct,bS,mq⟩;exact ⟨e,by rw [he] at aa;exact aa.symm,rfl,(cN.trans m).trans b4,cV,b7,ct,bS,mq,bk.2⟩
     rintro x bF ⟨a,gY,dB,i5,cK,rfl,aN,m5,cD⟩;rw [cK] at aa
     try simp only [bt] at aa
     have cr:=cN.trans m5;have hs:=bA.mod (m2.trans (m3.trans (m4.trans m5))) (bN bW);have o:=aN.one;simp only [o.1,o.2.1,o.2.2,bx,vcs,dd,hs.g,eJ,aqI,iQ,cd,↓ag,ak,simprocAttr];have fB:=hs.put (vcs a dB);refine (tI (C.box cD (aqh _) _)).mono ?_;rintro u bR ⟨rfl,b4,ij⟩;have mf:=fB.mod b4 (bN bW);simp only [mf.g,eJ,vcs,dd,↓ag,ak,simprocAttr];exact ⟨_,_,_,_,aa.symm,rfl,((aN.box (by have:=(m2.trans (m3.trans m4)).next;have:=bA.lt;omega) _).mod b4 (by have:=bA.lt;have:=(m2.trans (m3.trans m4)).next;omega)).eA (by have:=(m1.trans (m2.trans (m3.trans m4))).next;omega),(cr.set (fun o=>absurd o (dh (aqh _))) _).trans b4,ij⟩
theorem abF (I:im W ao aO n) (d:Nat) (ws:List aK):ga W ao aO 187 [] d ws ((bD ao (n+1)).j9 d ws):=by
 intro h bB i C bX;generalize aa:(bD ao (n+1)).j9 d ws=res at bX ⊢;replace aa:I9 (bD ao n) d ws=res:=aa;unfold I9 at aa;refine aal.x rfl (dw ?_);unfold QL;have bW:=C.at_.lt;obtain ⟨U,an,aM,bA⟩:=gd h er;have m1:Mod (cb aO) h U:=aM.mod _;have cq:=m1;have cO:=C.ext aM;simp only [an,↓ag,ak,simprocAttr];have g2:(bD ao n).h8 d ws≠.error b3:=fun q=>by rw [q] at aa;exact bX aa.symm
 refine ch (I.h8 d ws U bB i cO g2) ?_ ?_
 rotate_left
 . rintro x ad ⟨e,he,rfl,m,bk⟩;simp only [cg,bx,↓ag,ak,simprocAttr];exact ⟨e,by rw [he] at aa;exact aa.symm,rfl,(cq.trans m),bk⟩
 rintro x ad ⟨a,br,dB,i2,b5,rfl,aN,m2,cC⟩;rw [b5] at aa
 try simp only [bt] at aa
 have M2:=cq.trans m2;have eR:=aN.one;obtain ⟨aC,aH,cu,fT⟩:=fw ad er (vcs a dB);have m3:Mod (cb aO) ad aC:=cu.mod _;have b':=M2.trans m3;have dm:=cC.ext cu;simp only [eR.1,eR.2.1,eR.2.2,aH,↓ag,ak,simprocAttr];refine cT (MB dm (k:=0) (by omega)) ?_;rintro x aX ⟨rfl,m4,i4,cW⟩;rw [adh] at cW ⊢;have cN:=b'.trans m4;cases aU:ss br with
 | none=>
   simp only [aU,Option.isSome,Option.getD,aqu,aqk,aqs,bt] at aa cW;have iA:=fT.mod m4 (bN (by have:=M2.next;omega));have uL:=aN.mod (m3.trans m4) (by have:=cq.next;omega);have ks:=bA.mod (m2.trans (m3.trans m4)) (bN bW);have o:=uL.one;simp only [o.1,o.2.1,o.2.2,bx,vcs,dd,Option.isSome,Option.getD,iA.g,ks.g,↓ag,ak,simprocAttr];exact ⟨_,_,_,_,aa.symm,rfl,(uL.box (by have:=bW;have:=bA.lt;omega) _).eA (by have:=m1.next;omega),cN.set (fun o=>absurd o (dh (aqh _))) _,C.box cW (aqh _) _⟩
 | some ub=>
   simp only [aU,Option.isSome,Option.getD,aqu,aqk,aqs,bt] at aa cW;have iA:=fT.mod m4 (bN (by have:=M2.next;omega));simp only [Option.isSome,Option.getD,iA.g,↓ag,ak,simprocAttr];have g5:(bD ao n).h8 d br.tail≠.error b3:=fun q=>by rw [q] at aa;exact bX aa.symm
   refine ch (I.h8 d br.tail aX bB i4 cW g5) ?_ ?_
   rotate_left
   . rintro x bF ⟨e,he,rfl,m,bk⟩;simp only [cg,bx,iA.g,↓ag,ak,simprocAttr];exact ⟨rfl,e,by rw [he] at aa;exact aa.symm,rfl,(cN.trans m),bk⟩
   rintro x bF ⟨b,gY,jl,i5,cK,rfl,fv,m5,cD⟩;rw [cK] at aa
   try simp only [bt] at aa
   have cr:=cN.trans m5;have f':=iA.mod m5 (bN (by have:=M2.next;omega));simp only [iA.g,f'.g,↓ag,ak,simprocAttr];have mi:=aN.mod (m3.trans (m4.trans m5)) (by have:=cq.next;omega);refine cT (Mz ub (akN aU) mi (fv.eA (by have:=(m2.trans (m3.trans m4)).next;omega))) ?_;rintro x bR ⟨hh,rfl,kv,gE⟩;have dZ:=kv.fQ (ew:=Fr U.next) fun b q=>q.elim (fun q=>q.1) (fun q=>by have:=(m2.trans (m3.trans (m4.trans m5))).next;unfold Fr;omega);have m6:Mod (cb aO) bF bR:=gE.mod _;have c0:=cr.trans m6;have dq:=cD.ext gE;have iM:=bA.mod (m2.trans (m3.trans (m4.trans (m5.trans m6)))) (bN bW);have jU:=f'.mod m6 (bN (by have:=M2.next;omega));have o:=dZ.one;simp only [o.1,o.2.1,o.2.2,bx,vcs,dd,iM.g,jU.g,iA.g,f'.g,↓ag,ak,simprocAttr];exact ⟨_,_,_,_,aa.symm,rfl,(dZ.box (by have:=bW;have:=bA.lt;omega) _).eA (by have:=m1.next;omega),c0.set (fun o=>absurd o (dh (aqh _))) _,C.box dq (aqh _) _⟩
end
theorem ali:(kZ=0)=False:=aqx (by decide)
theorem alj:(kZ=1)=False:=aqx (by decide)
theorem alk:(kZ=2)=False:=aqx (by decide)
theorem alm:(kZ=3)=False:=aqx (by decide)
set_option linter.defProp false in
def kq:=And.intro ali<|And.intro alj<|And.intro alk alm
abbrev k4 (B n:Nat):aN->Prop:=fun b=>B<=cM b/\b≠aE n
def qh (W:List aK) (aO:Nat) (g:ae):Nat:=W.length - ((gW (g.get (aE aO)) 1).getD .bad).toN
section
variable {W:List aK} {ao aO n d i B:Nat} {ws:List aK} {bB:V} {h ab:ae} {p:aR} {v:V}
theorem kX (C:dY W ao aO h d ws bB i):qh W aO h=ws.length:=by unfold qh;rw [C.at_.g,LK,C.eq,aqU];rfl
theorem ee.xW (A:ee (k4 B n) h p v) (m:Mod (cb aO) h ab) (aq:aO<B):ee (k4 B n) ab p v:=⟨A.e6.mod m fun b q _=>⟨fun z=>by have:=q.1;rw [show b=aE aO from z,dj] at this;omega,q⟩,A.str⟩
theorem ee.BG (A:ee (Fr B) h p v) (e:Ext h ab):ee (k4 B h.next) ab p v:=(A.cA.ext e).fQ fun b q=>⟨q.1,fun z=>by rw [z] at q;exact dh (aqh _) q.2⟩
theorem JS {ej:V} {p':aR} {k:ae} (A:ee (fun b=>(k4 B n b/\Old k b)\/k.next<=cM b) h p' ej) (U:B<=k.next) (ad:n<k.next):ee (k4 B n) h p' ej:=A.fQ fun b q=>q.elim (fun q=>q.1) fun q=>⟨by omega,fun z=>by rw [z,dj] at q;omega⟩
theorem u0 {α:Type} {E:Int × Nat->Prop} {r:cP (α × List aK)} {a:α} {bw:List aK} (g:eL E ws r) (e:r=.ok (a,bw)):bw.length<ws.length:=by rw [e] at g;exact g
theorem ee.JR (A:ee (Fr B) h p v) {hS:Nat} (U:hS<=B) (ad:n<B):ee (k4 hS n) h p v:=A.fQ fun b q=>⟨aqn U q,fun z=>by unfold Fr at q;rw [z,dj] at q;omega⟩
theorem ee.Dw (A:ee (k4 B n) h p v) {m hS:Nat} (hm:m<B) (cU:hS<=B) (k:cz):ee (Fr hS) (h.set (aE m) k) p v:=(A.set (fun q=>by have:=q.1;rw [dj] at this;omega) k).fQ fun b q=>aqn cU q.1
end
section
variable {W:List aK} {ao aO n:Nat}
theorem Y' (J:∀m,m<=n->im W ao aO m) (d:Nat) (ws:List aK):ga W ao aO 229 [] d ws ((bD ao (n+1)).app d ws):=by
 have I:=J n (aqh n);intro h bB i C bX;generalize aa:(bD ao (n+1)).app d ws=res at bX ⊢;replace aa:uP ao (bD ao n) d ws=res:=aa;unfold uP at aa;dsimp only at aa;refine aar.x rfl (dw ?_);unfold QR;have bW:=C.at_.lt;obtain ⟨U,an,aM,bA⟩:=gd h er;have m1:Mod (cb aO) h U:=aM.mod _;have cq:=m1;have cO:=C.ext aM;simp only [an,↓ag,ak,simprocAttr];refine eo (qn cO) ?_;simp only [↓ag,ak,simprocAttr];refine cT (gQ cO FN) ?_;rintro x ad ⟨rfl,m2,i2,cC⟩;have M2:=cq.trans m2;cases ea:cl FN ws with
 | true=>
   simp only [ea,aqu,aqk,aqs,bt] at aa cC;simp only [↓ag,ak,simprocAttr];have g3:(bD ao n).atom d ws.tail≠.error b3:=fun q=>by rw [q] at aa;exact bX aa.symm
   refine ch (I.atom d ws.tail ad bB i2 cC g3) ?_ ?_
   rotate_left
   . rintro x aC ⟨e,he,rfl,m,bk⟩;simp only [cg,bx,↓ag,ak,simprocAttr];exact ⟨e,by rw [he] at aa;exact aa.symm,rfl,(M2.trans m),bk⟩
   rintro x aC ⟨a,dT,dB,i3,b6,rfl,aN,m3,dm⟩;rw [b6] at aa
   try simp only [bt] at aa
   have b':=M2.trans m3;have Mj:=aN.one;obtain ⟨aX,bP,dA,rJ⟩:=vx (F:=Fr ad.next) (h:=aC) (size:=5) rfl aN.cs (qT m3.next);have m4:Mod (cb aO) aC aX:=dA.mod _;have cN:=b'.trans m4;have cW:=dm.ext dA;have dZ:=qo (l:=[a]) 34 0 (c2 ao ws) [] rJ rfl (aqZ _);have ks:=bA.mod (m2.trans (m3.trans m4)) (bN bW);have o:=dZ.one;simp only [o.1,o.2.1,o.2.2,bx,vcs,dd,Mj.1,Mj.2.1,Mj.2.2,bP,ks.g,↓ag,ak,simprocAttr];exact ⟨_,_,_,_,aa.symm,rfl,(dZ.box (by have:=m2.next;have:=bA.lt;omega) _).eA (by have:=(m1.trans m2).next;omega),cN.set (fun o=>absurd o (dh (aqh _))) _,C.box cW (aqh _) _⟩
 | false=>
   simp only [ea,aqu,aqk,aqs,bt] at aa cC;simp only [↓ag,ak,simprocAttr];refine eo (jJ cC 4) ?_;cases gk:eG 4 ws with
   | true=>
     simp only [gk,aqu,aqk,aqs,bt] at aa;simp only [↓ag,ak,simprocAttr];refine ch (mb cC 4) ?_ ?_
     rotate_left
     . rintro x aC ⟨e,he,rfl,m,bk⟩;simp only [cg,bx,↓ag,ak,simprocAttr];exact ⟨e,by rw [he] at aa;exact aa.symm,rfl,(M2.trans m),bk⟩
     rintro x aC ⟨⟨gM,dT⟩,b6,rfl,⟨tA,r_⟩,m3,i3,dm⟩;rw [b6] at aa
     try simp only [bt] at aa
     have b':=M2.trans m3;obtain ⟨aX,bP,dA,h9⟩:=fw aC er [.int .i64 25,.int .i64 0,.int .i64 (c2 ao ws),.str gM.text,.cn];have m4:Mod (cb aO) aC aX:=dA.mod _;have cN:=b'.trans m4;have cW:=dm.ext dA;simp only [aK.enc,bP,↓ag,ak,simprocAttr];refine cT (PW cW) ?_;rintro x bF ⟨rfl,eY⟩;have m5:Mod (cb aO) aX bF:=eY.mod _;have cr:=cN.trans m5;have cD:=cW.ext eY;cases ic:rR dT with
     | true=>
       simp only [ic,aqu,aqk,aqs,bt] at aa;simp only [↓ag,ak,simprocAttr];have g6:(bD ao n).atom d dT≠.error b3:=fun q=>by rw [q] at aa;exact bX aa.symm
       refine ch (I.atom d dT bF bB i3 cD g6) ?_ ?_
       rotate_left
       . rintro x bR ⟨e,he,rfl,m,bk⟩;simp only [cg,bx,↓ag,ak,simprocAttr];exact ⟨e,by rw [he] at aa;exact aa.symm,rfl,(cr.trans m),bk⟩
       rintro x bR ⟨a,kr,dB,i6,eH,rfl,aN,m6,dq⟩;rw [eH] at aa
       try simp only [bt] at aa
       have c0:=cr.trans m6;have n0:=aN.one;obtain ⟨cv,fX,e',sS⟩:=vx (F:=Fr bF.next) (h:=bR) (size:=5) rfl aN.cs (qT m6.next);have m7:Mod (cb aO) bR cv:=e'.mod _;have ek:=c0.trans m7;have eV:=dq.ext e';have dZ:=qo (l:=[a]) 25 0 (c2 ao ws) gM.text sS rfl (le_top (C.jy gM tA));have kt:=h9.mod (m5.trans (m6.trans m7)) (bN (by have:=b'.next;omega));obtain ⟨fR,eE⟩:∃g,cv.set (aE aC.next) (.bz [.int .i64 25,.int .i64 0,.int .i64 (c2 ao ws),.str gM.text,(.slice (aE bR.next) 0 1 1)] 0 false)=g:=⟨_,rfl⟩;have oX:=kt.put [.int .i64 25,.int .i64 0,.int .i64 (c2 ao ws),.str gM.text,(.slice (aE bR.next) 0 1 1)];rw [eE] at oX;have gr:=C.box eV (n:=aC.next) b'.next (.bz [.int .i64 25,.int .i64 0,.int .i64 (c2 ao ws),.str gM.text,(.slice (aE bR.next) 0 1 1)] 0 false)
       rw [eE] at gr;have gC:Mod (cb aO) h fR:=by rw [<-eE];exact ek.set (fun o=>absurd o (dh b'.next)) _
       have pG:=aN.mod m7 (by have:=cr.next;omega);have wD:=pG.box (n:=aC.next) (by have:=m5.next;have:=h9.lt;omega) (.bz [.int .i64 25,.int .i64 0,.int .i64 (c2 ao ws),.str gM.text,(.slice (aE bR.next) 0 1 1)] 0 false);rw [eE] at wD;have oh:=dZ.box (n:=aC.next) (by have:=m5.next;have:=h9.lt;omega) (.bz [.int .i64 25,.int .i64 0,.int .i64 (c2 ao ws),.str gM.text,(.slice (aE bR.next) 0 1 1)] 0 false);rw [eE] at oh;have gZ:=bA.mod (m2.trans (m3.trans (m4.trans (m5.trans (m6.trans m7))))) (bN bW);have pA:=gZ.set (m:=aC.next) (by have:=bA.lt;have:=(m2.trans m3).next;omega) (.bz [.int .i64 25,.int .i64 0,.int .i64 (c2 ao ws),.str gM.text,(.slice (aE bR.next) 0 1 1)] 0 false);rw [eE] at pA;have m8:Mod (fun b=>b=aE aC.next) cv fR:=by rw [<-eE];exact (Mod.refl (fun b=>b=aE aC.next) _).set (fun _=>rfl) _
       have o:=oh.one;simp only [o.1,o.2.1,o.2.2,bx,vcs,dd,n0.1,n0.2.1,n0.2.2,fX,kt.g,eE,oX.g,pA.g,↓ag,ak,simprocAttr];exact ⟨_,_,_,_,aa.symm,rfl,(oh.box (by have:=(m2.trans (m3.trans (m4.trans m5))).next;have:=bA.lt;omega) _).eA (by have:=(m1.trans (m2.trans (m3.trans (m4.trans m5)))).next;omega),gC.set (fun o=>absurd o (dh (aqh _))) _,C.box gr (aqh _) _⟩
     | false=>
       simp only [ic,aqu,aqk,aqs,bt] at aa;have gN:=h9.mod m5 (bN (by have:=b'.next;omega));have hs:=bA.mod (m2.trans (m3.trans (m4.trans m5))) (bN bW);simp only [bx,vcs,dd,gN.g,hs.g,↓ag,ak,simprocAttr];exact ⟨_,_,_,_,aa.symm,rfl,jQ _ _ _ _ _ (le_top (C.jy gM tA)),cr.set (fun o=>absurd o (dh (aqh _))) _,C.box cD (aqh _) _⟩
   | false=>
     simp only [gk,aqu,aqk,aqs,bt] at aa;simp only [↓ag,ak,simprocAttr];have g3:(bD ao n).atom d ws≠.error b3:=fun q=>by rw [q] at aa;exact bX aa.symm
     refine ch (I.atom d ws ad bB i2 cC g3) ?_ ?_
     rotate_left
     . rintro x aC ⟨e,he,rfl,m,bk⟩;simp only [cg,bx,↓ag,ak,simprocAttr];exact ⟨e,by rw [he] at aa;exact aa.symm,rfl,(M2.trans m),bk⟩
     rintro x aC ⟨a,dT,dB,i3,b6,rfl,aN,m3,dm⟩;rw [b6] at aa
     try simp only [bt] at aa
     have b':=M2.trans m3;have hf:=aN.one;obtain ⟨aX,bP,dA,h9⟩:=fw aC er (vcs a dB);have m4:Mod (cb aO) aC aX:=dA.mod _;have cN:=b'.trans m4;have cW:=dm.ext dA;have ks:=bA.mod (m2.trans (m3.trans m4)) (bN bW);have sM:=aN.BG dA;have nX:ad.next<=aC.next:=m3.next
     simp only [hf.1,hf.2.1,hf.2.2,bP,h9.g,ks.g,↓ag,ak,simprocAttr];refine iV (fun r g=>r 0=.ptr (aE aO) 0/\r 2=.ptr (aE h.next) 0/\r 5=.ptr (aE aC.next) 0/\Has g h.next er/\Mod (cb aO) h g/\∃m a dB dk iG,m<=n/\Has g aC.next (vcs a dB)/\ee (k4 ad.next aC.next) g a dB/\dY W ao aO g d dk bB iG/\(bD ao m).args d a dk=res) (fun _ g=>qh W aO g) ?_ ?_
     . exact ⟨by simp only [↓ag,dv,simprocAttr],by simp only [↓ag,dv,simprocAttr],by simp only [↓ag,dv,simprocAttr],ks,cN,n,_,_,_,_,aqh _,h9,sM,cW,aa⟩
     rintro r bF ⟨bZ,b5,cK,R,cr,m,a,dB,dk,iG,hm,A,P,cD,aa⟩;cases m with
     | zero=>exact (bX aa.symm).elim
     | succ m=>
       replace aa:wM (bD ao m) d a dk=res:=aa;unfold wM at aa;unfold QS;have I:=J m (by omega);have iI:=A.lt;simp only [bZ,b5,cK,↓ag,ak,simprocAttr];refine cT (PW cD) ?_;rintro x bR ⟨rfl,gE⟩;have m6:Mod (cb aO) bF bR:=gE.mod _;have c0:=cr.trans m6;have dq:=cD.ext gE;cases oF:rR dk with
       | true=>
         simp only [oF,aqu,aqk,aqs,bt] at aa;have jm:=A.mod m6 (bN (by have:=b'.next;omega));simp only [jm.g,bZ,b5,cK,↓ag,ak,simprocAttr];have g7:(bD ao m).atom d dk≠.error b3:=fun q=>by rw [q] at aa;exact bX aa.symm
         refine ch (I.atom d dk bR bB iG dq g7) ?_ ?_
         rotate_left
         . rintro x cv ⟨e,he,rfl,m,bk⟩;simp only [cg,bx,jm.g,bZ,b5,cK,kq,↓ag,ak,simprocAttr];exact ⟨rfl,e,by rw [he] at aa;exact aa.symm,rfl,(c0.trans m),bk⟩
         rintro x cv ⟨b,me,jl,i7,eM,rfl,fv,m7,eV⟩;rw [eM] at aa
         try simp only [bt] at aa
         have ek:=c0.trans m7;have kt:=jm.mod m7 (bN (by have:=b'.next;omega));simp only [bZ,b5,cK,jm.g,kt.g,↓ag,ak,simprocAttr];have Ys:=P.xW (m6.trans m7) (by have:=M2.next;omega);refine cT (uo 28 Ys (fv.JR (hS:=ad.next) (n:=aC.next) (by have:=cr.next;have:=m6.next;have:=iI;have:=nX;omega) (by have:=m6.next;have:=iI;have:=nX;omega))) ?_;rintro x fR ⟨hh,rfl,kv,lH⟩;have dZ:=JS kv (by have:=cr.next;have:=(m6.trans m7).next;have:=iI;have:=nX;omega) (by have:=(m6.trans m7).next;have:=iI;have:=nX;omega);have m8:Mod (cb aO) cv fR:=lH.mod _;have gC:=ek.trans m8;have gr:=eV.ext lH;have o:=dZ.one;have wm:=kt.mod m8 (bN (by have:=b'.next;omega));have Hx:=R.mod (m6.trans (m7.trans m8)) (bN bW);simp only [o.1,o.2.1,o.2.2,vcs,dd,bZ,b5,cK,wm.g,jm.g,kt.g,↓ag,ak,simprocAttr];have ij:=C.box gr (n:=aC.next) b'.next (.bz (vcs (two 28 a b) hh) 0 false)
         exact ⟨⟨Hx.set (by have:=bA.lt;have:=(m2.trans m3).next;omega) _,gC.set (fun o=>absurd o (dh b'.next)) _,m,(two 28 a b),hh,_,_,by omega,wm.put _,dZ.set (fun q=>q.2 rfl) _,ij,aa⟩,by rw [kX cD,kX ij];have:=u0 ((shorter ao m).atom d dk (.inl trivial)) eM;omega⟩
       | false=>
         simp only [oF,aqu,aqk,aqs,bt] at aa;have yT:=P.xW m6 (by have:=M2.next;omega);have iM:=R.mod m6 (bN bW);have jm:=A.mod m6 (bN (by have:=b'.next;omega));have o:=yT.one;simp only [o.1,o.2.1,o.2.2,bx,vcs,dd,bZ,b5,cK,iM.g,jm.g,↓ag,ak,simprocAttr];exact ⟨_,_,_,_,aa.symm,rfl,yT.Dw (by have:=bA.lt;have:=m2.next;omega) (by have:=(m1.trans m2).next;omega) _,c0.set (fun o=>absurd o (dh (aqh _))) _,C.box dq (aqh _) _⟩
end
section
variable {B hS g_ aO:Nat} {G F:aN->Prop} {h ab:ae} {size:Nat} {es:List (List D)} {v cI:V} {l:List aR} {p:aR} {W:List aK} {ao d i:Nat} {ws bw:List aK} {bB:V}
theorem VH (H:ec B G h size es v) (cU:hS<=B):ec hS G h size es v:=by obtain ⟨us,a,b,c,d⟩:=H.ex;exact ⟨us,a.mono cU,b,c,d⟩
theorem VG (H:ec B (Fr B) h size es v) (cU:hS<=B):ec hS (Fr hS) h size es v:=VH (H.fQ fun b q=>aqn cU q) cU
theorem Jc {u:List V} (H:dX F h p.enc u):∃v,u=vcs p v/\ee F h p v:=by rw [GF] at H;obtain ⟨_,rfl,bS⟩:=H.int;obtain ⟨_,rfl,cJ⟩:=bS.int;obtain ⟨_,rfl,c3⟩:=cJ.int;obtain ⟨_,rfl,az,iC⟩:=c3.str;obtain ⟨v,_,rfl,q,c5⟩:=iC.e6;obtain rfl:=c5.no;exact ⟨v,rfl,q,az⟩
theorem GA (O:ec B (Fr B) h 5 (l.map aR.enc) cI) (aD:l.length<=3000000):e1 (Fr B) h 5 (l.map aR.enc) cI:=
 O.e6 (by rw [aqJ];unfold top;omega) (fun b q=>q) fun b q=>q
theorem Gy (O:ec B (Fr B) h 5 (l.map aR.enc) cI) (aD:l.length<=3000000) (k n a:Int) {s:List UInt8} (az:s.length<=top):ee (Fr B) h (.mk k n a s l) cI:=⟨GA O aD,az⟩
theorem ak8 {t:List aR} (O:ec B (Fr B) h 5 ((p::t).map aR.enc) cI) (aD:(p::t).length<=3000000):∃b off v,kU 5 cI (.int .i64 0)=some (.ptr b off)/\pk 5 (h.get b) off=some (.agg (vcs p v))/\ee (Fr B) h p v:=by obtain ⟨b,off,u,aM,bh,cu,dA,_⟩:=(GA O aD).at (k:=.i64) (i:=0) (by simp);simp only [arE,List.getElem_cons_zero] at bh;obtain ⟨v,rfl,q⟩:=Jc bh;exact ⟨b,off+0 * 5,v,aM,dA h (Ext.refl h),q⟩
theorem Gx (P:ee (Fr B) h p v) (cU:B<=h.next):∃g,h.new (.bz (vcs p v) 0 false)=g/\Ext h g/\ec B (Fr B) g 5 ([p].map aR.enc) (.slice (aE h.next) 0 1 1):=by obtain ⟨g,an,av,aH⟩:=ak' (cs:=vcs p v) (size:=5) rfl P.cs;exact ⟨g,an,av,VH (aH.fQ fun b q=>q.1) cU⟩
theorem CZ (O:ec B (Fr B) h 5 (l.map aR.enc) cI) (P:ee (Fr g_) h p v) (bE:∀b,cI.bd b->cM b<g_) (cU:B<=g_) (xb:g_<=h.next) (aD:l.length<=3000000):
 ∃ej ab,ml 5 cI (.slice (aE h.next) 0 1 1) (h.new (.bz (vcs p v) 0 false))=.val ej ab/\ec B (Fr B) ab 5 ((l++[p]).map aR.enc) ej/\Mod (fun b=>B<=cM b/\cM b<g_) h ab/\Mod cI.bd h ab/\∀b,ej.bd b->cI.bd b\/h.next<cM b:=by
 obtain ⟨ej,ab,an,av,aH,_,cE⟩:=O.add (ds:=p.enc) (cs:=vcs p v) (P.cs.fQ fun b q=>⟨aqn cU q,fun z=>by have:=bE b z;unfold Fr at q;omega⟩) (by decide) (aqn cU xb) (by rw [aqJ];unfold top;omega) rfl;refine ⟨ej,ab,an,by rw [asf];exact av,⟨aH.next,fun b o q=>aH.get b o fun z=>q ⟨O.base z,bE b z⟩⟩,aH,cE⟩
theorem ak7 {ed:List aR} {w:V} (O:ec B (Fr B) h 5 (l.map aR.enc) cI) (L:ec g_ (Fr g_) h 5 (ed.map aR.enc) w) (bE:∀b,cI.bd b->cM b<g_) (cU:B<=g_) (xb:g_<=h.next) (aD:l.length<=3000000) (gH:ed.length<=3000000):
 ∃ej ab,ml 5 cI w h=.val ej ab/\ec B (Fr B) ab 5 ((l++ed).map aR.enc) ej/\Mod (fun b=>B<=cM b/\cM b<g_) h ab:=by
 obtain ⟨ej,ab,an,av,aH,_⟩:=ak6 O (GA L gH) (fun b q=>⟨aqn cU q,fun z=>by have:=bE b z;unfold Fr at q;omega⟩) (by decide) (aqn cU xb) (by rw [aqJ,aqJ];unfold top;omega);refine ⟨ej,ab,an,by rw [asf];exact av,aH.next,fun b o q=>aH.get b o fun z=>q ⟨O.base z,bE b z⟩⟩
theorem ql (O:ec B G h size es v) {n:Nat} (aL:h.next<=n):∀b,v.bd b->cM b<n:=fun b q=>by have:=O.akp q;unfold Old at this;omega
abbrev yL (B g_:Nat):aN->Prop:=fun b=>B<=cM b/\cM b<g_
theorem u5 {n:Nat} {c:List V} (A:Has h n c) (m:Mod (yL B g_) h ab) (aL:n<B\/g_<=n):Has ab n c:=A.mod m fun z=>by unfold yL at z;rw [dj] at z;omega
theorem ee.k_ (A:ee (Fr hS) h p v) (m:Mod (yL B g_) h ab) (aL:g_<=hS):ee (Fr hS) ab p v:=⟨A.e6.mod m fun b q _=>⟨fun z=>by unfold yL at z;unfold Fr at q;omega,q⟩,A.str⟩
theorem dY.k_ {hH:Nat} {bw:List aK} {hb:Nat} {H jC:ae} (c:dY W ao aO h d ws bB i) (fl:dY W ao aO H hH bw bB hb) (m:Mod (yL B g_) H jC) (cU:h.next<=B):dY W ao aO jC hH bw bB hb:=c.own fl m fun b q=>aqn cU q.1
theorem vB {M:aN->Prop} {aV:ae} (a:Mod M aV h) (m:Mod (yL B g_) h ab) (cU:aV.next<=B):Mod M aV ab:=ajK a m fun b q=>aqn cU q.1
theorem Gb {s:List UInt8} (e:hQ ao s ws=.ok bw):bw.length<ws.length:=by
 unfold hQ at e
 split at e
 . cases e;exact fi (by assumption)
 . cases e
theorem W1 {k:Int} {w:aK} (e:hr ao k ws=.ok (w,bw)):bw.length<ws.length:=by have:=kJ (ao:=ao) (ws:=ws) (k:=k) (E:=fun _=>True) (fun _ _=>trivial);rw [e] at this;exact this
theorem dY.Hp (c:dY W ao aO h d ws bB i):ws.length<=1000000:=by rw [c.eq,aqU];have:=c.uQ;omega
theorem MM (O:ec B (Fr B) h size es v) {n:Nat} (aL:n<B) (k:cz):ec B (Fr B) (h.set (aE n) k) size es v:=
 O.mod (M:=fun b=>b=aE n) ((Mod.refl (fun b=>b=aE n) h).set (fun _=>rfl) k) (fun b q z=>by have:=O.base q;rw [show b=aE n from z,dj] at this;omega) fun b q _ _ z=>by unfold Fr at q;rw [show b=aE n from z,dj] at q;omega
theorem ak_ (H:ec B G h size es v):ec B (fun b=>G b/\Old h b) h size es v:=by obtain ⟨us,a,b,c,d⟩:=H.ex;exact ⟨us,a,b,c,fun i e u an av=>((d i e u an av).cA).fQ fun b q=>⟨⟨q.1.1,q.2⟩,q.1.2⟩⟩
theorem alc (H:ec B (Fr B) h size es v) {n:Nat} (aL:h.next<=n):ec B (k4 B n) h size es v:=(ak_ H).fQ fun b q=>⟨q.1,fun z=>by rw [z] at q;exact dh aL q.2⟩
theorem MN {n:Nat} (O:ec B (k4 B n) h size es v) (m:Mod (cb aO) h ab) (U:aO<B):ec B (k4 B n) ab size es v:=
 O.mod m (fun b q z=>by have:=O.base q;rw [show b=aE aO from z,dj] at this;omega) fun b q _ _ z=>by have:=q.1;rw [show b=aE aO from z,dj] at this;omega
theorem VI {n:Nat} (O:ec B (k4 B n) h 5 (l.map aR.enc) cI) (P:ee (Fr g_) h p v) (bE:∀b,cI.bd b->cM b<g_) (aL:n<g_) (cU:B<=g_) (xb:g_<=h.next) (aD:l.length<=3000000):
 ∃ej ab,ml 5 cI (.slice (aE h.next) 0 1 1) (h.new (.bz (vcs p v) 0 false))=.val ej ab/\ec B (k4 B n) ab 5 ((l++[p]).map aR.enc) ej/\Mod (fun b=>B<=cM b/\cM b<g_) h ab/\Mod cI.bd h ab/\∀b,ej.bd b->cI.bd b\/h.next<cM b:=by
 obtain ⟨ej,ab,an,av,aH,_,cE⟩:=O.add (ds:=p.enc) (cs:=vcs p v) (P.cs.fQ fun b q=>⟨⟨aqn cU q,fun z=>by unfold Fr at q;rw [z,dj] at q;omega⟩,fun z=>by have:=bE b z;unfold Fr at q;omega⟩) (by decide) (aqn cU xb) (by rw [aqJ];unfold top;omega) rfl;refine ⟨ej,ab,an,by rw [asf];exact av,⟨aH.next,fun b o q=>aH.get b o fun z=>q ⟨O.base z,bE b z⟩⟩,aH,cE⟩
theorem ala {n:Nat} (O:ec B (k4 B n) h 5 (l.map aR.enc) cI) (ap:¬cI.bd (aE n)) (uR:cz) (aD:l.length<=3000000) (k m a:Int) {s:List UInt8} (az:s.length<=top):ee (Fr B) (h.set (aE n) uR) (.mk k m a s l) cI:=
 ⟨(O.mod (M:=fun b=>b=aE n) ((Mod.refl (fun b=>b=aE n) h).set (fun _=>rfl) uR) (fun b q z=>ap (by rw [<-show b=aE n from z];exact q)) (fun b q _ _ z=>q.2 z)).e6 (by rw [aqJ];unfold top;omega) (fun b q=>q.1) fun b q=>q,az⟩
end
section
variable {W:List aK} {ao aO n:Nat}
theorem alB (I:im W ao aO n) (d:Nat) (ws:List aK):ga W ao aO 105 [] d ws ((bD ao (n+1)).jO d ws):=by
 intro h bB i C bX;generalize aa:(bD ao (n+1)).jO d ws=res at bX ⊢;replace aa:ye ao (bD ao n) d ws=res:=aa;unfold ye at aa;refine Z0.x rfl (dw ?_);unfold Qf;have bW:=C.at_.lt;obtain ⟨U,an,aM,bA⟩:=gd h er;have m1:Mod (cb aO) h U:=aM.mod _;have cq:=m1;have cO:=C.ext aM;simp only [an,↓ag,ak,simprocAttr];refine eo (jJ cO 4) ?_;cases ea:eG 4 ws with
 | true=>
   simp only [ea,aqu,aqk,aqs,bt] at aa;simp only [↓ag,ak,simprocAttr];refine ch (mb cO 4) ?_ ?_
   rotate_left
   . rintro x ad ⟨e,he,rfl,m,bk⟩;simp only [cg,bx,↓ag,ak,simprocAttr];exact ⟨e,by rw [he] at aa;exact aa.symm,rfl,(cq.trans m),bk⟩
   rintro x ad ⟨⟨bn,br⟩,b5,rfl,⟨hN,lP⟩,m2,i2,cC⟩;rw [b5] at aa
   try simp only [bt] at aa
   have M2:=cq.trans m2;obtain ⟨aC,aH,cu,fT⟩:=fw ad [.int .i64 0,.int .i64 0,.int .i64 0,.str []] [.int .i64 bn.kind,.int .i64 bn.num,.int .i64 bn.pos,.str bn.text];have m3:Mod (cb aO) ad aC:=cu.mod _;have b':=M2.trans m3;have dm:=cC.ext cu;obtain ⟨aX,bP,dA,h9⟩:=fw aC er [.int .i64 16,.int .i64 0,.int .i64 bn.pos,.str bn.text,.cn];have m4:Mod (cb aO) aC aX:=dA.mod _;have cN:=b'.trans m4;have cW:=dm.ext dA;obtain ⟨bF,cE,eY,rK,_⟩:=CE aX 1 5 [.str ua,.str kI,.str jj,.str lX,.str lW] rfl (by unfold top;omega);simp only [ua,kI,jj,lX,lW] at cE;have m5:Mod (cb aO) aX bF:=eY.mod _;have cr:=cN.trans m5;have cD:=cW.ext eY;simp only [aK.enc,aH,fT.g,bP,cE,↓ag,ak,simprocAttr];refine eo (WM cD [ua,kI,jj,lX,lW] rK (by simp)) ?_;simp +contextual only [↓ag,ak,simprocAttr];refine BH (.bool (eG 3 br)) (fun aq=>by simp only [aq,↓ag,ak,simprocAttr];exact jJ cD 3) ?_;simp +contextual only [GH,↓ag,ak,simprocAttr];refine BH (.bool (eG 1 br)) (fun aq=>by simp only [aq,↓ag,ak,simprocAttr];exact jJ cD 1) ?_;simp +contextual only [GH,↓ag,ak,simprocAttr];refine BH (.bool (eG 4 br)) (fun aq=>by simp only [aq,↓ag,ak,simprocAttr];exact jJ cD 4) ?_;have dD:(ue [ua,kI,jj,lX,lW] br||eG 3 br||eG 1 br||eG 4 br)=NY br:=rfl;cases gk:NY br with
   | true=>
     simp only [gk,aqu,aqk,aqs,bt] at aa;simp only [GH,dD,gk,↓ag,ak,simprocAttr];have g6:(bD ao n).hq d br≠.error b3:=fun q=>by rw [q] at aa;exact bX aa.symm
     refine ch (I.hq d br bF bB i2 cD g6) ?_ ?_
     rotate_left
     . rintro x bR ⟨e,he,rfl,m,bk⟩;simp only [cg,bx,↓ag,ak,simprocAttr];exact ⟨e,by rw [he] at aa;exact aa.symm,rfl,(cr.trans m),bk⟩
     rintro x bR ⟨a,kr,dB,i6,eH,rfl,aN,m6,dq⟩;rw [eH] at aa
     try simp only [bt] at aa
     have c0:=cr.trans m6;have n0:=aN.one;obtain ⟨cv,fX,e',sS⟩:=vx (F:=Fr bF.next) (h:=bR) (size:=5) rfl aN.cs (qT m6.next);have m7:Mod (cb aO) bR cv:=e'.mod _;have ek:=c0.trans m7;have eV:=dq.ext e';have dZ:=qo (l:=[a]) 16 0 bn.pos bn.text sS rfl (le_top (C.jy bn hN));have kt:=h9.mod (m5.trans (m6.trans m7)) (bN (by have:=b'.next;omega));obtain ⟨fR,eE⟩:∃g,cv.set (aE aC.next) (.bz [.int .i64 16,.int .i64 0,.int .i64 bn.pos,.str bn.text,(.slice (aE bR.next) 0 1 1)] 0 false)=g:=⟨_,rfl⟩;have oX:=kt.put [.int .i64 16,.int .i64 0,.int .i64 bn.pos,.str bn.text,(.slice (aE bR.next) 0 1 1)];rw [eE] at oX;have gr:=C.box eV (n:=aC.next) b'.next (.bz [.int .i64 16,.int .i64 0,.int .i64 bn.pos,.str bn.text,(.slice (aE bR.next) 0 1 1)] 0 false)
     rw [eE] at gr;have gC:Mod (cb aO) h fR:=by rw [<-eE];exact ek.set (fun o=>absurd o (dh b'.next)) _
     have pG:=aN.mod m7 (by have:=cr.next;omega);have wD:=pG.box (n:=aC.next) (by have:=m5.next;have:=h9.lt;omega) (.bz [.int .i64 16,.int .i64 0,.int .i64 bn.pos,.str bn.text,(.slice (aE bR.next) 0 1 1)] 0 false);rw [eE] at wD;have oh:=dZ.box (n:=aC.next) (by have:=m5.next;have:=h9.lt;omega) (.bz [.int .i64 16,.int .i64 0,.int .i64 bn.pos,.str bn.text,(.slice (aE bR.next) 0 1 1)] 0 false);rw [eE] at oh;have gZ:=bA.mod (m2.trans (m3.trans (m4.trans (m5.trans (m6.trans m7))))) (bN bW);have pA:=gZ.set (m:=aC.next) (by have:=bA.lt;have:=(m2.trans m3).next;omega) (.bz [.int .i64 16,.int .i64 0,.int .i64 bn.pos,.str bn.text,(.slice (aE bR.next) 0 1 1)] 0 false);rw [eE] at pA;have oW:=fT.mod (m4.trans (m5.trans (m6.trans m7))) (bN (by have:=M2.next;omega));have XK:=oW.set (m:=aC.next) (by have:=fT.lt;omega) (.bz [.int .i64 16,.int .i64 0,.int .i64 bn.pos,.str bn.text,(.slice (aE bR.next) 0 1 1)] 0 false);rw [eE] at XK;have m8:Mod (fun b=>b=aE aC.next) cv fR:=by rw [<-eE];exact (Mod.refl (fun b=>b=aE aC.next) _).set (fun _=>rfl) _
     have o:=oh.one;simp only [o.1,o.2.1,o.2.2,bx,vcs,dd,n0.1,n0.2.1,n0.2.2,fX,kt.g,eE,oX.g,pA.g,↓ag,ak,simprocAttr];exact ⟨_,_,_,_,aa.symm,rfl,(oh.box (by have:=(aqn m2.next (aqn m3.next (aqn m4.next m5.next)));have:=bA.lt;omega) _).eA (by have:=cr.next;omega),gC.set (fun o=>absurd o (dh (aqh _))) _,C.box gr (aqh _) _⟩
   | false=>
     simp only [gk,aqu,aqk,aqs,bt] at aa;have gN:=h9.mod m5 (bN (by have:=b'.next;omega));have hs:=bA.mod (m2.trans (m3.trans (m4.trans m5))) (bN bW);simp only [bx,vcs,dd,GH,dD,gk,gN.g,hs.g,↓ag,ak,simprocAttr];exact ⟨_,_,_,_,aa.symm,rfl,jQ _ _ _ _ _ (le_top (C.jy bn hN)),cr.set (fun o=>absurd o (dh (aqh _))) _,C.box cD (aqh _) _⟩
 | false=>
   simp only [ea,aqu,aqk,aqs,bt] at aa;simp only [↓ag,ak,simprocAttr];have g2:(bD ao n).hq d ws≠.error b3:=fun q=>by rw [q] at aa;exact bX aa.symm
   refine ch (I.hq d ws U bB i cO g2) ?_ ?_
   rotate_left
   . rintro x ad ⟨e,he,rfl,m,bk⟩;simp only [cg,bx,↓ag,ak,simprocAttr];exact ⟨e,by rw [he] at aa;exact aa.symm,rfl,(cq.trans m),bk⟩
   rintro x ad ⟨a,br,dB,i2,b5,rfl,aN,m2,cC⟩;rw [b5] at aa
   try simp only [bt] at aa
   have M2:=cq.trans m2;have jT:=bA.mod m2 (bN bW);have o:=aN.one;simp only [o.1,o.2.1,o.2.2,bx,vcs,dd,jT.g,↓ag,ak,simprocAttr];exact ⟨_,_,_,_,aa.symm,rfl,(aN.box (by have:=bW;have:=bA.lt;omega) _).eA (by have:=cq.next;omega),M2.set (fun o=>absurd o (dh (aqh _))) _,C.box cC (aqh _) _⟩
theorem WV (I:im W ao aO n) (d:Nat) (ws:List aK):ga W ao aO 207 [.int .i64 3] d ws ((bD ao n).pre d ws):=by
 intro h bB i C bX;generalize aa:(bD ao n).pre d ws=res at bX ⊢;refine IT.x rfl (dw ?_);unfold Ea;have bW:=C.at_.lt;obtain ⟨U,an,aM,bA⟩:=gd h er;have m1:Mod (cb aO) h U:=aM.mod _;have cq:=m1;have cO:=C.ext aM;simp only [an,↓ag,ak,simprocAttr];have g2:(bD ao n).pre d ws≠.error b3:=fun q=>by rw [q] at aa;exact bX aa.symm
 refine ch (I.pre d ws U bB i cO g2) ?_ ?_
 rotate_left
 . rintro x ad ⟨e,he,rfl,m,bk⟩;simp only [cg,bx,↓ag,ak,simprocAttr];exact ⟨e,by rw [he] at aa;exact aa.symm,rfl,(cq.trans m),bk⟩
 rintro x ad ⟨a,br,dB,i2,b5,rfl,aN,m2,cC⟩;rw [b5] at aa
 try simp only [bt] at aa
 have M2:=cq.trans m2;have jT:=bA.mod m2 (bN bW);have o:=aN.one;simp only [o.1,o.2.1,o.2.2,bx,vcs,dd,jT.g,↓ag,ak,simprocAttr];exact ⟨_,_,_,_,aa.symm,rfl,(aN.box (by have:=bW;have:=bA.lt;omega) _).eA (by have:=cq.next;omega),M2.set (fun o=>absurd o (dh (aqh _))) _,C.box cC (aqh _) _⟩
theorem ann (J:∀m,m<=n->im W ao aO m) (d:Nat) (ws:List aK):ga W ao aO 207 [.int .i64 1] d ws ((bD ao (n+1)).h8 d ws):=by
 have I:=J n (aqh n);intro h bB i C bX;generalize aa:(bD ao (n+1)).h8 d ws=res at bX ⊢;replace aa:N3 (bD ao n) d ws=res:=aa;unfold N3 at aa;refine IT.x rfl (dw ?_);unfold Ea;have bW:=C.at_.lt;obtain ⟨U,an,aM,bA⟩:=gd h er;have m1:Mod (cb aO) h U:=aM.mod _;have cq:=m1;have cO:=C.ext aM;simp only [an,↓ag,ak,simprocAttr];have g2:(bD ao n).ih d ws≠.error b3:=fun q=>by rw [q] at aa;exact bX aa.symm
 refine ch (I.ih d ws U bB i cO g2) ?_ ?_
 rotate_left
 . rintro x ad ⟨e,he,rfl,m,bk⟩;simp only [cg,bx,↓ag,ak,simprocAttr];exact ⟨e,by rw [he] at aa;exact aa.symm,rfl,(cq.trans m),bk⟩
 rintro x ad ⟨a,br,dB,i2,b5,rfl,aN,m2,cC⟩;rw [b5] at aa
 try simp only [bt] at aa
 have M2:=cq.trans m2;have eR:=aN.one;obtain ⟨aC,aH,cu,fT⟩:=fw ad er (vcs a dB);have m3:Mod (cb aO) ad aC:=cu.mod _;have b':=M2.trans m3;have dm:=cC.ext cu;have lB:=bA.mod (m2.trans m3) (bN bW);have sM:=aN.BG cu;have nX:U.next<=ad.next:=m2.next
 simp only [eR.1,eR.2.1,eR.2.2,aH,fT.g,lB.g,↓ag,ak,simprocAttr];refine iV (fun r g=>r 0=.ptr (aE aO) 0/\r 1=.int .i64 1/\r 4=.ptr (aE h.next) 0/\r 5=.ptr (aE ad.next) 0/\Has g h.next er/\Mod (cb aO) h g/\∃m a dB dk iG,m<=n/\Has g ad.next (vcs a dB)/\ee (k4 U.next ad.next) g a dB/\dY W ao aO g d dk bB iG/\(bD ao m).lq d a dk=res) (fun _ g=>qh W aO g) ?_ ?_
 . exact ⟨by simp only [↓ag,dv,simprocAttr],by simp only [↓ag,dv,simprocAttr],by simp only [↓ag,dv,simprocAttr],by simp only [↓ag,dv,simprocAttr],lB,b',n,_,_,_,_,aqh _,fT,sM,dm,aa⟩
 rintro r aX ⟨bZ,ca,eh,cK,R,cN,m,a,dB,dk,iG,hm,A,P,cW,aa⟩;cases m with
 | zero=>exact (bX aa.symm).elim
 | succ m=>
   replace aa:x_ (bD ao m) d a dk=res:=aa;unfold x_ at aa;unfold IU;have I:=J m (by omega);have iI:=A.lt;simp only [bZ,ca,eh,cK,↓ag,ak,simprocAttr];refine cT (MB cW (k:=1) (by omega)) ?_;rintro x bF ⟨rfl,m5,i5,cD⟩;rw [adi] at cD ⊢;have cr:=cN.trans m5;cases aU:su dk with
   | none=>
     simp only [aU,Option.isSome,Option.getD,aqu,aqk,aqs,bt] at aa cD;have A2:=P.xW m5 (by have:=cq.next;omega);have hs:=R.mod m5 (bN bW);have f':=A.mod m5 (bN (by have:=M2.next;omega));have o:=A2.one;simp only [o.1,o.2.1,o.2.2,bx,vcs,dd,bZ,ca,eh,cK,Option.isSome,Option.getD,hs.g,f'.g,↓ag,ak,simprocAttr];exact ⟨_,_,_,_,aa.symm,rfl,A2.Dw (by have:=bA.lt;have:=bW;omega) (by have:=cq.next;omega) _,cr.set (fun o=>absurd o (dh (aqh _))) _,C.box cD (aqh _) _⟩
   | some ub=>
     simp only [aU,Option.isSome,Option.getD,aqu,aqk,aqs,bt] at aa cD;have f':=A.mod m5 (bN (by have:=M2.next;omega));simp only [Option.isSome,Option.getD,f'.g,bZ,ca,eh,cK,↓ag,ak,simprocAttr];have g6:(bD ao m).ih d dk.tail≠.error b3:=fun q=>by rw [q] at aa;exact bX aa.symm
     refine ch (I.ih d dk.tail bF bB i5 cD g6) ?_ ?_
     rotate_left
     . rintro x bR ⟨e,he,rfl,m,bk⟩;simp only [cg,bx,f'.g,bZ,ca,eh,cK,kq,↓ag,ak,simprocAttr];exact ⟨rfl,e,by rw [he] at aa;exact aa.symm,rfl,(cr.trans m),bk⟩
     rintro x bR ⟨b,kr,jl,i6,eH,rfl,fv,m6,dq⟩;rw [eH] at aa
     try simp only [bt] at aa
     have c0:=cr.trans m6;have jU:=f'.mod m6 (bN (by have:=M2.next;omega));simp only [bZ,ca,eh,cK,f'.g,jU.g,↓ag,ak,simprocAttr];have yT:=P.xW (m5.trans m6) (by have:=cq.next;omega);refine cT (Mz ub (akQ aU) yT (fv.JR (hS:=U.next) (n:=ad.next) (by have:=cN.next;have:=m5.next;have:=iI;have:=nX;omega) (by have:=m5.next;have:=iI;have:=nX;omega))) ?_;rintro x cv ⟨hh,rfl,kv,e'⟩;have dZ:=JS kv (by have:=cN.next;have:=(aqn m5.next m6.next);have:=iI;have:=nX;omega) (by have:=(aqn m5.next m6.next);have:=iI;have:=nX;omega);have m7:Mod (cb aO) bR cv:=e'.mod _;have ek:=c0.trans m7;have eV:=dq.ext e';have o:=dZ.one;have oW:=jU.mod m7 (bN (by have:=M2.next;omega));have gZ:=R.mod (m5.trans (m6.trans m7)) (bN bW);simp only [o.1,o.2.1,o.2.2,vcs,dd,bZ,ca,eh,cK,oW.g,f'.g,jU.g,↓ag,ak,simprocAttr];have ij:=C.box eV (n:=ad.next) M2.next (.bz (vcs (pv ub a b) hh) 0 false)
     exact ⟨⟨gZ.set (by have:=bA.lt;have:=m2.next;omega) _,ek.set (fun o=>absurd o (dh M2.next)) _,m,(pv ub a b),hh,_,_,by omega,oW.put _,dZ.set (fun q=>q.2 rfl) _,ij,aa⟩,by rw [kX cW,kX ij];have:=Vw aU;have:=u0 ((shorter ao m).ih d dk.tail (.inl trivial)) eH;omega⟩
theorem ano (J:∀m,m<=n->im W ao aO m) (d:Nat) (ws:List aK):ga W ao aO 207 [.int .i64 2] d ws ((bD ao (n+1)).ih d ws):=by
 have I:=J n (aqh n);intro h bB i C bX;generalize aa:(bD ao (n+1)).ih d ws=res at bX ⊢;replace aa:N4 (bD ao n) d ws=res:=aa;unfold N4 at aa;refine IT.x rfl (dw ?_);unfold Ea;have bW:=C.at_.lt;obtain ⟨U,an,aM,bA⟩:=gd h er;have m1:Mod (cb aO) h U:=aM.mod _;have cq:=m1;have cO:=C.ext aM;simp only [an,↓ag,ak,simprocAttr];have g2:(bD ao n).pre d ws≠.error b3:=fun q=>by rw [q] at aa;exact bX aa.symm
 refine ch ((WV I) d ws U bB i cO g2) ?_ ?_
 rotate_left
 . rintro x ad ⟨e,he,rfl,m,bk⟩;simp only [cg,bx,↓ag,ak,simprocAttr];exact ⟨e,by rw [he] at aa;exact aa.symm,rfl,(cq.trans m),bk⟩
 rintro x ad ⟨a,br,dB,i2,b5,rfl,aN,m2,cC⟩;rw [b5] at aa
 try simp only [bt] at aa
 have M2:=cq.trans m2;have eR:=aN.one;obtain ⟨aC,aH,cu,fT⟩:=fw ad er (vcs a dB);have m3:Mod (cb aO) ad aC:=cu.mod _;have b':=M2.trans m3;have dm:=cC.ext cu;have lB:=bA.mod (m2.trans m3) (bN bW);have sM:=aN.BG cu;have nX:U.next<=ad.next:=m2.next
 simp only [eR.1,eR.2.1,eR.2.2,aH,fT.g,lB.g,↓ag,ak,simprocAttr];refine iV (fun r g=>r 0=.ptr (aE aO) 0/\r 1=.int .i64 2/\r 4=.ptr (aE h.next) 0/\r 5=.ptr (aE ad.next) 0/\Has g h.next er/\Mod (cb aO) h g/\∃m a dB dk iG,m<=n/\Has g ad.next (vcs a dB)/\ee (k4 U.next ad.next) g a dB/\dY W ao aO g d dk bB iG/\(bD ao m).lr d a dk=res) (fun _ g=>qh W aO g) ?_ ?_
 . exact ⟨by simp only [↓ag,dv,simprocAttr],by simp only [↓ag,dv,simprocAttr],by simp only [↓ag,dv,simprocAttr],by simp only [↓ag,dv,simprocAttr],lB,b',n,_,_,_,_,aqh _,fT,sM,dm,aa⟩
 rintro r aX ⟨bZ,ca,eh,cK,R,cN,m,a,dB,dk,iG,hm,A,P,cW,aa⟩;cases m with
 | zero=>exact (bX aa.symm).elim
 | succ m=>
   replace aa:ya (bD ao m) d a dk=res:=aa;unfold ya at aa;unfold IU;have I:=J m (by omega);have iI:=A.lt;simp only [bZ,ca,eh,cK,↓ag,ak,simprocAttr];refine cT (MB cW (k:=2) (by omega)) ?_;rintro x bF ⟨rfl,m5,i5,cD⟩;rw [adj] at cD ⊢;have cr:=cN.trans m5;cases aU:sv dk with
   | none=>
     simp only [aU,Option.isSome,Option.getD,aqu,aqk,aqs,bt] at aa cD;have A2:=P.xW m5 (by have:=cq.next;omega);have hs:=R.mod m5 (bN bW);have f':=A.mod m5 (bN (by have:=M2.next;omega));have o:=A2.one;simp only [o.1,o.2.1,o.2.2,bx,vcs,dd,bZ,ca,eh,cK,Option.isSome,Option.getD,hs.g,f'.g,↓ag,ak,simprocAttr];exact ⟨_,_,_,_,aa.symm,rfl,A2.Dw (by have:=bA.lt;have:=bW;omega) (by have:=cq.next;omega) _,cr.set (fun o=>absurd o (dh (aqh _))) _,C.box cD (aqh _) _⟩
   | some ub=>
     simp only [aU,Option.isSome,Option.getD,aqu,aqk,aqs,bt] at aa cD;have f':=A.mod m5 (bN (by have:=M2.next;omega));simp only [Option.isSome,Option.getD,f'.g,bZ,ca,eh,cK,↓ag,ak,simprocAttr];have g6:(bD ao m).pre d dk.tail≠.error b3:=fun q=>by rw [q] at aa;exact bX aa.symm
     refine ch ((WV I) d dk.tail bF bB i5 cD g6) ?_ ?_
     rotate_left
     . rintro x bR ⟨e,he,rfl,m,bk⟩;simp only [cg,bx,f'.g,bZ,ca,eh,cK,kq,↓ag,ak,simprocAttr];exact ⟨rfl,e,by rw [he] at aa;exact aa.symm,rfl,(cr.trans m),bk⟩
     rintro x bR ⟨b,kr,jl,i6,eH,rfl,fv,m6,dq⟩;rw [eH] at aa
     try simp only [bt] at aa
     have c0:=cr.trans m6;have jU:=f'.mod m6 (bN (by have:=M2.next;omega));simp only [bZ,ca,eh,cK,f'.g,jU.g,↓ag,ak,simprocAttr];have yT:=P.xW (m5.trans m6) (by have:=cq.next;omega);refine cT (Mz ub (akS aU) yT (fv.JR (hS:=U.next) (n:=ad.next) (by have:=cN.next;have:=m5.next;have:=iI;have:=nX;omega) (by have:=m5.next;have:=iI;have:=nX;omega))) ?_;rintro x cv ⟨hh,rfl,kv,e'⟩;have dZ:=JS kv (by have:=cN.next;have:=(aqn m5.next m6.next);have:=iI;have:=nX;omega) (by have:=(aqn m5.next m6.next);have:=iI;have:=nX;omega);have m7:Mod (cb aO) bR cv:=e'.mod _;have ek:=c0.trans m7;have eV:=dq.ext e';have o:=dZ.one;have oW:=jU.mod m7 (bN (by have:=M2.next;omega));have gZ:=R.mod (m5.trans (m6.trans m7)) (bN bW);simp only [o.1,o.2.1,o.2.2,vcs,dd,bZ,ca,eh,cK,oW.g,f'.g,jU.g,↓ag,ak,simprocAttr];have ij:=C.box eV (n:=ad.next) M2.next (.bz (vcs (pv ub a b) hh) 0 false)
     exact ⟨⟨gZ.set (by have:=bA.lt;have:=m2.next;omega) _,ek.set (fun o=>absurd o (dh M2.next)) _,m,(pv ub a b),hh,_,_,by omega,oW.put _,dZ.set (fun q=>q.2 rfl) _,ij,aa⟩,by rw [kX cW,kX ij];have:=Vx aU;have:=u0 ((shorter ao m).pre d dk.tail (.inl trivial)) eH;omega⟩
end
section
variable {W:List aK} {ao aO n:Nat}
theorem ajQ (I:im W ao aO n) (d:Nat) (ws:List aK):ga W ao aO 184 [] d ws ((bD ao (n+1)).named d ws):=by
 intro h bB i C bX;generalize aa:(bD ao (n+1)).named d ws=res at bX ⊢;replace aa:L5 (bD ao n) d ws=res:=aa;unfold L5 at aa;refine aai.x rfl (dw ?_);unfold QG;have bW:=C.at_.lt;obtain ⟨U,an,aM,bA⟩:=gd h er;have m1:Mod (cb aO) h U:=aM.mod _;have cq:=m1;have cO:=C.ext aM;simp only [an,↓ag,ak,simprocAttr];have g2:(bD ao n).j6 d ws≠.error b3:=fun q=>by rw [q] at aa;exact bX aa.symm
 refine ch (I.j6 d ws U bB i cO g2) ?_ ?_
 rotate_left
 . rintro x ad ⟨e,he,rfl,m,bk⟩;simp only [cg,bx,↓ag,ak,simprocAttr];exact ⟨e,by rw [he] at aa;exact aa.symm,rfl,(cq.trans m),bk⟩
 rintro x ad ⟨a,br,dB,i2,b5,rfl,aN,m2,cC⟩;rw [b5] at aa
 try simp only [bt] at aa
 have M2:=cq.trans m2;have eR:=aN.one;obtain ⟨aC,aH,cu,fT⟩:=fw ad er (vcs a dB);have m3:Mod (cb aO) ad aC:=cu.mod _;have b':=M2.trans m3;have dm:=cC.ext cu;have lB:=bA.mod (m2.trans m3) (bN bW);have sM:=aN.BG cu;have nX:U.next<=ad.next:=(m2.next)
 simp only [eR.1,eR.2.1,eR.2.2,aH,fT.g,lB.g,↓ag,ak,simprocAttr];refine iV (fun r g=>r 0=.ptr (aE aO) 0/\r 2=.ptr (aE h.next) 0/\r 3=.ptr (aE ad.next) 0/\Has g h.next er/\Mod (cb aO) h g/\∃a dB dk iG,Has g ad.next (vcs a dB)/\ee (k4 U.next ad.next) g a dB/\dY W ao aO g d dk bB iG/\(.ok (nY a dk):cP (aR × List aK))=res) (fun _ g=>qh W aO g) ?_ ?_
 . exact ⟨by simp only [↓ag,dv,simprocAttr],by simp only [↓ag,dv,simprocAttr],by simp only [↓ag,dv,simprocAttr],lB,b',_,_,_,_,fT,sM,dm,aa⟩
 rintro r aX ⟨bZ,b5,b6,R,cN,a,dB,dk,iG,A,P,cW,aa⟩;unfold QH;have iI:=A.lt;simp only [bZ,b5,b6,↓ag,ak,simprocAttr];refine eo (jJ cW 3) ?_;cases dk with
 | nil=>
   have ar:eG 3 []=false:=rfl;have aL:nY a []=(a,[]):=rfl;rw [aL] at aa;have o:=P.one;simp only [o.1,o.2.1,o.2.2,bx,vcs,dd,bZ,b5,b6,ar,R.g,A.g,↓ag,ak,simprocAttr];exact ⟨_,_,_,_,aa.symm,rfl,P.Dw (by have:=bA.lt;have:=bW;omega) (by have:=cq.next;omega) _,cN.set (fun o=>absurd o (dh (aqh _))) _,C.box cW (aqh _) _⟩
 | cons w dk=>
   by_cases r_:w.kind=3
   . have ar:eG 3 (w::dk)=true:=by simp [eG,r_]
     have aL:nY a (w::dk)=nY (.mk 2 0 a.a w.text [a]) dk:=by simp [nY,r_]
     rw [aL] at aa;have x2:=P.one;obtain ⟨bF,cE,eY,rK⟩:=vx (F:=k4 U.next ad.next) (h:=aX) (size:=5) rfl P.cs ⟨by rw [dj];have:=iI;omega,fun z=>by rw [ns] at z;have:=iI;omega⟩;have m5:Mod (cb aO) aX bF:=eY.mod _;have cr:=cN.trans m5;have cD:=cW.ext eY;have f':=A.mod m5 (bN (by have:=M2.next;omega));simp only [ar,A.g,x2.1,x2.2.1,x2.2.2,cE,vcs,dd,f'.g,bZ,b5,b6,↓ag,ak,simprocAttr];refine ch (mb cD 3) ?_ ?_
     rotate_left
     . rintro x ab ⟨e,he,_⟩;rw [show hr ao 3 (w::dk)=.ok (w,dk) from by simp [hr,r_]] at he;cases he
     rintro x bR ⟨⟨w',bw⟩,bu,rfl,⟨hw,aph⟩,m6,i6,dq⟩;rw [show hr ao 3 (w::dk)=.ok (w,dk) from by simp [hr,r_]] at bu;cases bu;have c0:=cr.trans m6;have dZ:=(qo (l:=[a]) 2 0 a.a w.text rK rfl (le_top (C.jy w hw))).xW m6 (by have:=cq.next;omega);have jU:=f'.mod m6 (bN (by have:=M2.next;omega));have iM:=R.mod (m5.trans m6) (bN bW);simp only [aK.enc,vcs,dd,f'.g,jU.g,bZ,b5,b6,↓ag,ak,simprocAttr];have ij:=C.box dq (n:=ad.next) M2.next (.bz (vcs (.mk 2 0 a.a w.text [a]) (.slice (aE aX.next) 0 1 1)) 0 false)
     exact ⟨⟨iM.set (by have:=bA.lt;have:=m2.next;omega) _,c0.set (fun o=>absurd o (dh M2.next)) _,(.mk 2 0 a.a w.text [a]),(.slice (aE aX.next) 0 1 1),dk,_,jU.put _,dZ.set (fun q=>q.2 rfl) _,ij,aa⟩,by rw [kX cW];exact Nat.lt_of_le_of_lt (Nat.le_of_eq (kX ij)) (by simp)⟩
   . skip
     have ar:eG 3 (w::dk)=false:=by simp [eG,r_]
     have aL:nY a (w::dk)=(a,(w::dk)):=by simp [nY,r_]
     rw [aL] at aa;have o:=P.one;simp only [o.1,o.2.1,o.2.2,bx,vcs,dd,bZ,b5,b6,ar,R.g,A.g,↓ag,ak,simprocAttr];exact ⟨_,_,_,_,aa.symm,rfl,P.Dw (by have:=bA.lt;have:=bW;omega) (by have:=cq.next;omega) _,cN.set (fun o=>absurd o (dh (aqh _))) _,C.box cW (aqh _) _⟩
theorem abd (J:∀m,m<=n->im W ao aO m) (d:Nat) (ws:List aK):A5 W ao aO 186 [] d ws ((bD ao (n+1)).cases d [] (if cl nv ws then ws.tail else ws)):=by
 intro h bB i C bX;generalize aa:(bD ao (n+1)).cases d [] (if cl nv ws then ws.tail else ws)=res at bX ⊢;refine aak.x rfl (dw ?_);unfold QJ;have bW:=C.at_.lt;simp only [↓ag,ak,simprocAttr];refine cT (gQ C nv) ?_;rintro x U ⟨rfl,m1,i1,cO⟩;have cq:=m1;simp only [↓ag,ak,simprocAttr];refine iV (fun r g=>r 0=.ptr (aE aO) 0/\Mod (cb aO) h g/\∃m l dk iG,m<=n+1/\ec h.next (Fr h.next) g 5 (List.map aR.enc l) (r 3)/\l.length+dk.length<=1000000/\dY W ao aO g d dk bB iG/\(bD ao m).cases d l dk=res) (fun _ g=>qh W aO g) ?_ ?_
 . exact ⟨by simp only [↓ag,dv,simprocAttr],cq,n+1,[],_,_,aqh _,by simp only [↓ag,dv,simprocAttr];exact ec.nil _ _ _ _,by have:=cO.Hp;simpa using this,cO,aa⟩
 rintro r ad ⟨fY,M2,m,l,dk,iG,hm,O,aD,cC,aa⟩;obtain ⟨cI,fh⟩:∃cI,r 3=cI:=⟨_,rfl⟩;rw [fh] at O;cases m with
 | zero=>exact (bX aa.symm).elim
 | succ m=>
   replace aa:I0 ao (bD ao m) d l dk=res:=aa;unfold I0 at aa;unfold QK;have I:=J m (by omega);have cx:=O.one;simp only [fY,fh,cx.1,cx.2.1,cx.2.2,↓ag,ak,simprocAttr];have g3:(bD ao m).pat d dk≠.error b3:=fun q=>by rw [q] at aa;exact bX aa.symm
   refine ch (I.pat d dk ad bB iG cC g3) ?_ ?_
   rotate_left
   . rintro x aC ⟨e,he,rfl,m,bk⟩;simp only [cg,bx,fY,fh,kq,↓ag,ak,simprocAttr];exact ⟨e,by rw [he] at aa;exact aa.symm,rfl,(M2.trans m),bk⟩
   rintro x aC ⟨a,dT,dB,i3,b6,rfl,aN,m3,dm⟩;rw [b6] at aa
   try simp only [bt] at aa
   have b':=M2.trans m3;have hf:=aN.one;obtain ⟨aX,bP,dA,h9⟩:=fw aC er (vcs a dB);have m4:Mod (cb aO) aC aX:=dA.mod _;have cN:=b'.trans m4;have cW:=dm.ext dA;simp only [hf.1,hf.2.1,hf.2.2,bP,fY,fh,cx.1,cx.2.1,cx.2.2,↓ag,ak,simprocAttr];refine ch (ke cW rq) ?_ ?_
   rotate_left
   . rintro x bF ⟨e,he,rfl,m,bk⟩;simp only [cg,bx,fY,fh,kq,↓ag,ak,simprocAttr];exact ⟨e,by rw [he] at aa;exact aa.symm,rfl,(cN.trans m),bk⟩
   rintro x bF ⟨gY,cK,m5,i5,cD⟩;rw [cK] at aa
   try simp only [bt] at aa
   have cr:=cN.trans m5;have gN:=h9.mod m5 (bN (by have:=b'.next;omega));simp only [gN.g,fY,fh,cx.1,cx.2.1,cx.2.2,↓ag,ak,simprocAttr];have g6:(bD ao m).seq d gY≠.error b3:=fun q=>by rw [q] at aa;exact bX aa.symm
   refine ch (I.seq d gY bF bB i5 cD g6) ?_ ?_
   rotate_left
   . rintro x bR ⟨e,he,rfl,m,bk⟩;simp only [cg,bx,gN.g,fY,fh,kq,↓ag,ak,simprocAttr];exact ⟨rfl,e,by rw [he] at aa;exact aa.symm,rfl,(cr.trans m),bk⟩
   rintro x bR ⟨b,kr,jl,i6,eH,rfl,fv,m6,dq⟩;rw [eH] at aa
   try simp only [bt] at aa
   have c0:=cr.trans m6;have jm:=gN.mod m6 (bN (by have:=b'.next;omega));have qx:=u0 ((shorter ao m).pat d dk (.inl trivial)) b6;have wb:=Gb cK;have Dr:=u0 ((shorter ao m).seq d gY (.inl trivial)) eH;simp only [jm.g,fY,fh,cx.1,cx.2.1,cx.2.2,gN.g,↓ag,ak,simprocAttr];have uM:=aN.mod (m4.trans (m5.trans m6)) (by have:=M2.next;omega);refine cT (uo 45 uM (fv.eA (by have:=(aqn m3.next (aqn m4.next m5.next));omega))) ?_;rintro x cv ⟨hh,rfl,kv,e'⟩;have dZ:=kv.fQ (ew:=Fr ad.next) fun b q=>q.elim (fun q=>q.1) (fun q=>by have:=(aqn m3.next (aqn m4.next (aqn m5.next m6.next)));unfold Fr;omega);have m7:Mod (cb aO) bR cv:=e'.mod _;have ek:=c0.trans m7;have eV:=dq.ext e';have o1:=mM O (m3.trans (m4.trans (m5.trans (m6.trans m7)))) bW bW;have iW:=dZ.one;obtain ⟨ut,fR,eE,mU,m8,CL,Bf⟩:=CZ o1 (dZ.eA (aqh _)) (ql O (aqh _)) (M2.next) ((aqn m3.next (aqn m4.next (aqn m5.next (aqn m6.next m7.next))))) (by omega);have kt:=jm.mod m7 (bN (by have:=b'.next;omega));have JJ:(cv.next=aC.next)=False:=aqx (by have:=kt.lt;omega);have gr:=C.k_ eV m8 (by have:=bW;omega);have gC:=vB ek m8 (by have:=bW;omega);have XL:=u5 kt m8 (.inr (m3.next));have pG:=uM.mod m7 (by have:=M2.next;omega);have wD:=pG.k_ m8 (aqh _);have Yv:=fv.mod m7 (by have:=cr.next;omega);have Yw:=Yv.k_ m8 ((aqn m3.next (aqn m4.next m5.next)));have oh:=dZ.k_ m8 (aqh _);have h5:=mU.one;have sG:(l++[(two 45 a b)]).length=l.length+1:=by simp<;>omega
   simp only [iW.1,iW.2.1,iW.2.2,eE,JJ,fY,fh,cx.1,cx.2.1,cx.2.2,gN.g,jm.g,h5.1,h5.2.1,h5.2.2,↓ag,ak,simprocAttr];refine cT (gQ gr nv) ?_;rintro x hZ ⟨rfl,m9,i9,hU⟩;have jW:=gC.trans m9;cases ea:cl nv kr with
   | true=>
     simp only [ea,aqu,aqk,aqs,bt] at aa hU;have wC:=mM mU m9 bW bW;simp only [fY,fh,cx.1,cx.2.1,cx.2.2,gN.g,jm.g,h5.1,h5.2.1,h5.2.2,↓ag,ak,simprocAttr];exact ⟨⟨jW,m,_,_,_,by omega,wC,by have:=fi ea;rw [sG];omega,hU,aa⟩,by rw [kX cC,kX hU];have:=fi ea;omega⟩
   | false=>
     simp only [ea,aqu,aqk,aqs,bt] at aa hU;have wC:=mM mU m9 bW bW;simp only [bx,fY,fh,cx.1,cx.2.1,cx.2.2,gN.g,jm.g,h5.1,h5.2.1,h5.2.2,↓ag,ak,simprocAttr];exact ⟨_,_,_,aa.symm,wC,by rw [sG];omega,jW,hU⟩
theorem ZG (J:∀m,m<=n->im W ao aO m) (d:Nat) (ws:List aK):A5 W ao aO 54 [] d ws ((bD ao (n+1)).binds d [] ws):=by
 intro h bB i C bX;generalize aa:(bD ao (n+1)).binds d [] ws=res at bX ⊢;refine aaM.x rfl (dw ?_);unfold Rd;have bW:=C.at_.lt;simp only [↓ag,ak,simprocAttr];refine iV (fun r g=>r 0=.ptr (aE aO) 0/\Mod (cb aO) h g/\∃m l dk iG,m<=n+1/\ec h.next (Fr h.next) g 5 (List.map aR.enc l) (r 3)/\l.length+dk.length<=1000000/\dY W ao aO g d dk bB iG/\(bD ao m).binds d l dk=res) (fun _ g=>qh W aO g) ?_ ?_
 . exact ⟨by simp only [↓ag,dv,simprocAttr],(Mod.refl (cb aO) h),n+1,[],_,_,aqh _,by simp only [↓ag,dv,simprocAttr];exact ec.nil _ _ _ _,by have:=C.Hp;simpa using this,C,aa⟩
 rintro r U ⟨fY,cq,m,l,dk,iG,hm,O,aD,cO,aa⟩;obtain ⟨cI,fh⟩:∃cI,r 3=cI:=⟨_,rfl⟩;rw [fh] at O;cases m with
 | zero=>exact (bX aa.symm).elim
 | succ m=>
   replace aa:IJ ao (bD ao m) d l dk=res:=aa;unfold IJ at aa;unfold Re;have I:=J m (by omega);have cx:=O.one;simp only [fY,fh,cx.1,cx.2.1,cx.2.2,↓ag,ak,simprocAttr];refine ch (mb cO 3) ?_ ?_
   rotate_left
   . rintro x ad ⟨e,he,rfl,m,bk⟩;simp only [cg,bx,fY,fh,kq,↓ag,ak,simprocAttr];exact ⟨e,by rw [he] at aa;exact aa.symm,rfl,(cq.trans m),bk⟩
   rintro x ad ⟨⟨bn,br⟩,b5,rfl,⟨hN,lP⟩,m2,i2,cC⟩;rw [b5] at aa
   try simp only [bt] at aa
   have M2:=cq.trans m2;obtain ⟨aC,aH,cu,fT⟩:=fw ad [.int .i64 0,.int .i64 0,.int .i64 0,.str []] [.int .i64 bn.kind,.int .i64 bn.num,.int .i64 bn.pos,.str bn.text];have m3:Mod (cb aO) ad aC:=cu.mod _;have b':=M2.trans m3;have dm:=cC.ext cu;simp only [aK.enc,aH,fY,fh,cx.1,cx.2.1,cx.2.2,↓ag,ak,simprocAttr];refine ch (ke dm ji) ?_ ?_
   rotate_left
   . rintro x aX ⟨e,he,rfl,m,bk⟩;simp only [cg,bx,fY,fh,kq,↓ag,ak,simprocAttr];exact ⟨e,by rw [he] at aa;exact aa.symm,rfl,(b'.trans m),bk⟩
   rintro x aX ⟨fJ,eh,m4,i4,cW⟩;rw [eh] at aa
   try simp only [bt] at aa
   have cN:=b'.trans m4;simp only [fY,fh,cx.1,cx.2.1,cx.2.2,↓ag,ak,simprocAttr];refine eo (qn cW) ?_;simp only [fY,fh,cx.1,cx.2.1,cx.2.2,↓ag,ak,simprocAttr];refine ch (ke cW vp) ?_ ?_
   rotate_left
   . rintro x bF ⟨e,he,rfl,m,bk⟩;simp only [cg,bx,fY,fh,kq,↓ag,ak,simprocAttr];exact ⟨e,by rw [he] at aa;exact aa.symm,rfl,(cN.trans m),bk⟩
   rintro x bF ⟨gY,cK,m5,i5,cD⟩;rw [cK] at aa
   try simp only [bt] at aa
   have cr:=cN.trans m5;have f':=fT.mod (m4.trans m5) (bN (by have:=M2.next;omega));simp only [f'.g,fY,fh,cx.1,cx.2.1,cx.2.2,↓ag,ak,simprocAttr];have g6:(bD ao m).fn d (c2 ao fJ) gY≠.error b3:=fun q=>by rw [q] at aa;exact bX aa.symm
   refine ch (I.fn d (c2 ao fJ) gY bF bB i5 cD g6) ?_ ?_
   rotate_left
   . rintro x bR ⟨e,he,rfl,m,bk⟩;simp only [cg,bx,f'.g,fY,fh,kq,↓ag,ak,simprocAttr];exact ⟨rfl,e,by rw [he] at aa;exact aa.symm,rfl,(cr.trans m),bk⟩
   rintro x bR ⟨a,kr,dB,i6,eH,rfl,aN,m6,dq⟩;rw [eH] at aa
   try simp only [bt] at aa
   have c0:=cr.trans m6;have jU:=f'.mod m6 (bN (by have:=M2.next;omega));have qx:br.length<dk.length:=W1 b5;have wb:fJ.length<br.length:=Gb eh;have Dr:=Gb cK;have W9:=u0 ((shorter ao m).fn d (c2 ao fJ) gY (.inl trivial)) eH;have n0:=aN.one;obtain ⟨cv,fX,e',sS⟩:=vx (F:=Fr bF.next) (h:=bR) (size:=5) rfl aN.cs (qT m6.next);have m7:Mod (cb aO) bR cv:=e'.mod _;have ek:=c0.trans m7;have eV:=dq.ext e';have dZ:=qo (l:=[a]) 46 0 bn.pos bn.text sS rfl (le_top (C.jy bn hN));have oW:=jU.mod m7 (bN (by have:=M2.next;omega));have o1:=mM O (m2.trans (m3.trans (m4.trans (m5.trans (m6.trans m7))))) bW bW;have iW:=dZ.one;obtain ⟨ut,fR,eE,mU,m8,CL,Bf⟩:=CZ o1 (dZ.eA ((aqn m2.next (aqn m3.next (aqn m4.next m5.next))))) (ql O (aqh _)) (cq.next) ((aqn m2.next (aqn m3.next (aqn m4.next (aqn m5.next (aqn m6.next m7.next)))))) (by omega);simp only [vcs,dd] at eE;have JJ:(cv.next=ad.next)=False:=aqx (by have:=oW.lt;omega);have gr:=C.k_ eV m8 (by have:=bW;omega);have gC:=vB ek m8 (by have:=bW;omega);have XL:=u5 oW m8 (.inr (m2.next));have pG:=aN.mod m7 (by have:=cr.next;omega);have wD:=pG.k_ m8 ((aqn m2.next (aqn m3.next (aqn m4.next m5.next))));have oh:=dZ.k_ m8 ((aqn m2.next (aqn m3.next (aqn m4.next m5.next))));have h5:=mU.one;have sG:(l++[(aR.mk 46 0 bn.pos bn.text [a])]).length=l.length+1:=by simp<;>omega
   simp only [n0.1,n0.2.1,n0.2.2,fX,oW.g,iW.1,iW.2.1,iW.2.2,eE,JJ,vcs,dd,fY,fh,cx.1,cx.2.1,cx.2.2,f'.g,jU.g,h5.1,h5.2.1,h5.2.2,↓ag,ak,simprocAttr];refine cT (gQ gr FI) ?_;rintro x hZ ⟨rfl,m9,i9,hU⟩;have jW:=gC.trans m9;cases ea:cl FI kr with
   | true=>
     simp only [ea,aqu,aqk,aqs,bt] at aa hU;have wC:=mM mU m9 bW bW;simp only [fY,fh,cx.1,cx.2.1,cx.2.2,f'.g,jU.g,h5.1,h5.2.1,h5.2.2,↓ag,ak,simprocAttr];exact ⟨⟨jW,m,_,_,_,by omega,wC,by have:=fi ea;rw [sG];omega,hU,aa⟩,by rw [kX cO,kX hU];have:=fi ea;omega⟩
   | false=>
     simp only [ea,aqu,aqk,aqs,bt] at aa hU;have wC:=mM mU m9 bW bW;simp only [bx,fY,fh,cx.1,cx.2.1,cx.2.2,f'.g,jU.g,h5.1,h5.2.1,h5.2.2,↓ag,ak,simprocAttr];exact ⟨_,_,_,aa.symm,wC,by rw [sG];omega,jW,hU⟩
end
section
variable {W:List aK} {ao aO n:Nat}
theorem anP (J:∀m,m<=n->im W ao aO m) (d:Nat) (ws:List aK):ga W ao aO 206 [] d ws ((bD ao (n+1)).j6 d ws):=by
 have I:=J n (aqh n);intro h bB i C bX;generalize aa:(bD ao (n+1)).j6 d ws=res at bX ⊢;replace aa:yy ao (bD ao n) d ws=res:=aa;unfold yy at aa;dsimp only at aa;refine aam.x rfl (dw ?_);unfold c206;have bW:=C.at_.lt;obtain ⟨U,an,aM,bA⟩:=gd h er;have m1:Mod (cb aO) h U:=aM.mod _;have cq:=m1;have cO:=C.ext aM;simp only [an,↓ag,ak,simprocAttr];refine eo (qn cO) ?_;simp only [↓ag,ak,simprocAttr];refine eo (jJ cO 5) ?_;cases ea:eG 5 ws with
 | true=>
   simp only [ea,aqu,aqk,aqs,bt] at aa;simp only [↓ag,ak,simprocAttr];refine ch (mb cO 5) ?_ ?_
   rotate_left
   . rintro x ad ⟨e,he,rfl,m,bk⟩;simp only [cg,bx,↓ag,ak,simprocAttr];exact ⟨e,by rw [he] at aa;exact aa.symm,rfl,(cq.trans m),bk⟩
   rintro x ad ⟨⟨bn,br⟩,b5,rfl,⟨hN,lP⟩,m2,i2,cC⟩;rw [b5] at aa
   try simp only [bt] at aa
   have M2:=cq.trans m2;have jT:=bA.mod m2 (bN bW);simp only [bx,vcs,dd,aK.enc,jT.g,↓ag,ak,simprocAttr];exact ⟨_,_,_,_,aa.symm,rfl,jQ _ _ _ _ _ (le_top (C.jy bn hN)),M2.set (fun o=>absurd o (dh (aqh _))) _,C.box cC (aqh _) _⟩
 | false=>
   simp only [ea,aqu,aqk,aqs,bt] at aa;simp only [↓ag,ak,simprocAttr];refine eo (jJ cO 3) ?_;cases gk:eG 3 ws with
   | true=>
     simp only [gk,aqu,aqk,aqs,bt] at aa;simp only [↓ag,ak,simprocAttr];refine ch (mb cO 3) ?_ ?_
     rotate_left
     . rintro x ad ⟨e,he,rfl,m,bk⟩;simp only [cg,bx,↓ag,ak,simprocAttr];exact ⟨e,by rw [he] at aa;exact aa.symm,rfl,(cq.trans m),bk⟩
     rintro x ad ⟨⟨bn,br⟩,b5,rfl,⟨hN,lP⟩,m2,i2,cC⟩;rw [b5] at aa
     try simp only [bt] at aa
     have M2:=cq.trans m2;have jT:=bA.mod m2 (bN bW);simp only [bx,vcs,dd,aK.enc,jT.g,↓ag,ak,simprocAttr];exact ⟨_,_,_,_,aa.symm,rfl,jQ _ _ _ _ _ (le_top (C.jy bn hN)),M2.set (fun o=>absurd o (dh (aqh _))) _,C.box cC (aqh _) _⟩
   | false=>
     simp only [gk,aqu,aqk,aqs,bt] at aa;simp only [↓ag,ak,simprocAttr];refine ch (ke cO jj) ?_ ?_
     rotate_left
     . rintro x ad ⟨e,he,rfl,m,bk⟩;simp only [cg,bx,↓ag,ak,simprocAttr];exact ⟨e,by rw [he] at aa;exact aa.symm,rfl,(cq.trans m),bk⟩
     rintro x ad ⟨br,b5,m2,i2,cC⟩;rw [b5] at aa
     try simp only [bt] at aa
     have M2:=cq.trans m2;simp only [↓ag,ak,simprocAttr];have g3:(bD ao n).ty d br≠.error b3:=fun q=>by rw [q] at aa;exact bX aa.symm
     refine ch (I.ty d br ad bB i2 cC g3) ?_ ?_
     rotate_left
     . rintro x aC ⟨e,he,rfl,m,bk⟩;simp only [cg,bx,↓ag,ak,simprocAttr];exact ⟨e,by rw [he] at aa;exact aa.symm,rfl,(M2.trans m),bk⟩
     rintro x aC ⟨a,dT,dB,i3,b6,rfl,aN,m3,dm⟩;rw [b6] at aa
     try simp only [bt] at aa
     have b':=M2.trans m3;have hf:=aN.one;obtain ⟨aX,bP,dA,k9⟩:=Gx aN (m3.next);have m4:Mod (cb aO) aC aX:=dA.mod _;have cN:=b'.trans m4;have cW:=dm.ext dA;have ks:=bA.mod (m2.trans (m3.trans m4)) (bN bW);generalize aB:(bD ao n).jz d [a] dT=rt at aa;have xE:rt≠.error b3:=fun q=>by rw [q] at aa;exact bX aa.symm
     simp only [hf.1,hf.2.1,hf.2.2,bP,ks.g,↓ag,ak,simprocAttr];refine iV (fun r g=>r 0=.ptr (aE aO) 0/\r 2=.ptr (aE h.next) 0/\r 3=.int .i64 (c2 ao ws)/\Has g h.next er/\Mod (cb aO) h g/\ad.next<=g.next/\∃m t dk iG,m<=n/\ec ad.next (Fr ad.next) g 5 (List.map aR.enc (a::t)) (r 4)/\(a::t).length<=64/\dY W ao aO g d dk bB iG/\(bD ao m).jz d (a::t) dk=rt) (fun _ g=>qh W aO g) ?_ ?_
     . exact ⟨by simp only [↓ag,dv,simprocAttr],by simp only [↓ag,dv,simprocAttr],by simp only [↓ag,dv,simprocAttr],ks,cN,((aqn m3.next m4.next)),n,[],_,_,aqh _,by simp only [↓ag,dv,simprocAttr];exact k9,by simp,cW,aB⟩
     have pg:=aa;have Ca:=bX;clear aa bX;rintro r bF ⟨fY,l9,fh,R,cr,iI,m,t,dk,iG,hm,O,aD,cD,aa⟩;obtain ⟨cI,h6⟩:∃cI,r 4=cI:=⟨_,rfl⟩;rw [h6] at O;have bX:=xE;cases m with
     | zero=>exact (bX aa.symm).elim
     | succ m=>
       replace aa:uq ao (bD ao m) d (a::t) dk=rt:=aa;unfold uq at aa;unfold QM;have I:=J m (by omega);have cx:=O.one;simp only [fY,l9,fh,h6,cx.1,cx.2.1,cx.2.2,↓ag,ak,simprocAttr];refine cT (gQ cD nw) ?_;rintro x bR ⟨rfl,m6,i6,dq⟩;have c0:=cr.trans m6;cases ic:cl nw dk with
       | true=>
         simp only [ic,aqu,aqk,aqs,bt] at aa dq;have A0:=mM O m6 (by have:=M2.next;omega) (by have:=M2.next;omega);have hlen:ju cI=some (.int .i64 (a::t).length):=by have:=A0.len;rwa [aqJ] at this
         simp only [fY,l9,fh,h6,cx.1,cx.2.1,cx.2.2,↓ag,ak,simprocAttr];refine ch (SD dq hlen) ?_ ?_
         rotate_left
         . rintro x cv ⟨e,he,rfl,m,bk⟩;simp only [cg,bx,fY,l9,fh,h6,kq,↓ag,ak,simprocAttr];exact ⟨e,by rw [he] at aa;rw [<-pg,<-aa];rfl,rfl,(c0.trans m),bk⟩
         rintro x ab ⟨db,ba⟩;cases ba;rw [db] at aa;have la:(a::t).length<64:=by unfold pU at db;split at db;cases db;omega
         try simp only [bt] at aa
         simp only [fY,l9,fh,h6,cx.1,cx.2.1,cx.2.2,↓ag,ak,simprocAttr];have g7:(bD ao m).ty d dk.tail≠.error b3:=fun q=>by rw [q] at aa;exact bX aa.symm
         refine ch (I.ty d dk.tail bR bB i6 dq g7) ?_ ?_
         rotate_left
         . rintro x cv ⟨e,he,rfl,m,bk⟩;simp only [cg,bx,fY,l9,fh,h6,kq,↓ag,ak,simprocAttr];exact ⟨e,by rw [he] at aa;rw [<-pg,<-aa];rfl,rfl,(c0.trans m),bk⟩
         rintro x cv ⟨b,me,jl,i7,eM,rfl,fv,m7,eV⟩;rw [eM] at aa
         try simp only [bt] at aa
         have ek:=c0.trans m7;have o1:=mM A0 m7 (by have:=M2.next;omega) (by have:=M2.next;omega);have iW:=fv.one;obtain ⟨ut,fR,eE,mU,m8,CL,Bf⟩:=CZ o1 (fv.eA (m6.next)) (ql O (aqh _)) (iI) ((aqn m6.next m7.next)) (by omega);have gZ:=R.mod (m6.trans m7) (bN bW);have JK:(cv.next=h.next)=False:=aqx (by have:=gZ.lt;omega);have gr:=C.k_ eV m8 (by have:=M2.next;omega);have gC:=vB ek m8 (by have:=M2.next;omega);have pA:=u5 gZ m8 (.inl (by have:=bA.lt;have:=m2.next;omega));have Yw:=fv.k_ m8 (m6.next);have h5:=mU.one;have sG:((a::t)++[b]).length=(a::t).length+1:=by simp<;>omega
         simp only [iW.1,iW.2.1,iW.2.2,eE,JK,fY,l9,fh,h6,cx.1,cx.2.1,cx.2.2,h5.1,h5.2.1,h5.2.2,↓ag,ak,simprocAttr];exact ⟨⟨pA,gC,((aqn iI (aqn m6.next (aqn m7.next m8.next)))),m,t++[b],_,_,by omega,mU,by simp only [aqC,aqp,aqB] at la ⊢;omega,gr,aa⟩,by rw [kX cD,kX gr];have:=fi ic;have:=u0 ((shorter ao m).ty d dk.tail (.inl trivial)) eM;omega⟩
       | false=>
         simp only [ic,aqu,aqk,aqs,bt] at aa dq;rw [<-aa] at pg;clear aa bX;have aa:=pg;have bX:=Ca
         try simp only [bt] at aa
         simp only [fY,l9,fh,h6,cx.1,cx.2.1,cx.2.2,↓ag,ak,simprocAttr];refine ch (ke dq kH) ?_ ?_
         rotate_left
         . rintro x cv ⟨e,he,rfl,m,bk⟩;simp only [cg,bx,fY,l9,fh,h6,kq,↓ag,ak,simprocAttr];exact ⟨e,by rw [he] at aa;exact aa.symm,rfl,(c0.trans m),bk⟩
         rintro x cv ⟨me,eM,m7,i7,eV⟩;rw [eM] at aa
         try simp only [bt] at aa
         have ek:=c0.trans m7;have o1:=mM O (m6.trans m7) (by have:=M2.next;omega) (by have:=M2.next;omega);have hlen:ju cI=some (.int .i64 (List.map aR.enc (a::t)).length):=o1.len;cases t with
         | nil=>
           have f0:((List.map aR.enc [a]).length:Int)=1:=rfl;rw [aqw (show [a].length=1 from rfl)] at aa;obtain ⟨b2,off,ap4,bY,j7,Pj⟩:=ak8 o1 (by simp);have gZ:=R.mod (m6.trans m7) (bN bW);have o:=Pj.one;simp only [o.1,o.2.1,o.2.2,bx,vcs,dd,hlen,f0,bY,j7,gZ.g,fY,l9,fh,h6,cx.1,cx.2.1,cx.2.2,↓ag,ak,simprocAttr];exact ⟨_,_,_,_,aa.symm,rfl,(Pj.box (by have:=m2.next;have:=bA.lt;omega) _).eA (by have:=M2.next;omega),ek.set (fun o=>absurd o (dh (aqh _))) _,C.box eV (aqh _) _⟩
         | cons b t=>
           have f0:((List.map aR.enc (a::b::t)).length:Int)≠1:=by simp only [aqJ,aqp];omega
           have f1:(((List.map aR.enc (a::b::t)).length:Int)=1)=False:=aqx f0;rw [aqr (by simp)] at aa;simp only [hlen,f1,fY,l9,fh,h6,cx.1,cx.2.1,cx.2.2,↓ag,ak,simprocAttr];refine ch (mb eV 3) ?_ ?_
           rotate_left
           . rintro x fR ⟨e,he,rfl,m,bk⟩;simp only [cg,bx,fY,l9,fh,h6,kq,↓ag,ak,simprocAttr];exact ⟨e,by rw [he] at aa;exact aa.symm,rfl,(ek.trans m),bk⟩
           rintro x fR ⟨⟨Xm,wg⟩,e5,rfl,⟨afX,apg⟩,m8,i8,gr⟩;rw [e5] at aa
           try simp only [bt] at aa
           have gC:=ek.trans m8;have Yn:=mM o1 m8 (by have:=M2.next;omega) (by have:=M2.next;omega);have pH:=Gy Yn (by omega) 2 0 (c2 ao ws) (s:=Xm.text) (le_top (C.jy Xm afX));have Hx:=R.mod (m6.trans (m7.trans m8)) (bN bW);have o:=pH.one;simp only [o.1,o.2.1,o.2.2,bx,vcs,dd,aK.enc,Hx.g,fY,l9,fh,h6,cx.1,cx.2.1,cx.2.2,↓ag,ak,simprocAttr];exact ⟨_,_,_,_,aa.symm,rfl,(pH.box (by have:=m2.next;have:=bA.lt;omega) _).eA (by have:=M2.next;omega),gC.set (fun o=>absurd o (dh (aqh _))) _,C.box gr (aqh _) _⟩
theorem abx (I:im W ao aO n) (d:Nat) (k:Int) (a0:Nat) (ws:List aK):ga W ao aO 150 [.int .i64 k,.int .i64 a0] d ws ((bD ao (n+1)).iD d k a0 ws):=by
 intro h bB i C bX;generalize aa:(bD ao (n+1)).iD d k a0 ws=res at bX ⊢;replace aa:I3 ao (bD ao n) d k a0 ws=res:=aa;unfold I3 at aa;refine aad.x rfl (dw ?_);unfold Qz;have bW:=C.at_.lt;obtain ⟨U,an,aM,bA⟩:=gd h er;have m1:Mod (cb aO) h U:=aM.mod _;have cq:=m1;have cO:=C.ext aM;simp only [an,↓ag,ak,simprocAttr];have g2:(bD ao n).seq d ws≠.error b3:=fun q=>by rw [q] at aa;exact bX aa.symm
 refine ch (I.seq d ws U bB i cO g2) ?_ ?_
 rotate_left
 . rintro x ad ⟨e,he,rfl,m,bk⟩;simp only [cg,bx,↓ag,ak,simprocAttr];exact ⟨e,by rw [he] at aa;exact aa.symm,rfl,(cq.trans m),bk⟩
 rintro x ad ⟨a,br,dB,i2,b5,rfl,aN,m2,cC⟩;rw [b5] at aa
 try simp only [bt] at aa
 have M2:=cq.trans m2;have eR:=aN.one;obtain ⟨aC,aH,cu,k9⟩:=Gx aN (m2.next);have m3:Mod (cb aO) ad aC:=cu.mod _;have b':=M2.trans m3;have dm:=cC.ext cu;simp only [eR.1,eR.2.1,eR.2.2,aH,↓ag,ak,simprocAttr];refine ch (ke dm FQ) ?_ ?_
 rotate_left
 . rintro x aX ⟨e,he,rfl,m,bk⟩;simp only [cg,bx,↓ag,ak,simprocAttr];exact ⟨e,by rw [he] at aa;exact aa.symm,rfl,(b'.trans m),bk⟩
 rintro x aX ⟨fJ,eh,m4,i4,cW⟩;rw [eh] at aa
 try simp only [bt] at aa
 have cN:=b'.trans m4;simp only [↓ag,ak,simprocAttr];have g5:(bD ao n).cases d [] (if cl nv fJ then fJ.tail else fJ)≠.error b3:=fun q=>by rw [q] at aa;exact bX aa.symm
 refine ch (I.cases d fJ aX bB i4 cW g5) ?_ ?_
 rotate_left
 . rintro x bF ⟨e,he,rfl,m,bk⟩;simp only [cg,bx,↓ag,ak,simprocAttr];exact ⟨e,by rw [he] at aa;exact aa.symm,rfl,(cN.trans m),bk⟩
 rintro ap2 bF ⟨lc,gY,i5,cK,Ph,XB,m5,cD⟩;rw [cK] at aa
 try simp only [bt] at aa
 have cr:=cN.trans m5;have My:=Ph.one;have H0:=mM k9 (m4.trans m5) (by have:=cq.next;omega) (by have:=cq.next;omega);obtain ⟨anY,bR,dG,AZ,m6⟩:=ak7 H0 Ph (ql k9 (m4.next)) ((aqn m2.next (aqn m3.next m4.next))) (m5.next) (by simp) (aqn XB (by decide));have dq:=C.k_ cD m6 (by have:=cq.next;omega);have c0:=vB cr m6 (by have:=cq.next;omega);have hs:=bA.mod (m2.trans (m3.trans (m4.trans m5))) (bN bW);have yK:=u5 hs m6 (.inl (by have:=bA.lt;have:=aqh 0;omega));have x':=AZ.one;have OP:([a]++lc).length=1+lc.length:=by simp<;>omega
 have oi:=Gy AZ (by have:=(rfl:[a].length=1);have:=XB;have:=OP;omega) k 0 a0 (s:=[]) (aqZ _);have o:=oi.one;simp only [o.1,o.2.1,o.2.2,bx,vcs,dd,dG,yK.g,My.1,My.2.1,My.2.2,x'.1,x'.2.1,x'.2.2,↓ag,ak,simprocAttr];exact ⟨_,_,_,_,aa.symm,rfl,(oi.box (by have:=bW;have:=bA.lt;omega) _).eA (by have:=cq.next;omega),c0.set (fun o=>absurd o (dh (aqh _))) _,C.box dq (aqh _) _⟩
theorem aji (I:im W ao aO n) (d:Nat) (a0:Nat) (ws:List aK):ga W ao aO 149 [.int .i64 a0] d ws ((bD ao (n+1)).lt d a0 ws):=by
 intro h bB i C bX;generalize aa:(bD ao (n+1)).lt d a0 ws=res at bX ⊢;replace aa:xT ao (bD ao n) d a0 ws=res:=aa;unfold xT at aa;refine aab.x rfl (dw ?_);unfold Qw;have bW:=C.at_.lt;obtain ⟨U,an,aM,bA⟩:=gd h er;have m1:Mod (cb aO) h U:=aM.mod _;have cq:=m1;have cO:=C.ext aM;simp only [an,↓ag,ak,simprocAttr];refine cT (gQ cO vs) ?_;rintro x ad ⟨rfl,m2,i2,cC⟩;have M2:=cq.trans m2;cases ea:cl vs ws with
 | true=>
   simp only [ea,aqu,aqk,aqs,bt] at aa cC;simp only [↓ag,ak,simprocAttr];have g3:(bD ao n).binds d [] ws.tail≠.error b3:=fun q=>by rw [q] at aa;exact bX aa.symm
   refine ch (I.binds d ws.tail ad bB i2 cC g3) ?_ ?_
   rotate_left
   . rintro x aC ⟨e,he,rfl,m,bk⟩;simp only [cg,bx,↓ag,ak,simprocAttr];exact ⟨e,by rw [he] at aa;exact aa.symm,rfl,(M2.trans m),bk⟩
   rintro ul aC ⟨LR,dT,i3,b6,k9,Hv,m3,dm⟩;rw [b6] at aa
   try simp only [bt] at aa
   have b':=M2.trans m3;have mL:=k9.one;simp only [mL.1,mL.2.1,mL.2.2,↓ag,ak,simprocAttr];refine ch (ke dm zP) ?_ ?_
   rotate_left
   . rintro x aX ⟨e,he,rfl,m,bk⟩;simp only [cg,bx,↓ag,ak,simprocAttr];exact ⟨e,by rw [he] at aa;exact aa.symm,rfl,(b'.trans m),bk⟩
   rintro x aX ⟨fJ,eh,m4,i4,cW⟩;rw [eh] at aa
   try simp only [bt] at aa
   have cN:=b'.trans m4;simp only [mL.1,mL.2.1,mL.2.2,↓ag,ak,simprocAttr];have g5:(bD ao n).seq d fJ≠.error b3:=fun q=>by rw [q] at aa;exact bX aa.symm
   refine ch (I.seq d fJ aX bB i4 cW g5) ?_ ?_
   rotate_left
   . rintro x bF ⟨e,he,rfl,m,bk⟩;simp only [cg,bx,↓ag,ak,simprocAttr];exact ⟨e,by rw [he] at aa;exact aa.symm,rfl,(cN.trans m),bk⟩
   rintro x bF ⟨b,gY,jl,i5,cK,rfl,fv,m5,cD⟩;rw [cK] at aa
   try simp only [bt] at aa
   have cr:=cN.trans m5;have H0:=mM k9 (m4.trans m5) (by have:=M2.next;omega) (by have:=M2.next;omega);have nZ:=fv.one;obtain ⟨anY,bR,dG,AZ,m6,apD,aoL⟩:=CZ H0 (fv.eA (m4.next)) (ql k9 (aqh _)) (m3.next) ((aqn m4.next m5.next)) (aqn Hv (by decide));have hs:=bA.mod (m2.trans (m3.trans (m4.trans m5))) (bN bW);have ac2:(bF.next=h.next)=False:=aqx (by have:=hs.lt;omega);have dq:=C.k_ cD m6 (by have:=M2.next;omega);have c0:=vB cr m6 (by have:=M2.next;omega);have yK:=u5 hs m6 (.inl (by have:=bA.lt;have:=m2.next;omega));have aoF:=fv.k_ m6 (m4.next);have x':=AZ.one;have OP:(LR++[b]).length=LR.length+1:=by simp<;>omega
   have oi:=Gy AZ (by have:=Hv;have:=OP;omega) 30 0 a0 (s:=[]) (aqZ _);have o:=oi.one;simp only [o.1,o.2.1,o.2.2,bx,vcs,dd,nZ.1,nZ.2.1,nZ.2.2,dG,ac2,yK.g,mL.1,mL.2.1,mL.2.2,x'.1,x'.2.1,x'.2.2,↓ag,ak,simprocAttr];exact ⟨_,_,_,_,aa.symm,rfl,(oi.box (by have:=m2.next;have:=bA.lt;omega) _).eA (by have:=M2.next;omega),c0.set (fun o=>absurd o (dh (aqh _))) _,C.box dq (aqh _) _⟩
 | false=>
   simp only [ea,aqu,aqk,aqs,bt] at aa cC;simp only [↓ag,ak,simprocAttr];have g3:(bD ao n).pat d ws≠.error b3:=fun q=>by rw [q] at aa;exact bX aa.symm
   refine ch (I.pat d ws ad bB i2 cC g3) ?_ ?_
   rotate_left
   . rintro x aC ⟨e,he,rfl,m,bk⟩;simp only [cg,bx,↓ag,ak,simprocAttr];exact ⟨e,by rw [he] at aa;exact aa.symm,rfl,(M2.trans m),bk⟩
   rintro x aC ⟨p,dT,Ds,i3,b6,rfl,oi,m3,dm⟩;rw [b6] at aa
   try simp only [bt] at aa
   have b':=M2.trans m3;have hf:=oi.one;obtain ⟨aX,bP,dA,h9⟩:=fw aC er (vcs p Ds);have m4:Mod (cb aO) aC aX:=dA.mod _;have cN:=b'.trans m4;have cW:=dm.ext dA;simp only [hf.1,hf.2.1,hf.2.2,bP,↓ag,ak,simprocAttr];refine ch (ke cW ji) ?_ ?_
   rotate_left
   . rintro x bF ⟨e,he,rfl,m,bk⟩;simp only [cg,bx,↓ag,ak,simprocAttr];exact ⟨e,by rw [he] at aa;exact aa.symm,rfl,(cN.trans m),bk⟩
   rintro x bF ⟨gY,cK,m5,i5,cD⟩;rw [cK] at aa
   try simp only [bt] at aa
   have cr:=cN.trans m5;simp only [↓ag,ak,simprocAttr];have g6:(bD ao n).seq d gY≠.error b3:=fun q=>by rw [q] at aa;exact bX aa.symm
   refine ch (I.seq d gY bF bB i5 cD g6) ?_ ?_
   rotate_left
   . rintro x bR ⟨e,he,rfl,m,bk⟩;simp only [cg,bx,↓ag,ak,simprocAttr];exact ⟨e,by rw [he] at aa;exact aa.symm,rfl,(cr.trans m),bk⟩
   rintro x bR ⟨a,kr,dB,i6,eH,rfl,aN,m6,dq⟩;rw [eH] at aa
   try simp only [bt] at aa
   have c0:=cr.trans m6;have x4:=aN.one;obtain ⟨cv,fX,e',yI⟩:=fw bR er (vcs a dB);have m7:Mod (cb aO) bR cv:=e'.mod _;have ek:=c0.trans m7;have eV:=dq.ext e';simp only [x4.1,x4.2.1,x4.2.2,fX,↓ag,ak,simprocAttr];refine ch (ke eV zP) ?_ ?_
   rotate_left
   . rintro x fR ⟨e,he,rfl,m,bk⟩;simp only [cg,bx,↓ag,ak,simprocAttr];exact ⟨e,by rw [he] at aa;exact aa.symm,rfl,(ek.trans m),bk⟩
   rintro x fR ⟨wg,e5,m8,i8,gr⟩;rw [e5] at aa
   try simp only [bt] at aa
   have gC:=ek.trans m8;have wm:=h9.mod (m5.trans (m6.trans (m7.trans m8))) (bN (by have:=b'.next;omega));have sI:=yI.mod m8 (bN (by have:=c0.next;omega));simp only [wm.g,sI.g,↓ag,ak,simprocAttr];have g9:(bD ao n).seq d wg≠.error b3:=fun q=>by rw [q] at aa;exact bX aa.symm
   refine ch (I.seq d wg fR bB i8 gr g9) ?_ ?_
   rotate_left
   . rintro x hZ ⟨e,he,rfl,m,bk⟩;simp only [cg,bx,wm.g,sI.g,↓ag,ak,simprocAttr];exact ⟨rfl,e,by rw [he] at aa;exact aa.symm,rfl,(gC.trans m),bk⟩
   rintro x hZ ⟨b,Xv,jl,i9,ly,rfl,fv,m9,hU⟩;rw [ly] at aa
   try simp only [bt] at aa
   have jW:=gC.trans m9;have OR:=wm.mod m9 (bN (by have:=b'.next;omega));have AB:=sI.mod m9 (bN (by have:=c0.next;omega));have A4:=oi.mod (m4.trans (m5.trans (m6.trans (m7.trans (m8.trans m9))))) (by have:=M2.next;omega);have uN:=aN.mod (m7.trans (m8.trans m9)) (by have:=cr.next;omega);have x0:=A4.one;have x1:=uN.one;have Me:=fv.one;obtain ⟨nD,Db,Bw,HU⟩:=UN (F:=Fr ad.next) (h:=hZ) (size:=5) rfl rfl rfl A4.cs (uN.eA (hS:=ad.next) (by have:=(aqn m3.next (aqn m4.next m5.next));omega)).cs (fv.eA (hS:=ad.next) (by have:=(aqn m3.next (aqn m4.next (aqn m5.next (aqn m6.next (aqn m7.next m8.next)))));omega)).cs (qT (m3.trans (m4.trans (m5.trans (m6.trans (m7.trans (m8.trans m9)))))).next);simp only [vcs,aqP,aq5] at Db;have m10:Mod (cb aO) hZ nD:=Bw.mod _;have og:=jW.trans m10;have n_:=hU.ext Bw;have A3:=qo (l:=[p,a,b]) 29 0 a0 [] HU rfl (aqZ _);have wk:=bA.mod (m2.trans (m3.trans (m4.trans (m5.trans (m6.trans (m7.trans (m8.trans (m9.trans m10)))))))) (bN bW);have XF:=OR.mod m10 (bN (by have:=b'.next;omega));have Hz:=AB.mod m10 (bN (by have:=c0.next;omega));have o:=A3.one;simp only [o.1,o.2.1,o.2.2,bx,vcs,dd,x0.1,x0.2.1,x0.2.2,x1.1,x1.2.1,x1.2.2,Me.1,Me.2.1,Me.2.2,Db,wk.g,XF.g,Hz.g,wm.g,sI.g,OR.g,AB.g,↓ag,ak,simprocAttr];exact ⟨_,_,_,_,aa.symm,rfl,(A3.box (by have:=m2.next;have:=bA.lt;omega) _).eA (by have:=M2.next;omega),og.set (fun o=>absurd o (dh (aqh _))) _,C.box n_ (aqh _) _⟩
end
end
section
open Go bf
variable {W:List aK} {ao aO n:Nat}
theorem alG:im W ao aO 0:=by constructor<;>(intros;intro h bB i C bX;exact absurd rfl bX)
theorem alF (J:∀m,m<=n->im W ao aO m):im W ao aO (n+1):=by have I:=J n (aqh n);exact ⟨anQ I,alh I,ajQ I,anP J,alD I,alB I,alC I,amM I,abd J,adq I,akF I,abx I,aji I,ZG J,alg I,abF I,ann J,ano J,alP I,Y' J,Zr I⟩
theorem M9 (W:List aK) (ao aO:Nat):∀n m,m<=n->im W ao aO m
 | 0,m,h=>by obtain rfl:m=0:=by omega
             exact alG
 | n+1,m,h=>by
   by_cases e:m=n+1
   . rw [e];exact alF (M9 W ao aO n)
   . exact M9 W ao aO n m (by omega)
theorem vL (W:List aK) (ao aO n:Nat):im W ao aO n:=M9 W ao aO n n (aqh n)
end
section
open Go bf
section
variable {W:List aK} {ao aO n:Nat}
theorem Jh (I:im W ao aO n) (k:Int) (ws:List aK):ga W ao aO 53 [.int .i64 k] 0 ws (o8 ao (bD ao n) k ws):=by
 intro h bB i C bX;generalize aa:o8 ao (bD ao n) k ws=res at bX ⊢;unfold o8 at aa;refine aaL.x rfl (dw ?_);unfold Rc;have bW:=C.at_.lt;obtain ⟨U,an,aM,bA⟩:=gd h er;have m1:Mod (cb aO) h U:=aM.mod _;have cq:=m1;have cO:=C.ext aM;simp only [an,↓ag,ak,simprocAttr];refine ch (mb cO 4) ?_ ?_
 rotate_left
 . rintro x ad ⟨e,he,rfl,m,bk⟩;simp only [cg,bx,↓ag,ak,simprocAttr];exact ⟨e,by rw [he] at aa;exact aa.symm,rfl,(cq.trans m),bk⟩
 rintro x ad ⟨⟨bn,br⟩,b5,rfl,⟨hN,lP⟩,m2,i2,cC⟩;rw [b5] at aa
 try simp only [bt] at aa
 have M2:=cq.trans m2;obtain ⟨aC,aH,cu,fT⟩:=fw ad [.int .i64 0,.int .i64 0,.int .i64 0,.str []] [.int .i64 bn.kind,.int .i64 bn.num,.int .i64 bn.pos,.str bn.text];have m3:Mod (cb aO) ad aC:=cu.mod _;have b':=M2.trans m3;have dm:=cC.ext cu;obtain ⟨aX,bP,dA,h9⟩:=fw aC er [.int .i64 k,.int .i64 0,.int .i64 bn.pos,.str bn.text,.cn];have m4:Mod (cb aO) aC aX:=dA.mod _;have cN:=b'.trans m4;have cW:=dm.ext dA;simp only [aK.enc,aH,fT.g,bP,↓ag,ak,simprocAttr];refine cT (gQ cW FM) ?_;rintro x bF ⟨rfl,m5,i5,cD⟩;have cr:=cN.trans m5;cases ea:cl FM br with
 | true=>
   simp only [ea,aqu,aqk,aqs,bt] at aa cD;simp only [↓ag,ak,simprocAttr];have g6:(bD ao n).ty 0 br.tail≠.error b3:=fun q=>by rw [q] at aa;exact bX aa.symm
   refine ch (I.ty 0 br.tail bF bB i5 cD g6) ?_ ?_
   rotate_left
   . rintro x bR ⟨e,he,rfl,m,bk⟩;simp only [cg,bx,↓ag,ak,simprocAttr];exact ⟨e,by rw [he] at aa;exact aa.symm,rfl,(cr.trans m),bk⟩
   rintro x bR ⟨a,kr,dB,i6,eH,rfl,aN,m6,dq⟩;rw [eH] at aa
   try simp only [bt] at aa
   have c0:=cr.trans m6;have n0:=aN.one;obtain ⟨cv,fX,e',sS⟩:=vx (F:=Fr bF.next) (h:=bR) (size:=5) rfl aN.cs (qT m6.next);have m7:Mod (cb aO) bR cv:=e'.mod _;have ek:=c0.trans m7;have eV:=dq.ext e';have dZ:=qo (l:=[a]) k 0 bn.pos bn.text sS rfl (le_top (C.jy bn hN));have kt:=h9.mod (m5.trans (m6.trans m7)) (bN (by have:=b'.next;omega));obtain ⟨fR,eE⟩:∃g,cv.set (aE aC.next) (.bz [.int .i64 k,.int .i64 0,.int .i64 bn.pos,.str bn.text,(.slice (aE bR.next) 0 1 1)] 0 false)=g:=⟨_,rfl⟩;have oX:=kt.put [.int .i64 k,.int .i64 0,.int .i64 bn.pos,.str bn.text,(.slice (aE bR.next) 0 1 1)];rw [eE] at oX;have gr:=C.box eV (n:=aC.next) b'.next (.bz [.int .i64 k,.int .i64 0,.int .i64 bn.pos,.str bn.text,(.slice (aE bR.next) 0 1 1)] 0 false)
   rw [eE] at gr;have gC:Mod (cb aO) h fR:=by rw [<-eE];exact ek.set (fun o=>absurd o (dh b'.next)) _
   have pG:=aN.mod m7 (by have:=cr.next;omega);have wD:=pG.box (n:=aC.next) (by have:=m5.next;have:=h9.lt;omega) (.bz [.int .i64 k,.int .i64 0,.int .i64 bn.pos,.str bn.text,(.slice (aE bR.next) 0 1 1)] 0 false);rw [eE] at wD;have oh:=dZ.box (n:=aC.next) (by have:=m5.next;have:=h9.lt;omega) (.bz [.int .i64 k,.int .i64 0,.int .i64 bn.pos,.str bn.text,(.slice (aE bR.next) 0 1 1)] 0 false);rw [eE] at oh;have gZ:=bA.mod (m2.trans (m3.trans (m4.trans (m5.trans (m6.trans m7))))) (bN bW);have pA:=gZ.set (m:=aC.next) (by have:=bA.lt;have:=(m2.trans m3).next;omega) (.bz [.int .i64 k,.int .i64 0,.int .i64 bn.pos,.str bn.text,(.slice (aE bR.next) 0 1 1)] 0 false);rw [eE] at pA;have oW:=fT.mod (m4.trans (m5.trans (m6.trans m7))) (bN (by have:=M2.next;omega));have HD:=oW.set (m:=aC.next) (by have:=fT.lt;omega) (.bz [.int .i64 k,.int .i64 0,.int .i64 bn.pos,.str bn.text,(.slice (aE bR.next) 0 1 1)] 0 false);rw [eE] at HD;have m8:Mod (fun b=>b=aE aC.next) cv fR:=by rw [<-eE];exact (Mod.refl (fun b=>b=aE aC.next) _).set (fun _=>rfl) _
   have o:=oh.one;simp only [o.1,o.2.1,o.2.2,bx,vcs,dd,n0.1,n0.2.1,n0.2.2,fX,kt.g,eE,oX.g,pA.g,↓ag,ak,simprocAttr];exact ⟨_,_,_,_,aa.symm,rfl,(oh.box (by have:=(aqn m2.next (aqn m3.next (aqn m4.next m5.next)));have:=bA.lt;omega) _).eA (by have:=cr.next;omega),gC.set (fun o=>absurd o (dh (aqh _))) _,C.box gr (aqh _) _⟩
 | false=>
   simp only [ea,aqu,aqk,aqs,bt] at aa cD;have gN:=h9.mod m5 (bN (by have:=b'.next;omega));have hs:=bA.mod (m2.trans (m3.trans (m4.trans m5))) (bN bW);simp only [bx,vcs,dd,gN.g,hs.g,↓ag,ak,simprocAttr];exact ⟨_,_,_,_,aa.symm,rfl,jQ _ _ _ _ _ (le_top (C.jy bn hN)),cr.set (fun o=>absurd o (dh (aqh _))) _,C.box cD (aqh _) _⟩
theorem Ot {h:ae} {d i b:Nat} {ws:List aK} {bB:V} (C:dY W ao aO h d ws bB i) (Hw:Has h b [.ptr (aE aO) 0]):jB Tryz.prog 98 [.ptr (aE b) 0] h (fun x ab=>∃q,hr ao 5 ws=.ok q/\x=.agg (vcs (n' q.1) .cn)/\q.1 ∈ W/\Mod (cb aO) h ab/\∃hb,dY W ao aO ab d q.2 bB hb) (s4 W ao aO h (hr ao 5 ws)):=by
 refine aa4.x rfl (dw ?_);unfold RD;have bW:=C.at_.lt;obtain ⟨U,an,aM,bA⟩:=gd h er;have cO:=C.ext aM;have AF:=Hw.ext aM;simp only [an,AF.g,↓ag,ak,simprocAttr];refine ch (mb cO 5) ?_ ?_
 rotate_left
 . rintro x ad ⟨e,he,rfl,m,bk⟩;simp only [cg,bx,↓ag,ak,simprocAttr];exact ⟨e,he,rfl,(aM.mod _).trans m,bk⟩
 rintro x ad ⟨⟨w,br⟩,b5,rfl,⟨hw,ar⟩,m2,i2,cC⟩;obtain ⟨aC,aH,cu,fT⟩:=fw ad [.int .i64 0,.int .i64 0,.int .i64 0,.str []] [.int .i64 w.kind,.int .i64 w.num,.int .i64 w.pos,.str w.text];have dm:=cC.ext cu;have wj:=(bA.mod m2 (bN bW)).ext cu;simp only [aK.enc,aH,fT.g,wj.g,n',vcs,dd,bx,↓ag,ak,simprocAttr];exact ⟨_,b5,rfl,hw,(((aM.mod (cb aO)).trans m2).trans (cu.mod _)).set (fun o=>absurd o (dh (aqh _))) _,i2,C.box dm (aqh _) _⟩
theorem alq (k:Nat) (ws:List aK):A5 W ao aO 51 [] 0 ws (tS ao k ws):=by
 intro h bB i C bX;generalize aa:tS ao k ws=res at bX ⊢;unfold tS at aa;refine aaJ.x rfl (dw ?_);unfold c51;have bW:=C.at_.lt;obtain ⟨U,an,aM,bA⟩:=gd h [.ptr (aE aO) 0];have m1:Mod (cb aO) h U:=aM.mod _;have cq:=m1;have cO:=C.ext aM;simp only [an,bA.g,↓ag,ak,simprocAttr];refine eo (jJ cO 5) ?_;cases ea:eG 5 ws with
 | true=>
   simp only [ea,aqu,aqk,aqs,bt] at aa;simp only [bA.g,↓ag,ak,simprocAttr];refine ch (Ot cO bA) ?_ ?_
   rotate_left
   . rintro x ad ⟨e,he,rfl,m,bk⟩;simp only [cg,bx,↓ag,ak,simprocAttr];exact ⟨e,by rw [he] at aa;exact aa.symm,rfl,(cq.trans m),bk⟩
   rintro x ad ⟨⟨bn,br⟩,b5,rfl,hN,m2,i2,cC⟩;rw [b5] at aa
   try simp only [bt] at aa
   have M2:=cq.trans m2;have Ps:ee (Fr ad.next) ad (n' bn) .cn:=jQ _ _ _ _ _ (le_top (C.jy bn hN));have eR:=Ps.one;obtain ⟨aC,aH,cu,k9⟩:=Gx Ps (aqh _);have m3:Mod (cb aO) ad aC:=cu.mod _;have b':=M2.trans m3;have dm:=cC.ext cu;have cx:=k9.one;simp only [cx.1,cx.2.1,cx.2.2,bx,eR.1,eR.2.1,eR.2.2,aH,↓ag,ak,simprocAttr];exact ⟨_,_,_,aa.symm,VG k9 (M2.next),by simp,b',dm⟩
 | false=>
   simp only [ea,aqu,aqk,aqs,bt] at aa;simp only [bA.g,↓ag,ak,simprocAttr];refine cT (gQ cO jj) ?_;rintro x ad ⟨rfl,m2,i2,cC⟩;have M2:=cq.trans m2;cases gk:cl jj ws with
   | true=>
     simp only [gk,aqu,aqk,aqs,bt] at aa cC;have jT:=bA.mod m2 (bN bW);simp only [jT.g,↓ag,ak,simprocAttr];refine ch (Ot cC jT) ?_ ?_
     rotate_left
     . rintro x aC ⟨e,he,rfl,m,bk⟩;simp only [cg,bx,↓ag,ak,simprocAttr];exact ⟨e,by rw [he] at aa;exact aa.symm,rfl,(M2.trans m),bk⟩
     rintro x aC ⟨⟨gM,dT⟩,b6,rfl,tA,m3,i3,dm⟩;rw [b6] at aa
     try simp only [bt] at aa
     have b':=M2.trans m3;have Pt:ee (Fr aC.next) aC (n' gM) .cn:=jQ _ _ _ _ _ (le_top (C.jy gM tA));have hf:=Pt.one;obtain ⟨aX,bP,dA,k9⟩:=Gx Pt (aqh _);have m4:Mod (cb aO) aC aX:=dA.mod _;have cN:=b'.trans m4;have cW:=dm.ext dA;have ks:=jT.mod (m3.trans m4) (bN bW);generalize aB:mN ao k [(n' gM)] dT=rt at aa;have xE:rt≠.error b3:=fun q=>by rw [q] at aa;exact bX aa.symm
     simp only [hf.1,hf.2.1,hf.2.2,bP,↓ag,ak,simprocAttr];refine iV (fun r g=>r 1=.ptr (aE h.next) 0/\r 3=.func 98 [.ptr (aE h.next) 0]/\Has g h.next [.ptr (aE aO) 0]/\Mod (cb aO) h g/\aC.next<=g.next/\∃m l dk iG,ec aC.next (Fr aC.next) g 5 (List.map aR.enc l) (r 4)/\l.length<=64/\dY W ao aO g 0 dk bB iG/\mN ao m l dk=rt) (fun _ g=>qh W aO g) ?_ ?_
     . exact ⟨by simp only [↓ag,dv,simprocAttr],by simp only [↓ag,dv,simprocAttr],ks,cN,(m4.next),k,[(n' gM)],_,_,by simp only [↓ag,dv,simprocAttr];exact k9,by simp,cW,aB⟩
     have pg:=aa;have Ca:=bX;clear aa bX;rintro r bF ⟨tX,fh,R,cr,iI,m,l,dk,iG,O,aD,cD,aa⟩;obtain ⟨cI,h6⟩:∃cI,r 4=cI:=⟨_,rfl⟩;rw [h6] at O;have bX:=xE;cases m with
     | zero=>exact (bX aa.symm).elim
     | succ m=>
       simp only [mN] at aa;unfold Ra;have cx:=O.one;simp only [tX,fh,h6,R.g,cx.1,cx.2.1,cx.2.2,↓ag,ak,simprocAttr];refine cT (gQ cD nw) ?_;rintro x bR ⟨rfl,m6,i6,dq⟩;have c0:=cr.trans m6;cases ic:cl nw dk with
       | true=>
         simp only [ic,aqu,aqk,aqs,bt] at aa dq;have A0:=mM O m6 (by have:=b'.next;omega) (by have:=b'.next;omega);have hlen:ju cI=some (.int .i64 l.length):=by have:=A0.len;rwa [aqJ] at this
         have iM:=R.mod m6 (bN bW);simp only [iM.g,tX,fh,h6,cx.1,cx.2.1,cx.2.2,↓ag,ak,simprocAttr];refine ch (SD dq hlen) ?_ ?_
         rotate_left
         . rintro x cv ⟨e,he,rfl,m,bk⟩;simp only [cg,bx,tX,fh,h6,kq,↓ag,ak,simprocAttr];exact ⟨e,by rw [he] at aa;rw [<-pg,<-aa];rfl,rfl,(c0.trans m),bk⟩
         rintro x ab ⟨db,ba⟩;cases ba;rw [db] at aa;have la:l.length<64:=by unfold pU at db;split at db;cases db;omega
         try simp only [bt] at aa
         simp only [iM.g,tX,fh,h6,cx.1,cx.2.1,cx.2.2,↓ag,ak,simprocAttr];refine ch (Ot dq iM) ?_ ?_
         rotate_left
         . rintro x cv ⟨e,he,rfl,m,bk⟩;simp only [cg,bx,tX,fh,h6,kq,↓ag,ak,simprocAttr];exact ⟨e,by rw [he] at aa;rw [<-pg,<-aa];rfl,rfl,(c0.trans m),bk⟩
         rintro x cv ⟨⟨Ow,me⟩,eM,rfl,afW,m7,i7,eV⟩;rw [eM] at aa
         try simp only [bt] at aa
         have ek:=c0.trans m7;have H6:ee (Fr cv.next) cv (n' Ow) .cn:=jQ _ _ _ _ _ (le_top (C.jy Ow afW));have o1:=mM A0 m7 (by have:=b'.next;omega) (by have:=b'.next;omega);have iW:=H6.one;obtain ⟨ut,fR,eE,mU,m8,CL,Bf⟩:=CZ o1 (H6.eA ((aqn m6.next m7.next))) (ql O (aqh _)) (iI) ((aqn m6.next m7.next)) (by omega);have gZ:=iM.mod m7 (bN bW);have ac4:(cv.next=h.next)=False:=aqx (by have:=gZ.lt;omega);have gr:=C.k_ eV m8 (by have:=b'.next;omega);have gC:=vB ek m8 (by have:=b'.next;omega);have XO:=u5 gZ m8 (.inl (by have:=bA.lt;have:=(aqn m2.next m3.next);omega));have aoG:=H6.k_ m8 ((aqn m6.next m7.next));have h5:=mU.one;have sG:(l++[(n' Ow)]).length=l.length+1:=by simp<;>omega
         simp only [iW.1,iW.2.1,iW.2.2,eE,ac4,tX,fh,h6,cx.1,cx.2.1,cx.2.2,h5.1,h5.2.1,h5.2.2,↓ag,ak,simprocAttr];exact ⟨⟨XO,gC,((aqn iI (aqn m6.next (aqn m7.next m8.next)))),m,_,_,_,mU,by rw [sG];omega,gr,aa⟩,by rw [kX cD,kX gr];show me.length<_;have:=fi ic;have hZ:me.length<dk.tail.length:=W1 eM;omega⟩
       | false=>
         simp only [ic,aqu,aqk,aqs,bt] at aa dq;rw [<-aa] at pg;clear aa bX;have aa:=pg;have bX:=Ca
         try simp only [bt] at aa
         have iM:=R.mod m6 (bN bW);simp only [iM.g,tX,fh,h6,cx.1,cx.2.1,cx.2.2,↓ag,ak,simprocAttr];refine ch (ke dq kH) ?_ ?_
         rotate_left
         . rintro x cv ⟨e,he,rfl,m,bk⟩;simp only [cg,bx,tX,fh,h6,kq,↓ag,ak,simprocAttr];exact ⟨e,by rw [he] at aa;exact aa.symm,rfl,(c0.trans m),bk⟩
         rintro x cv ⟨me,eM,m7,i7,eV⟩;rw [eM] at aa
         try simp only [bt] at aa
         have ek:=c0.trans m7;have o1:=mM O (m6.trans m7) (by have:=b'.next;omega) (by have:=b'.next;omega);simp only [bx,tX,fh,h6,cx.1,cx.2.1,cx.2.2,↓ag,ak,simprocAttr];exact ⟨_,_,_,aa.symm,VG o1 (by have:=b'.next;omega),by omega,ek,eV⟩
   | false=>
     simp only [gk,aqu,aqk,aqs,bt] at aa cC;simp only [bx,↓ag,ak,simprocAttr];exact ⟨_,_,_,aa.symm,ec.nil _ _ _ _,by simp,M2,cC⟩
end
section
variable {W:List aK} {ao aO n:Nat}
theorem abW (ao n:Nat) (k:Int) (ws:List aK):eL (fun _=>True) ws (o8 ao (bD ao n) k ws):=by
 try dsimp only
 refine (kJ (fun _ _=>trivial)).bind (fun _ _=>trivial) fun w bc U=>?_
 try simp only
 split
 . rename_i az;have:=fi az
   try dsimp only
   exact ((shorter ao n).ty _ _ (.inl trivial)).bind (fun _ _=>trivial) fun b br ad=>by show br.length<_;omega
 . exact U
theorem ab9 (I:im W ao aO n) (k:Nat) (ws:List aK):ga W ao aO 23 [] 0 ws (tc ao (bD ao n) k ws):=by
 intro h bB i C bX;generalize aa:tc ao (bD ao n) k ws=res at bX ⊢;unfold tc at aa;dsimp only at aa;refine aaw.x rfl (dw ?_);unfold QT;have bW:=C.at_.lt;obtain ⟨U,an,aM,bA⟩:=gd h er;have m1:Mod (cb aO) h U:=aM.mod _;have cq:=m1;have cO:=C.ext aM;simp only [an,↓ag,ak,simprocAttr];refine eo (qn cO) ?_;simp only [↓ag,ak,simprocAttr];refine cT (gQ cO FP) ?_;rintro x ad ⟨rfl,m2,i2,cC⟩;have M2:=cq.trans m2;cases ea:cl FP ws with
 | true=>
   simp only [ea,aqu,aqk,aqs,bt] at aa cC;simp only [↓ag,ak,simprocAttr];have g3:tS ao k ws.tail≠.error b3:=fun q=>by rw [q] at aa;exact bX aa.symm
   refine ch (alq k ws.tail ad bB i2 cC g3) ?_ ?_
   rotate_left
   . rintro x aC ⟨e,he,rfl,m,bk⟩;simp only [cg,bx,↓ag,ak,simprocAttr];exact ⟨e,by rw [he] at aa;exact aa.symm,rfl,(M2.trans m),bk⟩
   rintro up aC ⟨e2,dT,i3,b6,Op,XD,m3,dm⟩;rw [b6] at aa
   try simp only [bt] at aa
   have b':=M2.trans m3;have qk:=Op.one;have hlen:ju up=some (.int .i64 e2.length):=by have:=Op.len;rwa [aqJ] at this
   simp only [hlen,qk.1,qk.2.1,qk.2.2,↓ag,ak,simprocAttr];refine ch (mb dm 3) ?_ ?_
   rotate_left
   . rintro x aX ⟨e,he,rfl,m,bk⟩;simp only [cg,bx,↓ag,ak,simprocAttr];exact ⟨e,by rw [he] at aa;exact aa.symm,rfl,(b'.trans m),bk⟩
   rintro x aX ⟨⟨hi,fJ⟩,eh,rfl,⟨Ft,xv⟩,m4,i4,cW⟩;rw [eh] at aa
   try simp only [bt] at aa
   have cN:=b'.trans m4;have Yq:=alc Op (m4.next);obtain ⟨bF,cE,eY,jn⟩:=fw aX er [.int .i64 50,.int .i64 e2.length,.int .i64 (c2 ao ws),.str hi.text,.cn];have m5:Mod (cb aO) aX bF:=eY.mod _;have cr:=cN.trans m5;have cD:=cW.ext eY;have ap:¬V.bd up (aE aX.next):=fun z=>by have:=ql Op (aqh _) _ z;rw [dj] at this;have:=m4.next;omega
   simp only [aK.enc,cE,qk.1,qk.2.1,qk.2.2,↓ag,ak,simprocAttr];refine ch (ke cD ji) ?_ ?_
   rotate_left
   . rintro x bR ⟨e,he,rfl,m,bk⟩;simp only [cg,bx,↓ag,ak,simprocAttr];exact ⟨e,by rw [he] at aa;exact aa.symm,rfl,(cr.trans m),bk⟩
   rintro x bR ⟨kr,eH,m6,i6,dq⟩;rw [eH] at aa
   try simp only [bt] at aa
   have c0:=cr.trans m6;simp only [qk.1,qk.2.1,qk.2.2,↓ag,ak,simprocAttr];have g7:o8 ao (bD ao n) 47 kr≠.error b3:=fun q=>by rw [q] at aa;exact bX aa.symm
   refine ch (Jh I 47 kr bR bB i6 dq g7) ?_ ?_
   rotate_left
   . rintro x cv ⟨e,he,rfl,m,bk⟩;simp only [cg,bx,↓ag,ak,simprocAttr];exact ⟨e,by rw [he] at aa;exact aa.symm,rfl,(c0.trans m),bk⟩
   rintro x cv ⟨c,me,hh,i7,eM,rfl,dZ,m7,eV⟩;rw [eM] at aa
   try simp only [bt] at aa
   have ek:=c0.trans m7;have Yo:=MN Yq (m4.trans (m5.trans (m6.trans m7))) (by have:=M2.next;omega);have iW:=dZ.one;obtain ⟨ul,fR,eE,k9,m8,CL,Bf⟩:=VI Yo dZ (ql Op ((aqn m4.next (aqn m5.next m6.next)))) (by have:=jn.lt;have:=m6.next;omega) ((aqn m3.next (aqn m4.next (aqn m5.next m6.next)))) (m7.next) (aqn XD (by decide));have gZ:=bA.mod (m2.trans (m3.trans (m4.trans (m5.trans (m6.trans m7))))) (bN bW);have JK:(cv.next=h.next)=False:=aqx (by have:=gZ.lt;omega);have OT:=jn.mod (m6.trans m7) (bN (by have:=cN.next;omega));have ac3:(cv.next=aX.next)=False:=aqx (by have:=OT.lt;omega);have gr:=C.k_ eV m8 (by have:=M2.next;omega);have gC:=vB ek m8 (by have:=M2.next;omega);have pA:=u5 gZ m8 (.inl (by have:=bA.lt;have:=m2.next;omega));have HD:=OT.mod CL ap;have oh:=dZ.k_ m8 (aqh _);have mL:=k9.one;have aov:(e2++[c]).length=e2.length+1:=by simp<;>omega
   have PG:¬V.bd ul (aE aX.next):=fun z=>(Bf _ z).elim ap (fun z=>by rw [dj] at z;have:=jn.lt;have:=(aqn m6.next m7.next);omega);generalize aB:tb ao (bD ao n) k (e2++[c]) me=rt at aa;have xE:rt≠.error b3:=fun q=>by rw [q] at aa;exact bX aa.symm
   simp only [iW.1,iW.2.1,iW.2.2,eE,JK,ac3,vcs,dd,qk.1,qk.2.1,qk.2.2,mL.1,mL.2.1,mL.2.2,↓ag,ak,simprocAttr];refine iV (fun r g=>r 0=.ptr (aE aO) 0/\r 2=.ptr (aE h.next) 0/\r 5=.ptr (aE aX.next) 0/\Has g h.next er/\Has g aX.next ([.int .i64 50,.int .i64 e2.length,.int .i64 (c2 ao ws),.str hi.text,.cn])/\¬V.bd (r 4) (aE aX.next)/\Mod (cb aO) h g/\ad.next<=g.next/\∃m l dk iG,ec ad.next (k4 ad.next aX.next) g 5 (List.map aR.enc l) (r 4)/\l.length+dk.length<=2000001/\dY W ao aO g 0 dk bB iG/\tb ao (bD ao n) m l dk=rt) (fun _ g=>qh W aO g) ?_ ?_
   . exact ⟨by simp only [↓ag,dv,simprocAttr],by simp only [↓ag,dv,simprocAttr],by simp only [↓ag,dv,simprocAttr],pA,HD,by simp only [↓ag,dv,simprocAttr];exact PG,gC,((aqn m3.next (aqn m4.next (aqn m5.next (aqn m6.next (aqn m7.next m8.next)))))),k,_,_,_,by simp only [↓ag,dv,simprocAttr];exact k9,by rw [aov];have:=XD;have:=gr.Hp;omega,gr,aB⟩
   have pg:=aa;have Ca:=bX;clear aa bX;clear ap PG;rintro r hZ ⟨fY,l9,De,R,jn,ap,jW,iI,m,l,dk,iG,O,aD,hU,aa⟩;obtain ⟨cI,h6⟩:∃cI,r 4=cI:=⟨_,rfl⟩;rw [h6] at O ap;have L2:=jn.lt;have bX:=xE;cases m with
   | zero=>exact (bX aa.symm).elim
   | succ m=>
     simp only [tb] at aa;unfold QW;have cx:=O.one;simp only [fY,l9,h6,De,cx.1,cx.2.1,cx.2.2,↓ag,ak,simprocAttr];refine cT (gQ hU nv) ?_;rintro x nD ⟨rfl,m10,i10,n_⟩;have og:=jW.trans m10;cases gk:cl nv dk with
     | true=>
       simp only [gk,aqu,aqk,aqs,bt] at aa n_;simp only [fY,l9,h6,De,cx.1,cx.2.1,cx.2.2,↓ag,ak,simprocAttr];have g11:o8 ao (bD ao n) 47 dk.tail≠.error b3:=fun q=>by rw [q] at aa;exact bX aa.symm
       refine ch (Jh I 47 dk.tail nD bB i10 n_ g11) ?_ ?_
       rotate_left
       . rintro x ox ⟨e,he,rfl,m,bk⟩;simp only [cg,bx,fY,l9,h6,De,kq,↓ag,ak,simprocAttr];exact ⟨e,by rw [he] at aa;rw [<-pg,<-aa];rfl,rfl,(og.trans m),bk⟩
       rintro x ox ⟨b,Xu,jl,i11,n5,rfl,fv,m11,lC⟩;rw [n5] at aa
       try simp only [bt] at aa
       have uK:=og.trans m11;have qx:Xu.length<dk.tail.length:=u0 (abW ao n 47 dk.tail) n5;have Ym:=MN O (m10.trans m11) (by have:=M2.next;omega);have Mf:=fv.one;obtain ⟨ut,zi,GO,mU,m12,ajB,Zv⟩:=VI Ym fv (ql O (m10.next)) (by have:=L2;have:=m10.next;omega) ((aqn iI m10.next)) (m11.next) (by omega);have Dy:=R.mod (m10.trans m11) (bN bW);have ac1:(ox.next=h.next)=False:=aqx (by have:=Dy.lt;omega);have AA:=jn.mod (m10.trans m11) (bN (by have:=cN.next;omega));have ac0:(ox.next=aX.next)=False:=aqx (by have:=AA.lt;omega);have wu:=C.k_ lC m12 (by have:=M2.next;omega);have HX:=vB uK m12 (by have:=M2.next;omega);have XN:=u5 Dy m12 (.inl (by have:=bA.lt;have:=m2.next;omega));have XM:=AA.mod ajB ap;have aoE:=fv.k_ m12 (aqh _);have h5:=mU.one;have sG:(l++[b]).length=l.length+1:=by simp<;>omega
       simp only [Mf.1,Mf.2.1,Mf.2.2,GO,ac1,ac0,fY,l9,h6,De,cx.1,cx.2.1,cx.2.2,h5.1,h5.2.1,h5.2.2,↓ag,ak,simprocAttr];exact ⟨⟨XN,XM,fun z=>(Zv _ z).elim ap (fun z=>by rw [dj] at z;have:=L2;have:=(aqn m10.next m11.next);omega),HX,((aqn iI (aqn m10.next (aqn m11.next m12.next)))),m,_,_,_,mU,by rw [sG];have:=fi gk;omega,wu,aa⟩,by rw [kX hU,kX wu];have:=fi gk;omega⟩
     | false=>
       simp only [gk,aqu,aqk,aqs,bt] at aa n_;rw [<-aa] at pg;clear aa bX;have aa:=pg;have bX:=Ca
       try simp only [bt] at aa
       have Yl:=MN O m10 (by have:=M2.next;omega);have OS:=jn.mod m10 (bN (by have:=cN.next;omega));have wk:=R.mod m10 (bN bW);obtain ⟨ox,Ae⟩:∃g,nD.set (aE aX.next) (.bz ([.int .i64 50,.int .i64 e2.length,.int .i64 (c2 ao ws),.str hi.text,cI]) 0 false)=g:=⟨_,rfl⟩;have AA:=OS.put ([.int .i64 50,.int .i64 e2.length,.int .i64 (c2 ao ws),.str hi.text,cI]);rw [Ae] at AA;have Pw:=wk.set (m:=aX.next) (by have:=bA.lt;have:=(aqn m2.next (aqn m3.next m4.next));omega) (.bz ([.int .i64 50,.int .i64 e2.length,.int .i64 (c2 ao ws),.str hi.text,cI]) 0 false);rw [Ae] at Pw;have lC:=C.box n_ (n:=aX.next) cN.next (.bz ([.int .i64 50,.int .i64 e2.length,.int .i64 (c2 ao ws),.str hi.text,cI]) 0 false)
       rw [Ae] at lC;have uK:=og.set (b:=aE aX.next) (fun o=>absurd o (dh cN.next)) (.bz ([.int .i64 50,.int .i64 e2.length,.int .i64 (c2 ao ws),.str hi.text,cI]) 0 false);rw [Ae] at uK;have pH:=ala Yl ap (.bz ([.int .i64 50,.int .i64 e2.length,.int .i64 (c2 ao ws),.str hi.text,cI]) 0 false) (by omega) 50 e2.length (c2 ao ws) (le_top (C.jy hi Ft));rw [Ae] at pH;have o:=pH.one;simp only [o.1,o.2.1,o.2.2,bx,vcs,dd,OS.g,Ae,AA.g,Pw.g,fY,l9,h6,De,cx.1,cx.2.1,cx.2.2,↓ag,ak,simprocAttr];exact ⟨_,_,_,_,aa.symm,rfl,(pH.box (by have:=m2.next;have:=bA.lt;omega) _).eA (by have:=M2.next;omega),uK.set (fun o=>absurd o (dh (aqh _))) _,C.box lC (aqh _) _⟩
 | false=>
   simp only [ea,aqu,aqk,aqs,bt] at aa cC;simp only [↓ag,ak,simprocAttr];refine cT (gQ cC FJ) ?_;rintro x aC ⟨rfl,m3,i3,dm⟩;have b':=M2.trans m3;cases ic:cl FJ ws with
   | true=>
     simp only [ic,aqu,aqk,aqs,bt] at aa dm;simp only [↓ag,ak,simprocAttr];have g4:o8 ao (bD ao n) 51 ws.tail≠.error b3:=fun q=>by rw [q] at aa;exact bX aa.symm
     refine ch (Jh I 51 ws.tail aC bB i3 dm g4) ?_ ?_
     rotate_left
     . rintro x aX ⟨e,he,rfl,m,bk⟩;simp only [cg,bx,↓ag,ak,simprocAttr];exact ⟨e,by rw [he] at aa;exact aa.symm,rfl,(b'.trans m),bk⟩
     rintro x aX ⟨c,fJ,hh,i4,eh,rfl,dZ,m4,cW⟩;rw [eh] at aa
     try simp only [bt] at aa
     have cN:=b'.trans m4;have x2:=dZ.one;obtain ⟨bF,cE,eY,jn⟩:=fw aX er (vcs c hh);have m5:Mod (cb aO) aX bF:=eY.mod _;have cr:=cN.trans m5;have cD:=cW.ext eY;have sM:=dZ.BG eY;obtain ⟨bR,dG⟩:∃g,bF.set (aE aX.next) (.bz [.int .i64 c.k,.int .i64 c.n,.int .i64 (c2 ao ws),.str c.s,hh] 0 false)=g:=⟨_,rfl⟩;have sH:=jn.put [.int .i64 c.k,.int .i64 c.n,.int .i64 (c2 ao ws),.str c.s,hh];rw [dG] at sH;have dq:=C.box cD (n:=aX.next) cN.next (.bz [.int .i64 c.k,.int .i64 c.n,.int .i64 (c2 ao ws),.str c.s,hh] 0 false)
     rw [dG] at dq;have c0:Mod (cb aO) h bR:=by rw [<-dG];exact cr.set (fun o=>absurd o (dh cN.next)) _
     have hs:=bA.mod (m2.trans (m3.trans (m4.trans m5))) (bN bW);have yK:=hs.set (m:=aX.next) (by have:=bA.lt;have:=(m2.trans (m3.trans m4)).next;omega) (.bz [.int .i64 c.k,.int .i64 c.n,.int .i64 (c2 ao ws),.str c.s,hh] 0 false);rw [dG] at yK;have m6:Mod (fun b=>b=aE aX.next) bF bR:=by rw [<-dG];exact (Mod.refl (fun b=>b=aE aX.next) _).set (fun _=>rfl) _
     have AL:=sM.set (b:=aE aX.next) (fun q=>q.2 rfl) (.bz [.int .i64 c.k,.int .i64 c.n,.int .i64 (c2 ao ws),.str c.s,hh] 0 false);rw [dG] at AL;have pH:ee (Fr aC.next) bR (.mk c.k c.n (c2 ao ws) c.s c.l) hh:=⟨AL.e6.fQ fun b q=>q.1,AL.str⟩;have o:=pH.one;simp only [o.1,o.2.1,o.2.2,bx,vcs,dd,x2.1,x2.2.1,x2.2.2,cE,jn.g,dG,sH.g,yK.g,↓ag,ak,simprocAttr];exact ⟨_,_,_,_,aa.symm,rfl,(pH.box (by have:=(aqn m2.next m3.next);have:=bA.lt;omega) _).eA (by have:=b'.next;omega),c0.set (fun o=>absurd o (dh (aqh _))) _,C.box dq (aqh _) _⟩
   | false=>
     simp only [ic,aqu,aqk,aqs,bt] at aa dm;simp only [↓ag,ak,simprocAttr];refine ch (ke dm vq) ?_ ?_
     rotate_left
     . rintro x aX ⟨e,he,rfl,m,bk⟩;simp only [cg,bx,↓ag,ak,simprocAttr];exact ⟨e,by rw [he] at aa;exact aa.symm,rfl,(b'.trans m),bk⟩
     rintro x aX ⟨fJ,eh,m4,i4,cW⟩;rw [eh] at aa
     try simp only [bt] at aa
     have cN:=b'.trans m4;simp only [↓ag,ak,simprocAttr];refine cT (gQ cW vs) ?_;rintro x bF ⟨rfl,m5,i5,cD⟩;have cr:=cN.trans m5;cases oF:cl vs fJ with
     | true=>
       simp only [oF,aqu,aqk,aqs,bt] at aa cD;simp only [↓ag,ak,simprocAttr];have g6:(bD ao n).binds 0 [] fJ.tail≠.error b3:=fun q=>by rw [q] at aa;exact bX aa.symm
       refine ch (I.binds 0 fJ.tail bF bB i5 cD g6) ?_ ?_
       rotate_left
       . rintro x bR ⟨e,he,rfl,m,bk⟩;simp only [cg,bx,↓ag,ak,simprocAttr];exact ⟨e,by rw [he] at aa;exact aa.symm,rfl,(cr.trans m),bk⟩
       rintro ul bR ⟨LR,kr,i6,eH,k9,Hv,m6,dq⟩;rw [eH] at aa
       try simp only [bt] at aa
       have c0:=cr.trans m6;have mL:=k9.one;have pH:=Gy k9 (aqn Hv (by decide)) 53 0 (c2 ao ws) (s:=[]) (aqZ _);have iM:=bA.mod (m2.trans (m3.trans (m4.trans (m5.trans m6)))) (bN bW);have o:=pH.one;simp only [o.1,o.2.1,o.2.2,bx,vcs,dd,iM.g,mL.1,mL.2.1,mL.2.2,↓ag,ak,simprocAttr];exact ⟨_,_,_,_,aa.symm,rfl,(pH.box (by have:=(aqn m2.next (aqn m3.next (aqn m4.next m5.next)));have:=bA.lt;omega) _).eA (by have:=cr.next;omega),c0.set (fun o=>absurd o (dh (aqh _))) _,C.box dq (aqh _) _⟩
     | false=>
       simp only [oF,aqu,aqk,aqs,bt] at aa cD;simp only [↓ag,ak,simprocAttr];have g6:(bD ao n).pat 0 fJ≠.error b3:=fun q=>by rw [q] at aa;exact bX aa.symm
       refine ch (I.pat 0 fJ bF bB i5 cD g6) ?_ ?_
       rotate_left
       . rintro x bR ⟨e,he,rfl,m,bk⟩;simp only [cg,bx,↓ag,ak,simprocAttr];exact ⟨e,by rw [he] at aa;exact aa.symm,rfl,(cr.trans m),bk⟩
       rintro x bR ⟨p,kr,Ds,i6,eH,rfl,oi,m6,dq⟩;rw [eH] at aa
       try simp only [bt] at aa
       have c0:=cr.trans m6;have x4:=oi.one;obtain ⟨cv,fX,e',yI⟩:=fw bR er (vcs p Ds);have m7:Mod (cb aO) bR cv:=e'.mod _;have ek:=c0.trans m7;have eV:=dq.ext e';simp only [x4.1,x4.2.1,x4.2.2,fX,↓ag,ak,simprocAttr];refine ch (ke eV ji) ?_ ?_
       rotate_left
       . rintro x fR ⟨e,he,rfl,m,bk⟩;simp only [cg,bx,↓ag,ak,simprocAttr];exact ⟨e,by rw [he] at aa;exact aa.symm,rfl,(ek.trans m),bk⟩
       rintro x fR ⟨wg,e5,m8,i8,gr⟩;rw [e5] at aa
       try simp only [bt] at aa
       have gC:=ek.trans m8;have sI:=yI.mod m8 (bN (by have:=c0.next;omega));simp only [sI.g,↓ag,ak,simprocAttr];have g9:(bD ao n).seq 0 wg≠.error b3:=fun q=>by rw [q] at aa;exact bX aa.symm
       refine ch (I.seq 0 wg fR bB i8 gr g9) ?_ ?_
       rotate_left
       . rintro x hZ ⟨e,he,rfl,m,bk⟩;simp only [cg,bx,sI.g,↓ag,ak,simprocAttr];exact ⟨rfl,e,by rw [he] at aa;exact aa.symm,rfl,(gC.trans m),bk⟩
       rintro x hZ ⟨b,Xv,jl,i9,ly,rfl,fv,m9,hU⟩;rw [ly] at aa
       try simp only [bt] at aa
       have jW:=gC.trans m9;have AB:=sI.mod m9 (bN (by have:=c0.next;omega));have A4:=oi.mod (m7.trans (m8.trans m9)) (by have:=cr.next;omega);have x0:=A4.one;have x1:=fv.one;obtain ⟨nD,Db,Bw,HU⟩:=LQ (F:=Fr bF.next) (h:=hZ) (size:=5) rfl rfl A4.cs (fv.eA (hS:=bF.next) (by have:=(aqn m6.next (aqn m7.next m8.next));omega)).cs (qT (m6.trans (m7.trans (m8.trans m9))).next);simp only [vcs,aqP,aq5] at Db;have m10:Mod (cb aO) hZ nD:=Bw.mod _;have og:=jW.trans m10;have n_:=hU.ext Bw;have dZ:=qo (l:=[p,b]) 52 0 (c2 ao ws) [] HU rfl (aqZ _);have wk:=bA.mod (m2.trans (m3.trans (m4.trans (m5.trans (m6.trans (m7.trans (m8.trans (m9.trans m10)))))))) (bN bW);have Hz:=AB.mod m10 (bN (by have:=c0.next;omega));have o:=dZ.one;simp only [o.1,o.2.1,o.2.2,bx,vcs,dd,x0.1,x0.2.1,x0.2.2,x1.1,x1.2.1,x1.2.2,Db,wk.g,Hz.g,sI.g,AB.g,↓ag,ak,simprocAttr];exact ⟨_,_,_,_,aa.symm,rfl,(dZ.box (by have:=(aqn m2.next (aqn m3.next (aqn m4.next m5.next)));have:=bA.lt;omega) _).eA (by have:=cr.next;omega),og.set (fun o=>absurd o (dh (aqh _))) _,C.box n_ (aqh _) _⟩
end
inductive o0 where
 | ty | ix | named | names | j6 | jz | pat | jO | hq | seq | cases | fn (a:Nat) | one | iD (k:Int) (a:Nat) | lt (a:Nat) | binds | pair | j9 | h8 | ih | lq | lr | pre | app | args | atom
 | ctor (k:Int) | params | mN | ctors | decl
def d' (s:List UInt8) (w:aK):Prop:=(w.kind=7\/w.kind=6)/\w.text=s
inductive bs:o0->List aR->List aK->List aR->List aK->Prop where
 | Oh {ws bc a}:bs .ix [] ws [a] bc->bs .ty [] ws [a] bc
 | Oi {ws bc br a b w}:bs .ix [] ws [a] (w::bc)->d' rq w->bs .ty [] bc [b] br->bs .ty [] ws [two 4 a b] br
 | MU {ws bc a}:bs .named [] ws [a] bc->bs .ix [] ws [a] bc
 | MV {ws bc br a b w}:bs .named [] ws [a] (w::bc)->d' qq w->bs .ix [] bc [b] br->bs .ix [] ws [two 3 a b] br
 | named {ws bc br a b}:bs .j6 [] ws [a] bc->bs .names [a] bc [b] br->bs .named [] ws [b] br
 | Gd {ws a}:bs .names [a] ws [a] ws
 | L7 {ws bc a b w}:w.kind=3->bs .names [.mk 2 0 a.a w.text [a]] ws [b] bc->bs .names [a] (w::ws) [b] bc
 | Om {ws w}:w.kind=5->bs .j6 [] (w::ws) [.mk 1 0 w.pos w.text []] ws
 | Ok {ws w}:w.kind=3->bs .j6 [] (w::ws) [.mk 2 0 w.pos w.text []] ws
 | Ol {ws bc br a w c}:d' jj w->bs .ty [] ws [a] bc->bs .jz [a] bc [a] (c::br)->d' kH c->bs .j6 [] (w::ws) [a] br
 | Oj {ws bc br a l w c v}:d' jj w->bs .ty [] ws [a] bc->bs .jz [a] bc l (c::v::br)->d' kH c->v.kind=3->bs .j6 [] (w::ws) [.mk 2 0 w.pos v.text l] br
 | Oo {ws l}:bs .jz l ws l ws
 | Oq {ws bc br l ed a w}:d' nw w->l.length≠64->bs .ty [] ws [a] bc->bs .jz (l++[a]) bc ed br->bs .jz l (w::ws) ed br
 | MP {ws bc a}:bs .jO [] ws [a] bc->bs .pat [] ws [a] bc
 | MQ {ws bc br a b w}:bs .jO [] ws [a] (w::bc)->d' nw w->bs .pat [] bc [b] br->bs .pat [] ws [two 15 a b] br
 | M8 {ws bc p w}:w.kind=4->bs .hq [] ws [p] bc->bs .jO [] (w::ws) [.mk 16 0 w.pos w.text [p]] bc
 | M7 {ws w}:w.kind=4->bs .jO [] (w::ws) [.mk 16 0 w.pos w.text []] ws
 | M' {ws bc p}:bs .hq [] ws [p] bc->bs .jO [] ws [p] bc
 | MY {ws w}:d' ua w->bs .hq [] (w::ws) [.mk 10 0 w.pos [] []] ws
 | Ns {ws w}:w.kind=3->bs .hq [] (w::ws) [.mk 11 0 w.pos w.text []] ws
 | M_ {ws w}:w.kind=4->bs .hq [] (w::ws) [.mk 16 0 w.pos w.text []] ws
 | Nf {ws w}:w.kind=1->bs .hq [] (w::ws) [.mk 12 w.num w.pos [] []] ws
 | Nd {ws w v}:d' kI w->v.kind=1->bs .hq [] (w::v::ws) [.mk 12 (xX v.num) w.pos [] []] ws
 | Nq {ws w}:d' lX w->bs .hq [] (w::ws) [.mk 14 1 w.pos [] []] ws
 | Nb {ws w}:d' lW w->bs .hq [] (w::ws) [.mk 14 0 w.pos [] []] ws
 | punit {ws w c}:d' jj w->d' kH c->bs .hq [] (w::c::ws) [.mk 13 0 w.pos [] []] ws
 | Nh {ws bc p w c}:d' jj w->bs .pat [] ws [p] (c::bc)->d' kH c->bs .hq [] (w::ws) [p] bc
 | seq1 {ws bc a}:bs .one [] ws [a] bc->bs .seq [] ws [a] bc
 | NR {ws bc br a b w}:bs .one [] ws [a] (w::bc)->d' G9 w->bs .seq [] bc [b] br->bs .seq [] ws [two 35 a b] br
 | IY {ws bc br l p b w}:bs .pat [] ws [p] (w::bc)->d' rq w->bs .seq [] bc [b] br->bs .cases l ws (l++[two 45 p b]) br
 | IZ {ws bc br dT l ed p b w v}:bs .pat [] ws [p] (w::bc)->d' rq w->bs .seq [] bc [b] (v::br)->d' nv v->bs .cases (l++[two 45 p b]) br ed dT->bs .cases l ws ed dT
 | fn {ws bc br p b w} {a:Nat}:bs .pat [] ws [p] (w::bc)->d' rq w->bs .seq [] bc [b] br->bs (.fn a) [] ws [.mk 27 0 a [] [p,b]] br
 | Mu {ws bc a w}:d' vq w->bs (.lt w.pos) [] ws [a] bc->bs .one [] (w::ws) [a] bc
 | Mn {ws bc a w}:d' vp w->bs (.fn w.pos) [] ws [a] bc->bs .one [] (w::ws) [a] bc
 | Mo {ws bc br dT a b c w t e}:d' FK w->bs .seq [] ws [a] (t::bc)->d' LD t->bs .one [] bc [b] (e::br)->d' LA e->bs .one [] br [c] dT->bs .one [] (w::ws) [.mk 31 0 w.pos [] [a,b,c]] dT
 | Mv {ws bc a w}:d' FL w->bs (.iD 32 w.pos) [] ws [a] bc->bs .one [] (w::ws) [a] bc
 | MJ {ws bc a w}:d' FO w->bs (.iD 33 w.pos) [] ws [a] bc->bs .one [] (w::ws) [a] bc
 | MA {ws bc a}:bs .pair [] ws [a] bc->bs .one [] ws [a] bc
 | oset {ws bc br a b w}:bs .pair [] ws [a] (w::bc)->d' G' w->bs .one [] bc [b] br->bs .one [] ws [two 37 a b] br
 | I1 {ws bc br a l w} {k:Int} {n:Nat}:bs .seq [] ws [a] (w::bc)->d' FQ w->bs .cases [] bc l br->bs (.iD k n) [] ws [.mk k 0 n [] (a::l)] br
 | I2 {ws bc br a l w v} {k:Int} {n:Nat}:bs .seq [] ws [a] (w::v::bc)->d' FQ w->d' nv v->bs .cases [] bc l br->bs (.iD k n) [] ws [.mk k 0 n [] (a::l)] br
 | gS {ws bc br l b w i} {n:Nat}:d' vs w->bs .binds [] ws l (i::bc)->d' zP i->bs .seq [] bc [b] br->bs (.lt n) [] (w::ws) [.mk 30 0 n [] (l++[b])] br
 | LS {ws bc br dT p a b e i} {n:Nat}:bs .pat [] ws [p] (e::bc)->d' ji e->bs .seq [] bc [a] (i::br)->d' zP i->bs .seq [] br [b] dT->bs (.lt n) [] ws [.mk 29 0 n [] [p,a,b]] dT
 | IH {ws bc l b w e f}:w.kind=3->d' ji e->d' vp f->bs (.fn f.pos) [] ws [b] bc->bs .binds l (w::e::f::ws) (l++[.mk 46 0 w.pos w.text [b]]) bc
 | II {ws bc br l ed b w e f v}:w.kind=3->d' ji e->d' vp f->bs (.fn f.pos) [] ws [b] (v::bc)->d' FI v->bs .binds (l++[.mk 46 0 w.pos w.text [b]]) bc ed br->bs .binds l (w::e::f::ws) ed br
 | MR {ws bc a}:bs .j9 [] ws [a] bc->bs .pair [] ws [a] bc
 | MS {ws bc br a b w}:bs .j9 [] ws [a] (w::bc)->d' nw w->bs .pair [] bc [b] br->bs .pair [] ws [two 26 a b] br
 | I6 {ws bc a}:bs .h8 [] ws [a] bc->bs .j9 [] ws [a] bc
 | I7 {ws bc br a b w s}:bs .h8 [] ws [a] (w::bc)->d' s w->s ∈ [ji,vU,vT]->bs .h8 [] bc [b] br->bs .j9 [] ws [pv s a b] br
 | h8 {ws bc br a b}:bs .ih [] ws [a] bc->bs .lq [a] bc [b] br->bs .h8 [] ws [b] br
 | MC {ws a}:bs .lq [a] ws [a] ws
 | MD {ws bc br a b c w s}:d' s w->s ∈ [vV,kI]->bs .ih [] ws [b] bc->bs .lq [pv s a b] bc [c] br->bs .lq [a] (w::ws) [c] br
 | ih {ws bc br a b}:bs .pre [] ws [a] bc->bs .lr [a] bc [b] br->bs .ih [] ws [b] br
 | ME {ws a}:bs .lr [a] ws [a] ws
 | MF {ws bc br a b c w s}:d' s w->s ∈ [qq,vW,vr]->bs .pre [] ws [b] bc->bs .lr [pv s a b] bc [c] br->bs .lr [a] (w::ws) [c] br
 | neg {ws bc a w}:d' kI w->bs .pre [] ws [a] bc->bs .pre [] (w::ws) [.mk 39 0 w.pos [] [a]] bc
 | get {ws bc a w}:d' G8 w->bs .pre [] ws [a] bc->bs .pre [] (w::ws) [.mk 36 0 w.pos [] [a]] bc
 | Ni {ws bc a}:bs .app [] ws [a] bc->bs .pre [] ws [a] bc
 | raise {ws bc a w}:d' FN w->bs .atom [] ws [a] bc->bs .app [] (w::ws) [.mk 34 0 w.pos [] [a]] bc
 | I_ {ws bc a w}:w.kind=4->bs .atom [] ws [a] bc->bs .app [] (w::ws) [.mk 25 0 w.pos w.text [a]] bc
 | I' {ws w}:w.kind=4->bs .app [] (w::ws) [.mk 25 0 w.pos w.text []] ws
 | app {ws bc br a b}:bs .atom [] ws [a] bc->bs .args [a] bc [b] br->bs .app [] ws [b] br
 | Iq {ws a}:bs .args [a] ws [a] ws
 | Ir {ws bc br a b c}:bs .atom [] ws [b] bc->bs .args [two 28 a b] bc [c] br->bs .args [a] ws [c] br
 | Ih {ws w}:w.kind=1->bs .atom [] (w::ws) [.mk 20 w.num w.pos [] []] ws
 | IA {ws w}:w.kind=2->bs .atom [] (w::ws) [.mk 21 0 w.pos w.text []] ws
 | IE {ws w}:w.kind=3->bs .atom [] (w::ws) [.mk 24 0 w.pos w.text []] ws
 | Ib {ws w}:w.kind=4->bs .atom [] (w::ws) [.mk 25 0 w.pos w.text []] ws
 | IB {ws w}:d' lX w->bs .atom [] (w::ws) [.mk 23 1 w.pos [] []] ws
 | Ic {ws w}:d' lW w->bs .atom [] (w::ws) [.mk 23 0 w.pos [] []] ws
 | Ia {ws bc a w e}:d' tH w->bs .seq [] ws [a] (e::bc)->d' LB e->bs .atom [] (w::ws) [a] bc
 | IC {ws w c}:d' jj w->d' kH c->bs .atom [] (w::c::ws) [.mk 22 0 w.pos [] []] ws
 | Ii {ws bc a w c}:d' jj w->bs .seq [] ws [a] (c::bc)->d' kH c->bs .atom [] (w::ws) [a] bc
 | Jd {ws w} {k:Int}:w.kind=4->bs (.ctor k) [] (w::ws) [.mk k 0 w.pos w.text []] ws
 | Je {ws bc t w o} {k:Int}:w.kind=4->d' FM o->bs .ty [] ws [t] bc->bs (.ctor k) [] (w::o::ws) [.mk k 0 w.pos w.text [t]] bc
 | MZ {ws}:bs .params [] ws [] ws
 | M0 {ws w}:w.kind=5->bs .params [] (w::ws) [n' w] ws
 | M4 {ws bc l o w c}:d' jj o->w.kind=5->bs .mN [n' w] ws l (c::bc)->d' kH c->bs .params [] (o::w::ws) l bc
 | M1 {ws l}:bs .mN l ws l ws
 | M3 {ws bc l ed w v}:d' nw w->l.length≠64->v.kind=5->bs .mN (l++[n' v]) ws ed bc->bs .mN l (w::v::ws) ed bc
 | Ji {ws l}:bs .ctors l ws l ws
 | Jj {ws bc br l ed c w}:d' nv w->bs (.ctor 47) [] ws [c] bc->bs .ctors (l++[c]) bc ed br->bs .ctors l (w::ws) ed br
 | Ju {ws bc br dT l m c w n e}:d' FP w->bs .params [] ws l (n::e::bc)->n.kind=3->d' ji e->bs (.ctor 47) [] bc [c] br->bs .ctors (l++[c]) br m dT->bs .decl [] (w::ws) [.mk 50 l.length w.pos n.text m] dT
 | El {ws bc c w}:d' FJ w->bs (.ctor 51) [] ws [c] bc->bs .decl [] (w::ws) [.mk c.k c.n w.pos c.s c.l] bc
 | Js {ws bc l w r}:d' vq w->d' vs r->bs .binds [] ws l bc->bs .decl [] (w::r::ws) [.mk 53 0 w.pos [] l] bc
 | Jn {ws bc br p b w e}:d' vq w->bs .pat [] ws [p] (e::bc)->d' ji e->bs .seq [] bc [b] br->bs .decl [] (w::ws) [.mk 52 0 w.pos [] [p,b]] br
section
variable {α β:Type} {ao:Nat} {ws bw:List aK}
theorem c7 {r:cP α} {f:α->cP β} {y:β} (h:(r >>= f)=.ok y):∃x,r=.ok x/\f x=.ok y:=by
 cases r with
 | error e=>cases h
 | ok x=>exact ⟨x,rfl,h⟩
theorem oN {r:cP α} {f:α->β} {y:β} (h:r.map f=.ok y):∃x,r=.ok x/\f x=y:=by
 cases r with
 | error e=>cases h
 | ok x=>cases h;exact ⟨x,rfl,rfl⟩
theorem kd {s:List UInt8} (h:hQ ao s ws=.ok bw):∃w,ws=w::bw/\d' s w:=by
 unfold hQ at h
 split at h
 . rename_i q;cases ws with
   | nil=>cases q
   | cons w r=>cases h;simp only [cl,aqi,aro,aqy] at q;exact ⟨w,rfl,q⟩
 . cases h
theorem lA {k:Int} {w:aK} (h:hr ao k ws=.ok (w,bw)):ws=w::bw/\w.kind=k:=by
 cases ws with
 | nil=>cases h
 | cons v r=>
   simp only [hr] at h
   split at h
   . cases h;exact ⟨rfl,by assumption⟩
   . cases h
theorem gK {s:List UInt8} (q:cl s ws=true):∃w r,ws=w::r/\d' s w:=by
 cases ws with
 | nil=>cases q
 | cons w r=>simp only [cl,aqi,aro,aqy] at q;exact ⟨w,r,rfl,q⟩
theorem SC {l:List aR} (h:pU ao l ws=.ok ()):l.length≠64:=by
 unfold pU at h
 split at h
 . cases h
 . assumption
theorem Et {d:Nat} {r:cP (aR × List aK)} {y:aR × List aK} (h:m_ ao d ws r=.ok y):r=.ok y:=by
 unfold m_ at h
 split at h
 . cases h
 . exact h
theorem akO {s:List UInt8} (h:ss ws=some s):cl s ws=true/\s ∈ [ji,vU,vT]:=by
 unfold ss at h
 repeat' split at h
 all_goals (cases h;try exact ⟨by assumption,by simp⟩)
theorem akR {s:List UInt8} (h:su ws=some s):cl s ws=true/\s ∈ [vV,kI]:=by
 unfold su at h
 repeat' split at h
 all_goals (cases h;try exact ⟨by assumption,by simp⟩)
theorem akT {s:List UInt8} (h:sv ws=some s):cl s ws=true/\s ∈ [qq,vW,vr]:=by
 unfold sv at h
 repeat' split at h
 all_goals (cases h;try exact ⟨by assumption,by simp⟩)
end
theorem W8 {ao:Nat}:∀(n:Nat) {d:Nat} {l ed:List aR} {ws bw:List aK},(bD ao n).jz d l ws=.ok (ed,bw)->∃t,ed=l++t
 | 0,_,_,_,_,_,h=>by cases h
 | n+1,d,l,ed,ws,bw,h=>by
   replace h:uq ao (bD ao n) d l ws=_:=h;unfold uq at h
   split at h
   . replace h:=c7 h;obtain ⟨_,_,h⟩:=h;replace h:=c7 h;obtain ⟨⟨a,bc⟩,_,h⟩:=h;obtain ⟨t,e⟩:=W8 n h;exact ⟨a::t,by rw [e];simp⟩
   . cases h;exact ⟨[],by simp⟩
theorem U9:∀(a:aR) (ws:List aK),bs .names [a] ws [(nY a ws).1] (nY a ws).2
 | a,[]=>.Gd
 | a,w::ws=>by
   simp only [nY]
   split
   . rename_i h;exact .L7 h (U9 _ ws)
   . exact .Gd
structure XX (T:rO):Prop where
 ty:∀{d ws p bw},T.ty d ws=.ok (p,bw)->bs .ty [] ws [p] bw
 ix:∀{d ws p bw},T.ix d ws=.ok (p,bw)->bs .ix [] ws [p] bw
 named:∀{d ws p bw},T.named d ws=.ok (p,bw)->bs .named [] ws [p] bw
 j6:∀{d ws p bw},T.j6 d ws=.ok (p,bw)->bs .j6 [] ws [p] bw
 jz:∀{d l ws p bw},T.jz d l ws=.ok (p,bw)->bs .jz l ws p bw
 pat:∀{d ws p bw},T.pat d ws=.ok (p,bw)->bs .pat [] ws [p] bw
 jO:∀{d ws p bw},T.jO d ws=.ok (p,bw)->bs .jO [] ws [p] bw
 hq:∀{d ws p bw},T.hq d ws=.ok (p,bw)->bs .hq [] ws [p] bw
 seq:∀{d ws p bw},T.seq d ws=.ok (p,bw)->bs .seq [] ws [p] bw
 cases:∀{d l ws p bw},T.cases d l ws=.ok (p,bw)->bs .cases l ws p bw
 fn:∀{d a ws p bw},T.fn d a ws=.ok (p,bw)->bs (.fn a) [] ws [p] bw
 one:∀{d ws p bw},T.one d ws=.ok (p,bw)->bs .one [] ws [p] bw
 iD:∀{d k a ws p bw},T.iD d k a ws=.ok (p,bw)->bs (.iD k a) [] ws [p] bw
 lt:∀{d a ws p bw},T.lt d a ws=.ok (p,bw)->bs (.lt a) [] ws [p] bw
 binds:∀{d l ws p bw},T.binds d l ws=.ok (p,bw)->bs .binds l ws p bw
 pair:∀{d ws p bw},T.pair d ws=.ok (p,bw)->bs .pair [] ws [p] bw
 j9:∀{d ws p bw},T.j9 d ws=.ok (p,bw)->bs .j9 [] ws [p] bw
 h8:∀{d ws p bw},T.h8 d ws=.ok (p,bw)->bs .h8 [] ws [p] bw
 ih:∀{d ws p bw},T.ih d ws=.ok (p,bw)->bs .ih [] ws [p] bw
 lq:∀{d a ws p bw},T.lq d a ws=.ok (p,bw)->bs .lq [a] ws [p] bw
 lr:∀{d a ws p bw},T.lr d a ws=.ok (p,bw)->bs .lr [a] ws [p] bw
 pre:∀{d ws p bw},T.pre d ws=.ok (p,bw)->bs .pre [] ws [p] bw
 app:∀{d ws p bw},T.app d ws=.ok (p,bw)->bs .app [] ws [p] bw
 args:∀{d a ws p bw},T.args d a ws=.ok (p,bw)->bs .args [a] ws [p] bw
 atom:∀{d ws p bw},T.atom d ws=.ok (p,bw)->bs .atom [] ws [p] bw
theorem JY (ao:Nat):∀n,XX (bD ao n)
 | 0=>by constructor<;>(intros;rename_i h;cases h)
 | n+1=>by
   have I:=JY ao n;constructor
   case ty=>
    intro d ws p bw h;replace h:=c7 (Et h);obtain ⟨⟨a,bc⟩,U,h⟩:=h
    try dsimp only at h
    split at h
    . rename_i az;replace az:=gK az;obtain ⟨w,r,rfl,az⟩:=az;replace h:=c7 h;obtain ⟨⟨b,br⟩,ad,h⟩:=h;cases h;exact .Oi (I.ix U) az (I.ty ad)
    . cases h;exact .Oh (I.ix U)
   case ix=>
    intro d ws p bw h;replace h:=c7 h;obtain ⟨⟨a,bc⟩,U,h⟩:=h
    try dsimp only at h
    split at h
    . rename_i az;replace az:=gK az;obtain ⟨w,r,rfl,az⟩:=az;replace h:=c7 h;obtain ⟨⟨b,br⟩,ad,h⟩:=h;cases h;exact .MV (I.named U) az (I.ix ad)
    . cases h;exact .MU (I.named U)
   case named=>
    intro d ws p bw h;replace h:=c7 h;obtain ⟨⟨a,bc⟩,U,h⟩:=h;have ab:=U9 a bc
    try dsimp only at h
    cases aL:nY a bc with
    | mk x y=>
      rw [aL] at h ab;cases h;exact .named (I.j6 U) ab
   case j6=>
    intro d ws p bw h;replace h:yy ao (bD ao n) d ws=_:=h;unfold yy at h
    split at h
    . replace h:=oN h;obtain ⟨⟨w,r⟩,U,h⟩:=h;have aV:=lA U;obtain ⟨rfl,ar⟩:=aV;cases h;exact .Om ar
    split at h
    . replace h:=oN h;obtain ⟨⟨w,r⟩,U,h⟩:=h;have aV:=lA U;obtain ⟨rfl,ar⟩:=aV;cases h;exact .Ok ar
    try dsimp only at h
    replace h:=c7 h;obtain ⟨bc,U,h⟩:=h;have aV:=kd U;obtain ⟨w,rfl,az⟩:=aV;replace h:=c7 h;obtain ⟨⟨a,br⟩,ad,h⟩:=h;replace h:=c7 h;obtain ⟨⟨l,dT⟩,aC,h⟩:=h;replace h:=c7 h;obtain ⟨fJ,aX,h⟩:=h;have aV:=kd aX;obtain ⟨c,e,aq⟩:=aV
    try dsimp only at e
    try dsimp only at h
    subst e
    split at h
    . cases h;obtain ⟨t,rfl⟩:=W8 n aC;have e:t=[]:=by rename_i q;simpa using q
      subst e;exact .Ol az (I.ty ad) (I.jz aC) aq
    . replace h:=c7 h;obtain ⟨⟨v,gY⟩,bF,h⟩:=h;have aV:=lA bF;obtain ⟨rfl,ar⟩:=aV;cases h;exact .Oj az (I.ty ad) (I.jz aC) aq ar
   case jz=>
    intro d l ws p bw h;replace h:uq ao (bD ao n) d l ws=_:=h;unfold uq at h
    split at h
    . rename_i az;replace az:=gK az;obtain ⟨w,r,rfl,az⟩:=az;replace h:=c7 h;obtain ⟨_,U,h⟩:=h;replace h:=c7 h;obtain ⟨⟨a,bc⟩,ad,h⟩:=h;exact .Oq az (SC U) (I.ty ad) (I.jz h)
    . cases h;exact .Oo
   case pat=>
    intro d ws p bw h;replace h:=c7 (Et h);obtain ⟨⟨a,bc⟩,U,h⟩:=h
    try dsimp only at h
    split at h
    . rename_i az;replace az:=gK az;obtain ⟨w,r,rfl,az⟩:=az;replace h:=c7 h;obtain ⟨⟨b,br⟩,ad,h⟩:=h;cases h;exact .MQ (I.jO U) az (I.pat ad)
    . cases h;exact .MP (I.jO U)
   case jO=>
    intro d ws p bw h;replace h:ye ao (bD ao n) d ws=_:=h;unfold ye at h
    split at h
    . replace h:=c7 h;obtain ⟨⟨w,r⟩,U,h⟩:=h;have aV:=lA U;obtain ⟨rfl,ar⟩:=aV
      try dsimp only at h
      split at h
      . replace h:=c7 h;obtain ⟨⟨b,br⟩,ad,h⟩:=h;cases h;exact .M8 ar (I.hq ad)
      . cases h;exact .M7 ar
    . exact .M' (I.hq h)
   case hq=>
    intro d ws p bw h;replace h:yf ao (bD ao n) d ws=_:=h;unfold yf at h
    try dsimp only at h
    split at h
    . rename_i az;replace az:=gK az;obtain ⟨w,r,rfl,az⟩:=az;cases h;exact .MY az
    split at h
    . replace h:=oN h;obtain ⟨⟨w,r⟩,U,h⟩:=h;have aV:=lA U;obtain ⟨rfl,ar⟩:=aV;cases h;exact .Ns ar
    split at h
    . replace h:=oN h;obtain ⟨⟨w,r⟩,U,h⟩:=h;have aV:=lA U;obtain ⟨rfl,ar⟩:=aV;cases h;exact .M_ ar
    split at h
    . replace h:=oN h;obtain ⟨⟨w,r⟩,U,h⟩:=h;have aV:=lA U;obtain ⟨rfl,ar⟩:=aV;cases h;exact .Nf ar
    split at h
    . rename_i az;replace az:=gK az;obtain ⟨w,r,rfl,az⟩:=az;replace h:=oN h;obtain ⟨⟨v,r⟩,U,h⟩:=h;have aV:=lA U;obtain ⟨e,ar⟩:=aV
      try dsimp only [List.tail] at e
      subst e;cases h;exact .Nd az ar
    split at h
    . rename_i az;replace az:=gK az;obtain ⟨w,r,rfl,az⟩:=az;cases h;exact .Nq az
    split at h
    . rename_i az;replace az:=gK az;obtain ⟨w,r,rfl,az⟩:=az;cases h;exact .Nb az
    replace h:=c7 h;obtain ⟨bc,U,h⟩:=h;have aV:=kd U;obtain ⟨w,rfl,az⟩:=aV
    split at h
    . rename_i aq;replace aq:=gK aq;obtain ⟨c,r,rfl,aq⟩:=aq;cases h;exact .punit az aq
    . replace h:=c7 h;obtain ⟨⟨b,br⟩,ad,h⟩:=h;replace h:=c7 h;obtain ⟨dT,aC,h⟩:=h;have aV:=kd aC;obtain ⟨c,e,aq⟩:=aV
      try dsimp only at e
      subst e;cases h;exact .Nh az (I.pat ad) aq
   case seq=>
    intro d ws p bw h;replace h:=c7 (Et h);obtain ⟨⟨a,bc⟩,U,h⟩:=h
    try dsimp only at h
    split at h
    . rename_i az;replace az:=gK az;obtain ⟨w,r,rfl,az⟩:=az;replace h:=c7 h;obtain ⟨⟨b,br⟩,ad,h⟩:=h;cases h;exact .NR (I.one U) az (I.seq ad)
    . cases h;exact .seq1 (I.one U)
   case cases=>
    intro d l ws p bw h;replace h:=c7 h;obtain ⟨⟨a,bc⟩,U,h⟩:=h;replace h:=c7 h;obtain ⟨br,ad,h⟩:=h;have aV:=kd ad;obtain ⟨w,e,hw⟩:=aV
    try dsimp only at e
    subst e;replace h:=c7 h;obtain ⟨⟨b,dT⟩,aC,h⟩:=h
    try dsimp only at h
    split at h
    . rename_i az;replace az:=gK az;obtain ⟨v,r,rfl,az⟩:=az;exact .IZ (I.pat U) hw (I.seq aC) az (I.cases h)
    . cases h;exact .IY (I.pat U) hw (I.seq aC)
   case fn=>
    intro d a0 ws p bw h;replace h:=c7 h;obtain ⟨⟨a,bc⟩,U,h⟩:=h;replace h:=c7 h;obtain ⟨br,ad,h⟩:=h;have aV:=kd ad;obtain ⟨w,e,hw⟩:=aV
    try dsimp only at e
    subst e;replace h:=c7 h;obtain ⟨⟨b,dT⟩,aC,h⟩:=h;cases h;exact .fn (I.pat U) hw (I.seq aC)
   case one=>
    intro d ws p bw h;replace h:x9 ao (bD ao n) d ws=_:=h;unfold x9 at h
    try dsimp only at h
    split at h
    . rename_i az;replace az:=gK az;obtain ⟨w,r,rfl,az⟩:=az;exact .Mu az (I.lt h)
    split at h
    . rename_i az;replace az:=gK az;obtain ⟨w,r,rfl,az⟩:=az;exact .Mn az (I.fn h)
    split at h
    . rename_i az;replace az:=gK az;obtain ⟨w,r,rfl,az⟩:=az;replace h:=c7 h;obtain ⟨⟨a,bc⟩,U,h⟩:=h;replace h:=c7 h;obtain ⟨br,ad,h⟩:=h;have aV:=kd ad;obtain ⟨t,e,aB⟩:=aV
      try dsimp only at e
      subst e;replace h:=c7 h;obtain ⟨⟨b,dT⟩,aC,h⟩:=h;replace h:=c7 h;obtain ⟨fJ,aX,h⟩:=h;have aV:=kd aX;obtain ⟨l,e,aD⟩:=aV
      try dsimp only at e
      subst e;replace h:=c7 h;obtain ⟨⟨c,gY⟩,bF,h⟩:=h;cases h;exact .Mo az (I.seq U) aB (I.one aC) aD (I.one bF)
    split at h
    . rename_i az;replace az:=gK az;obtain ⟨w,r,rfl,az⟩:=az;exact .Mv az (I.iD h)
    split at h
    . rename_i az;replace az:=gK az;obtain ⟨w,r,rfl,az⟩:=az;exact .MJ az (I.iD h)
    replace h:=c7 h;obtain ⟨⟨a,bc⟩,U,h⟩:=h
    try dsimp only at h
    split at h
    . rename_i az;replace az:=gK az;obtain ⟨w,r,rfl,az⟩:=az;replace h:=c7 h;obtain ⟨⟨b,br⟩,ad,h⟩:=h;cases h;exact .oset (I.pair U) az (I.one ad)
    . cases h;exact .MA (I.pair U)
   case iD=>
    intro d k a0 ws p bw h;replace h:=c7 h;obtain ⟨⟨a,bc⟩,U,h⟩:=h;replace h:=c7 h;obtain ⟨br,ad,h⟩:=h;have aV:=kd ad;obtain ⟨w,e,hw⟩:=aV
    try dsimp only at e
    subst e;replace h:=c7 h;obtain ⟨⟨l,dT⟩,aC,h⟩:=h;cases h
    split at aC
    . rename_i az;replace az:=gK az;obtain ⟨v,r,rfl,az⟩:=az;exact .I2 (I.seq U) hw az (I.cases aC)
    . exact .I1 (I.seq U) hw (I.cases aC)
   case lt=>
    intro d a0 ws p bw h;replace h:xT ao (bD ao n) d a0 ws=_:=h;unfold xT at h
    split at h
    . rename_i az;replace az:=gK az;obtain ⟨w,r,rfl,az⟩:=az;replace h:=c7 h;obtain ⟨⟨l,bc⟩,U,h⟩:=h;replace h:=c7 h;obtain ⟨br,ad,h⟩:=h;have aV:=kd ad;obtain ⟨t,e,aB⟩:=aV
      try dsimp only at e
      subst e;replace h:=c7 h;obtain ⟨⟨b,dT⟩,aC,h⟩:=h;cases h;exact .gS az (I.binds U) aB (I.seq aC)
    . replace h:=c7 h;obtain ⟨⟨a,bc⟩,U,h⟩:=h;replace h:=c7 h;obtain ⟨br,ad,h⟩:=h;have aV:=kd ad;obtain ⟨t,e,aB⟩:=aV
      try dsimp only at e
      subst e;replace h:=c7 h;obtain ⟨⟨b,dT⟩,aC,h⟩:=h;replace h:=c7 h;obtain ⟨fJ,aX,h⟩:=h;have aV:=kd aX;obtain ⟨l,e,aD⟩:=aV
      try dsimp only at e
      subst e;replace h:=c7 h;obtain ⟨⟨c,gY⟩,bF,h⟩:=h;cases h;exact .LS (I.pat U) aB (I.seq aC) aD (I.seq bF)
   case binds=>
    intro d l ws p bw h;replace h:=c7 h;obtain ⟨⟨w,bc⟩,U,h⟩:=h;have aV:=lA U;obtain ⟨rfl,ar⟩:=aV;replace h:=c7 h;obtain ⟨br,ad,h⟩:=h;have aV:=kd ad;obtain ⟨e,aM,he⟩:=aV
    try dsimp only at aM
    subst aM;replace h:=c7 h;obtain ⟨dT,aC,h⟩:=h;have aV:=kd aC;obtain ⟨f,aM,aA⟩:=aV;subst aM;replace h:=c7 h;obtain ⟨⟨b,fJ⟩,aX,h⟩:=h
    try dsimp only at h
    split at h
    . rename_i az;replace az:=gK az;obtain ⟨v,r,rfl,az⟩:=az;exact .II ar he aA (I.fn aX) az (I.binds h)
    . cases h;exact .IH ar he aA (I.fn aX)
   case pair=>
    intro d ws p bw h;replace h:=c7 h;obtain ⟨⟨a,bc⟩,U,h⟩:=h
    try dsimp only at h
    split at h
    . rename_i az;replace az:=gK az;obtain ⟨w,r,rfl,az⟩:=az;replace h:=c7 h;obtain ⟨⟨b,br⟩,ad,h⟩:=h;cases h;exact .MS (I.j9 U) az (I.pair ad)
    . cases h;exact .MR (I.j9 U)
   case j9=>
    intro d ws p bw h;replace h:=c7 h;obtain ⟨⟨a,bc⟩,U,h⟩:=h
    try dsimp only at h
    split at h
    . rename_i s az;replace az:=akO az;obtain ⟨az,hm⟩:=az;replace az:=gK az;obtain ⟨w,r,rfl,az⟩:=az;replace h:=c7 h;obtain ⟨⟨b,br⟩,ad,h⟩:=h;cases h;exact .I7 (I.h8 U) az hm (I.h8 ad)
    . cases h;exact .I6 (I.h8 U)
   case h8=>
    intro d ws p bw h;replace h:=c7 h;obtain ⟨⟨a,bc⟩,U,h⟩:=h;exact .h8 (I.ih U) (I.lq h)
   case ih=>
    intro d ws p bw h;replace h:=c7 h;obtain ⟨⟨a,bc⟩,U,h⟩:=h;exact .ih (I.pre U) (I.lr h)
   case lq=>
    intro d a ws p bw h;replace h:x_ (bD ao n) d a ws=_:=h;unfold x_ at h
    split at h
    . rename_i s az;replace az:=akR az;obtain ⟨az,hm⟩:=az;replace az:=gK az;obtain ⟨w,r,rfl,az⟩:=az;replace h:=c7 h;obtain ⟨⟨b,br⟩,ad,h⟩:=h;exact .MD az hm (I.ih ad) (I.lq h)
    . cases h;exact .MC
   case lr=>
    intro d a ws p bw h;replace h:ya (bD ao n) d a ws=_:=h;unfold ya at h
    split at h
    . rename_i s az;replace az:=akT az;obtain ⟨az,hm⟩:=az;replace az:=gK az;obtain ⟨w,r,rfl,az⟩:=az;replace h:=c7 h;obtain ⟨⟨b,br⟩,ad,h⟩:=h;exact .MF az hm (I.pre ad) (I.lr h)
    . cases h;exact .ME
   case pre=>
    intro d ws p bw h;replace h:=Et h
    try dsimp only at h
    split at h
    . rename_i az;replace az:=gK az;obtain ⟨w,r,rfl,az⟩:=az;replace h:=oN h;obtain ⟨⟨a,bc⟩,U,h⟩:=h;cases h;exact .neg az (I.pre U)
    split at h
    . rename_i az;replace az:=gK az;obtain ⟨w,r,rfl,az⟩:=az;replace h:=oN h;obtain ⟨⟨a,bc⟩,U,h⟩:=h;cases h;exact .get az (I.pre U)
    exact .Ni (I.app h)
   case app=>
    intro d ws p bw h;replace h:uP ao (bD ao n) d ws=_:=h;unfold uP at h
    try dsimp only at h
    split at h
    . rename_i az;replace az:=gK az;obtain ⟨w,r,rfl,az⟩:=az;replace h:=oN h;obtain ⟨⟨a,bc⟩,U,h⟩:=h;cases h;exact .raise az (I.atom U)
    split at h
    . replace h:=c7 h;obtain ⟨⟨w,r⟩,U,h⟩:=h;have aV:=lA U;obtain ⟨rfl,ar⟩:=aV
      try dsimp only at h
      split at h
      . replace h:=c7 h;obtain ⟨⟨b,br⟩,ad,h⟩:=h;cases h;exact .I_ ar (I.atom ad)
      . cases h;exact .I' ar
    replace h:=c7 h;obtain ⟨⟨a,bc⟩,U,h⟩:=h;exact .app (I.atom U) (I.args h)
   case args=>
    intro d a ws p bw h;replace h:wM (bD ao n) d a ws=_:=h;unfold wM at h
    split at h
    . replace h:=c7 h;obtain ⟨⟨b,br⟩,ad,h⟩:=h;exact .Ir (I.atom ad) (I.args h)
    . cases h;exact .Iq
   case atom=>
    intro d ws p bw h;replace h:wP ao (bD ao n) d ws=_:=h;unfold wP at h
    try dsimp only at h
    split at h
    . replace h:=oN h;obtain ⟨⟨w,r⟩,U,h⟩:=h;have aV:=lA U;obtain ⟨rfl,ar⟩:=aV;cases h;exact .Ih ar
    split at h
    . replace h:=oN h;obtain ⟨⟨w,r⟩,U,h⟩:=h;have aV:=lA U;obtain ⟨rfl,ar⟩:=aV;cases h;exact .IA ar
    split at h
    . replace h:=oN h;obtain ⟨⟨w,r⟩,U,h⟩:=h;have aV:=lA U;obtain ⟨rfl,ar⟩:=aV;cases h;exact .IE ar
    split at h
    . replace h:=oN h;obtain ⟨⟨w,r⟩,U,h⟩:=h;have aV:=lA U;obtain ⟨rfl,ar⟩:=aV;cases h;exact .Ib ar
    split at h
    . rename_i az;replace az:=gK az;obtain ⟨w,r,rfl,az⟩:=az;cases h;exact .IB az
    split at h
    . rename_i az;replace az:=gK az;obtain ⟨w,r,rfl,az⟩:=az;cases h;exact .Ic az
    split at h
    . rename_i az;replace az:=gK az;obtain ⟨w,r,rfl,az⟩:=az;replace h:=c7 h;obtain ⟨⟨a,bc⟩,U,h⟩:=h;replace h:=c7 h;obtain ⟨br,ad,h⟩:=h;have aV:=kd ad;obtain ⟨t,e,aB⟩:=aV
      try dsimp only at e
      subst e;cases h;exact .Ia az (I.seq U) aB
    replace h:=c7 h;obtain ⟨bc,U,h⟩:=h;have aV:=kd U;obtain ⟨w,rfl,az⟩:=aV
    split at h
    . rename_i aq;replace aq:=gK aq;obtain ⟨c,r,rfl,aq⟩:=aq;cases h;exact .IC az aq
    . replace h:=c7 h;obtain ⟨⟨b,br⟩,ad,h⟩:=h;replace h:=c7 h;obtain ⟨dT,aC,h⟩:=h;have aV:=kd aC;obtain ⟨c,e,aq⟩:=aV
      try dsimp only at e
      subst e;cases h;exact .Ii az (I.seq ad) aq
section
variable {ao n:Nat} {ws bw:List aK} {p:aR} {l ed:List aR}
theorem Jg {k:Int} (h:o8 ao (bD ao n) k ws=.ok (p,bw)):bs (.ctor k) [] ws [p] bw:=by
 have I:=JY ao n;unfold o8 at h;replace h:=c7 h;obtain ⟨⟨w,bc⟩,U,h⟩:=h;have aV:=lA U;obtain ⟨rfl,ar⟩:=aV
 try dsimp only at h
 split at h
 . rename_i az;replace az:=gK az;obtain ⟨v,r,rfl,az⟩:=az;replace h:=c7 h;obtain ⟨⟨b,br⟩,ad,h⟩:=h;cases h;exact .Je ar az (I.ty ad)
 . cases h;exact .Jd ar
theorem VK:∀(m:Nat) {l ed:List aR} {ws bw:List aK},mN ao m l ws=.ok (ed,bw)->bs .mN l ws ed bw
 | 0,_,_,_,_,h=>by cases h
 | m+1,l,ed,ws,bw,h=>by
   simp only [mN] at h
   split at h
   . rename_i az;replace az:=gK az;obtain ⟨v,r,rfl,az⟩:=az;replace h:=c7 h;obtain ⟨_,U,h⟩:=h;replace h:=c7 h;obtain ⟨⟨w,bc⟩,ad,h⟩:=h;have aV:=lA ad;obtain ⟨e,ar⟩:=aV
     try dsimp only [List.tail] at e
     subst e;exact .M3 az (SC U) ar (VK m h)
   . cases h;exact .M1
theorem alp {m:Nat} (h:tS ao m ws=.ok (l,bw)):bs .params [] ws l bw:=by
 unfold tS at h
 split at h
 . replace h:=oN h;obtain ⟨⟨w,r⟩,U,h⟩:=h;have aV:=lA U;obtain ⟨rfl,ar⟩:=aV;cases h;exact .M0 ar
 split at h
 . rename_i az;replace az:=gK az;obtain ⟨v,r,rfl,az⟩:=az;replace h:=c7 h;obtain ⟨⟨w,bc⟩,U,h⟩:=h;have aV:=lA U;obtain ⟨e,ar⟩:=aV
   try dsimp only [List.tail] at e
   subst e;replace h:=c7 h;obtain ⟨⟨cV,br⟩,ad,h⟩:=h;replace h:=c7 h;obtain ⟨dT,aC,h⟩:=h;have aV:=kd aC;obtain ⟨c,e,aq⟩:=aV
   try dsimp only at e
   subst e;cases h;exact .M4 az ar (VK m ad) aq
 . cases h;exact .MZ
theorem RX:∀(m:Nat) {l ed:List aR} {ws bw:List aK},tb ao (bD ao n) m l ws=.ok (ed,bw)->bs .ctors l ws ed bw
 | 0,_,_,_,_,h=>by cases h
 | m+1,l,ed,ws,bw,h=>by
   simp only [tb] at h
   split at h
   . rename_i az;replace az:=gK az;obtain ⟨v,r,rfl,az⟩:=az;replace h:=c7 h;obtain ⟨⟨c,bc⟩,ad,h⟩:=h;exact .Jj az (Jg ad) (RX m h)
   . cases h;exact .Ji
theorem R1 {m:Nat} (h:tc ao (bD ao n) m ws=.ok (p,bw)):bs .decl [] ws [p] bw:=by
 have I:=JY ao n;unfold tc at h
 try dsimp only at h
 split at h
 . rename_i az;replace az:=gK az;obtain ⟨w,r,rfl,az⟩:=az;replace h:=c7 h;obtain ⟨⟨l,bc⟩,U,h⟩:=h;replace h:=c7 h;obtain ⟨⟨v,br⟩,ad,h⟩:=h;have aV:=lA ad;obtain ⟨e,ar⟩:=aV
   try dsimp only at e
   subst e;replace h:=c7 h;obtain ⟨dT,aC,h⟩:=h;have aV:=kd aC;obtain ⟨c,e,aq⟩:=aV
   try dsimp only at e
   subst e;replace h:=c7 h;obtain ⟨⟨t,fJ⟩,aX,h⟩:=h;replace h:=c7 h;obtain ⟨⟨q,gY⟩,bF,h⟩:=h;cases h;exact .Ju az (alp U) ar aq (Jg aX) (RX m bF)
 split at h
 . rename_i az;replace az:=gK az;obtain ⟨w,r,rfl,az⟩:=az;replace h:=c7 h;obtain ⟨⟨t,fJ⟩,aX,h⟩:=h;cases h;exact .El az (Jg aX)
 replace h:=c7 h;obtain ⟨bc,U,h⟩:=h;have aV:=kd U;obtain ⟨w,rfl,az⟩:=aV
 split at h
 . rename_i ic;replace ic:=gK ic;obtain ⟨v,r,rfl,ic⟩:=ic;replace h:=c7 h;obtain ⟨⟨l,br⟩,ad,h⟩:=h;cases h;exact .Js az ic (I.binds ad)
 . replace h:=c7 h;obtain ⟨⟨a,br⟩,ad,h⟩:=h;replace h:=c7 h;obtain ⟨dT,aC,h⟩:=h;have aV:=kd aC;obtain ⟨c,e,aq⟩:=aV
   try dsimp only at e
   subst e;replace h:=c7 h;obtain ⟨⟨b,fJ⟩,aX,h⟩:=h;cases h;exact .Jn az (I.pat ad) aq (I.seq aX)
end
theorem r3 {au:o0} {acc l:List aR} {ws bw:List aK} (h:bs au acc ws l bw):fP l+l.length+2 * bw.length<=2 * ws.length+fP acc+acc.length:=by
 have app:∀a b:List aR,fP (a++b)=fP a+fP b:=fun a b=>by
  induction a with
  | nil=>simp [fP]
  | cons x a aT=>rw [aqP,fP,fP,aT];omega
 have amL:∀t:aR,t.size=fP t.l+1:=fun t=>by cases t;simp only [aR.size,aR.l];omega
 induction h
 case El ws bc c w ar aq aT=>
  have:=amL c;simp only [fP,aR.size,aqp,aqB] at *;omega
 all_goals (simp only [fP,aR.size,two,pv,n',app,aqC,aqp,aqB] at *;omega)
theorem ace (t:aR):t.deep=l5 t.l+1:=by cases t;simp only [aR.deep,aR.l]
theorem size_eq (t:aR):t.size=1+fP t.l:=by cases t;simp only [aR.size,aR.l]
theorem VL:∀l m:List aR,l5 (l++m)=max (l5 l) (l5 m)
 | [],m=>by simp [l5]
 | t::l,m=>by rw [aqP,l5,l5,VL l m,Nat.max_assoc]
theorem Nn:∀l m:List aR,fP (l++m)=fP l+fP m
 | [],m=>by simp [fP]
 | t::l,m=>by rw [aqP,fP,fP,Nn l m,arl]
theorem take_one {l:List aR} {i:Nat} (h:i<l.length):l.take (i+1)=l.take i++[l[i]]:=by rw [List.take_succ_eq_append_getElem h]
theorem alH {l:List aR} {i:Nat} (h:i<l.length):l5 (l.take (i+1))=max (l5 (l.take i)) l[i].deep:=by rw [take_one h,VL,l5,l5,Nat.max_zero]
mutual
theorem acf:∀t:aR,t.deep<=t.size
 | .mk k n a s l=>by rw [aR.deep,aR.size];have:=Na l;omega
theorem Na:∀l:List aR,l5 l<=fP l
 | []=>aqh _
 | t::l=>by rw [l5,fP];have:=acf t;have:=Na l;omega
end
theorem alT (l:List aR) (i:Nat):fP (l.take i)<=fP l:=by have:=Nn (l.take i) (l.drop i);rw [arS] at this;omega
theorem ajw (a b:Nat):(if (a:Int) < (b:Int) then (b:Int) else (a:Int))=((max a b:Nat):Int):=by
 by_cases h:(a:Int) < (b:Int)
 . rw [aqw h,Nat.max_eq_right (by omega)]
 . rw [aqr h,Nat.max_eq_left (by omega)]
theorem Jk:∀(N:Nat) (t:aR),t.size<=N->N<=1000000000->∀(af:List V) (h:ae),dX Any h t.enc af->e9 Tryz.prog 40 [.agg af] h fun x ab=>x=.int .i64 (t.deep:Nat)/\Ext h ab
 | 0,t,az,_,_,_,_=>by have:=GL t;omega
 | N+1,t,az,aei,af,h,H=>by
   obtain ⟨bB,rfl,L,_⟩:=aR.open H;have bO:N<=1000000000:=by omega
   have ol:=L.one;have aD:=L.len;have hle:=L.le;rw [aqJ] at aD hle;refine aaG.z rfl (dw ?_);unfold Q9;obtain ⟨U,an,aM,bA⟩:=gd h [.int .i64 t.k,.int .i64 t.n,.int .i64 t.a,.str t.s,bB];simp only [ol.1,ol.2.1,an,bA.g,aD,↓ag,ak,simprocAttr];refine iV (fun r g=>r 1=.ptr (aE h.next) 0/\r 7=bB/\r 8=.int .i64 t.l.length/\∃i:Nat,r 3=.int .i64 (l5 (t.l.take i):Nat)/\r 9=.int .i64 i/\i<=t.l.length/\Ext U g) (fun r g=>t.l.length - (r 9).toN) ?_ ?_
   . exact ⟨by simp only [↓ag,dv,simprocAttr],by simp only [↓ag,dv,simprocAttr],by simp only [↓ag,dv,simprocAttr],0,by simp only [↓ag,dv,simprocAttr]<;>rfl,by simp only [↓ag,dv,simprocAttr]<;>rfl,by omega,Ext.refl U⟩
   rintro r g ⟨ca,eM,e5,i,b6,NL,aG,E⟩;unfold Q';have A:=bA.ext E;have nA:=L.ext (aM.trans E);have mz:=alT t.l i;have qY:=Na (t.l.take i);have ao_:=size_eq t;by_cases a':i<t.l.length
   . have g0:((i:Int) < (t.l.length:Int))=True:=aqO (by omega);obtain ⟨b,off,wl,fy,X,s3,ld⟩:=aR.FU nA (k:=.i64) a';have vu:=ld g (Ext.refl g);have l2:=s3.one;have jA:=rA a' (by unfold top at hle;omega);have cX:=No (t:=t) (aq1 a');obtain ⟨g1,e8,bY,B⟩:=fw g [.int .i64 0,.int .i64 0,.int .i64 0,.str [],.cn] [.int .i64 t.l[i].k,.int .i64 t.l[i].n,.int .i64 t.l[i].a,.str t.l[i].s,wl];simp only [ca,b6,eM,e5,NL,g0,fy,vu,e8,B.g,l2.1,l2.2.1,↓ag,ak,simprocAttr];refine cT (Jk N t.l[i] (by omega) bO _ g1 (X.ext bY)) ?_;rintro x g2 ⟨rfl,bh⟩;have cu:=bY.trans bh;have hm:=ajw (l5 (t.l.take i)) t.l[i].deep;rw [<-alH a'] at hm;simp only [ca,b6,eM,e5,NL,jA,U7,hm,↓ag,ak,simprocAttr];exact ⟨⟨i+1,rfl,rfl,a',E.trans cu⟩,by omega⟩
   . have g0:((i:Int) < (t.l.length:Int))=False:=aqx (by omega);rw [arY (by omega)] at b6 qY mz;have wd:IntKind.i64.wrap ((l5 t.l:Int)+1)=((t.deep:Nat):Int):=by rw [ace,wrap_i64 (by omega) (by omega)];rfl
     simp only [ca,b6,eM,e5,NL,g0,wd,↓ag,ak,simprocAttr];exact aM.trans E
end
end Go.Proofs.YtahfljfikfkpnaaGreatDoor
