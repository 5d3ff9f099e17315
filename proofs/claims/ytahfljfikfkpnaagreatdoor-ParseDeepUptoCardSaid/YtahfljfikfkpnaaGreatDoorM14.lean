/- The chapter's functions, walked by the abstract machine: plain lemmas, no condition. Printed by a program from longer texts: names made short. -/
import Derived.Test.YtahfljfikfkpnaaGreatDoorM12
import Derived.Test.YtahfljfikfkpnaaGreatDoorM13
import Derived.Test.YtahfljfikfkpnaaGreatDoorM7
set_option linter.unusedSectionVars false
set_option linter.unusedSimpArgs false
set_option linter.unusedVariables false
set_option maxHeartbeats 64000000
noncomputable section
namespace Go.Proofs.YtahfljfikfkpnaaGreatDoor
section
open Go ba
section
variable {W:List aq} {af ak:Nat} {h ae:ah} {d:Nat} {ws:List aq} {aC:V} {i:Nat}
theorem S_ (s:List UInt8) (eF:List (List UInt8)) (ws:List aq):rR (s::eF) ws=(bm s ws||rR eF ws):=rfl
theorem S' (C:ed W af ak h d ws aC i) (eF:List (List UInt8)) {dc:V} (L:hi h 1 dc eF.length (eF.map V.str)) (adJ:eF.length<=1000):e5 Tryz.prog 148 [.ptr (ao ak) 0,dc] h (.bool (rR eF ws)) h:=by
 refine je (Xf.z rfl (cm ?_));unfold M6;simp only [L.len,↓aa,ab,simprocAttr];refine gb (fun r g=>g=h/\r 0=.ptr (ao ak) 0/\r 7=dc/\r 8=.int .i64 eF.length/\∃j:Nat,r 9=.int .i64 j/\j<=eF.length/\rR eF ws=rR (eF.drop j) ws) (fun r g=>eF.length - (r 9).toN) ?_ ?_
 . exact ⟨rfl,by simp only [↓aa,cM,simprocAttr],by simp only [↓aa,cM,simprocAttr],by simp only [↓aa,cM,simprocAttr],0,by simp only [↓aa,cM,simprocAttr]<;>rfl,aoQ _,rfl⟩
 rintro r g ⟨rfl,aW,fg,gm,j,mb,cW,al⟩;by_cases a7:j<eF.length
 . have g0:((j:Int) < (eF.length:Int))=True:=aoU (by omega);obtain ⟨b,off,an,av⟩:=L.l5 (k:=.i64) a7;have aB:=av.kJ (i:=j * 1) (by simp;omega);rw [aqc] at aB;have kS:=uF a7 (by omega);have bs:eF.drop j=eF[j]::eF.drop (j+1):=apa a7;have aO:eF[j * 1]'(by omega)=eF[j]:=by congr 1;omega
   simp only [aW,fg,gm,mb,g0,an,aB,aO,↓aa,ab,simprocAttr];refine bQ (S1 C eF[j]) ?_;cases bZ:bm eF[j] ws with
   | true=>
     simp only [↓aa,ab,simprocAttr];rw [al,bs,S_,bZ,Bool.true_or]
   | false=>
     simp only [aW,fg,gm,mb,kS,↓aa,ab,simprocAttr];refine ⟨⟨j+1,rfl,a7,?_⟩,by omega⟩;rw [al,bs,S_,bZ,Bool.false_or]
 . have g0:((j:Int) < (eF.length:Int))=False:=aoV (by omega);have bs:eF.drop j=[]:=ao_ (by omega);rw [bs] at al;simp only [aW,fg,gm,mb,g0,↓aa,ab,simprocAttr];exact al.symm
theorem Mh (C:ed W af ak h d ws aC i):dY Tryz.prog 232 [.ptr (ao ak) 0] h fun x ae=>x=.bool (n0 ws)/\Ext h ae:=by
 refine XQ.z rfl (cm ?_);unfold Ny;obtain ⟨ad,an,aO,L,_⟩:=xy h 1 4 [.str hr,.str pa,.str ic,.str i'] rfl (by unfold top;omega);have cz:=C.ext aO;simp only [hr,pa,ic,i'] at an;simp only [an,↓aa,ab,simprocAttr];refine bQ (S' cz [hr,pa,ic,i'] L (by simp)) ?_;cases aM:rR [hr,pa,ic,i'] ws with
 | true=>
   simp only [↓aa,ab,simprocAttr];exact ⟨by simp [n0,aM],aO⟩
 | false=>
   simp only [↓aa,ab,simprocAttr];refine bQ (j' cz 1) ?_;cases c8:cS 1 ws with
   | true=>
     simp only [↓aa,ab,simprocAttr];exact ⟨by simp [n0,aM,c8],aO⟩
   | false=>
     simp only [↓aa,ab,simprocAttr];refine bQ (j' cz 2) ?_;cases dJ:cS 2 ws with
     | true=>
       simp only [↓aa,ab,simprocAttr];exact ⟨by simp [n0,aM,c8,dJ],aO⟩
     | false=>
       simp only [↓aa,ab,simprocAttr];refine bQ (j' cz 3) ?_;cases gU:cS 3 ws with
       | true=>
         simp only [↓aa,ab,simprocAttr];exact ⟨by simp [n0,aM,c8,dJ,gU],aO⟩
       | false=>
         simp only [↓aa,ab,simprocAttr];refine bQ (j' cz 4) ?_;simp only [↓aa,ab,simprocAttr];exact ⟨by simp [n0,aM,c8,dJ,gU],aO⟩
def nj:Nat->List (List UInt8)
 | 0=>[h3,qS,qR]
 | 1=>[rO,hZ]
 | 2=>[nV,qT,qz]
 | _=>[]
def oY (eF:List (List UInt8)) (ws:List aq):Option (List UInt8):=eF.find? fun s=>bm s ws
theorem aa_ (ws:List aq):oY (nj 0) ws=nO ws:=by unfold oY nj nO;cases ad:bm h3 ws<;>cases ag:bm qS ws<;>cases ar:bm qR ws<;>simp [List.find?,ad,ag,ar]
theorem aba (ws:List aq):oY (nj 1) ws=nP ws:=by unfold oY nj nP;cases ad:bm rO ws<;>cases ag:bm hZ ws<;>simp [List.find?,ad,ag]
theorem abb (ws:List aq):oY (nj 2) ws=nQ ws:=by unfold oY nj nQ;cases ad:bm nV ws<;>cases ag:bm qT ws<;>cases ar:bm qz ws<;>simp [List.find?,ad,ag,ar]
theorem ag' (h:ah):vy none h=.val (.map (ao h.next)) (h.new (.mp [] 0)):=rfl
theorem Ah {h ae:ah} {v:V} {n:Nat} {aj:List V} {b:aN} (L:hi h 1 v n aj) (m:Mod (fun p=>p=b) h ae) (ai:¬v.bp b):hi ae 1 v n aj:=hi.mod m L fun p q e=>ai (by rw [<-show p=b from e];exact q)
theorem agK (h:ah) {k:Nat} (aD:k<=2):dY Tryz.prog 224 [] h fun x ae=>Ext h ae/\∃dc,rG oV .cL false ae x (.int .i64 k)=some dc/\hi ae 1 dc (nj k).length ((nj k).map V.str)/\∀b,dc.bp b->h.next<=dP b:=by
 refine XJ.z rfl (cm ?_);unfold Ns;have cw:=q4.new (α:=V) id h;have aO:Ext h (h.new (.mp [] 0)):=(Ext.refl h).new _;generalize an:h.new (.mp [] 0)=ad at cw aO;obtain ⟨ag,av,bs,mN,_,c2⟩:=xy ad 1 3 ((nj 0).map V.str) rfl (by unfold top;omega);obtain ⟨ar,aB,ct,m3,n3⟩:=(cw.ext bs).uC 0 (.slice (ao ad.next) 0 3 3);obtain ⟨aT,bt,cO,qc,_,oP⟩:=xy ar 1 2 ((nj 1).map V.str) rfl (by unfold top;omega);obtain ⟨bE,ca,cR,m5,CA⟩:=(ct.ext cO).uC 1 (.slice (ao ar.next) 0 2 2);obtain ⟨bA,cx,e3,uQ,_,tc⟩:=xy bE 1 3 ((nj 2).map V.str) rfl (by unfold top;omega);obtain ⟨cl,dq,ew,m7,n7⟩:=(cR.ext e3).uC 2 (.slice (ao bE.next) 0 3 3);simp only [nj,List.map,h3,qS,qR,rO,hZ,nV,qT,qz] at av bt cx;have dr:=aO.next;have fo:=bs.next;have uJ:=cO.next;have aop:=e3.next
 have iN:=cw.cu;unfold Old at iN;rw [dh] at iN;have dI:∀(m n c:Nat),h.next<m->¬(V.slice (ao m) 0 n c).bp (ao h.next):=fun m n c aG q=>by
  have e:ao h.next=ao m:=q
  rw [lJ] at e;omega
 have e1:=dI ad.next 3 3 (by omega)
 have y3:=dI ar.next 2 2 (by omega)
 have amL:=dI bE.next 3 3 (by omega)
 have K3:∀{h ae:ah} {v:V} {n:Nat} {aj:List V},hi h 1 v n aj->Ext h ae->hi ae 1 v n aj:=fun L e=>hi.mod (e.mod (fun _=>False)) L (fun _ _ q=>q);have UG:=Ah (K3 (Ah (K3 (Ah mN m3 e1) cO) m5 e1) e3) m7 e1;have UJ:=Ah (K3 (Ah qc m5 y3) e3) m7 y3;have UL:=Ah uQ m7 amL;have amC:Ext h cl:=by have cN:=aO.trans bs;have a2:=cN.kL m3 (fun b q=>by rw [show b=ao h.next from q,dh];omega);have a3:=(a2.trans cO).kL m5 (fun b q=>by rw [show b=ao h.next from q,dh];omega);exact (a3.trans e3).kL m7 (fun b q=>by rw [show b=ao h.next from q,dh];omega)
 simp only [id_eq] at aB ca dq;simp only [ag',an,av,aB,bt,ca,cx,dq,qb.eq,↓aa,ab,simprocAttr];refine ⟨amC,?_⟩
 match k,aD with
 | 0,_=>exact ⟨_,(ew.look 0 .cL false).trans rfl,UG,fun b q=>by rw [c2 b q,dh];omega⟩
 | 1,_=>exact ⟨_,(ew.look 1 .cL false).trans rfl,UJ,fun b q=>by rw [oP b q,dh];omega⟩
 | 2,_=>exact ⟨_,(ew.look 2 .cL false).trans rfl,UL,fun b q=>by rw [tc b q,dh];omega⟩
theorem abc (s:List UInt8) (eF:List (List UInt8)) (ws:List aq):oY (s::eF) ws=if bm s ws then some s else oY eF ws:=by unfold oY;rw [List.find?_cons];cases bm s ws<;>rfl
theorem J6 (C:ed W af ak h d ws aC i) {k:Nat} (aD:k<=2):dY Tryz.prog 208 [.ptr (ao ak) 0,.int .i64 k] h fun x ae=>x=.tuple [.str ((oY (nj k) ws).getD []),.bool (oY (nj k) ws).isSome]/\Mod (b3 ak) h ae/\∃fV,ed W af ak ae d (if (oY (nj k) ws).isSome then ws.tail else ws) aC fV:=by
 refine XC.z rfl (cm ?_);unfold c208;simp only [↓aa,ab,simprocAttr];refine aY (agK h aD) ?_;rintro x ad ⟨aO,dc,an,L,tD⟩;have cz:=C.ext aO;have EA:(nj k).length<=3:=by
  match k,aD with
  | 0,_=>decide
  | 1,_=>decide
  | 2,_=>decide
 generalize adJ:nj k=eF at L EA;simp only [qb.eq,an,L.len,↓aa,ab,simprocAttr];refine gb (fun r g=>r 0=.ptr (ao ak) 0/\r 10=dc/\r 11=.int .i64 eF.length/\Mod (b3 ak) ad g/\(∃fV,ed W af ak g d ws aC fV)/\∃j:Nat,r 12=.int .i64 j/\j<=eF.length/\oY eF ws=oY (eF.drop j) ws) (fun r g=>eF.length - (r 12).toN) ?_ ?_
 . exact ⟨by simp only [↓aa,cM,simprocAttr],by simp only [↓aa,cM,simprocAttr],by simp only [↓aa,cM,simprocAttr],Mod.refl _ _,⟨_,cz⟩,0,by simp only [↓aa,cM,simprocAttr]<;>rfl,aoQ _,rfl⟩
 rintro r g ⟨aW,sK,vL,m,⟨fV,gG⟩,j,Kz,cW,al⟩;by_cases a7:j<eF.length
 . have g0:((j:Int) < (eF.length:Int))=True:=aoU (by omega);have Jc:∀b,dc.bp b->¬b3 ak b:=fun b q z=>by
    have:=tD b q;rw [show b=ao ak from z,dh] at this;have:=C.at_.lt;omega
   have UN:hi g 1 dc eF.length (eF.map V.str):=hi.mod m L Jc;obtain ⟨b,off,an,av⟩:=UN.l5 (k:=.i64) a7;have aB:=av.kJ (i:=j * 1) (by simp;omega);rw [aqc] at aB;have kS:=uF a7 (by omega);have bs:eF.drop j=eF[j]::eF.drop (j+1):=apa a7;have aaw:eF[j * 1]'(by omega)=eF[j]:=by congr 1;omega
   simp only [aW,sK,vL,Kz,g0,an,aB,aaw,↓aa,ab,simprocAttr];refine aY (ho gG eF[j]) ?_;rintro x g1 ⟨rfl,m1,i2,bx⟩;rw [al,bs,abc];cases bZ:bm eF[j] ws with
   | true=>
     rw [bZ] at bx;simp only [↓aa,ab,simprocAttr];exact ⟨(aO.mod _).trans (m.trans m1),i2,bx⟩
   | false=>
     rw [bZ] at bx;simp only [aW,sK,vL,Kz,kS,↓aa,ab,simprocAttr];exact ⟨⟨m.trans m1,⟨i2,bx⟩,j+1,rfl,a7,rfl⟩,by omega⟩
 . have g0:((j:Int) < (eF.length:Int))=False:=aoV (by omega);have bs:eF.drop j=[]:=ao_ (by omega);rw [bs] at al;simp only [aW,sK,vL,Kz,g0,↓aa,ab,simprocAttr];rw [al];exact ⟨rfl,(aO.mod _).trans m,fV,gG⟩
end
section
variable {α β:Type}
theorem Wx (x:α) (f:α->bJ β):(Except.ok x >>= f)=f x:=rfl
theorem Ww (e:Int × Nat) (f:α->bJ β):((Except.error e:bJ α) >>= f)=.error e:=rfl
theorem Wy (x:α):(pure x:bJ α)=.ok x:=rfl
theorem ag3 (x:α) (f:α->β):(Except.ok x:bJ α).map f=.ok (f x):=rfl
theorem ag2 (e:Int × Nat) (f:α->β):(Except.error e:bJ α).map f=.error e:=rfl
set_option linter.defProp false in
def bB:=And.intro @Wx<|And.intro @Ww<|And.intro @Wy<|And.intro @ag3 @ag2
end
theorem jj {xs:List V} {s:V}:wE (.func 104 []) xs s=some (.tuple (.func 104 (xs++[])::s.list)):=OO (show Nat.beq 104 eA=false by decide)
theorem bU {ak n:Nat} (h:ak<n):¬b3 ak (ao n):=fun z=>by have Dg:ao n=ao ak:=z;rw [lJ] at Dg;omega
theorem ahb {M V:aN->Prop} {aM h ae:ah} (a:Mod M aM h) (m:Mod V h ae) (Em:∀b,V b->aM.next<=dP b):Mod M aM ae:=
 ⟨aoF a.next m.next,fun b ai q=>(m.get b (a.cu ai) fun z=>by have:=Em b z;unfold Old at ai;omega).trans (a.get b ai q)⟩
theorem rf {B n:Nat} (h:B<=n):Fr B (ao n):=by show B<=dP (ao n);rw [dh];exact h
theorem JD {F:aN->Prop} {h:ah} {size:Nat} {d1 d2 d3:List D} {cf c6 c3:List V} (c0:cf.length=size) (z2:c6.length=size) (z3:c3.length=size) (H1:ev F h d1 cf) (eY:ev F h d2 c6) (Gq:ev F h d3 c3) (hF:F (ao h.next)):∃g,h.new (.bd (cf++(c6++c3)) 0 false)=g/\Ext h g/\e_ F g size [d1,d2,d3] (.slice (ao h.next) 0 3 3):=by
 have:=JC (F:=F) (h:=h) (size:=size) [d1,d2,d3] [cf,c6,c3] rfl (fun c q=>by
  simp only [ao7,List.not_mem_nil,or_false] at q;rcases q with rfl | rfl | rfl
  . exact c0
  . exact z2
  . exact z3) (fun i e u a b=>by
  match i with
  | 0=>simp only [aoR,aoC] at a b;subst a b;exact H1
  | 1=>simp only [apq,aoR,aoC] at a b;subst a b;exact eY
  | 2=>simp only [apq,aoR,aoC] at a b;subst a b;exact Gq
  | i+3=>simp at a) hF (by show _<=top;unfold top;simp)
 simpa using this
theorem oy {F:aN->Prop} {h:ah} {v:V} {l:List aP} {es:List (List D)} (k n a:Int) (s:List UInt8) (L:e_ F h 5 es v) (he:es=l.map aP.enc) (al:s.length<=top):dt F h (.mk k n a s l) v:=⟨by subst he;exact L,al⟩
theorem le_top {s:List UInt8} (h:s.length<=100000):s.length<=top:=by unfold top;omega
section
variable {B:Nat} {G F:aN->Prop} {h ae:ah} {size:Nat} {es mm:List (List D)} {v w:V}
theorem Ps {F:aN->Prop}:∀(us:List (List V)) (es:List (List D)),us.length=es.length->(∀(i:Nat) (e:List D) (u:List V),es[i]? =some e->us[i]? =some u->ev F h e u)->gV us.flatten=true
 | [],_,_,_=>rfl
 | u::us,[],h,_=>by simp at h
 | u::us,e::es,aG,H=>by
   have ad:=(H 0 e u rfl rfl).gV;have ag:=Ps us es (by simpa using aG) fun i e u a b=>H (i+1) e u (by simpa using a) (by simpa using b);have app:∀a b:List V,gV a=true->gV b=true->gV (a++b)=true:=by
    intro a
    induction a with
    | nil=>intro b _ q;exact q
    | cons x a cc=>
      intro b an av;simp only [gV,aoE,aoW] at an ⊢;exact ⟨an.1,cc b an.2 av⟩
   rw [apI];exact app _ _ ad ag
theorem aiJ (H:dB B G h size es v) (L:e_ F h size mm w) (hF:∀b,F b->G b/\¬v.bp b) (dH:1<=size) (cd:B<=h.next) (hlen:(es.length+mm.length) * size<=top):
 ∃ea ae,kj size v w h=.val ea ae/\dB B G ae size (es++mm) ea/\Mod v.bp h ae/\∀b,ea.bp b->v.bp b\/h.next<=dP b:=by
 obtain ⟨us,a,b,c,d⟩:=H.ex;obtain ⟨TH,a2,c2,c6,d2⟩:=L.ex;obtain ⟨ea,ae,an,av,aB,bt⟩:=Md dH a a2 cd hlen (Ps TH mm c2 d2)
 have hX:∀b,(G b/\¬v.bp b)->Old h b->¬v.bp b/\(G b/\¬ea.bp b):=fun b q o=>⟨q.2,q.1,fun z=>by
  rcases bt b z with z | z
  . exact q.2 z
  . unfold Old at o;omega⟩
 refine ⟨ea,ae,an,⟨us++TH,?_,by simp [b,c2],?_,?_⟩,aB,bt⟩
 . rw [aoL,aqe];exact av
 . intro u hu;rcases List.mem_append.1 hu with hu | hu
   . exact c u hu
   . exact c6 u hu
 . intro i e u aO bs;by_cases aJ:i<es.length
   . rw [apb aJ] at aO;rw [apb (by omega)] at bs;exact (d i e u aO bs).mod aB hX
   . rw [apf (by omega)] at aO;rw [apf (by omega),b] at bs;exact (d2 _ e u aO bs).mod aB fun b q o=>hX b (hF b q) o
theorem aiN {ds:List D} {cs:List V} (bN:cs.length=size) (H:ev F h ds cs):∃g,h.new (.bd cs 0 false)=g/\Ext h g/\dB h.next (fun b=>F b/\Old h b) g size [ds] (.slice (ao h.next) 0 1 1):=by
 obtain ⟨g,an,av,aB⟩:=Rj h size 1 cs (by omega) (by unfold top;omega);refine ⟨g,an,av,⟨[cs],by simpa using aB,rfl,fun u hu=>by rw [apz] at hu;subst hu;exact bN,fun i e u a b=>?_⟩⟩;cases i with
 | zero=>
   simp only [aoR,aoC] at a b;subst a b;refine (H.cu.ext av).eU fun b q=>⟨q,fun z=>?_⟩;exact dj (aoz _) (by rw [<-show b=ao h.next from z];exact q.2)
 | succ i=>simp at a
theorem hq {ak Gj:Nat} (O:dB B (Fr Gj) h size es v) (m:Mod (b3 ak) h ae) (ad:ak<B) (ag:ak<Gj):dB B (Fr Gj) ae size es v:=
 O.mod m (fun b q z=>by have:=O.base q;rw [show b=ao ak from z,dh] at this;omega) fun b q _ _ z=>by unfold Fr at q;rw [show b=ao ak from z,dh] at q;omega
theorem ed.own {W:List aq} {af ak d dF i fV:Nat} {ws bS:List aq} {aC:V} {H ki:ah} {M:aN->Prop} (c:ed W af ak h d ws aC i) (eV:ed W af ak H dF bS aC fV) (m:Mod M H ki) (fC:∀b,M b->h.next<=dP b):ed W af ak ki dF bS aC fV:=
 ⟨eV.at_.mod m fun z=>by have:=fC _ z;rw [dh] at this;have:=c.at_.lt;omega,eV.c'.mod m fun b q z=>by have:=fC _ z;have:=c.c'.cu q;unfold Old at this;omega,eV.ap,eV.le,eV.eq,eV.nC,eV.wF,eV.fh,eV.num⟩
end
theorem ij (s k:Bool):V.bif s (.bool true) (V.opt (!s) (.bool k))=.bool (s||k):=by cases s<;>rfl
theorem RS {ws:List aq} {s:List UInt8} (h:nO ws=some s):s.length<=top:=by
 unfold nO at h
 repeat' split at h
 all_goals first
  | (cases h;exact le_top (by decide))
  | cases h
theorem RT {ws:List aq} {s:List UInt8} (h:nP ws=some s):s.length<=top:=by
 unfold nP at h
 repeat' split at h
 all_goals first
  | (cases h;exact le_top (by decide))
  | cases h
theorem RV {ws:List aq} {s:List UInt8} (h:nQ ws=some s):s.length<=top:=by
 unfold nQ at h
 repeat' split at h
 all_goals first
  | (cases h;exact le_top (by decide))
  | cases h
def gD (W:List aq) (af ak f:Nat) (args:List V) (d:Nat) (ws:List aq) (res:bJ (aP × List aq)):Prop:=
 ∀(h:ah) (aC:V) (i:Nat),ed W af ak h d ws aC i->res≠.error b6->
  jW Tryz.prog f (.ptr (ao ak) 0::args) h (fun x ae=>∃p bS v fV,res=.ok (p,bS)/\x=.agg (vcs p v)/\dt (Fr h.next) ae p v/\Mod (b3 ak) h ae/\ed W af ak ae d bS aC fV) (s7 W af ak h res)
def AO (W:List aq) (af ak f:Nat) (args:List V) (d:Nat) (ws:List aq) (res:bJ (List aP × List aq)):Prop:=
 ∀(h:ah) (aC:V) (i:Nat),ed W af ak h d ws aC i->res≠.error b6->
  jW Tryz.prog f (.ptr (ao ak) 0::args) h (fun x ae=>∃l bS fV,res=.ok (l,bS)/\dB h.next (Fr h.next) ae 5 (l.map aP.enc) x/\l.length<=1000000/\Mod (b3 ak) h ae/\ed W af ak ae d bS aC fV) (s7 W af ak h res)
structure iE (W:List aq) (af ak n:Nat):Prop where
 ty:∀d ws,gD W af ak 101 [] d ws ((aU af n).ty d ws)
 hI:∀d ws,gD W af ak 146 [] d ws ((aU af n).hI d ws)
 named:∀d ws,gD W af ak 184 [] d ws ((aU af n).named d ws)
 jf:∀d ws,gD W af ak 206 [] d ws ((aU af n).jf d ws)
 pat:∀d ws,gD W af ak 55 [] d ws ((aU af n).pat d ws)
 iQ:∀d ws,gD W af ak 105 [] d ws ((aU af n).iQ d ws)
 gN:∀d ws,gD W af ak 147 [] d ws ((aU af n).gN d ws)
 seq:∀d ws,gD W af ak 56 [] d ws ((aU af n).seq d ws)
 cases:∀d ws,AO W af ak 186 [] d ws ((aU af n).cases d [] (if bm jT ws then ws.tail else ws))
 fn:∀d (a:Nat) ws,gD W af ak 102 [.int .i64 a] d ws ((aU af n).fn d a ws)
 one:∀d ws,gD W af ak 107 [] d ws ((aU af n).one d ws)
 hl:∀d k (a:Nat) ws,gD W af ak 150 [.int .i64 k,.int .i64 a] d ws ((aU af n).hl d k a ws)
 lt:∀d (a:Nat) ws,gD W af ak 149 [.int .i64 a] d ws ((aU af n).lt d a ws)
 binds:∀d ws,AO W af ak 54 [] d ws ((aU af n).binds d [] ws)
 pair:∀d ws,gD W af ak 151 [] d ws ((aU af n).pair d ws)
 iX:∀d ws,gD W af ak 187 [] d ws ((aU af n).iX d ws)
 hA:∀d ws,gD W af ak 207 [.int .i64 1] d ws ((aU af n).hA d ws)
 hB:∀d ws,gD W af ak 207 [.int .i64 2] d ws ((aU af n).hB d ws)
 pre:∀d ws,gD W af ak 223 [] d ws ((aU af n).pre d ws)
 app:∀d ws,gD W af ak 229 [] d ws ((aU af n).app d ws)
 atom:∀d ws,gD W af ak 231 [] d ws ((aU af n).atom d ws)
section
variable {W:List aq} {af ak n:Nat}
theorem ai4 (I:iE W af ak n) (d:Nat) (ws:List aq):gD W af ak 146 [] d ws ((aU af (n+1)).hI d ws):=by
 intro h aC i C a8;generalize U:(aU af (n+1)).hI d ws=res at a8 ⊢;replace U:Kh (aU af n) d ws=res:=U;unfold Kh at U;refine Xd.x rfl (cm ?_);unfold M4;have bX:=C.at_.lt;obtain ⟨ad,an,aO,bz⟩:=fS h b8;have m1:Mod (b3 ak) h ad:=aO.mod _;have cw:=m1;have cz:=C.ext aO;simp only [an,↓aa,ab,simprocAttr];have g2:(aU af n).named d ws≠.error b6:=fun q=>by rw [q] at U;exact a8 U.symm
 refine cH (I.named d ws ad aC i cz g2) ?_ ?_
 rotate_left
 . rintro x ag ⟨e,he,rfl,m,bn⟩;simp only [cF,aX,↓aa,ab,simprocAttr];exact ⟨e,by rw [he] at U;exact U.symm,rfl,(cw.trans m),bn⟩
 rintro x ag ⟨a,bu,b4,i2,bc,rfl,aN,m2,bx⟩;rw [bc] at U
 try simp only [bB] at U
 have M2:=cw.trans m2;have dN:=aN.one;obtain ⟨ar,aB,cT,fj⟩:=fz ag b8 (vcs a b4);have m3:Mod (b3 ak) ag ar:=cT.mod _;have ct:=M2.trans m3;have cq:=bx.ext cT;simp only [dN.1,dN.2.1,dN.2.2,aB,↓aa,ab,simprocAttr];refine aY (ho cq nV) ?_;rintro x aT ⟨rfl,m4,i4,ch⟩;have cZ:=ct.trans m4;cases b_:bm nV bu with
 | true=>
   simp only [b_,aoM,aoA,aoK,bB] at U ch;have iT:=fj.mod m4 (bU (by have:=M2.next;omega));simp only [iT.g,↓aa,ab,simprocAttr];have g5:(aU af n).hI d bu.tail≠.error b6:=fun q=>by rw [q] at U;exact a8 U.symm
   refine cH (I.hI d bu.tail aT aC i4 ch g5) ?_ ?_
   rotate_left
   . rintro x bE ⟨e,he,rfl,m,bn⟩;simp only [cF,aX,iT.g,↓aa,ab,simprocAttr];exact ⟨rfl,e,by rw [he] at U;exact U.symm,rfl,(cZ.trans m),bn⟩
   rintro x bE ⟨b,ft,eK,i5,b1,rfl,fM,m5,bW⟩;rw [b1] at U
   try simp only [bB] at U
   have cR:=cZ.trans m5;have gA:=iT.mod m5 (bU (by have:=M2.next;omega));simp only [iT.g,gA.g,↓aa,ab,simprocAttr];have mP:=aN.mod (m3.trans (m4.trans m5)) (by have:=cw.next;omega);refine aY (uy 3 mP (fM.cP (by have:=(m2.trans (m3.trans m4)).next;omega))) ?_;rintro x bA ⟨eu,rfl,kX,e3⟩;have ef:=kX.eU (eX:=Fr ad.next) fun b q=>q.elim (fun q=>q.1) (fun q=>by have:=(m2.trans (m3.trans (m4.trans m5))).next;unfold Fr;omega);have m6:Mod (b3 ak) bE bA:=e3.mod _;have di:=cR.trans m6;have cv:=bW.ext e3;have jg:=bz.mod (m2.trans (m3.trans (m4.trans (m5.trans m6)))) (bU bX);have kg:=gA.mod m6 (bU (by have:=M2.next;omega));have o:=ef.one;simp only [o.1,o.2.1,o.2.2,aX,vcs,bR,jg.g,kg.g,iT.g,gA.g,↓aa,ab,simprocAttr];exact ⟨_,_,_,_,U.symm,rfl,(ef.box (by have:=bX;have:=bz.lt;omega) _).cP (by have:=m1.next;omega),di.set (fun o=>absurd o (dj (aoz _))) _,C.box cv (aoz _) _⟩
 | false=>
   simp only [b_,aoM,aoA,aoK,bB] at U ch;have iT:=fj.mod m4 (bU (by have:=M2.next;omega));have uS:=aN.mod (m3.trans m4) (by have:=cw.next;omega);have kT:=bz.mod (m2.trans (m3.trans m4)) (bU bX);have o:=uS.one;simp only [o.1,o.2.1,o.2.2,aX,vcs,bR,iT.g,kT.g,↓aa,ab,simprocAttr];exact ⟨_,_,_,_,U.symm,rfl,(uS.box (by have:=bX;have:=bz.lt;omega) _).cP (by have:=m1.next;omega),cZ.set (fun o=>absurd o (dj (aoz _))) _,C.box ch (aoz _) _⟩
theorem ai0 (I:iE W af ak n) (d:Nat) (ws:List aq):gD W af ak 151 [] d ws ((aU af (n+1)).pair d ws):=by
 intro h aC i C a8;generalize U:(aU af (n+1)).pair d ws=res at a8 ⊢;replace U:Kg (aU af n) d ws=res:=U;unfold Kg at U;refine Xi.x rfl (cm ?_);unfold M9;have bX:=C.at_.lt;obtain ⟨ad,an,aO,bz⟩:=fS h b8;have m1:Mod (b3 ak) h ad:=aO.mod _;have cw:=m1;have cz:=C.ext aO;simp only [an,↓aa,ab,simprocAttr];have g2:(aU af n).iX d ws≠.error b6:=fun q=>by rw [q] at U;exact a8 U.symm
 refine cH (I.iX d ws ad aC i cz g2) ?_ ?_
 rotate_left
 . rintro x ag ⟨e,he,rfl,m,bn⟩;simp only [cF,aX,↓aa,ab,simprocAttr];exact ⟨e,by rw [he] at U;exact U.symm,rfl,(cw.trans m),bn⟩
 rintro x ag ⟨a,bu,b4,i2,bc,rfl,aN,m2,bx⟩;rw [bc] at U
 try simp only [bB] at U
 have M2:=cw.trans m2;have dN:=aN.one;obtain ⟨ar,aB,cT,fj⟩:=fz ag b8 (vcs a b4);have m3:Mod (b3 ak) ag ar:=cT.mod _;have ct:=M2.trans m3;have cq:=bx.ext cT;simp only [dN.1,dN.2.1,dN.2.2,aB,↓aa,ab,simprocAttr];refine aY (ho cq jt) ?_;rintro x aT ⟨rfl,m4,i4,ch⟩;have cZ:=ct.trans m4;cases b_:bm jt bu with
 | true=>
   simp only [b_,aoM,aoA,aoK,bB] at U ch;have iT:=fj.mod m4 (bU (by have:=M2.next;omega));simp only [iT.g,↓aa,ab,simprocAttr];have g5:(aU af n).pair d bu.tail≠.error b6:=fun q=>by rw [q] at U;exact a8 U.symm
   refine cH (I.pair d bu.tail aT aC i4 ch g5) ?_ ?_
   rotate_left
   . rintro x bE ⟨e,he,rfl,m,bn⟩;simp only [cF,aX,iT.g,↓aa,ab,simprocAttr];exact ⟨rfl,e,by rw [he] at U;exact U.symm,rfl,(cZ.trans m),bn⟩
   rintro x bE ⟨b,ft,eK,i5,b1,rfl,fM,m5,bW⟩;rw [b1] at U
   try simp only [bB] at U
   have cR:=cZ.trans m5;have gA:=iT.mod m5 (bU (by have:=M2.next;omega));simp only [iT.g,gA.g,↓aa,ab,simprocAttr];have mP:=aN.mod (m3.trans (m4.trans m5)) (by have:=cw.next;omega);refine aY (uy 26 mP (fM.cP (by have:=(m2.trans (m3.trans m4)).next;omega))) ?_;rintro x bA ⟨eu,rfl,kX,e3⟩;have ef:=kX.eU (eX:=Fr ad.next) fun b q=>q.elim (fun q=>q.1) (fun q=>by have:=(m2.trans (m3.trans (m4.trans m5))).next;unfold Fr;omega);have m6:Mod (b3 ak) bE bA:=e3.mod _;have di:=cR.trans m6;have cv:=bW.ext e3;have jg:=bz.mod (m2.trans (m3.trans (m4.trans (m5.trans m6)))) (bU bX);have kg:=gA.mod m6 (bU (by have:=M2.next;omega));have o:=ef.one;simp only [o.1,o.2.1,o.2.2,aX,vcs,bR,jg.g,kg.g,iT.g,gA.g,↓aa,ab,simprocAttr];exact ⟨_,_,_,_,U.symm,rfl,(ef.box (by have:=bX;have:=bz.lt;omega) _).cP (by have:=m1.next;omega),di.set (fun o=>absurd o (dj (aoz _))) _,C.box cv (aoz _) _⟩
 | false=>
   simp only [b_,aoM,aoA,aoK,bB] at U ch;have iT:=fj.mod m4 (bU (by have:=M2.next;omega));have uS:=aN.mod (m3.trans m4) (by have:=cw.next;omega);have kT:=bz.mod (m2.trans (m3.trans m4)) (bU bX);have o:=uS.one;simp only [o.1,o.2.1,o.2.2,aX,vcs,bR,iT.g,kT.g,↓aa,ab,simprocAttr];exact ⟨_,_,_,_,U.symm,rfl,(uS.box (by have:=bX;have:=bz.lt;omega) _).cP (by have:=m1.next;omega),cZ.set (fun o=>absurd o (dj (aoz _))) _,C.box ch (aoz _) _⟩
theorem alY (I:iE W af ak n) (d:Nat) (ws:List aq):gD W af ak 101 [] d ws ((aU af (n+1)).ty d ws):=by
 intro h aC i C a8;generalize U:(aU af (n+1)).ty d ws=res at a8 ⊢;replace U:C_ af (aU af n) d ws=res:=U;unfold C_ at U;refine WK.x rfl (cm ?_);unfold Mz;have bX:=C.at_.lt;obtain ⟨ad,an,aO,bz⟩:=fS h b8;have m1:Mod (b3 ak) h ad:=aO.mod _;have cw:=m1;have cz:=C.ext aO;simp only [an,↓aa,ab,simprocAttr];refine cH (D0 cz) ?_ ?_
 rotate_left
 . rintro x ag ⟨bk,e,he,rfl,m,bn⟩;cases he;simp only [cF,aX,eT,cD,↓aa,ab,simprocAttr];unfold j1 at U;rw [aoN bk] at U;exact ⟨_,U.symm,rfl,cw.trans m,bn⟩
 rintro x ag ⟨bk,m2,bx⟩;unfold j1 at U;rw [aoI (by omega)] at U;have M2:=cw.trans m2;simp only [eT,aoX,jj,cD,↓aa,ab,simprocAttr];have g3:(aU af n).hI (d+1) ws≠.error b6:=fun q=>by rw [q] at U;exact a8 U.symm
 refine cH (I.hI (d+1) ws ag aC i bx g3) ?_ ?_
 rotate_left
 . rintro x ar ⟨e,he,rfl,m,j_,a0,a',qk,bn⟩;simp only [cF,aX,eT,cD,↓aa,ab,simprocAttr];refine (tU bn.1).mono ?_;rintro u aT ⟨rfl,dx,iN,cN,bT,cf,mR⟩;exact ⟨e,by rw [he] at U;exact U.symm,rfl,(M2.trans m).trans dx,iN,cN,bT,cf,mR,bn.2⟩
 rintro x ar ⟨a,dd,b4,i3,bV,rfl,aN,m3,cq⟩;rw [bV] at U
 try simp only [bB] at U
 have ct:=M2.trans m3;have c4:=aN.one;obtain ⟨aT,bt,cO,eL⟩:=fz ar b8 (vcs a b4);have m4:Mod (b3 ak) ar aT:=cO.mod _;have cZ:=ct.trans m4;have ch:=cq.ext cO;simp only [c4.1,c4.2.1,c4.2.2,bt,eT,aoX,jj,cD,↓aa,ab,simprocAttr];refine aY (ho ch lN) ?_;rintro x bE ⟨rfl,m5,i5,bW⟩;have cR:=cZ.trans m5;cases b_:bm lN dd with
 | true=>
   simp only [b_,aoM,aoA,aoK,bB] at U bW;have hf:=eL.mod m5 (bU (by have:=ct.next;omega));simp only [hf.g,eT,aoX,jj,cD,↓aa,ab,simprocAttr];have g6:(aU af n).ty (d+1) dd.tail≠.error b6:=fun q=>by rw [q] at U;exact a8 U.symm
   refine cH (I.ty (d+1) dd.tail bE aC i5 bW g6) ?_ ?_
   rotate_left
   . rintro x bA ⟨e,he,rfl,m,j_,a0,a',qk,bn⟩;simp only [cF,aX,hf.g,eT,cD,↓aa,ab,simprocAttr];refine ⟨rfl,?_⟩;refine (tU bn.1).mono ?_;rintro u cl ⟨rfl,dx,iN,cN,bT,cf,mR⟩;exact ⟨e,by rw [he] at U;exact U.symm,rfl,(cR.trans m).trans dx,iN,cN,bT,cf,mR,bn.2⟩
   rintro x bA ⟨b,jv,eK,i6,dS,rfl,fM,m6,cv⟩;rw [dS] at U
   try simp only [bB] at U
   have di:=cR.trans m6;have jF:=hf.mod m6 (bU (by have:=ct.next;omega));simp only [eT,aoX,jj,cD,hf.g,jF.g,↓aa,ab,simprocAttr];have uT:=aN.mod (m4.trans (m5.trans m6)) (by have:=M2.next;omega);refine aY (uy 4 uT (fM.cP (by have:=(m3.trans (m4.trans m5)).next;omega))) ?_;rintro x cl ⟨eu,rfl,kX,dR⟩;have ef:=kX.eU (eX:=Fr ag.next) fun b q=>q.elim (fun q=>q.1) (fun q=>by have:=(m3.trans (m4.trans (m5.trans m6))).next;unfold Fr;omega);have m7:Mod (b3 ak) bA cl:=dR.mod _;have ew:=di.trans m7;have eP:=cv.ext dR;have hC:=bz.mod (m2.trans (m3.trans (m4.trans (m5.trans (m6.trans m7))))) (bU bX);have kU:=jF.mod m7 (bU (by have:=ct.next;omega));have o:=ef.one;simp only [o.1,o.2.1,o.2.2,aX,vcs,bR,hC.g,kU.g,eT,aoX,jj,cD,hf.g,jF.g,↓aa,ab,simprocAttr];have jw:=hC.put (vcs (two 4 a b) eu);refine (tT (C.box eP (aoz _) _)).mono ?_;rintro u er ⟨rfl,dx,fq⟩;have mM:=jw.mod dx (bU bX);simp only [mM.g,eT,vcs,bR,↓aa,ab,simprocAttr];exact ⟨_,_,_,_,U.symm,rfl,((ef.box (by have:=m2.next;have:=bz.lt;omega) _).mod dx (by have:=bz.lt;have:=m2.next;omega)).cP (by have:=(m1.trans m2).next;omega),(ew.set (fun o=>absurd o (dj (aoz _))) _).trans dx,fq⟩
 | false=>
   simp only [b_,aoM,aoA,aoK,bB] at U bW;have hf:=eL.mod m5 (bU (by have:=ct.next;omega));have mP:=aN.mod (m4.trans m5) (by have:=M2.next;omega);have hT:=bz.mod (m2.trans (m3.trans (m4.trans m5))) (bU bX);have o:=mP.one;simp only [o.1,o.2.1,o.2.2,aX,vcs,bR,hf.g,hT.g,eT,aoX,jj,cD,↓aa,ab,simprocAttr];have jw:=hT.put (vcs a b4);refine (tT (C.box bW (aoz _) _)).mono ?_;rintro u bA ⟨rfl,dx,fq⟩;have mM:=jw.mod dx (bU bX);simp only [mM.g,eT,vcs,bR,↓aa,ab,simprocAttr];exact ⟨_,_,_,_,U.symm,rfl,((mP.box (by have:=m2.next;have:=bz.lt;omega) _).mod dx (by have:=bz.lt;have:=m2.next;omega)).cP (by have:=(m1.trans m2).next;omega),(cR.set (fun o=>absurd o (dj (aoz _))) _).trans dx,fq⟩
theorem ajv (I:iE W af ak n) (d:Nat) (ws:List aq):gD W af ak 55 [] d ws ((aU af (n+1)).pat d ws):=by
 intro h aC i C a8;generalize U:(aU af (n+1)).pat d ws=res at a8 ⊢;replace U:Kl af (aU af n) d ws=res:=U;unfold Kl at U;refine Yg.x rfl (cm ?_);unfold NV;have bX:=C.at_.lt;obtain ⟨ad,an,aO,bz⟩:=fS h b8;have m1:Mod (b3 ak) h ad:=aO.mod _;have cw:=m1;have cz:=C.ext aO;simp only [an,↓aa,ab,simprocAttr];refine cH (D0 cz) ?_ ?_
 rotate_left
 . rintro x ag ⟨bk,e,he,rfl,m,bn⟩;cases he;simp only [cF,aX,eT,cD,↓aa,ab,simprocAttr];unfold j1 at U;rw [aoN bk] at U;exact ⟨_,U.symm,rfl,cw.trans m,bn⟩
 rintro x ag ⟨bk,m2,bx⟩;unfold j1 at U;rw [aoI (by omega)] at U;have M2:=cw.trans m2;simp only [eT,aoX,jj,cD,↓aa,ab,simprocAttr];have g3:(aU af n).iQ (d+1) ws≠.error b6:=fun q=>by rw [q] at U;exact a8 U.symm
 refine cH (I.iQ (d+1) ws ag aC i bx g3) ?_ ?_
 rotate_left
 . rintro x ar ⟨e,he,rfl,m,j_,a0,a',qk,bn⟩;simp only [cF,aX,eT,cD,↓aa,ab,simprocAttr];refine (tU bn.1).mono ?_;rintro u aT ⟨rfl,dx,iN,cN,bT,cf,mR⟩;exact ⟨e,by rw [he] at U;exact U.symm,rfl,(M2.trans m).trans dx,iN,cN,bT,cf,mR,bn.2⟩
 rintro x ar ⟨a,dd,b4,i3,bV,rfl,aN,m3,cq⟩;rw [bV] at U
 try simp only [bB] at U
 have ct:=M2.trans m3;have c4:=aN.one;obtain ⟨aT,bt,cO,eL⟩:=fz ar b8 (vcs a b4);have m4:Mod (b3 ak) ar aT:=cO.mod _;have cZ:=ct.trans m4;have ch:=cq.ext cO;simp only [c4.1,c4.2.1,c4.2.2,bt,eT,aoX,jj,cD,↓aa,ab,simprocAttr];refine aY (ho ch jt) ?_;rintro x bE ⟨rfl,m5,i5,bW⟩;have cR:=cZ.trans m5;cases b_:bm jt dd with
 | true=>
   simp only [b_,aoM,aoA,aoK,bB] at U bW;have hf:=eL.mod m5 (bU (by have:=ct.next;omega));simp only [hf.g,eT,aoX,jj,cD,↓aa,ab,simprocAttr];have g6:(aU af n).pat (d+1) dd.tail≠.error b6:=fun q=>by rw [q] at U;exact a8 U.symm
   refine cH (I.pat (d+1) dd.tail bE aC i5 bW g6) ?_ ?_
   rotate_left
   . rintro x bA ⟨e,he,rfl,m,j_,a0,a',qk,bn⟩;simp only [cF,aX,hf.g,eT,cD,↓aa,ab,simprocAttr];refine ⟨rfl,?_⟩;refine (tU bn.1).mono ?_;rintro u cl ⟨rfl,dx,iN,cN,bT,cf,mR⟩;exact ⟨e,by rw [he] at U;exact U.symm,rfl,(cR.trans m).trans dx,iN,cN,bT,cf,mR,bn.2⟩
   rintro x bA ⟨b,jv,eK,i6,dS,rfl,fM,m6,cv⟩;rw [dS] at U
   try simp only [bB] at U
   have di:=cR.trans m6;have jF:=hf.mod m6 (bU (by have:=ct.next;omega));simp only [eT,aoX,jj,cD,hf.g,jF.g,↓aa,ab,simprocAttr];have uT:=aN.mod (m4.trans (m5.trans m6)) (by have:=M2.next;omega);refine aY (uy 15 uT (fM.cP (by have:=(m3.trans (m4.trans m5)).next;omega))) ?_;rintro x cl ⟨eu,rfl,kX,dR⟩;have ef:=kX.eU (eX:=Fr ag.next) fun b q=>q.elim (fun q=>q.1) (fun q=>by have:=(m3.trans (m4.trans (m5.trans m6))).next;unfold Fr;omega);have m7:Mod (b3 ak) bA cl:=dR.mod _;have ew:=di.trans m7;have eP:=cv.ext dR;have hC:=bz.mod (m2.trans (m3.trans (m4.trans (m5.trans (m6.trans m7))))) (bU bX);have kU:=jF.mod m7 (bU (by have:=ct.next;omega));have o:=ef.one;simp only [o.1,o.2.1,o.2.2,aX,vcs,bR,hC.g,kU.g,eT,aoX,jj,cD,hf.g,jF.g,↓aa,ab,simprocAttr];have jw:=hC.put (vcs (two 15 a b) eu);refine (tT (C.box eP (aoz _) _)).mono ?_;rintro u er ⟨rfl,dx,fq⟩;have mM:=jw.mod dx (bU bX);simp only [mM.g,eT,vcs,bR,↓aa,ab,simprocAttr];exact ⟨_,_,_,_,U.symm,rfl,((ef.box (by have:=m2.next;have:=bz.lt;omega) _).mod dx (by have:=bz.lt;have:=m2.next;omega)).cP (by have:=(m1.trans m2).next;omega),(ew.set (fun o=>absurd o (dj (aoz _))) _).trans dx,fq⟩
 | false=>
   simp only [b_,aoM,aoA,aoK,bB] at U bW;have hf:=eL.mod m5 (bU (by have:=ct.next;omega));have mP:=aN.mod (m4.trans m5) (by have:=M2.next;omega);have hT:=bz.mod (m2.trans (m3.trans (m4.trans m5))) (bU bX);have o:=mP.one;simp only [o.1,o.2.1,o.2.2,aX,vcs,bR,hf.g,hT.g,eT,aoX,jj,cD,↓aa,ab,simprocAttr];have jw:=hT.put (vcs a b4);refine (tT (C.box bW (aoz _) _)).mono ?_;rintro u bA ⟨rfl,dx,fq⟩;have mM:=jw.mod dx (bU bX);simp only [mM.g,eT,vcs,bR,↓aa,ab,simprocAttr];exact ⟨_,_,_,_,U.symm,rfl,((mP.box (by have:=m2.next;have:=bz.lt;omega) _).mod dx (by have:=bz.lt;have:=m2.next;omega)).cP (by have:=(m1.trans m2).next;omega),(cR.set (fun o=>absurd o (dj (aoz _))) _).trans dx,fq⟩
theorem akP (I:iE W af ak n) (d:Nat) (ws:List aq):gD W af ak 56 [] d ws ((aU af (n+1)).seq d ws):=by
 intro h aC i C a8;generalize U:(aU af (n+1)).seq d ws=res at a8 ⊢;replace U:KV af (aU af n) d ws=res:=U;unfold KV at U;refine Yh.x rfl (cm ?_);unfold NW;have bX:=C.at_.lt;obtain ⟨ad,an,aO,bz⟩:=fS h b8;have m1:Mod (b3 ak) h ad:=aO.mod _;have cw:=m1;have cz:=C.ext aO;simp only [an,↓aa,ab,simprocAttr];refine cH (D0 cz) ?_ ?_
 rotate_left
 . rintro x ag ⟨bk,e,he,rfl,m,bn⟩;cases he;simp only [cF,aX,eT,cD,↓aa,ab,simprocAttr];unfold j1 at U;rw [aoN bk] at U;exact ⟨_,U.symm,rfl,cw.trans m,bn⟩
 rintro x ag ⟨bk,m2,bx⟩;unfold j1 at U;rw [aoI (by omega)] at U;have M2:=cw.trans m2;simp only [eT,aoX,jj,cD,↓aa,ab,simprocAttr];have g3:(aU af n).one (d+1) ws≠.error b6:=fun q=>by rw [q] at U;exact a8 U.symm
 refine cH (I.one (d+1) ws ag aC i bx g3) ?_ ?_
 rotate_left
 . rintro x ar ⟨e,he,rfl,m,j_,a0,a',qk,bn⟩;simp only [cF,aX,eT,cD,↓aa,ab,simprocAttr];refine (tU bn.1).mono ?_;rintro u aT ⟨rfl,dx,iN,cN,bT,cf,mR⟩;exact ⟨e,by rw [he] at U;exact U.symm,rfl,(M2.trans m).trans dx,iN,cN,bT,cf,mR,bn.2⟩
 rintro x ar ⟨a,dd,b4,i3,bV,rfl,aN,m3,cq⟩;rw [bV] at U
 try simp only [bB] at U
 have ct:=M2.trans m3;have c4:=aN.one;obtain ⟨aT,bt,cO,eL⟩:=fz ar b8 (vcs a b4);have m4:Mod (b3 ak) ar aT:=cO.mod _;have cZ:=ct.trans m4;have ch:=cq.ext cO;simp only [c4.1,c4.2.1,c4.2.2,bt,eT,aoX,jj,cD,↓aa,ab,simprocAttr];refine aY (ho ch Ab) ?_;rintro x bE ⟨rfl,m5,i5,bW⟩;have cR:=cZ.trans m5;cases b_:bm Ab dd with
 | true=>
   simp only [b_,aoM,aoA,aoK,bB] at U bW;have hf:=eL.mod m5 (bU (by have:=ct.next;omega));simp only [hf.g,eT,aoX,jj,cD,↓aa,ab,simprocAttr];have g6:(aU af n).seq (d+1) dd.tail≠.error b6:=fun q=>by rw [q] at U;exact a8 U.symm
   refine cH (I.seq (d+1) dd.tail bE aC i5 bW g6) ?_ ?_
   rotate_left
   . rintro x bA ⟨e,he,rfl,m,j_,a0,a',qk,bn⟩;simp only [cF,aX,hf.g,eT,cD,↓aa,ab,simprocAttr];refine ⟨rfl,?_⟩;refine (tU bn.1).mono ?_;rintro u cl ⟨rfl,dx,iN,cN,bT,cf,mR⟩;exact ⟨e,by rw [he] at U;exact U.symm,rfl,(cR.trans m).trans dx,iN,cN,bT,cf,mR,bn.2⟩
   rintro x bA ⟨b,jv,eK,i6,dS,rfl,fM,m6,cv⟩;rw [dS] at U
   try simp only [bB] at U
   have di:=cR.trans m6;have jF:=hf.mod m6 (bU (by have:=ct.next;omega));simp only [eT,aoX,jj,cD,hf.g,jF.g,↓aa,ab,simprocAttr];have uT:=aN.mod (m4.trans (m5.trans m6)) (by have:=M2.next;omega);refine aY (uy 35 uT (fM.cP (by have:=(m3.trans (m4.trans m5)).next;omega))) ?_;rintro x cl ⟨eu,rfl,kX,dR⟩;have ef:=kX.eU (eX:=Fr ag.next) fun b q=>q.elim (fun q=>q.1) (fun q=>by have:=(m3.trans (m4.trans (m5.trans m6))).next;unfold Fr;omega);have m7:Mod (b3 ak) bA cl:=dR.mod _;have ew:=di.trans m7;have eP:=cv.ext dR;have hC:=bz.mod (m2.trans (m3.trans (m4.trans (m5.trans (m6.trans m7))))) (bU bX);have kU:=jF.mod m7 (bU (by have:=ct.next;omega));have o:=ef.one;simp only [o.1,o.2.1,o.2.2,aX,vcs,bR,hC.g,kU.g,eT,aoX,jj,cD,hf.g,jF.g,↓aa,ab,simprocAttr];have jw:=hC.put (vcs (two 35 a b) eu);refine (tT (C.box eP (aoz _) _)).mono ?_;rintro u er ⟨rfl,dx,fq⟩;have mM:=jw.mod dx (bU bX);simp only [mM.g,eT,vcs,bR,↓aa,ab,simprocAttr];exact ⟨_,_,_,_,U.symm,rfl,((ef.box (by have:=m2.next;have:=bz.lt;omega) _).mod dx (by have:=bz.lt;have:=m2.next;omega)).cP (by have:=(m1.trans m2).next;omega),(ew.set (fun o=>absurd o (dj (aoz _))) _).trans dx,fq⟩
 | false=>
   simp only [b_,aoM,aoA,aoK,bB] at U bW;have hf:=eL.mod m5 (bU (by have:=ct.next;omega));have mP:=aN.mod (m4.trans m5) (by have:=M2.next;omega);have hT:=bz.mod (m2.trans (m3.trans (m4.trans m5))) (bU bX);have o:=mP.one;simp only [o.1,o.2.1,o.2.2,aX,vcs,bR,hf.g,hT.g,eT,aoX,jj,cD,↓aa,ab,simprocAttr];have jw:=hT.put (vcs a b4);refine (tT (C.box bW (aoz _) _)).mono ?_;rintro u bA ⟨rfl,dx,fq⟩;have mM:=jw.mod dx (bU bX);simp only [mM.g,eT,vcs,bR,↓aa,ab,simprocAttr];exact ⟨_,_,_,_,U.symm,rfl,((mP.box (by have:=m2.next;have:=bz.lt;omega) _).mod dx (by have:=bz.lt;have:=m2.next;omega)).cP (by have:=(m1.trans m2).next;omega),(cR.set (fun o=>absurd o (dj (aoz _))) _).trans dx,fq⟩
theorem abh (I:iE W af ak n) (d:Nat) (a0:Nat) (ws:List aq):gD W af ak 102 [.int .i64 a0] d ws ((aU af (n+1)).fn d a0 ws):=by
 intro h aC i C a8;generalize U:(aU af (n+1)).fn d a0 ws=res at a8 ⊢;replace U:HQ af (aU af n) d a0 ws=res:=U;unfold HQ at U;refine WL.x rfl (cm ?_);unfold MA;have bX:=C.at_.lt;obtain ⟨ad,an,aO,bz⟩:=fS h b8;have m1:Mod (b3 ak) h ad:=aO.mod _;have cw:=m1;have cz:=C.ext aO;simp only [an,↓aa,ab,simprocAttr];have g2:(aU af n).pat d ws≠.error b6:=fun q=>by rw [q] at U;exact a8 U.symm
 refine cH (I.pat d ws ad aC i cz g2) ?_ ?_
 rotate_left
 . rintro x ag ⟨e,he,rfl,m,bn⟩;simp only [cF,aX,↓aa,ab,simprocAttr];exact ⟨e,by rw [he] at U;exact U.symm,rfl,(cw.trans m),bn⟩
 rintro x ag ⟨a,bu,b4,i2,bc,rfl,aN,m2,bx⟩;rw [bc] at U
 try simp only [bB] at U
 have M2:=cw.trans m2;have dN:=aN.one;obtain ⟨ar,aB,cT,fj⟩:=fz ag b8 (vcs a b4);have m3:Mod (b3 ak) ag ar:=cT.mod _;have ct:=M2.trans m3;have cq:=bx.ext cT;simp only [dN.1,dN.2.1,dN.2.2,aB,↓aa,ab,simprocAttr];refine cH (kM cq lN) ?_ ?_
 rotate_left
 . rintro x aT ⟨e,he,rfl,m,bn⟩;simp only [cF,aX,↓aa,ab,simprocAttr];exact ⟨e,by rw [he] at U;exact U.symm,rfl,(ct.trans m),bn⟩
 rintro x aT ⟨dk,cU,m4,i4,ch⟩;rw [cU] at U
 try simp only [bB] at U
 have cZ:=ct.trans m4;have iT:=fj.mod m4 (bU (by have:=M2.next;omega));simp only [iT.g,↓aa,ab,simprocAttr];have g5:(aU af n).seq d dk≠.error b6:=fun q=>by rw [q] at U;exact a8 U.symm
 refine cH (I.seq d dk aT aC i4 ch g5) ?_ ?_
 rotate_left
 . rintro x bE ⟨e,he,rfl,m,bn⟩;simp only [cF,aX,iT.g,↓aa,ab,simprocAttr];exact ⟨rfl,e,by rw [he] at U;exact U.symm,rfl,(cZ.trans m),bn⟩
 rintro x bE ⟨b,ft,eK,i5,b1,rfl,fM,m5,bW⟩;rw [b1] at U
 try simp only [bB] at U
 have cR:=cZ.trans m5;have gA:=iT.mod m5 (bU (by have:=M2.next;omega));have mP:=aN.mod (m3.trans (m4.trans m5)) (by have:=cw.next;omega);have ow:=mP.one;have J0:=fM.one;obtain ⟨bA,cx,e3,uQ⟩:=xx (F:=Fr ad.next) (h:=bE) (size:=5) rfl rfl mP.cs (fM.cP (h7:=ad.next) (by have:=(m2.trans (m3.trans m4)).next;omega)).cs (rf (m2.trans (m3.trans (m4.trans m5))).next);simp only [vcs,aoW,ao5] at cx;have m6:Mod (b3 ak) bE bA:=e3.mod _;have di:=cR.trans m6;have cv:=bW.ext e3;have ef:=oy (l:=[a,b]) 27 0 a0 [] uQ rfl (aoQ _);have jg:=bz.mod (m2.trans (m3.trans (m4.trans (m5.trans m6)))) (bU bX);have kg:=gA.mod m6 (bU (by have:=M2.next;omega));have o:=ef.one;simp only [o.1,o.2.1,o.2.2,aX,vcs,bR,ow.1,ow.2.1,ow.2.2,J0.1,J0.2.1,J0.2.2,cx,jg.g,kg.g,iT.g,gA.g,↓aa,ab,simprocAttr];exact ⟨_,_,_,_,U.symm,rfl,(ef.box (by have:=bX;have:=bz.lt;omega) _).cP (by have:=m1.next;omega),di.set (fun o=>absurd o (dj (aoz _))) _,C.box cv (aoz _) _⟩
end
section
variable {W:List aq} {af ak n:Nat}
theorem ah9 (I:iE W af ak n) (d:Nat) (ws:List aq):gD W af ak 107 [] d ws ((aU af (n+1)).one d ws):=by
 intro h aC i C a8;generalize U:(aU af (n+1)).one d ws=res at a8 ⊢;replace U:ua af (aU af n) d ws=res:=U;unfold ua at U;dsimp only at U;refine WQ.x rfl (cm ?_);unfold MF;have bX:=C.at_.lt;obtain ⟨ad,an,aO,bz⟩:=fS h b8;have m1:Mod (b3 ak) h ad:=aO.mod _;have cw:=m1;have cz:=C.ext aO;simp only [an,↓aa,ab,simprocAttr];refine bQ (qO cz) ?_;simp only [↓aa,ab,simprocAttr];refine aY (ho cz rC) ?_;rintro x ag ⟨rfl,m2,i2,bx⟩;have M2:=cw.trans m2;cases b_:bm rC ws with
 | true=>
   simp only [b_,aoM,aoA,aoK,bB] at U bx;simp only [↓aa,ab,simprocAttr];have g3:(aU af n).lt d (bI af ws) ws.tail≠.error b6:=fun q=>by rw [q] at U;exact a8 U.symm
   refine cH (I.lt d (bI af ws) ws.tail ag aC i2 bx g3) ?_ ?_
   rotate_left
   . rintro x ar ⟨e,he,rfl,m,bn⟩;simp only [cF,aX,↓aa,ab,simprocAttr];exact ⟨e,by rw [he] at U;exact U.symm,rfl,(M2.trans m),bn⟩
   rintro x ar ⟨a,dd,b4,i3,bV,rfl,aN,m3,cq⟩;rw [bV] at U
   try simp only [bB] at U
   have ct:=M2.trans m3;have mg:=bz.mod (m2.trans m3) (bU bX);have o:=aN.one;simp only [o.1,o.2.1,o.2.2,aX,vcs,bR,mg.g,↓aa,ab,simprocAttr];exact ⟨_,_,_,_,U.symm,rfl,(aN.box (by have:=m2.next;have:=bz.lt;omega) _).cP (by have:=(m1.trans m2).next;omega),ct.set (fun o=>absurd o (dj (aoz _))) _,C.box cq (aoz _) _⟩
 | false=>
   simp only [b_,aoM,aoA,aoK,bB] at U bx;simp only [↓aa,ab,simprocAttr];refine aY (ho bx mA) ?_;rintro x ar ⟨rfl,m3,i3,cq⟩;have ct:=M2.trans m3;cases dD:bm mA ws with
   | true=>
     simp only [dD,aoM,aoA,aoK,bB] at U cq;simp only [↓aa,ab,simprocAttr];have g4:(aU af n).fn d (bI af ws) ws.tail≠.error b6:=fun q=>by rw [q] at U;exact a8 U.symm
     refine cH (I.fn d (bI af ws) ws.tail ar aC i3 cq g4) ?_ ?_
     rotate_left
     . rintro x aT ⟨e,he,rfl,m,bn⟩;simp only [cF,aX,↓aa,ab,simprocAttr];exact ⟨e,by rw [he] at U;exact U.symm,rfl,(ct.trans m),bn⟩
     rintro x aT ⟨a,dk,b4,i4,cU,rfl,aN,m4,ch⟩;rw [cU] at U
     try simp only [bB] at U
     have cZ:=ct.trans m4;have kT:=bz.mod (m2.trans (m3.trans m4)) (bU bX);have o:=aN.one;simp only [o.1,o.2.1,o.2.2,aX,vcs,bR,kT.g,↓aa,ab,simprocAttr];exact ⟨_,_,_,_,U.symm,rfl,(aN.box (by have:=(m2.trans m3).next;have:=bz.lt;omega) _).cP (by have:=(m1.trans (m2.trans m3)).next;omega),cZ.set (fun o=>absurd o (dj (aoz _))) _,C.box ch (aoz _) _⟩
   | false=>
     simp only [dD,aoM,aoA,aoK,bB] at U cq;simp only [↓aa,ab,simprocAttr];refine aY (ho cq vu) ?_;rintro x aT ⟨rfl,m4,i4,ch⟩;have cZ:=ct.trans m4;cases eO:bm vu ws with
     | true=>
       simp only [eO,aoM,aoA,aoK,bB] at U ch;simp only [↓aa,ab,simprocAttr];have g5:(aU af n).seq d ws.tail≠.error b6:=fun q=>by rw [q] at U;exact a8 U.symm
       refine cH (I.seq d ws.tail aT aC i4 ch g5) ?_ ?_
       rotate_left
       . rintro x bE ⟨e,he,rfl,m,bn⟩;simp only [cF,aX,↓aa,ab,simprocAttr];exact ⟨e,by rw [he] at U;exact U.symm,rfl,(cZ.trans m),bn⟩
       rintro x bE ⟨a,ft,b4,i5,b1,rfl,aN,m5,bW⟩;rw [b1] at U
       try simp only [bB] at U
       have cR:=cZ.trans m5;have fm:=aN.one;obtain ⟨bA,cx,e3,kh⟩:=fz bE b8 (vcs a b4);have m6:Mod (b3 ak) bE bA:=e3.mod _;have di:=cR.trans m6;have cv:=bW.ext e3;simp only [fm.1,fm.2.1,fm.2.2,cx,↓aa,ab,simprocAttr];refine cH (kM cv EV) ?_ ?_
       rotate_left
       . rintro x cl ⟨e,he,rfl,m,bn⟩;simp only [cF,aX,↓aa,ab,simprocAttr];exact ⟨e,by rw [he] at U;exact U.symm,rfl,(di.trans m),bn⟩
       rintro x cl ⟨mL,fg,m7,i7,eP⟩;rw [fg] at U
       try simp only [bB] at U
       have ew:=di.trans m7;simp only [↓aa,ab,simprocAttr];have g8:(aU af n).one d mL≠.error b6:=fun q=>by rw [q] at U;exact a8 U.symm
       refine cH (I.one d mL cl aC i7 eP g8) ?_ ?_
       rotate_left
       . rintro x er ⟨e,he,rfl,m,bn⟩;simp only [cF,aX,↓aa,ab,simprocAttr];exact ⟨e,by rw [he] at U;exact U.symm,rfl,(ew.trans m),bn⟩
       rintro x er ⟨b,vX,eK,i8,gm,rfl,fM,m8,gh⟩;rw [gm] at U
       try simp only [bB] at U
       have gY:=ew.trans m8;have xT:=fM.one;obtain ⟨fB,l_,jy,oE⟩:=fz er b8 (vcs b eK);have m9:Mod (b3 ak) er fB:=jy.mod _;have h8:=gY.trans m9;have fQ:=gh.ext jy;simp only [xT.1,xT.2.1,xT.2.2,l_,↓aa,ab,simprocAttr];refine cH (kM fQ ET) ?_ ?_
       rotate_left
       . rintro x iJ ⟨e,he,rfl,m,bn⟩;simp only [cF,aX,↓aa,ab,simprocAttr];exact ⟨e,by rw [he] at U;exact U.symm,rfl,(h8.trans m),bn⟩
       rintro x iJ ⟨Ga,sK,m10,i10,iU⟩;rw [sK] at U
       try simp only [bB] at U
       have oJ:=h8.trans m10;have Di:=kh.mod (m7.trans (m8.trans (m9.trans m10))) (bU (by have:=cR.next;omega));have yn:=oE.mod m10 (bU (by have:=gY.next;omega));simp only [Di.g,yn.g,↓aa,ab,simprocAttr];have g11:(aU af n).one d Ga≠.error b6:=fun q=>by rw [q] at U;exact a8 U.symm
       refine cH (I.one d Ga iJ aC i10 iU g11) ?_ ?_
       rotate_left
       . rintro x lv ⟨e,he,rfl,m,bn⟩;simp only [cF,aX,Di.g,yn.g,↓aa,ab,simprocAttr];exact ⟨rfl,e,by rw [he] at U;exact U.symm,rfl,(oJ.trans m),bn⟩
       rintro x lv ⟨c,TQ,eu,i11,vL,rfl,ef,m11,lo⟩;rw [vL] at U
       try simp only [bB] at U
       have uR:=oJ.trans m11;have Lz:=Di.mod m11 (bU (by have:=cR.next;omega));have LA:=yn.mod m11 (bU (by have:=gY.next;omega));have LZ:=aN.mod (m6.trans (m7.trans (m8.trans (m9.trans (m10.trans m11))))) (by have:=cZ.next;omega);have L1:=fM.mod (m9.trans (m10.trans m11)) (by have:=ew.next;omega);have xQ:=LZ.one;have xR:=L1.one;have JY:=ef.one;obtain ⟨Bz,x0,tj,UF⟩:=JD (F:=Fr aT.next) (h:=lv) (size:=5) rfl rfl rfl LZ.cs (L1.cP (h7:=aT.next) (by have:=(m5.trans (m6.trans m7)).next;omega)).cs (ef.cP (h7:=aT.next) (by have:=(m5.trans (m6.trans (m7.trans (m8.trans (m9.trans m10))))).next;omega)).cs (rf (m5.trans (m6.trans (m7.trans (m8.trans (m9.trans (m10.trans m11)))))).next);simp only [vcs,aoW,ao5] at x0;have m12:Mod (b3 ak) lv Bz:=tj.mod _;have Gx:=uR.trans m12;have v_:=lo.ext tj;have AM:=oy (l:=[a,b,c]) 31 0 (bI af ws) [] UF rfl (aoQ _);have TX:=bz.mod (m2.trans (m3.trans (m4.trans (m5.trans (m6.trans (m7.trans (m8.trans (m9.trans (m10.trans (m11.trans m12)))))))))) (bU bX);have T1:=Lz.mod m12 (bU (by have:=cR.next;omega));have T4:=LA.mod m12 (bU (by have:=gY.next;omega));have o:=AM.one;simp only [o.1,o.2.1,o.2.2,aX,vcs,bR,xQ.1,xQ.2.1,xQ.2.2,xR.1,xR.2.1,xR.2.2,JY.1,JY.2.1,JY.2.2,x0,TX.g,T1.g,T4.g,Di.g,yn.g,Lz.g,LA.g,↓aa,ab,simprocAttr];exact ⟨_,_,_,_,U.symm,rfl,(AM.box (by have:=(m2.trans (m3.trans m4)).next;have:=bz.lt;omega) _).cP (by have:=(m1.trans (m2.trans (m3.trans m4))).next;omega),Gx.set (fun o=>absurd o (dj (aoz _))) _,C.box v_ (aoz _) _⟩
     | false=>
       simp only [eO,aoM,aoA,aoK,bB] at U ch;simp only [↓aa,ab,simprocAttr];refine aY (ho ch zx) ?_;rintro x bE ⟨rfl,m5,i5,bW⟩;have cR:=cZ.trans m5;cases jn:bm zx ws with
       | true=>
         simp only [jn,aoM,aoA,aoK,bB] at U bW;simp only [↓aa,ab,simprocAttr];have g6:(aU af n).hl d 32 (bI af ws) ws.tail≠.error b6:=fun q=>by rw [q] at U;exact a8 U.symm
         refine cH (I.hl d 32 (bI af ws) ws.tail bE aC i5 bW g6) ?_ ?_
         rotate_left
         . rintro x bA ⟨e,he,rfl,m,bn⟩;simp only [cF,aX,↓aa,ab,simprocAttr];exact ⟨e,by rw [he] at U;exact U.symm,rfl,(cR.trans m),bn⟩
         rintro x bA ⟨a,jv,b4,i6,dS,rfl,aN,m6,cv⟩;rw [dS] at U
         try simp only [bB] at U
         have di:=cR.trans m6;have jg:=bz.mod (m2.trans (m3.trans (m4.trans (m5.trans m6)))) (bU bX);have o:=aN.one;simp only [o.1,o.2.1,o.2.2,aX,vcs,bR,jg.g,↓aa,ab,simprocAttr];exact ⟨_,_,_,_,U.symm,rfl,(aN.box (by have:=(m2.trans (m3.trans (m4.trans m5))).next;have:=bz.lt;omega) _).cP (by have:=(m1.trans (m2.trans (m3.trans (m4.trans m5)))).next;omega),di.set (fun o=>absurd o (dj (aoz _))) _,C.box cv (aoz _) _⟩
       | false=>
         simp only [jn,aoM,aoA,aoK,bB] at U bW;simp only [↓aa,ab,simprocAttr];refine aY (ho bW zA) ?_;rintro x bA ⟨rfl,m6,i6,cv⟩;have di:=cR.trans m6;cases kG:bm zA ws with
         | true=>
           simp only [kG,aoM,aoA,aoK,bB] at U cv;simp only [↓aa,ab,simprocAttr];have g7:(aU af n).hl d 33 (bI af ws) ws.tail≠.error b6:=fun q=>by rw [q] at U;exact a8 U.symm
           refine cH (I.hl d 33 (bI af ws) ws.tail bA aC i6 cv g7) ?_ ?_
           rotate_left
           . rintro x cl ⟨e,he,rfl,m,bn⟩;simp only [cF,aX,↓aa,ab,simprocAttr];exact ⟨e,by rw [he] at U;exact U.symm,rfl,(di.trans m),bn⟩
           rintro x cl ⟨a,mL,b4,i7,fg,rfl,aN,m7,eP⟩;rw [fg] at U
           try simp only [bB] at U
           have ew:=di.trans m7;have hC:=bz.mod (m2.trans (m3.trans (m4.trans (m5.trans (m6.trans m7))))) (bU bX);have o:=aN.one;simp only [o.1,o.2.1,o.2.2,aX,vcs,bR,hC.g,↓aa,ab,simprocAttr];exact ⟨_,_,_,_,U.symm,rfl,(aN.box (by have:=(m2.trans (m3.trans (m4.trans (m5.trans m6)))).next;have:=bz.lt;omega) _).cP (by have:=(m1.trans (m2.trans (m3.trans (m4.trans (m5.trans m6))))).next;omega),ew.set (fun o=>absurd o (dj (aoz _))) _,C.box eP (aoz _) _⟩
         | false=>
           simp only [kG,aoM,aoA,aoK,bB] at U cv;simp only [↓aa,ab,simprocAttr];have g7:(aU af n).pair d ws≠.error b6:=fun q=>by rw [q] at U;exact a8 U.symm
           refine cH (I.pair d ws bA aC i6 cv g7) ?_ ?_
           rotate_left
           . rintro x cl ⟨e,he,rfl,m,bn⟩;simp only [cF,aX,↓aa,ab,simprocAttr];exact ⟨e,by rw [he] at U;exact U.symm,rfl,(di.trans m),bn⟩
           rintro x cl ⟨a,mL,b4,i7,fg,rfl,aN,m7,eP⟩;rw [fg] at U
           try simp only [bB] at U
           have ew:=di.trans m7;have js:=aN.one;obtain ⟨er,dy,f',ps⟩:=fz cl b8 (vcs a b4);have m8:Mod (b3 ak) cl er:=f'.mod _;have gY:=ew.trans m8;have gh:=eP.ext f';simp only [js.1,js.2.1,js.2.2,dy,↓aa,ab,simprocAttr];refine aY (ho gh Ac) ?_;rintro x fB ⟨rfl,m9,i9,fQ⟩;have h8:=gY.trans m9;cases kH:bm Ac mL with
           | true=>
             simp only [kH,aoM,aoA,aoK,bB] at U fQ;have sU:=ps.mod m9 (bU (by have:=ew.next;omega));simp only [sU.g,↓aa,ab,simprocAttr];have g10:(aU af n).one d mL.tail≠.error b6:=fun q=>by rw [q] at U;exact a8 U.symm
             refine cH (I.one d mL.tail fB aC i9 fQ g10) ?_ ?_
             rotate_left
             . rintro x iJ ⟨e,he,rfl,m,bn⟩;simp only [cF,aX,sU.g,↓aa,ab,simprocAttr];exact ⟨rfl,e,by rw [he] at U;exact U.symm,rfl,(h8.trans m),bn⟩
             rintro x iJ ⟨b,Ga,eK,i10,sK,rfl,fM,m10,iU⟩;rw [sK] at U
             try simp only [bB] at U
             have oJ:=h8.trans m10;have Gf:=sU.mod m10 (bU (by have:=ew.next;omega));simp only [sU.g,Gf.g,↓aa,ab,simprocAttr];have Du:=aN.mod (m8.trans (m9.trans m10)) (by have:=di.next;omega);refine aY (uy 37 Du (fM.cP (by have:=(m7.trans (m8.trans m9)).next;omega))) ?_;rintro x lv ⟨eu,rfl,kX,DT⟩;have ef:=kX.eU (eX:=Fr bA.next) fun b q=>q.elim (fun q=>q.1) (fun q=>by have:=(m7.trans (m8.trans (m9.trans m10))).next;unfold Fr;omega);have m11:Mod (b3 ak) iJ lv:=DT.mod _;have uR:=oJ.trans m11;have lo:=iU.ext DT;have Dh:=bz.mod (m2.trans (m3.trans (m4.trans (m5.trans (m6.trans (m7.trans (m8.trans (m9.trans (m10.trans m11))))))))) (bU bX);have T3:=Gf.mod m11 (bU (by have:=ew.next;omega));have o:=ef.one;simp only [o.1,o.2.1,o.2.2,aX,vcs,bR,Dh.g,T3.g,sU.g,Gf.g,↓aa,ab,simprocAttr];exact ⟨_,_,_,_,U.symm,rfl,(ef.box (by have:=(m2.trans (m3.trans (m4.trans (m5.trans m6)))).next;have:=bz.lt;omega) _).cP (by have:=(m1.trans (m2.trans (m3.trans (m4.trans (m5.trans m6))))).next;omega),uR.set (fun o=>absurd o (dj (aoz _))) _,C.box lo (aoz _) _⟩
           | false=>
             simp only [kH,aoM,aoA,aoK,bB] at U fQ;have sU:=ps.mod m9 (bU (by have:=ew.next;omega));have uU:=aN.mod (m8.trans m9) (by have:=di.next;omega);have Gd:=bz.mod (m2.trans (m3.trans (m4.trans (m5.trans (m6.trans (m7.trans (m8.trans m9))))))) (bU bX);have o:=uU.one;simp only [o.1,o.2.1,o.2.2,aX,vcs,bR,sU.g,Gd.g,↓aa,ab,simprocAttr];exact ⟨_,_,_,_,U.symm,rfl,(uU.box (by have:=(m2.trans (m3.trans (m4.trans (m5.trans m6)))).next;have:=bz.lt;omega) _).cP (by have:=(m1.trans (m2.trans (m3.trans (m4.trans (m5.trans m6))))).next;omega),h8.set (fun o=>absurd o (dj (aoz _))) _,C.box fQ (aoz _) _⟩
end
section
variable {W:List aq} {af ak n:Nat}
theorem ajs (I:iE W af ak n) (d:Nat) (ws:List aq):gD W af ak 147 [] d ws ((aU af (n+1)).gN d ws):=by
 intro h aC i C a8;generalize U:(aU af (n+1)).gN d ws=res at a8 ⊢;replace U:uh af (aU af n) d ws=res:=U;unfold uh at U;dsimp only at U;refine Xe.x rfl (cm ?_);unfold M5;have bX:=C.at_.lt;obtain ⟨ad,an,aO,bz⟩:=fS h b8;have m1:Mod (b3 ak) h ad:=aO.mod _;have cw:=m1;have cz:=C.ext aO;simp only [an,↓aa,ab,simprocAttr];refine bQ (qO cz) ?_;simp only [↓aa,ab,simprocAttr];refine aY (ho cz pn) ?_;rintro x ag ⟨rfl,m2,i2,bx⟩;have M2:=cw.trans m2;cases b_:bm pn ws with
 | true=>
   simp only [b_,aoM,aoA,aoK,bB] at U bx;have kf:=bz.mod m2 (bU bX);simp only [aX,vcs,bR,kf.g,↓aa,ab,simprocAttr];exact ⟨_,_,_,_,U.symm,rfl,iR _ _ _ _ _ (aoQ _),M2.set (fun o=>absurd o (dj (aoz _))) _,C.box bx (aoz _) _⟩
 | false=>
   simp only [b_,aoM,aoA,aoK,bB] at U bx;simp only [↓aa,ab,simprocAttr];refine bQ (j' bx 3) ?_;cases dD:cS 3 ws with
   | true=>
     simp only [dD,aoM,aoA,aoK,bB] at U;simp only [↓aa,ab,simprocAttr];refine cH (mK bx 3) ?_ ?_
     rotate_left
     . rintro x ar ⟨e,he,rfl,m,bn⟩;simp only [cF,aX,↓aa,ab,simprocAttr];exact ⟨e,by rw [he] at U;exact U.symm,rfl,(M2.trans m),bn⟩
     rintro x ar ⟨⟨eH,dd⟩,bV,rfl,⟨pR,o6⟩,m3,i3,cq⟩;rw [bV] at U
     try simp only [bB] at U
     have ct:=M2.trans m3;have mg:=bz.mod (m2.trans m3) (bU bX);simp only [aX,vcs,bR,aq.enc,mg.g,↓aa,ab,simprocAttr];exact ⟨_,_,_,_,U.symm,rfl,iR _ _ _ _ _ (le_top (C.fh eH pR)),ct.set (fun o=>absurd o (dj (aoz _))) _,C.box cq (aoz _) _⟩
   | false=>
     simp only [dD,aoM,aoA,aoK,bB] at U;simp only [↓aa,ab,simprocAttr];refine bQ (j' bx 4) ?_;cases eO:cS 4 ws with
     | true=>
       simp only [eO,aoM,aoA,aoK,bB] at U;simp only [↓aa,ab,simprocAttr];refine cH (mK bx 4) ?_ ?_
       rotate_left
       . rintro x ar ⟨e,he,rfl,m,bn⟩;simp only [cF,aX,↓aa,ab,simprocAttr];exact ⟨e,by rw [he] at U;exact U.symm,rfl,(M2.trans m),bn⟩
       rintro x ar ⟨⟨eH,dd⟩,bV,rfl,⟨pR,o6⟩,m3,i3,cq⟩;rw [bV] at U
       try simp only [bB] at U
       have ct:=M2.trans m3;have mg:=bz.mod (m2.trans m3) (bU bX);simp only [aX,vcs,bR,aq.enc,mg.g,↓aa,ab,simprocAttr];exact ⟨_,_,_,_,U.symm,rfl,iR _ _ _ _ _ (le_top (C.fh eH pR)),ct.set (fun o=>absurd o (dj (aoz _))) _,C.box cq (aoz _) _⟩
     | false=>
       simp only [eO,aoM,aoA,aoK,bB] at U;simp only [↓aa,ab,simprocAttr];refine bQ (j' bx 1) ?_;cases jn:cS 1 ws with
       | true=>
         simp only [jn,aoM,aoA,aoK,bB] at U;simp only [↓aa,ab,simprocAttr];refine cH (mK bx 1) ?_ ?_
         rotate_left
         . rintro x ar ⟨e,he,rfl,m,bn⟩;simp only [cF,aX,↓aa,ab,simprocAttr];exact ⟨e,by rw [he] at U;exact U.symm,rfl,(M2.trans m),bn⟩
         rintro x ar ⟨⟨eH,dd⟩,bV,rfl,⟨pR,o6⟩,m3,i3,cq⟩;rw [bV] at U
         try simp only [bB] at U
         have ct:=M2.trans m3;have mg:=bz.mod (m2.trans m3) (bU bX);simp only [aX,vcs,bR,aq.enc,mg.g,↓aa,ab,simprocAttr];exact ⟨_,_,_,_,U.symm,rfl,iR _ _ _ _ _ (aoQ _),ct.set (fun o=>absurd o (dj (aoz _))) _,C.box cq (aoz _) _⟩
       | false=>
         simp only [jn,aoM,aoA,aoK,bB] at U;simp only [↓aa,ab,simprocAttr];refine aY (ho bx hZ) ?_;rintro x ar ⟨rfl,m3,i3,cq⟩;have ct:=M2.trans m3;cases kG:bm hZ ws with
         | true=>
           simp only [kG,aoM,aoA,aoK,bB] at U cq;simp only [↓aa,ab,simprocAttr];refine cH (mK cq 1) ?_ ?_
           rotate_left
           . rintro x aT ⟨e,he,rfl,m,bn⟩;simp only [cF,aX,↓aa,ab,simprocAttr];exact ⟨e,by rw [he] at U;exact U.symm,rfl,(ct.trans m),bn⟩
           rintro x aT ⟨⟨gn,dk⟩,cU,rfl,⟨xl,vj⟩,m4,i4,ch⟩;rw [cU] at U
           try simp only [bB] at U
           have cZ:=ct.trans m4;simp only [aq.enc,↓aa,ab,simprocAttr];refine bQ (ahl _ (C.num gn xl vj).1 (C.num gn xl vj).2 _) ?_;have kT:=bz.mod (m2.trans (m3.trans m4)) (bU bX);simp only [aX,vcs,bR,kT.g,↓aa,ab,simprocAttr];exact ⟨_,_,_,_,U.symm,rfl,iR _ _ _ _ _ (aoQ _),cZ.set (fun o=>absurd o (dj (aoz _))) _,C.box ch (aoz _) _⟩
         | false=>
           simp only [kG,aoM,aoA,aoK,bB] at U cq;simp only [↓aa,ab,simprocAttr];refine aY (ho cq ic) ?_;rintro x aT ⟨rfl,m4,i4,ch⟩;have cZ:=ct.trans m4;cases kH:bm ic ws with
           | true=>
             simp only [kH,aoM,aoA,aoK,bB] at U ch;have kT:=bz.mod (m2.trans (m3.trans m4)) (bU bX);simp only [aX,vcs,bR,kT.g,↓aa,ab,simprocAttr];exact ⟨_,_,_,_,U.symm,rfl,iR _ _ _ _ _ (aoQ _),cZ.set (fun o=>absurd o (dj (aoz _))) _,C.box ch (aoz _) _⟩
           | false=>
             simp only [kH,aoM,aoA,aoK,bB] at U ch;simp only [↓aa,ab,simprocAttr];refine aY (ho ch i') ?_;rintro x bE ⟨rfl,m5,i5,bW⟩;have cR:=cZ.trans m5;cases pP:bm i' ws with
             | true=>
               simp only [pP,aoM,aoA,aoK,bB] at U bW;have hT:=bz.mod (m2.trans (m3.trans (m4.trans m5))) (bU bX);simp only [aX,vcs,bR,hT.g,↓aa,ab,simprocAttr];exact ⟨_,_,_,_,U.symm,rfl,iR _ _ _ _ _ (aoQ _),cR.set (fun o=>absurd o (dj (aoz _))) _,C.box bW (aoz _) _⟩
             | false=>
               simp only [pP,aoM,aoA,aoK,bB] at U bW;simp only [↓aa,ab,simprocAttr];refine cH (kM bW hr) ?_ ?_
               rotate_left
               . rintro x bA ⟨e,he,rfl,m,bn⟩;simp only [cF,aX,↓aa,ab,simprocAttr];exact ⟨e,by rw [he] at U;exact U.symm,rfl,(cR.trans m),bn⟩
               rintro x bA ⟨jv,dS,m6,i6,cv⟩;rw [dS] at U
               try simp only [bB] at U
               have di:=cR.trans m6;simp only [↓aa,ab,simprocAttr];refine aY (ho cv fO) ?_;rintro x cl ⟨rfl,m7,i7,eP⟩;have ew:=di.trans m7;cases pQ:bm fO jv with
               | true=>
                 simp only [pQ,aoM,aoA,aoK,bB] at U eP;have hC:=bz.mod (m2.trans (m3.trans (m4.trans (m5.trans (m6.trans m7))))) (bU bX);simp only [aX,vcs,bR,hC.g,↓aa,ab,simprocAttr];exact ⟨_,_,_,_,U.symm,rfl,iR _ _ _ _ _ (aoQ _),ew.set (fun o=>absurd o (dj (aoz _))) _,C.box eP (aoz _) _⟩
               | false=>
                 simp only [pQ,aoM,aoA,aoK,bB] at U eP;simp only [↓aa,ab,simprocAttr];have g8:(aU af n).pat d jv≠.error b6:=fun q=>by rw [q] at U;exact a8 U.symm
                 refine cH (I.pat d jv cl aC i7 eP g8) ?_ ?_
                 rotate_left
                 . rintro x er ⟨e,he,rfl,m,bn⟩;simp only [cF,aX,↓aa,ab,simprocAttr];exact ⟨e,by rw [he] at U;exact U.symm,rfl,(ew.trans m),bn⟩
                 rintro x er ⟨a,vX,b4,i8,gm,rfl,aN,m8,gh⟩;rw [gm] at U
                 try simp only [bB] at U
                 have gY:=ew.trans m8;have xT:=aN.one;obtain ⟨fB,l_,jy,oE⟩:=fz er b8 (vcs a b4);have m9:Mod (b3 ak) er fB:=jy.mod _;have h8:=gY.trans m9;have fQ:=gh.ext jy;simp only [xT.1,xT.2.1,xT.2.2,l_,↓aa,ab,simprocAttr];refine cH (kM fQ fO) ?_ ?_
                 rotate_left
                 . rintro x iJ ⟨e,he,rfl,m,bn⟩;simp only [cF,aX,↓aa,ab,simprocAttr];exact ⟨e,by rw [he] at U;exact U.symm,rfl,(h8.trans m),bn⟩
                 rintro x iJ ⟨Ga,sK,m10,i10,iU⟩;rw [sK] at U
                 try simp only [bB] at U
                 have oJ:=h8.trans m10;have yn:=oE.mod m10 (bU (by have:=gY.next;omega));have Du:=aN.mod (m9.trans m10) (by have:=ew.next;omega);have v8:=bz.mod (m2.trans (m3.trans (m4.trans (m5.trans (m6.trans (m7.trans (m8.trans (m9.trans m10)))))))) (bU bX);have o:=Du.one;simp only [o.1,o.2.1,o.2.2,aX,vcs,bR,yn.g,v8.g,↓aa,ab,simprocAttr];exact ⟨_,_,_,_,U.symm,rfl,(Du.box (by have:=(m2.trans (m3.trans (m4.trans (m5.trans (m6.trans m7))))).next;have:=bz.lt;omega) _).cP (by have:=(m1.trans (m2.trans (m3.trans (m4.trans (m5.trans (m6.trans m7)))))).next;omega),oJ.set (fun o=>absurd o (dj (aoz _))) _,C.box iU (aoz _) _⟩
theorem Wa (I:iE W af ak n) (d:Nat) (ws:List aq):gD W af ak 231 [] d ws ((aU af (n+1)).atom d ws):=by
 intro h aC i C a8;generalize U:(aU af (n+1)).atom d ws=res at a8 ⊢;replace U:tb af (aU af n) d ws=res:=U;unfold tb at U;dsimp only at U;refine XP.x rfl (cm ?_);unfold Nx;have bX:=C.at_.lt;obtain ⟨ad,an,aO,bz⟩:=fS h b8;have m1:Mod (b3 ak) h ad:=aO.mod _;have cw:=m1;have cz:=C.ext aO;simp only [an,↓aa,ab,simprocAttr];refine bQ (qO cz) ?_;simp only [↓aa,ab,simprocAttr];refine bQ (j' cz 1) ?_;cases b_:cS 1 ws with
 | true=>
   simp only [b_,aoM,aoA,aoK,bB] at U;simp only [↓aa,ab,simprocAttr];refine cH (mK cz 1) ?_ ?_
   rotate_left
   . rintro x ag ⟨e,he,rfl,m,bn⟩;simp only [cF,aX,↓aa,ab,simprocAttr];exact ⟨e,by rw [he] at U;exact U.symm,rfl,(cw.trans m),bn⟩
   rintro x ag ⟨⟨aR,bu⟩,bc,rfl,⟨e4,tz⟩,m2,i2,bx⟩;rw [bc] at U
   try simp only [bB] at U
   have M2:=cw.trans m2;have kf:=bz.mod m2 (bU bX);simp only [aX,vcs,bR,aq.enc,kf.g,↓aa,ab,simprocAttr];exact ⟨_,_,_,_,U.symm,rfl,iR _ _ _ _ _ (aoQ _),M2.set (fun o=>absurd o (dj (aoz _))) _,C.box bx (aoz _) _⟩
 | false=>
   simp only [b_,aoM,aoA,aoK,bB] at U;simp only [↓aa,ab,simprocAttr];refine bQ (j' cz 2) ?_;cases dD:cS 2 ws with
   | true=>
     simp only [dD,aoM,aoA,aoK,bB] at U;simp only [↓aa,ab,simprocAttr];refine cH (mK cz 2) ?_ ?_
     rotate_left
     . rintro x ag ⟨e,he,rfl,m,bn⟩;simp only [cF,aX,↓aa,ab,simprocAttr];exact ⟨e,by rw [he] at U;exact U.symm,rfl,(cw.trans m),bn⟩
     rintro x ag ⟨⟨aR,bu⟩,bc,rfl,⟨e4,tz⟩,m2,i2,bx⟩;rw [bc] at U
     try simp only [bB] at U
     have M2:=cw.trans m2;have kf:=bz.mod m2 (bU bX);simp only [aX,vcs,bR,aq.enc,kf.g,↓aa,ab,simprocAttr];exact ⟨_,_,_,_,U.symm,rfl,iR _ _ _ _ _ (le_top (C.fh aR e4)),M2.set (fun o=>absurd o (dj (aoz _))) _,C.box bx (aoz _) _⟩
   | false=>
     simp only [dD,aoM,aoA,aoK,bB] at U;simp only [↓aa,ab,simprocAttr];refine bQ (j' cz 3) ?_;cases eO:cS 3 ws with
     | true=>
       simp only [eO,aoM,aoA,aoK,bB] at U;simp only [↓aa,ab,simprocAttr];refine cH (mK cz 3) ?_ ?_
       rotate_left
       . rintro x ag ⟨e,he,rfl,m,bn⟩;simp only [cF,aX,↓aa,ab,simprocAttr];exact ⟨e,by rw [he] at U;exact U.symm,rfl,(cw.trans m),bn⟩
       rintro x ag ⟨⟨aR,bu⟩,bc,rfl,⟨e4,tz⟩,m2,i2,bx⟩;rw [bc] at U
       try simp only [bB] at U
       have M2:=cw.trans m2;have kf:=bz.mod m2 (bU bX);simp only [aX,vcs,bR,aq.enc,kf.g,↓aa,ab,simprocAttr];exact ⟨_,_,_,_,U.symm,rfl,iR _ _ _ _ _ (le_top (C.fh aR e4)),M2.set (fun o=>absurd o (dj (aoz _))) _,C.box bx (aoz _) _⟩
     | false=>
       simp only [eO,aoM,aoA,aoK,bB] at U;simp only [↓aa,ab,simprocAttr];refine bQ (j' cz 4) ?_;cases jn:cS 4 ws with
       | true=>
         simp only [jn,aoM,aoA,aoK,bB] at U;simp only [↓aa,ab,simprocAttr];refine cH (mK cz 4) ?_ ?_
         rotate_left
         . rintro x ag ⟨e,he,rfl,m,bn⟩;simp only [cF,aX,↓aa,ab,simprocAttr];exact ⟨e,by rw [he] at U;exact U.symm,rfl,(cw.trans m),bn⟩
         rintro x ag ⟨⟨aR,bu⟩,bc,rfl,⟨e4,tz⟩,m2,i2,bx⟩;rw [bc] at U
         try simp only [bB] at U
         have M2:=cw.trans m2;have kf:=bz.mod m2 (bU bX);simp only [aX,vcs,bR,aq.enc,kf.g,↓aa,ab,simprocAttr];exact ⟨_,_,_,_,U.symm,rfl,iR _ _ _ _ _ (le_top (C.fh aR e4)),M2.set (fun o=>absurd o (dj (aoz _))) _,C.box bx (aoz _) _⟩
       | false=>
         simp only [jn,aoM,aoA,aoK,bB] at U;simp only [↓aa,ab,simprocAttr];refine aY (ho cz ic) ?_;rintro x ag ⟨rfl,m2,i2,bx⟩;have M2:=cw.trans m2;cases kG:bm ic ws with
         | true=>
           simp only [kG,aoM,aoA,aoK,bB] at U bx;have kf:=bz.mod m2 (bU bX);simp only [aX,vcs,bR,kf.g,↓aa,ab,simprocAttr];exact ⟨_,_,_,_,U.symm,rfl,iR _ _ _ _ _ (aoQ _),M2.set (fun o=>absurd o (dj (aoz _))) _,C.box bx (aoz _) _⟩
         | false=>
           simp only [kG,aoM,aoA,aoK,bB] at U bx;simp only [↓aa,ab,simprocAttr];refine aY (ho bx i') ?_;rintro x ar ⟨rfl,m3,i3,cq⟩;have ct:=M2.trans m3;cases kH:bm i' ws with
           | true=>
             simp only [kH,aoM,aoA,aoK,bB] at U cq;have mg:=bz.mod (m2.trans m3) (bU bX);simp only [aX,vcs,bR,mg.g,↓aa,ab,simprocAttr];exact ⟨_,_,_,_,U.symm,rfl,iR _ _ _ _ _ (aoQ _),ct.set (fun o=>absurd o (dj (aoz _))) _,C.box cq (aoz _) _⟩
           | false=>
             simp only [kH,aoM,aoA,aoK,bB] at U cq;simp only [↓aa,ab,simprocAttr];refine aY (ho cq pa) ?_;rintro x aT ⟨rfl,m4,i4,ch⟩;have cZ:=ct.trans m4;cases pP:bm pa ws with
             | true=>
               simp only [pP,aoM,aoA,aoK,bB] at U ch;simp only [↓aa,ab,simprocAttr];have g5:(aU af n).seq d ws.tail≠.error b6:=fun q=>by rw [q] at U;exact a8 U.symm
               refine cH (I.seq d ws.tail aT aC i4 ch g5) ?_ ?_
               rotate_left
               . rintro x bE ⟨e,he,rfl,m,bn⟩;simp only [cF,aX,↓aa,ab,simprocAttr];exact ⟨e,by rw [he] at U;exact U.symm,rfl,(cZ.trans m),bn⟩
               rintro x bE ⟨a,ft,b4,i5,b1,rfl,aN,m5,bW⟩;rw [b1] at U
               try simp only [bB] at U
               have cR:=cZ.trans m5;have fm:=aN.one;obtain ⟨bA,cx,e3,kh⟩:=fz bE b8 (vcs a b4);have m6:Mod (b3 ak) bE bA:=e3.mod _;have di:=cR.trans m6;have cv:=bW.ext e3;simp only [fm.1,fm.2.1,fm.2.2,cx,↓aa,ab,simprocAttr];refine cH (kM cv EU) ?_ ?_
               rotate_left
               . rintro x cl ⟨e,he,rfl,m,bn⟩;simp only [cF,aX,↓aa,ab,simprocAttr];exact ⟨e,by rw [he] at U;exact U.symm,rfl,(di.trans m),bn⟩
               rintro x cl ⟨mL,fg,m7,i7,eP⟩;rw [fg] at U
               try simp only [bB] at U
               have ew:=di.trans m7;have T2:=kh.mod m7 (bU (by have:=cR.next;omega));have qd:=aN.mod (m6.trans m7) (by have:=cZ.next;omega);have hC:=bz.mod (m2.trans (m3.trans (m4.trans (m5.trans (m6.trans m7))))) (bU bX);have o:=qd.one;simp only [o.1,o.2.1,o.2.2,aX,vcs,bR,T2.g,hC.g,↓aa,ab,simprocAttr];exact ⟨_,_,_,_,U.symm,rfl,(qd.box (by have:=(m2.trans (m3.trans m4)).next;have:=bz.lt;omega) _).cP (by have:=(m1.trans (m2.trans (m3.trans m4))).next;omega),ew.set (fun o=>absurd o (dj (aoz _))) _,C.box eP (aoz _) _⟩
             | false=>
               simp only [pP,aoM,aoA,aoK,bB] at U ch;simp only [↓aa,ab,simprocAttr];refine cH (kM ch hr) ?_ ?_
               rotate_left
               . rintro x bE ⟨e,he,rfl,m,bn⟩;simp only [cF,aX,↓aa,ab,simprocAttr];exact ⟨e,by rw [he] at U;exact U.symm,rfl,(cZ.trans m),bn⟩
               rintro x bE ⟨ft,b1,m5,i5,bW⟩;rw [b1] at U
               try simp only [bB] at U
               have cR:=cZ.trans m5;simp only [↓aa,ab,simprocAttr];refine aY (ho bW fO) ?_;rintro x bA ⟨rfl,m6,i6,cv⟩;have di:=cR.trans m6;cases pQ:bm fO ft with
               | true=>
                 simp only [pQ,aoM,aoA,aoK,bB] at U cv;have jg:=bz.mod (m2.trans (m3.trans (m4.trans (m5.trans m6)))) (bU bX);simp only [aX,vcs,bR,jg.g,↓aa,ab,simprocAttr];exact ⟨_,_,_,_,U.symm,rfl,iR _ _ _ _ _ (aoQ _),di.set (fun o=>absurd o (dj (aoz _))) _,C.box cv (aoz _) _⟩
               | false=>
                 simp only [pQ,aoM,aoA,aoK,bB] at U cv;simp only [↓aa,ab,simprocAttr];have g7:(aU af n).seq d ft≠.error b6:=fun q=>by rw [q] at U;exact a8 U.symm
                 refine cH (I.seq d ft bA aC i6 cv g7) ?_ ?_
                 rotate_left
                 . rintro x cl ⟨e,he,rfl,m,bn⟩;simp only [cF,aX,↓aa,ab,simprocAttr];exact ⟨e,by rw [he] at U;exact U.symm,rfl,(di.trans m),bn⟩
                 rintro x cl ⟨a,mL,b4,i7,fg,rfl,aN,m7,eP⟩;rw [fg] at U
                 try simp only [bB] at U
                 have ew:=di.trans m7;have js:=aN.one;obtain ⟨er,dy,f',ps⟩:=fz cl b8 (vcs a b4);have m8:Mod (b3 ak) cl er:=f'.mod _;have gY:=ew.trans m8;have gh:=eP.ext f';simp only [js.1,js.2.1,js.2.2,dy,↓aa,ab,simprocAttr];refine cH (kM gh fO) ?_ ?_
                 rotate_left
                 . rintro x fB ⟨e,he,rfl,m,bn⟩;simp only [cF,aX,↓aa,ab,simprocAttr];exact ⟨e,by rw [he] at U;exact U.symm,rfl,(gY.trans m),bn⟩
                 rintro x fB ⟨uI,mb,m9,i9,fQ⟩;rw [mb] at U
                 try simp only [bB] at U
                 have h8:=gY.trans m9;have sU:=ps.mod m9 (bU (by have:=ew.next;omega));have uU:=aN.mod (m8.trans m9) (by have:=di.next;omega);have Gd:=bz.mod (m2.trans (m3.trans (m4.trans (m5.trans (m6.trans (m7.trans (m8.trans m9))))))) (bU bX);have o:=uU.one;simp only [o.1,o.2.1,o.2.2,aX,vcs,bR,sU.g,Gd.g,↓aa,ab,simprocAttr];exact ⟨_,_,_,_,U.symm,rfl,(uU.box (by have:=(m2.trans (m3.trans (m4.trans (m5.trans m6)))).next;have:=bz.lt;omega) _).cP (by have:=(m1.trans (m2.trans (m3.trans (m4.trans (m5.trans m6))))).next;omega),h8.set (fun o=>absurd o (dj (aoz _))) _,C.box fQ (aoz _) _⟩
theorem ajN (I:iE W af ak n) (d:Nat) (ws:List aq):gD W af ak 223 [] d ws ((aU af (n+1)).pre d ws):=by
 intro h aC i C a8;generalize U:(aU af (n+1)).pre d ws=res at a8 ⊢;replace U:Kq af (aU af n) d ws=res:=U;unfold Kq at U;dsimp only at U;refine XI.x rfl (cm ?_);unfold Nr;have bX:=C.at_.lt;obtain ⟨ad,an,aO,bz⟩:=fS h b8;have m1:Mod (b3 ak) h ad:=aO.mod _;have cw:=m1;have cz:=C.ext aO;simp only [an,↓aa,ab,simprocAttr];refine cH (D0 cz) ?_ ?_
 rotate_left
 . rintro x ag ⟨bk,e,he,rfl,m,bn⟩;cases he;simp only [cF,aX,eT,cD,↓aa,ab,simprocAttr];unfold j1 at U;rw [aoN bk] at U;exact ⟨_,U.symm,rfl,cw.trans m,bn⟩
 rintro x ag ⟨bk,m2,bx⟩;unfold j1 at U;rw [aoI (by omega)] at U;have M2:=cw.trans m2;simp only [eT,aoX,jj,cD,↓aa,ab,simprocAttr];refine bQ (qO bx) ?_;simp only [eT,aoX,jj,cD,↓aa,ab,simprocAttr];refine aY (ho bx hZ) ?_;rintro x ar ⟨rfl,m3,i3,cq⟩;have ct:=M2.trans m3;cases b_:bm hZ ws with
 | true=>
   simp only [b_,aoM,aoA,aoK,bB] at U cq;simp only [eT,aoX,jj,cD,↓aa,ab,simprocAttr];have g4:(aU af n).pre (d+1) ws.tail≠.error b6:=fun q=>by rw [q] at U;exact a8 U.symm
   refine cH (I.pre (d+1) ws.tail ar aC i3 cq g4) ?_ ?_
   rotate_left
   . rintro x aT ⟨e,he,rfl,m,j_,a0,a',qk,bn⟩;simp only [cF,aX,eT,cD,↓aa,ab,simprocAttr];refine (tU bn.1).mono ?_;rintro u bE ⟨rfl,dx,iN,cN,bT,cf,mR⟩;exact ⟨e,by rw [he] at U;exact U.symm,rfl,(ct.trans m).trans dx,iN,cN,bT,cf,mR,bn.2⟩
   rintro x aT ⟨a,dk,b4,i4,cU,rfl,aN,m4,ch⟩;rw [cU] at U
   try simp only [bB] at U
   have cZ:=ct.trans m4;have xS:=aN.one;obtain ⟨bE,ca,e7,rY⟩:=sC (F:=Fr ar.next) (h:=aT) (size:=5) rfl aN.cs (rf m4.next);have m5:Mod (b3 ak) aT bE:=e7.mod _;have cR:=cZ.trans m5;have bW:=ch.ext e7;have ef:=oy (l:=[a]) 39 0 (bI af ws) [] rY rfl (aoQ _);have hT:=bz.mod (m2.trans (m3.trans (m4.trans m5))) (bU bX);have o:=ef.one;simp only [o.1,o.2.1,o.2.2,aX,vcs,bR,xS.1,xS.2.1,xS.2.2,ca,hT.g,eT,aoX,jj,cD,↓aa,ab,simprocAttr];have jw:=hT.put (vcs (.mk 39 0 (bI af ws) [] [a]) (.slice (ao aT.next) 0 1 1));refine (tT (C.box bW (aoz _) _)).mono ?_;rintro u bA ⟨rfl,dx,fq⟩;have mM:=jw.mod dx (bU bX);simp only [mM.g,eT,vcs,bR,↓aa,ab,simprocAttr];exact ⟨_,_,_,_,U.symm,rfl,((ef.box (by have:=(m2.trans m3).next;have:=bz.lt;omega) _).mod dx (by have:=bz.lt;have:=(m2.trans m3).next;omega)).cP (by have:=(m1.trans (m2.trans m3)).next;omega),(cR.set (fun o=>absurd o (dj (aoz _))) _).trans dx,fq⟩
 | false=>
   simp only [b_,aoM,aoA,aoK,bB] at U cq;simp only [eT,aoX,jj,cD,↓aa,ab,simprocAttr];refine aY (ho cq x5) ?_;rintro x aT ⟨rfl,m4,i4,ch⟩;have cZ:=ct.trans m4;cases dD:bm x5 ws with
   | true=>
     simp only [dD,aoM,aoA,aoK,bB] at U ch;simp only [eT,aoX,jj,cD,↓aa,ab,simprocAttr];have g5:(aU af n).pre (d+1) ws.tail≠.error b6:=fun q=>by rw [q] at U;exact a8 U.symm
     refine cH (I.pre (d+1) ws.tail aT aC i4 ch g5) ?_ ?_
     rotate_left
     . rintro x bE ⟨e,he,rfl,m,j_,a0,a',qk,bn⟩;simp only [cF,aX,eT,cD,↓aa,ab,simprocAttr];refine (tU bn.1).mono ?_;rintro u bA ⟨rfl,dx,iN,cN,bT,cf,mR⟩;exact ⟨e,by rw [he] at U;exact U.symm,rfl,(cZ.trans m).trans dx,iN,cN,bT,cf,mR,bn.2⟩
     rintro x bE ⟨a,ft,b4,i5,b1,rfl,aN,m5,bW⟩;rw [b1] at U
     try simp only [bB] at U
     have cR:=cZ.trans m5;have ow:=aN.one;obtain ⟨bA,cx,e3,uQ⟩:=sC (F:=Fr aT.next) (h:=bE) (size:=5) rfl aN.cs (rf m5.next);have m6:Mod (b3 ak) bE bA:=e3.mod _;have di:=cR.trans m6;have cv:=bW.ext e3;have ef:=oy (l:=[a]) 36 0 (bI af ws) [] uQ rfl (aoQ _);have jg:=bz.mod (m2.trans (m3.trans (m4.trans (m5.trans m6)))) (bU bX);have o:=ef.one;simp only [o.1,o.2.1,o.2.2,aX,vcs,bR,ow.1,ow.2.1,ow.2.2,cx,jg.g,eT,aoX,jj,cD,↓aa,ab,simprocAttr];have jw:=jg.put (vcs (.mk 36 0 (bI af ws) [] [a]) (.slice (ao bE.next) 0 1 1));refine (tT (C.box cv (aoz _) _)).mono ?_;rintro u cl ⟨rfl,dx,fq⟩;have mM:=jw.mod dx (bU bX);simp only [mM.g,eT,vcs,bR,↓aa,ab,simprocAttr];exact ⟨_,_,_,_,U.symm,rfl,((ef.box (by have:=(m2.trans (m3.trans m4)).next;have:=bz.lt;omega) _).mod dx (by have:=bz.lt;have:=(m2.trans (m3.trans m4)).next;omega)).cP (by have:=(m1.trans (m2.trans (m3.trans m4))).next;omega),(di.set (fun o=>absurd o (dj (aoz _))) _).trans dx,fq⟩
   | false=>
     simp only [dD,aoM,aoA,aoK,bB] at U ch;simp only [eT,aoX,jj,cD,↓aa,ab,simprocAttr];have g5:(aU af n).app (d+1) ws≠.error b6:=fun q=>by rw [q] at U;exact a8 U.symm
     refine cH (I.app (d+1) ws aT aC i4 ch g5) ?_ ?_
     rotate_left
     . rintro x bE ⟨e,he,rfl,m,j_,a0,a',qk,bn⟩;simp only [cF,aX,eT,cD,↓aa,ab,simprocAttr];refine (tU bn.1).mono ?_;rintro u bA ⟨rfl,dx,iN,cN,bT,cf,mR⟩;exact ⟨e,by rw [he] at U;exact U.symm,rfl,(cZ.trans m).trans dx,iN,cN,bT,cf,mR,bn.2⟩
     rintro x bE ⟨a,ft,b4,i5,b1,rfl,aN,m5,bW⟩;rw [b1] at U
     try simp only [bB] at U
     have cR:=cZ.trans m5;have hT:=bz.mod (m2.trans (m3.trans (m4.trans m5))) (bU bX);have o:=aN.one;simp only [o.1,o.2.1,o.2.2,aX,vcs,bR,hT.g,eT,aoX,jj,cD,↓aa,ab,simprocAttr];have jw:=hT.put (vcs a b4);refine (tT (C.box bW (aoz _) _)).mono ?_;rintro u bA ⟨rfl,dx,fq⟩;have mM:=jw.mod dx (bU bX);simp only [mM.g,eT,vcs,bR,↓aa,ab,simprocAttr];exact ⟨_,_,_,_,U.symm,rfl,((aN.box (by have:=(m2.trans (m3.trans m4)).next;have:=bz.lt;omega) _).mod dx (by have:=bz.lt;have:=(m2.trans (m3.trans m4)).next;omega)).cP (by have:=(m1.trans (m2.trans (m3.trans m4))).next;omega),(cR.set (fun o=>absurd o (dj (aoz _))) _).trans dx,fq⟩
theorem Zq (I:iE W af ak n) (d:Nat) (ws:List aq):gD W af ak 187 [] d ws ((aU af (n+1)).iX d ws):=by
 intro h aC i C a8;generalize U:(aU af (n+1)).iX d ws=res at a8 ⊢;replace U:Be (aU af n) d ws=res:=U;unfold Be at U;refine Xw.x rfl (cm ?_);unfold Ni;have bX:=C.at_.lt;obtain ⟨ad,an,aO,bz⟩:=fS h b8;have m1:Mod (b3 ak) h ad:=aO.mod _;have cw:=m1;have cz:=C.ext aO;simp only [an,↓aa,ab,simprocAttr];have g2:(aU af n).hA d ws≠.error b6:=fun q=>by rw [q] at U;exact a8 U.symm
 refine cH (I.hA d ws ad aC i cz g2) ?_ ?_
 rotate_left
 . rintro x ag ⟨e,he,rfl,m,bn⟩;simp only [cF,aX,↓aa,ab,simprocAttr];exact ⟨e,by rw [he] at U;exact U.symm,rfl,(cw.trans m),bn⟩
 rintro x ag ⟨a,bu,b4,i2,bc,rfl,aN,m2,bx⟩;rw [bc] at U
 try simp only [bB] at U
 have M2:=cw.trans m2;have dN:=aN.one;obtain ⟨ar,aB,cT,fj⟩:=fz ag b8 (vcs a b4);have m3:Mod (b3 ak) ag ar:=cT.mod _;have ct:=M2.trans m3;have cq:=bx.ext cT;simp only [dN.1,dN.2.1,dN.2.2,aB,↓aa,ab,simprocAttr];refine aY (J6 cq (k:=0) (by omega)) ?_;rintro x aT ⟨rfl,m4,i4,ch⟩;rw [aa_] at ch ⊢;have cZ:=ct.trans m4;cases bG:nO bu with
 | none=>
   simp only [bG,Option.isSome,Option.getD,aoM,aoA,aoK,bB] at U ch;have iT:=fj.mod m4 (bU (by have:=M2.next;omega));have uS:=aN.mod (m3.trans m4) (by have:=cw.next;omega);have kT:=bz.mod (m2.trans (m3.trans m4)) (bU bX);have o:=uS.one;simp only [o.1,o.2.1,o.2.2,aX,vcs,bR,Option.isSome,Option.getD,iT.g,kT.g,↓aa,ab,simprocAttr];exact ⟨_,_,_,_,U.symm,rfl,(uS.box (by have:=bX;have:=bz.lt;omega) _).cP (by have:=m1.next;omega),cZ.set (fun o=>absurd o (dj (aoz _))) _,C.box ch (aoz _) _⟩
 | some uo=>
   simp only [bG,Option.isSome,Option.getD,aoM,aoA,aoK,bB] at U ch;have iT:=fj.mod m4 (bU (by have:=M2.next;omega));simp only [Option.isSome,Option.getD,iT.g,↓aa,ab,simprocAttr];have g5:(aU af n).hA d bu.tail≠.error b6:=fun q=>by rw [q] at U;exact a8 U.symm
   refine cH (I.hA d bu.tail aT aC i4 ch g5) ?_ ?_
   rotate_left
   . rintro x bE ⟨e,he,rfl,m,bn⟩;simp only [cF,aX,iT.g,↓aa,ab,simprocAttr];exact ⟨rfl,e,by rw [he] at U;exact U.symm,rfl,(cZ.trans m),bn⟩
   rintro x bE ⟨b,ft,eK,i5,b1,rfl,fM,m5,bW⟩;rw [b1] at U
   try simp only [bB] at U
   have cR:=cZ.trans m5;have gA:=iT.mod m5 (bU (by have:=M2.next;omega));simp only [iT.g,gA.g,↓aa,ab,simprocAttr];have mP:=aN.mod (m3.trans (m4.trans m5)) (by have:=cw.next;omega);refine aY (J5 uo (RS bG) mP (fM.cP (by have:=(m2.trans (m3.trans m4)).next;omega))) ?_;rintro x bA ⟨eu,rfl,kX,e3⟩;have ef:=kX.eU (eX:=Fr ad.next) fun b q=>q.elim (fun q=>q.1) (fun q=>by have:=(m2.trans (m3.trans (m4.trans m5))).next;unfold Fr;omega);have m6:Mod (b3 ak) bE bA:=e3.mod _;have di:=cR.trans m6;have cv:=bW.ext e3;have jg:=bz.mod (m2.trans (m3.trans (m4.trans (m5.trans m6)))) (bU bX);have kg:=gA.mod m6 (bU (by have:=M2.next;omega));have o:=ef.one;simp only [o.1,o.2.1,o.2.2,aX,vcs,bR,jg.g,kg.g,iT.g,gA.g,↓aa,ab,simprocAttr];exact ⟨_,_,_,_,U.symm,rfl,(ef.box (by have:=bX;have:=bz.lt;omega) _).cP (by have:=m1.next;omega),di.set (fun o=>absurd o (dj (aoz _))) _,C.box cv (aoz _) _⟩
end
theorem ai5:(lK=0)=False:=aoV (by decide)
theorem ai6:(lK=1)=False:=aoV (by decide)
theorem ai7:(lK=2)=False:=aoV (by decide)
theorem ai8:(lK=3)=False:=aoV (by decide)
set_option linter.defProp false in
def kR:=And.intro ai5<|And.intro ai6<|And.intro ai7 ai8
abbrev lp (B n:Nat):aN->Prop:=fun b=>B<=dP b/\b≠ao n
def qF (W:List aq) (ak:Nat) (g:ah):Nat:=W.length - ((gv (g.get (ao ak)) 1).getD .bad).toN
section
variable {W:List aq} {af ak n d i B:Nat} {ws:List aq} {aC:V} {h ae:ah} {p:aP} {v:V}
theorem lD (C:ed W af ak h d ws aC i):qF W ak h=ws.length:=by unfold qF;rw [C.at_.g,zE,C.eq,aoZ];rfl
theorem dt.xF (A:dt (lp B n) h p v) (m:Mod (b3 ak) h ae) (ax:ak<B):dt (lp B n) ae p v:=⟨A.c'.mod m fun b q _=>⟨fun z=>by have:=q.1;rw [show b=ao ak from z,dh] at this;omega,q⟩,A.str⟩
theorem dt.By (A:dt (Fr B) h p v) (e:Ext h ae):dt (lp B h.next) ae p v:=(A.cu.ext e).eU fun b q=>⟨q.1,fun z=>by rw [z] at q;exact dj (aoz _) q.2⟩
theorem HU {ea:V} {p':aP} {k:ah} (A:dt (fun b=>(lp B n b/\Old k b)\/k.next<=dP b) h p' ea) (ad:B<=k.next) (ag:n<k.next):dt (lp B n) h p' ea:=A.eU fun b q=>q.elim (fun q=>q.1) fun q=>⟨by omega,fun z=>by rw [z,dh] at q;omega⟩
theorem va {α:Type} {E:Int × Nat->Prop} {r:bJ (α × List aq)} {a:α} {bS:List aq} (g:eI E ws r) (e:r=.ok (a,bS)):bS.length<ws.length:=by rw [e] at g;exact g
theorem dt.HT (A:dt (Fr B) h p v) {h7:Nat} (ad:h7<=B) (ag:n<B):dt (lp h7 n) h p v:=A.eU fun b q=>⟨aoF ad q,fun z=>by unfold Fr at q;rw [z,dh] at q;omega⟩
theorem dt.De (A:dt (lp B n) h p v) {m h7:Nat} (hm:m<B) (cd:h7<=B) (k:c_):dt (Fr h7) (h.set (ao m) k) p v:=(A.set (fun q=>by have:=q.1;rw [dh] at this;omega) k).eU fun b q=>aoF cd q.1
end
end
section
open Go ba
set_option maxHeartbeats 40000000
set_option maxRecDepth 100000
noncomputable section
def Mx:cB Tryz.f10:=⟨_,by conv=>lhs;reduce;simp only [cy,simprocAttr]⟩
theorem WT:cn 10 68 Tryz.f10 Mx.1 [.t 2,.eB 3 2]:=⟨Tryz.func10,by kernel_rfl⟩
def NG:cB Tryz.f27:=⟨_,by conv=>lhs;reduce;simp only [cy,simprocAttr]⟩
theorem XZ:cn 27 9 Tryz.f27 NG.1 [.t 2]:=⟨Tryz.func27,by kernel_rfl⟩
def NH:cB Tryz.f28:=⟨_,by conv=>lhs;reduce;simp only [cy,simprocAttr]⟩
theorem X0:cn 28 105 Tryz.f28 NH.1 [.eB 2 5]:=⟨Tryz.func28,by kernel_rfl⟩
def NJ:cB Tryz.f30:=⟨_,by conv=>lhs;reduce;simp only [cy,simprocAttr]⟩
theorem X2:cn 30 17 Tryz.f30 NJ.1 []:=⟨Tryz.func30,by kernel_rfl⟩
def N2:cB Tryz.f66:=⟨_,by conv=>lhs;reduce;simp only [cy,simprocAttr]⟩
theorem Ys:cn 66 28 Tryz.f66 N2.1 [.t 2]:=⟨Tryz.func66,by kernel_rfl⟩
def N3:cB Tryz.f67:=⟨_,by conv=>lhs;reduce;simp only [cy,simprocAttr]⟩
theorem Yt:cn 67 26 Tryz.f67 N3.1 [.t 4]:=⟨Tryz.func67,by kernel_rfl⟩
def N4:cB Tryz.f68:=⟨_,by conv=>lhs;reduce;simp only [cy,simprocAttr]⟩
theorem Yu:cn 68 58 Tryz.f68 N4.1 [.t 2]:=⟨Tryz.func68,by kernel_rfl⟩
def N5:cB Tryz.f69:=⟨_,by conv=>lhs;reduce;simp only [cy,simprocAttr]⟩
theorem Yv:cn 69 30 Tryz.f69 N5.1 [.eB 4 4]:=⟨Tryz.func69,by kernel_rfl⟩
def N7:cB Tryz.f70:=⟨_,by conv=>lhs;reduce;simp only [cy,simprocAttr]⟩
theorem Yw:cn 70 39 Tryz.f70 N7.1 [.eB 4 5]:=⟨Tryz.func70,by kernel_rfl⟩
def N8:cB Tryz.f71:=⟨_,by conv=>lhs;reduce;simp only [cy,simprocAttr]⟩
theorem Yx:cn 71 37 Tryz.f71 N8.1 [.t 2]:=⟨Tryz.func71,by kernel_rfl⟩
def N9:cB Tryz.f72:=⟨_,by conv=>lhs;reduce;simp only [cy,simprocAttr]⟩
theorem Yy:cn 72 14 Tryz.f72 N9.1 [.eB 8 5]:=⟨Tryz.func72,by kernel_rfl⟩
def Yz:cB Tryz.f73:=⟨_,by conv=>lhs;reduce;simp only [cy,simprocAttr]⟩
theorem N':cn 73 36 Tryz.f73 Yz.1 [.eB 2 5]:=⟨Tryz.func73,by kernel_rfl⟩
def YA:cB Tryz.f74:=⟨_,by conv=>lhs;reduce;simp only [cy,simprocAttr]⟩
theorem N_:cn 74 36 Tryz.f74 YA.1 [.eB 2 5]:=⟨Tryz.func74,by kernel_rfl⟩
def Oa:cB Tryz.f75:=⟨_,by conv=>lhs;reduce;simp only [cy,simprocAttr]⟩
theorem YB:cn 75 14 Tryz.f75 Oa.1 []:=⟨Tryz.func75,by kernel_rfl⟩
def MR:cB Tryz.f118:=⟨_,by conv=>lhs;reduce;simp only [cy,simprocAttr]⟩
theorem W2:cn 118 30 Tryz.f118 MR.1 [.t 4]:=⟨Tryz.func118,by kernel_rfl⟩
def c119:cB Tryz.f119:=⟨_,by conv=>lhs;reduce;simp only [cy,simprocAttr]⟩
theorem W3:cn 119 9 Tryz.f119 c119.1 []:=⟨Tryz.func119,by kernel_rfl⟩
def G8:cB Tryz.f120:=⟨_,by conv=>lhs;reduce;simp only [cy,simprocAttr]⟩
theorem MS:cn 120 31 Tryz.f120 G8.1 [.eB 2 5]:=⟨Tryz.func120,by kernel_rfl⟩
def MT:cB Tryz.f121:=⟨_,by conv=>lhs;reduce;simp only [cy,simprocAttr]⟩
theorem W5:cn 121 21 Tryz.f121 MT.1 [.eB 2 5]:=⟨Tryz.func121,by kernel_rfl⟩
def MU:cB Tryz.f122:=⟨_,by conv=>lhs;reduce;simp only [cy,simprocAttr]⟩
theorem W6:cn 122 19 Tryz.f122 MU.1 [.t 2]:=⟨Tryz.func122,by kernel_rfl⟩
def MV:cB Tryz.f123:=⟨_,by conv=>lhs;reduce;simp only [cy,simprocAttr]⟩
theorem W7:cn 123 28 Tryz.f123 MV.1 [.eB 2 5]:=⟨Tryz.func123,by kernel_rfl⟩
def MW:cB Tryz.f124:=⟨_,by conv=>lhs;reduce;simp only [cy,simprocAttr]⟩
theorem W8:cn 124 9 Tryz.f124 MW.1 []:=⟨Tryz.func124,by kernel_rfl⟩
def MX:cB Tryz.f125:=⟨_,by conv=>lhs;reduce;simp only [cy,simprocAttr]⟩
theorem W9:cn 125 82 Tryz.f125 MX.1 [.eB 2 5]:=⟨Tryz.func125,by kernel_rfl⟩
def Xk:cB Tryz.f153:=⟨_,by conv=>lhs;reduce;simp only [cy,simprocAttr]⟩
theorem Xl:cn 153 30 Tryz.f153 Xk.1 [.eB 2 5]:=⟨Tryz.func153,by kernel_rfl⟩
def M_:cB Tryz.f154:=⟨_,by conv=>lhs;reduce;simp only [cy,simprocAttr]⟩
theorem Xm:cn 154 101 Tryz.f154 M_.1 [.eB 2 5]:=⟨Tryz.func154,by kernel_rfl⟩
def Na:cB Tryz.f155:=⟨_,by conv=>lhs;reduce;simp only [cy,simprocAttr]⟩
theorem Xn:cn 155 33 Tryz.f155 Na.1 [.t 2]:=⟨Tryz.func155,by kernel_rfl⟩
def Nb:cB Tryz.f156:=⟨_,by conv=>lhs;reduce;simp only [cy,simprocAttr]⟩
theorem Xo:cn 156 55 Tryz.f156 Nb.1 [.eB 2 5]:=⟨Tryz.func156,by kernel_rfl⟩
def G9:cB Tryz.f157:=⟨_,by conv=>lhs;reduce;simp only [cy,simprocAttr]⟩
theorem Xp:cn 157 72 Tryz.f157 G9.1 [.eB 4 5]:=⟨Tryz.func157,by kernel_rfl⟩
def Nd:cB Tryz.f158:=⟨_,by conv=>lhs;reduce;simp only [cy,simprocAttr]⟩
theorem Xq:cn 158 8 Tryz.f158 Nd.1 [.eB 2 5]:=⟨Tryz.func158,by kernel_rfl⟩
def Xr:cB Tryz.f159:=⟨_,by conv=>lhs;reduce;simp only [cy,simprocAttr]⟩
theorem Xs:cn 159 30 Tryz.f159 Xr.1 [.eB 2 5]:=⟨Tryz.func159,by kernel_rfl⟩
def Nj:cB Tryz.f188:=⟨_,by conv=>lhs;reduce;simp only [cy,simprocAttr]⟩
theorem Xx:cn 188 24 Tryz.f188 Nj.1 [.eB 2 5]:=⟨Tryz.func188,by kernel_rfl⟩
def Nk:cB Tryz.f189:=⟨_,by conv=>lhs;reduce;simp only [cy,simprocAttr]⟩
theorem Xy:cn 189 21 Tryz.f189 Nk.1 [.eB 4 5]:=⟨Tryz.func189,by kernel_rfl⟩
def Nl:cB Tryz.f190:=⟨_,by conv=>lhs;reduce;simp only [cy,simprocAttr]⟩
theorem Xz:cn 190 51 Tryz.f190 Nl.1 [.eB 2 5]:=⟨Tryz.func190,by kernel_rfl⟩
def G_:cB Tryz.f210:=⟨_,by conv=>lhs;reduce;simp only [cy,simprocAttr]⟩
theorem XF:cn 210 76 Tryz.f210 G_.1 [.eB 2 5]:=⟨Tryz.func210,by kernel_rfl⟩
def Nq:cB Tryz.f211:=⟨_,by conv=>lhs;reduce;simp only [cy,simprocAttr]⟩
theorem XG:cn 211 47 Tryz.f211 Nq.1 [.eB 2 5]:=⟨Tryz.func211,by kernel_rfl⟩
def Nt:cB Tryz.f225:=⟨_,by conv=>lhs;reduce;simp only [cy,simprocAttr]⟩
theorem XK:cn 225 51 Tryz.f225 Nt.1 [.eB 2 5]:=⟨Tryz.func225,by kernel_rfl⟩
def Nw:cB Tryz.f230:=⟨_,by conv=>lhs;reduce;simp only [cy,simprocAttr]⟩
theorem XO:cn 230 50 Tryz.f230 Nw.1 [.eB 2 5]:=⟨Tryz.func230,by kernel_rfl⟩
def Nz:cB Tryz.f233:=⟨_,by conv=>lhs;reduce;simp only [cy,simprocAttr]⟩
theorem XR:cn 233 62 Tryz.f233 Nz.1 [.eB 2 5]:=⟨Tryz.func233,by kernel_rfl⟩
def NA:cB Tryz.f234:=⟨_,by conv=>lhs;reduce;simp only [cy,simprocAttr]⟩
theorem XS:cn 234 93 Tryz.f234 NA.1 [.eB 2 5]:=⟨Tryz.func234,by kernel_rfl⟩
def NB:cB Tryz.f235:=⟨_,by conv=>lhs;reduce;simp only [cy,simprocAttr]⟩
theorem XT:cn 235 33 Tryz.f235 NB.1 [.t 2]:=⟨Tryz.func235,by kernel_rfl⟩
end
end
section
open Go ba
structure gG (W:List aq) (af ak:Nat) (h:ah) (aC:V) (i:Nat) (d aO bs:Int):Prop where
 at_:Has h ak [aC,.int .i64 i,.int .i64 af,.int .i64 d,.int .i64 aO,.int .i64 bs]
 c':hi h 4 aC W.length (gX W)
 ap:¬aC.bp (ao ak)
 le:i<=W.length
 nC:W.length<=1000000
 fh:∀w ∈ W,w.text.length<=100000
 num:∀w ∈ W,w.kind=1->-1073741824<=w.num/\w.num<=1073741823
section
variable {W:List aq} {af ak:Nat} {h ae:ah} {aC:V} {i:Nat} {d aO bs:Int}
theorem gG.ext (c:gG W af ak h aC i d aO bs) (e:Ext h ae):gG W af ak ae aC i d aO bs:=⟨c.at_.ext e,c.c'.mod (e.mod (fun _=>False)) (fun _ _ q=>q),c.ap,c.le,c.nC,c.fh,c.num⟩
theorem gG.put (c:gG W af ak h aC i d aO bs) {fV:Nat} (dF u4 u6:Int) (aJ:fV<=W.length):gG W af ak (h.set (ao ak) (.bd [aC,.int .i64 fV,.int .i64 af,.int .i64 dF,.int .i64 u4,.int .i64 u6] 0 false)) aC fV dF u4 u6:=
 ⟨c.at_.put _,c.c'.mod ((Mod.refl (b3 ak) h).set (fun _=>rfl) _) (fun b ai q=>c.ap (by rw [<-show b=ao ak from q];exact ai)),c.ap,aJ,c.nC,c.fh,c.num⟩
theorem gG.box (c:gG W af ak h aC i d aO bs) {H:ah} {fV:Nat} {dF u4 u6:Int} (eV:gG W af ak H aC fV dF u4 u6) {n:Nat} (aI:h.next<=n) (k:c_):gG W af ak (H.set (ao n) k) aC fV dF u4 u6:=
 ⟨eV.at_.set (by have:=c.at_.lt;omega) k,eV.c'.mod ((Mod.refl (fun b=>b=ao n) H).set (fun _=>rfl) k) (fun b ai q=>dj aI (by rw [<-show b=ao n from q];exact c.c'.cu ai)),eV.ap,eV.le,eV.nC,eV.fh,eV.num⟩
theorem gG.own (c:gG W af ak h aC i d aO bs) {H ki:ah} {M:aN->Prop} {fV:Nat} {dF u4 u6:Int} (eV:gG W af ak H aC fV dF u4 u6) (m:Mod M H ki) (fC:∀b,M b->h.next<=dP b):gG W af ak ki aC fV dF u4 u6:=
 ⟨eV.at_.mod m fun z=>by have:=fC _ z;rw [dh] at this;have:=c.at_.lt;omega,eV.c'.mod m fun b q z=>by have:=fC _ z;have:=c.c'.cu q;unfold Old at this;omega,eV.ap,eV.le,eV.nC,eV.fh,eV.num⟩
theorem gG.len (c:gG W af ak h aC i d aO bs):k' aC=some (.int .i64 W.length):=c.c'.len
theorem gG.word (c:gG W af ak h aC i d aO bs) {j:Nat} (cW:j<W.length):∃b o,j9 4 aC (.int .i64 j)=some (.ptr b o)/\gv (h.get b) o=some (.int .i64 W[j].kind)/\gv (h.get b) (o+1)=some (.int .i64 W[j].num)/\gv (h.get b) (o+2)=some (.int .i64 W[j].pos)/\gv (h.get b) (o+3)=some (.str W[j].text)/\
 rE 4 (h.get b) o=some (.agg W[j].enc):=by
 obtain ⟨b,off,an,av⟩:=c.c'.l5 (k:=.i64) cW;have aG:(gX W).length=W.length * 4:=Lj W;have cell:∀k,k<4->gv (h.get b) (off+j * 4+k)=(W[j].enc)[k]? :=fun k aD=>av.cell (F6 cW) (by omega) aD;refine ⟨b,off+j * 4,an,cell 0 (by omega),cell 1 (by omega),cell 2 (by omega),cell 3 (by omega),?_⟩;have:=av.k9 (i:=j * 4) (n:=4) (by omega);rw [this,F6 cW]
theorem wG (aJ:i<W.length):W.drop i=W[i]::W.drop (i+1):=apa aJ
theorem yN (aJ:¬i<W.length):W.drop i=[]:=ao_ (by omega)
theorem G0 (C:gG W af ak h aC i d aO bs):e5 Tryz.prog 27 [.ptr (ao ak) 0] h (.bool (decide (aO≠0))) h:=by refine je (XZ.z rfl (cm ?_));unfold NG;simp only [C.at_.g,↓aa,ab,simprocAttr];simp
theorem Et (C:gG W af ak h aC i d aO bs):e5 Tryz.prog 66 [.ptr (ao ak) 0] h (.int .i64 (bI af (W.drop i))) h:=by
 refine je (Ys.z rfl (cm ?_));unfold N2;by_cases aJ:i<W.length
 . obtain ⟨b,o,an,av,aB,bt,ca,cx⟩:=C.word aJ;have f0:((i:Int) < (W.length:Int))=True:=aoU (by omega);rw [wG aJ];simp only [C.at_.g,C.len,f0,an,bt,↓aa,ab,simprocAttr];rfl
 . have f0:((i:Int) < (W.length:Int))=False:=aoV (by omega);rw [yN aJ];simp only [C.at_.g,C.len,f0,↓aa,ab,simprocAttr];rfl
theorem Ch (C:gG W af ak h aC i d aO bs) (k:Int):e5 Tryz.prog 118 [.ptr (ao ak) 0,.int .i64 k] h (.bool (cS k (W.drop i))) h:=by
 refine je (W2.z rfl (cm ?_));unfold MR;by_cases aJ:i<W.length
 . obtain ⟨b,o,an,av,aB,bt,ca,cx⟩:=C.word aJ;have f0:((i:Int) < (W.length:Int))=True:=aoU (by omega);rw [wG aJ];simp only [C.at_.g,C.len,f0,an,av,apO,↓aa,ab,simprocAttr];rfl
 . have f0:((i:Int) < (W.length:Int))=False:=aoV (by omega);rw [yN aJ];simp only [C.at_.g,C.len,f0,↓aa,ab,simprocAttr];rfl
theorem Jp (C:gG W af ak h aC i d aO bs) (s:List UInt8):e5 Tryz.prog 67 [.ptr (ao ak) 0,.str s] h (.bool (bm s (W.drop i))) h:=by
 refine je (Yt.z rfl (cm ?_));unfold N3;simp only [↓aa,ab,simprocAttr];refine bQ (Ch C 7) ?_;by_cases aJ:i<W.length
 . obtain ⟨b,o,an,av,aB,bt,ca,cx⟩:=C.word aJ;rw [wG aJ];by_cases jK:W[i].kind=7
   . have dR:cS 7 (W[i]::W.drop (i+1))=true:=by simp [cS,jK]
     have es:bm s (W[i]::W.drop (i+1))=decide (W[i].text=s):=by simp [bm,jK]
     simp only [dR,↓aa,ab,simprocAttr];simp only [C.at_.g,C.len,an,ca,es,↓aa,ab,simprocAttr]
   . have dR:cS 7 (W[i]::W.drop (i+1))=false:=by simp [cS,jK]
     have bA:=Ch C 6;rw [wG aJ] at bA;simp only [dR,↓aa,ab,simprocAttr];refine bQ bA ?_;by_cases hR:W[i].kind=6
     . have e3:cS 6 (W[i]::W.drop (i+1))=true:=by simp [cS,hR]
       have es:bm s (W[i]::W.drop (i+1))=decide (W[i].text=s):=by simp [bm,hR]
       simp only [e3,↓aa,ab,simprocAttr];simp only [C.at_.g,C.len,an,ca,es,↓aa,ab,simprocAttr]
     . have e3:cS 6 (W[i]::W.drop (i+1))=false:=by simp [cS,hR]
       have es:bm s (W[i]::W.drop (i+1))=false:=by simp [bm,hR,jK]
       simp only [e3,↓aa,ab,simprocAttr];simp only [es]
 . have bA:=Ch C 6;rw [yN aJ] at bA ⊢;have jK:cS 7 []=false:=rfl;have hR:cS 6 []=false:=rfl;simp only [jK,↓aa,ab,simprocAttr];refine bQ bA ?_;simp only [hR,↓aa,ab,simprocAttr];rfl
theorem Bu (C:gG W af ak h aC i d aO bs) (k:Int):dY Tryz.prog 75 [.ptr (ao ak) 0,.int .i64 k] h fun x ae=>Mod (b3 ak) h ae/\(aO≠0->gG W af ak ae aC i d aO bs)/\(aO=0->gG W af ak ae aC i d k (bI af (W.drop i):Nat)):=by
 refine YB.z rfl (cm ?_);unfold Oa;simp only [↓aa,ab,simprocAttr];refine bQ (G0 C) ?_;by_cases he:aO=0
 . simp only [aoU he,not_true,decide_false,ne_eq,↓aa,ab,simprocAttr];refine bQ (Et C) ?_;simp only [C.at_.g,↓aa,ab,simprocAttr];exact ⟨(Mod.refl (b3 ak) h).set (fun _=>rfl) _,C.put d k _ C.le⟩
 . simp only [aoV he,not_false_eq_true,aqj,ne_eq,↓aa,ab,simprocAttr];exact ⟨Mod.refl _ _,C⟩
theorem Cc (C:gG W af ak h aC i d aO bs) (aJ:i<W.length):IntKind.i64.wrap ((i:Int)+1)=((i+1:Nat):Int):=uF aJ (by have:=C.nC;omega)
theorem FR {s:List UInt8} (al:bm s (W.drop i)=true):i<W.length:=by
 by_cases aJ:i<W.length
 . exact aJ
 . rw [yN aJ] at al;cases al
theorem agi {k:Int} (al:cS k (W.drop i)=true):i<W.length:=by
 by_cases aJ:i<W.length
 . exact aJ
 . rw [yN aJ] at al;cases al
theorem HB:(W.drop i).tail=W.drop (i+1):=by rw [List.tail_drop]
theorem O1 (C:gG W af ak h aC i d aO bs) (s:List UInt8):dY Tryz.prog 30 [.ptr (ao ak) 0,.str s] h fun x ae=>Mod (b3 ak) h ae/\(bm s (W.drop i)=true->i<W.length/\gG W af ak ae aC (i+1) d aO bs)/\
 (bm s (W.drop i)=false->(aO≠0->gG W af ak ae aC i d aO bs)/\(aO=0->gG W af ak ae aC i d 270 (bI af (W.drop i):Nat))):=by
 refine X2.z rfl (cm ?_);unfold NJ;simp only [↓aa,ab,simprocAttr];refine bQ (Jp C s) ?_;cases al:bm s (W.drop i) with
 | true=>
   have aJ:=FR al;simp only [C.at_.g,Cc C aJ,↓aa,ab,simprocAttr];exact ⟨(Mod.refl (b3 ak) h).set (fun _=>rfl) _,aJ,C.put d aO bs aJ⟩
 | false=>
   simp only [↓aa,ab,simprocAttr];refine aY (Bu C 270) ?_;rintro x ad ⟨m,a,b⟩;simp only [↓aa,ab,simprocAttr];exact ⟨m,a,b⟩
def iF (W:List aq) (k:Int) (w:aq):Prop:=(w ∈ W/\w.kind=k)\/w=⟨0,0,0,[]⟩
theorem Tl (C:gG W af ak h aC i d aO bs) (k:Int):dY Tryz.prog 69 [.ptr (ao ak) 0,.int .i64 k] h fun x ae=>Mod (b3 ak) h ae/\∃w,x=.agg w.enc/\iF W k w/\(cS k (W.drop i)=true->∃aJ:i<W.length,w=W[i]/\gG W af ak ae aC (i+1) d aO bs)/\
 (cS k (W.drop i)=false->(aO≠0->gG W af ak ae aC i d aO bs)/\(aO=0->gG W af ak ae aC i d 270 (bI af (W.drop i):Nat))):=by
 refine Yv.z rfl (cm ?_);unfold N5;obtain ⟨aM,mG,jX,yk⟩:=fS h [.int .i64 0,.int .i64 0,.int .i64 0,.str []];have nX:=C.ext jX;have d':ak≠h.next:=by have:=C.at_.lt;omega
 simp only [mG,↓aa,ab,simprocAttr];refine bQ (Ch nX k) ?_;cases aD:cS k (W.drop i) with
 | false=>
   simp only [↓aa,ab,simprocAttr];refine aY (Bu nX 270) ?_;rintro x ad ⟨m,a,b⟩;have bz:=yk.mod m (bU C.at_.lt);have fu:=bz.put [.int .i64 0,.int .i64 0,.int .i64 0,.str []];simp only [bz.g,fu.g,aX,↓aa,ab,simprocAttr];refine ⟨((jX.mod _).trans m).set (fun o=>absurd o (dj (aoz _))) _,⟨0,0,0,[]⟩,rfl,.inr rfl,fun q=>C.box (a q) (aoz _) _,fun q=>C.box (b q) (aoz _) _⟩
 | true=>
   have aJ:=agi aD;have ai:=C.nC;have aR:IntKind.i64.wrap (((i+1:Nat):Int)-1)=(i:Nat):=by rw [wrap_i64 (by omega) (by omega)];omega
   have cz:=nX.put d aO bs aJ;have bz:=yk.set d'.symm (.bd [aC,.int .i64 (i+1:Nat),.int .i64 af,.int .i64 d,.int .i64 aO,.int .i64 bs] 0 false);obtain ⟨b,o,an,av,aB,bt,ca,cx⟩:=cz.word aJ;simp only [nX.at_.g,Cc C aJ,↓aa,ab,simprocAttr];generalize pF:aM.set (ao ak) (.bd [aC,.int .i64 (i+1:Nat),.int .i64 af,.int .i64 d,.int .i64 aO,.int .i64 bs] 0 false)=H at cz bz av aB bt ca cx ⊢;have fu:=bz.put [.int .i64 W[i].kind,.int .i64 W[i].num,.int .i64 W[i].pos,.str W[i].text];simp only [cz.at_.g,bz.g,aR,an,cx,aq.enc,fu.g,aX,↓aa,ab,simprocAttr];rw [wG aJ] at aD;simp only [cS,aoO] at aD;refine ⟨?_,W[i],rfl,.inl ⟨apQ aJ,aD⟩,aJ,rfl,C.box cz (aoz _) _⟩;rw [<-pF];exact (((jX.mod (b3 ak)).set (b:=ao ak) (fun _=>rfl) _)).set (fun o=>absurd o (dj (aoz _))) _
end
def Br {α:Type}:bJ α->Bool
 | .ok _=>false
 | .error _=>true
def dz (W:List aq) (af ak:Nat) (h:ah) (aC:V) (r:bJ (List aq)) (d:Nat):Prop:=
 match r with
 | .ok ws=>∃i:Nat,gG W af ak h aC i d 0 0/\ws=W.drop i/\d<=1000
 | .error e=>0<e.1/\∃(i:Nat) (dF:Int),gG W af ak h aC i dF e.1 e.2
section
variable {α β γ:Type}
theorem fA {r:bJ α} {f:α->bJ β} {g:β->bJ γ} {res:bJ γ} (U:(r >>= fun x=>f x >>= g)=res) (a8:res≠.error b6):∀x,r=.ok x->f x≠.error b6:=by rintro x rfl q;apply a8;rw [<-U];show (f x >>= g)=_;rw [q];rfl
theorem e6 {r bq:bJ (List aq)} {f:List aq->bJ (α × List aq)} {g:α × List aq->bJ γ} {res:bJ γ} {p:α} (U:(r >>= fun x=>f x >>= g)=res) (E:(r >>= f)=bq.map (fun ws=>(p,ws))):(bq >>= fun ws=>g (p,ws))=res:=by
 rw [<-U];have:(r >>= fun x=>f x >>= g)=((r >>= f) >>= g):=by cases r<;>rfl
 rw [this,E];cases bq<;>rfl
theorem iW {r bq:bJ α} {f:α->bJ α} {g:α->bJ γ} {res:bJ γ} (U:(r >>= fun x=>f x >>= g)=res) (E:bq=(r >>= f)):(bq >>= g)=res:=by rw [<-U,E];cases r<;>rfl
theorem ji {r:bJ (List aq)} {P:α} {res:bJ (α × List aq)} (U:(r >>= fun ws=>.ok (P,ws))=res):res=r.map (fun ws=>(P,ws)):=by rw [<-U];cases r<;>rfl
theorem kY {e:Int × Nat} {f:α->bJ β} {res:bJ β} (U:(Except.error e >>= f)=res):res=.error e:=U.symm
theorem hk {x:α} {f:α->bJ β} {res:bJ β} (U:(Except.ok x >>= f)=res):f x=res:=U
end
section
variable {W:List aq} {af ak:Nat} {h ae:ah} {aC:V} {r:bJ (List aq)} {ws:List aq} {d:Nat}
theorem dz.ne {α:Type} {f1:List aq->bJ α} (C:dz W af ak h aC r d) (U:∀ws,r=.ok ws->f1 ws≠.error b6):(r >>= f1)≠.error b6:=by
 cases r with
 | ok ws=>exact U ws rfl
 | error e=>
   intro q;obtain ⟨mG,_⟩:=C;have:e=b6:=by cases q;rfl
   rw [this] at mG;exact absurd mG (by decide)
theorem dz.g (C:dz W af ak h aC r d):∃(i:Nat) (dF aO bs:Int),gG W af ak h aC i dF aO bs:=by
 cases r with
 | ok ws=>obtain ⟨i,G,_⟩:=C;exact ⟨i,_,_,_,G⟩
 | error e=>obtain ⟨_,i,dF,G⟩:=C;exact ⟨i,_,_,_,G⟩
theorem dz.lt (C:dz W af ak h aC r d):ak<h.next:=by obtain ⟨i,_,_,_,G⟩:=C.g;exact G.at_.lt
theorem dz.ext (C:dz W af ak h aC r d) (e:Ext h ae):dz W af ak ae aC r d:=by
 cases r with
 | ok ws=>obtain ⟨i,G,q⟩:=C;exact ⟨i,G.ext e,q⟩
 | error _=>obtain ⟨q,i,dF,G⟩:=C;exact ⟨q,i,dF,G.ext e⟩
theorem dz.box (C:dz W af ak h aC r d) {H:ah} {bq:bJ (List aq)} {dF:Nat} (fq:dz W af ak H aC bq dF) {n:Nat} (aI:h.next<=n) (k:c_):dz W af ak (H.set (ao n) k) aC bq dF:=by
 obtain ⟨i,_,_,_,G⟩:=C.g;cases bq with
 | ok ws=>obtain ⟨i,nw,q⟩:=fq;exact ⟨i,G.box nw aI k,q⟩
 | error e=>obtain ⟨q,i,dF,nw⟩:=fq;exact ⟨q,i,dF,G.box nw aI k⟩
theorem dz.own (C:dz W af ak h aC r d) {H ki:ah} {bq:bJ (List aq)} {dF:Nat} {M:aN->Prop} (fq:dz W af ak H aC bq dF) (m:Mod M H ki) (fC:∀b,M b->h.next<=dP b):dz W af ak ki aC bq dF:=by
 obtain ⟨i,_,_,_,G⟩:=C.g;cases bq with
 | ok ws=>obtain ⟨i,nw,q⟩:=fq;exact ⟨i,G.own nw m fC,q⟩
 | error e=>obtain ⟨q,i,dF,nw⟩:=fq;exact ⟨q,i,dF,G.own nw m fC⟩
theorem jG (C:dz W af ak h aC r d):e5 Tryz.prog 27 [.ptr (ao ak) 0] h (.bool (Br r)) h:=by
 cases r with
 | ok ws=>obtain ⟨i,G,_⟩:=C;exact G0 G
 | error e=>obtain ⟨q,i,dF,G⟩:=C;have:=G0 G;rw [decide_eq_true (show e.1≠0 by omega)] at this;exact this
theorem acB (C:dz W af ak h aC r d):∃a:Nat,e5 Tryz.prog 66 [.ptr (ao ak) 0] h (.int .i64 a) h/\∀ws,r=.ok ws->a=bI af ws:=by
 cases r with
 | ok ws=>obtain ⟨i,G,q,_⟩:=C;exact ⟨_,Et G,fun bS e=>by cases e;rw [q]⟩
 | error e=>obtain ⟨q,i,dF,G⟩:=C;exact ⟨_,Et G,fun bS e=>by cases e⟩
theorem sj (C:dz W af ak h aC (.ok ws) d):e5 Tryz.prog 66 [.ptr (ao ak) 0] h (.int .i64 (bI af ws)) h:=by obtain ⟨i,G,q,_⟩:=C;rw [q];exact Et G
theorem lB (C:dz W af ak h aC (.ok ws) d) (k:Int):e5 Tryz.prog 118 [.ptr (ao ak) 0,.int .i64 k] h (.bool (cS k ws)) h:=by obtain ⟨i,G,q,_⟩:=C;rw [q];exact Ch G k
theorem ff (C:dz W af ak h aC (.ok ws) d) (s:List UInt8):e5 Tryz.prog 67 [.ptr (ao ak) 0,.str s] h (.bool (bm s ws)) h:=by obtain ⟨i,G,q,_⟩:=C;rw [q];exact Jp G s
theorem JU {a:Nat}:0 < ((270:Int),a).1:=by simp
theorem RH {a:Nat}:0 < ((271:Int),a).1:=by simp
theorem iy (C:dz W af ak h aC r d) (s:List UInt8):dY Tryz.prog 30 [.ptr (ao ak) 0,.str s] h fun x ae=>Mod (b3 ak) h ae/\∃bq,bq=(r >>= eD af s)/\dz W af ak ae aC bq d:=by
 cases r with
 | ok ws=>
   obtain ⟨i,G,q,bk⟩:=C;refine (O1 G s).mono ?_;rintro x ae ⟨m,a,b⟩;refine ⟨m,eD af s ws,rfl,?_⟩;unfold eD;rw [q];cases al:bm s (W.drop i) with
   | true=>obtain ⟨aJ,nw⟩:=a al;exact ⟨i+1,nw,HB,bk⟩
   | false=>exact ⟨JU,i,d,(b al).2 rfl⟩
 | error e=>
   obtain ⟨q,i,dF,G⟩:=C;refine (O1 G s).mono ?_;rintro x ae ⟨m,a,b⟩;refine ⟨m,.error e,rfl,q,?_⟩;cases al:bm s (W.drop i) with
   | true=>exact ⟨_,_,(a al).2⟩
   | false=>exact ⟨_,_,(b al).1 (by omega)⟩
theorem x' (C:dz W af ak h aC r d) (k:Int):dY Tryz.prog 69 [.ptr (ao ak) 0,.int .i64 k] h fun x ae=>Mod (b3 ak) h ae/\∃w bq,(r >>= fc af k)=bq.map (fun ws=>(w,ws))/\x=.agg w.enc/\iF W k w/\dz W af ak ae aC bq d:=by
 cases r with
 | ok ws=>
   obtain ⟨i,G,q,bk⟩:=C;refine (Tl G k).mono ?_;rintro x ae ⟨m,w,rfl,hw,a,b⟩;cases al:cS k (W.drop i) with
   | true=>
     obtain ⟨aJ,rfl,nw⟩:=a al;refine ⟨m,_,.ok (W.drop (i+1)),?_,rfl,hw,i+1,nw,rfl,bk⟩;show fc af k ws=_;rw [q,wG aJ] at *;simp only [cS,aoO] at al;simp only [fc,aoN al];rfl
   | false=>
     refine ⟨m,w,.error (270,bI af (W.drop i)),?_,rfl,hw,JU,i,d,(b al).2 rfl⟩;show fc af k ws=_;rw [q];cases au:W.drop i with
     | nil=>rfl
     | cons v t=>rw [au] at al;simp only [cS,apC] at al;simp only [fc,aoI al];rfl
 | error e=>
   obtain ⟨q,i,dF,G⟩:=C;refine (Tl G k).mono ?_;rintro x ae ⟨m,w,rfl,hw,a,b⟩;refine ⟨m,w,.error e,rfl,rfl,hw,q,?_⟩;cases al:cS k (W.drop i) with
   | true=>obtain ⟨_,_,nw⟩:=a al;exact ⟨_,_,nw⟩
   | false=>exact ⟨_,_,(b al).1 (by omega)⟩
theorem iF.fh (C:dz W af ak h aC r d) {k:Int} {w:aq} (hw:iF W k w):w.text.length<=top:=by
 obtain ⟨i,_,_,_,G⟩:=C.g;rcases hw with hw | rfl
 . exact le_top (G.fh w hw.1)
 . exact aoQ _
theorem iF.ahC (C:dz W af ak h aC r d) {w:aq} (hw:iF W 1 w):-1073741824<=w.num/\w.num<=1073741823:=by
 obtain ⟨i,_,_,_,G⟩:=C.g;rcases hw with hw | rfl
 . exact G.num w hw.1 hw.2
 . exact ⟨by decide,by decide⟩
theorem Pd (C:dz W af ak h aC r d) {l:List aP} {dc:V} (aG:k' dc=some (.int .i64 l.length)):dY Tryz.prog 119 [.ptr (ao ak) 0,dc] h fun x ae=>Mod (b3 ak) h ae/\∃bq,bq=(r >>= fun ws=>jl af l ws >>= fun _=>.ok ws)/\dz W af ak ae aC bq d:=by
 refine W3.z rfl (cm ?_);unfold c119;by_cases vc:l.length=64
 . have f0:((l.length:Int)=64)=True:=aoU (by omega);simp only [aG,f0,↓aa,ab,simprocAttr];cases r with
   | ok ws=>
     obtain ⟨i,G,q,bk⟩:=C;refine aY (Bu G 270) ?_;rintro x ad ⟨m,a,b⟩;simp only [↓aa,ab,simprocAttr];refine ⟨m,.error (270,bI af (W.drop i)),?_,JU,i,d,b rfl⟩;show _=(jl af l ws >>= _);unfold jl;rw [aoN vc,q];rfl
   | error e=>
     obtain ⟨q,i,dF,G⟩:=C;refine aY (Bu G 270) ?_;rintro x ad ⟨m,a,b⟩;simp only [↓aa,ab,simprocAttr];exact ⟨m,.error e,rfl,q,i,dF,a (by omega)⟩
 . have f0:((l.length:Int)=64)=False:=aoV (by omega);simp only [aG,f0,↓aa,ab,simprocAttr];refine ⟨Mod.refl _ _,r,?_,C⟩;cases r with
   | ok ws=>show _=(jl af l ws >>= _);unfold jl;rw [aoI vc];rfl
   | error e=>rfl
def Um (W:List aq) (af ak:Nat) (h:ah) (aC:V) (r:bJ (List aq)) (d:Nat) (x:V) (ae:ah):Prop:=Mod (b3 ak) h ae/\((x=.bool true/\(∃ws,r=.ok ws/\d<1000/\dz W af ak ae aC (.ok ws) (d+1)))\/
 (x=.bool false/\∃e,dz W af ak ae aC (.error e) d/\∀f:List aq->bJ (aP × List aq),(r >>= fun ws=>j1 af d ws (f ws))=.error e))
theorem DX (C:dz W af ak h aC r d):dY Tryz.prog 122 [.ptr (ao ak) 0] h (Um W af ak h aC r d):=by
 refine W6.z rfl (cm ?_);unfold MU;simp only [↓aa,ab,simprocAttr];refine bQ (jG C) ?_;cases r with
 | error e=>
   have ai:Br (Except.error e:bJ (List aq))=true:=rfl;simp only [ai,↓aa,ab,simprocAttr];exact ⟨Mod.refl _ _,.inr ⟨rfl,e,C,fun _=>rfl⟩⟩
 | ok ws=>
   have ai:Br (Except.ok ws:bJ (List aq))=false:=rfl;obtain ⟨i,G,q,bk⟩:=C;by_cases si:d<1000
   . have f0:(1000<=(d:Int))=False:=aoV (by omega);have wd:IntKind.i64.wrap ((d:Int)+1)=((d+1:Nat):Int):=by rw [wrap_i64 (by omega) (by omega)];rfl
     simp only [ai,G.at_.g,f0,wd,↓aa,ab,simprocAttr];exact ⟨(Mod.refl (b3 ak) h).set (fun _=>rfl) _,.inl ⟨rfl,ws,rfl,si,i,G.put (d+1:Nat) 0 0 G.le,q,si⟩⟩
   . have f0:(1000<=(d:Int))=True:=aoU (by omega);simp only [ai,G.at_.g,f0,↓aa,ab,simprocAttr];refine aY (Bu G 271) ?_;rintro x ad ⟨m,a,b⟩;simp only [↓aa,ab,simprocAttr];refine ⟨m,.inr ⟨rfl,(271,bI af (W.drop i)),⟨RH,i,d,b rfl⟩,fun f=>?_⟩⟩;show j1 af d ws (f ws)=_;unfold j1;rw [aoN (by omega),q]
theorem vw (C:dz W af ak h aC r (d+1)):dY Tryz.prog 124 [.ptr (ao ak) 0] h fun x ae=>Mod (b3 ak) h ae/\dz W af ak ae aC r d:=by
 refine W8.z rfl (cm ?_);unfold MW;cases r with
 | ok ws=>
   obtain ⟨i,G,q,bk⟩:=C;have wd:IntKind.i64.wrap (((d+1:Nat):Int)-1)=(d:Int):=by rw [wrap_i64 (by omega) (by omega)];omega
   simp only [G.at_.g,wd,↓aa,ab,simprocAttr];exact ⟨(Mod.refl (b3 ak) h).set (fun _=>rfl) _,i,G.put d 0 0 G.le,q,by omega⟩
 | error e=>
   obtain ⟨q,i,dF,G⟩:=C;simp only [G.at_.g,↓aa,ab,simprocAttr];exact ⟨(Mod.refl (b3 ak) h).set (fun _=>rfl) _,q,i,_,G.put _ e.1 e.2 G.le⟩
theorem dz.iG (C:dz W af ak h aC (.ok ws) d) (hw:ws≠[]):∃(i:Nat) (ad:ah),Has h ak [aC,.int .i64 i,.int .i64 af,.int .i64 d,.int .i64 0,.int .i64 0]/\IntKind.i64.wrap ((i:Int)+1)=((i+1:Nat):Int)/\
 h.set (ao ak) (.bd [aC,.int .i64 (i+1:Nat),.int .i64 af,.int .i64 d,.int .i64 0,.int .i64 0] 0 false)=ad/\Mod (b3 ak) h ad/\dz W af ak ad aC (.ok ws.tail) d:=by
 obtain ⟨i,G,q,bk⟩:=C;have aJ:i<W.length:=by
  by_cases aJ:i<W.length
  . exact aJ
  . rw [yN aJ] at q;exact absurd q hw
 exact ⟨i,_,G.at_,Cc G aJ,rfl,(Mod.refl (b3 ak) h).set (fun _=>rfl) _,i+1,G.put d 0 0 aJ,by rw [q,HB],bk⟩
theorem dz.read (C:dz W af ak h aC (.ok ws) d) {s:List UInt8} (al:bm s ws=true):∃(i:Nat) (b:aN) (o:Nat) (ad:ah),(Has h ak [aC,.int .i64 i,.int .i64 af,.int .i64 d,.int .i64 0,.int .i64 0]/\j9 4 aC (.int .i64 i)=some (.ptr b o)/\gv (h.get b) (o+3)=some (.str s))/\IntKind.i64.wrap ((i:Int)+1)=((i+1:Nat):Int)/\
 h.set (ao ak) (.bd [aC,.int .i64 (i+1:Nat),.int .i64 af,.int .i64 d,.int .i64 0,.int .i64 0] 0 false)=ad/\Mod (b3 ak) h ad/\dz W af ak ad aC (.ok ws.tail) d:=by
 obtain ⟨i,G,q,bk⟩:=C;rw [q] at al;have aJ:=FR al;obtain ⟨b,o,an,av,aB,bt,ca,cx⟩:=G.word aJ;rw [wG aJ] at al;simp only [bm,aoE,aoO] at al;rw [al.2] at ca;exact ⟨i,b,o,_,⟨G.at_,an,ca⟩,Cc G aJ,rfl,(Mod.refl (b3 ak) h).set (fun _=>rfl) _,i+1,G.put d 0 0 aJ,by rw [q,HB],bk⟩
theorem gP {s:List UInt8} (al:bm s ws=true):ws≠[]:=by rintro rfl;cases al
theorem agj {k:Int} (al:cS k ws=true):ws≠[]:=by rintro rfl;cases al
end
theorem gf {F:aN->Prop} {h:ah} (k:Int) (a:Int) (s:List UInt8) {l:List aP} {dc:V} (L:e_ F h 5 (l.map aP.enc) dc):dY Tryz.prog 72 [.int .i64 k,.int .i64 a,.str s,dc] h fun x ae=>x=.agg (vcs (.mk k 0 a s l) dc)/\Ext h ae:=by refine Yy.z rfl (cm ?_);unfold N9;have ol:=L.one;obtain ⟨ad,an,aO,bz⟩:=fS h b8;have fu:=bz.put [.int .i64 k,.int .i64 0,.int .i64 a,.str s,dc];simp only [an,ol.1,ol.2.1,ol.2.2,bz.g,fu.g,aX,vcs,bR,↓aa,ab,simprocAttr];exact aO.set (aoz _) _
abbrev nZ (aM:ah) (b7:List (Nat × List V)):aN->Prop:=fun b=>aM.next<=dP b/\∀x ∈ b7,b≠ao x.1
structure cE (W:List aq) (af ak:Nat) (aM h:ah) (aC:V) (r:bJ (List aq)) (d:Nat) (b7:List (Nat × List V)) (bK:List (aP × V)):Prop where
 Z:∃r d,dz W af ak aM aC r d
 C:dz W af ak h aC r d
 M:Mod (b3 ak) aM h
 B:∀x ∈ b7,aM.next<=x.1/\Has h x.1 x.2
 D:(b7.map Prod.fst).Nodup
 P:∀x ∈ bK,dt (nZ aM b7) h x.1 x.2
section
variable {W:List aq} {af ak:Nat} {aM h ae:ah} {aC:V} {r bq:bJ (List aq)} {d dF:Nat} {b7:List (Nat × List V)} {bK:List (aP × V)} {x y:Nat × List V} {n m k:Nat} {l eC:List V} {p q t:aP} {v w u:V}
theorem cE.start (C:dz W af ak h aC r d):cE W af ak h h aC r d [] []:=⟨⟨_,_,C⟩,C,Mod.refl _ _,(fun x au=>by cases au),List.nodup_nil,(fun x au=>by cases au)⟩
theorem cE.Ox (F:cE W af ak aM h aC r d b7 bK):ak<aM.next:=by obtain ⟨_,_,C⟩:=F.Z;exact C.lt
theorem cE.call (F:cE W af ak aM h aC r d b7 bK) (m:Mod (b3 ak) h ae) (fq:dz W af ak ae aC bq dF):cE W af ak aM ae aC bq dF b7 bK:=
 ⟨F.Z,fq,F.M.trans m,fun x au=>⟨(F.B x au).1,(F.B x au).2.mod m (bU (apP F.Ox (F.B x au).1))⟩,F.D,fun x au=>⟨(F.P x au).c'.mod m fun b q _=>⟨fun z=>by have:=q.1;rw [show b=ao ak from z,dh] at this;have:=F.Ox;omega,q⟩,(F.P x au).str⟩⟩
theorem cE.ext (F:cE W af ak aM h aC r d b7 bK) (e:Ext h ae):cE W af ak aM ae aC r d b7 bK:=F.call (e.mod _) (F.C.ext e)
theorem cE.fresh (F:cE W af ak aM h aC r d b7 bK) {b:aN} (ai:h.next<=dP b):nZ aM b7 b:=⟨aoF F.M.next ai,fun x au z=>by have:=(F.B x au).2.lt;rw [z,dh] at ai;omega⟩
theorem cE.eN (F:cE W af ak aM h aC r d b7 bK) (m:Mod (b3 ak) h ae) (fq:dz W af ak ae aC bq dF) (A:dt (Fr h.next) ae p v):cE W af ak aM ae aC bq dF b7 ((p,v)::bK):=by
 have G:=F.call m fq;refine ⟨G.Z,G.C,G.M,G.B,G.D,fun x au=>?_⟩;rcases ao7.1 au with rfl | au
 . exact A.eU fun b q=>F.fresh q
 . exact G.P x au
theorem cE.AS (F:cE W af ak aM h aC r d b7 bK) (A:dt (nZ aM b7) h p v):cE W af ak aM h aC r d b7 ((p,v)::bK):=⟨F.Z,F.C,F.M,F.B,F.D,fun x au=>by
 rcases ao7.1 au with rfl | au
 . exact A
 . exact F.P x au⟩
theorem cE.box (F:cE W af ak aM h aC r d b7 bK) (e:Ext h ae) (A:Has ae h.next l):cE W af ak aM ae aC r d ((h.next,l)::b7) bK:=by
 have G:=F.ext e;refine ⟨G.Z,G.C,G.M,fun x au=>?_,?_,fun x au=>?_⟩
 . rcases ao7.1 au with rfl | au
   . exact ⟨F.M.next,A⟩
   . exact G.B x au
 . rw [ap9,List.nodup_cons];refine ⟨fun hm=>?_,F.D⟩;obtain ⟨x,au,e⟩:=aqm.1 hm;have:=(F.B x au).2.lt;simp only at e;omega
 . refine ((F.P x au).cu.ext e).eU fun b q=>⟨q.1.1,fun y bl=>?_⟩;rcases ao7.1 bl with rfl | bl
   . exact fun z=>dj (aoz _) (by rw [<-show b=ao h.next from z];exact q.2)
   . exact q.1.2 y bl
theorem cE.new (F:cE W af ak aM h aC r d b7 bK) (z:List V):∃g,h.new (.bd z 0 false)=g/\cE W af ak aM g aC r d ((h.next,z)::b7) bK:=by obtain ⟨g,q,e,A⟩:=fS h z;exact ⟨g,q,F.box e A⟩
theorem cE.a' (F:cE W af ak aM h aC r d ((n,l)::b7) bK):Has h n l:=(F.B _ (.head _)).2
theorem cE.bT (F:cE W af ak aM h aC r d (x::(n,l)::b7) bK):Has h n l:=(F.B _ (.tail _ (.head _))).2
theorem cE.c2 (F:cE W af ak aM h aC r d (x::y::(n,l)::b7) bK):Has h n l:=(F.B _ (.tail _ (.tail _ (.head _)))).2
theorem cE.h9 {z:Nat × List V} (F:cE W af ak aM h aC r d (x::y::z::(n,l)::b7) bK):Has h n l:=(F.B _ (.tail _ (.tail _ (.tail _ (.head _))))).2
theorem cE.bg (F:cE W af ak aM h aC r d b7 ((p,v)::bK)):dt (nZ aM b7) h p v:=F.P _ (.head _)
theorem cE.cg {x:aP × V} (F:cE W af ak aM h aC r d b7 (x::(p,v)::bK)):dt (nZ aM b7) h p v:=F.P _ (.tail _ (.head _))
theorem cE.cY {x y:aP × V} (F:cE W af ak aM h aC r d b7 (x::y::(p,v)::bK)):dt (nZ aM b7) h p v:=F.P _ (.tail _ (.tail _ (.head _)))
theorem cE.du (F:cE W af ak aM h aC r d ((n,l)::b7) bK) (eC:List V):cE W af ak aM (h.set (ao n) (.bd eC 0 false)) aC r d ((n,eC)::b7) bK:=by
 have bk:=F.D;rw [ap9,List.nodup_cons] at bk;have d':∀y ∈ b7,y.1≠n:=fun y bl e=>bk.1 (aqm.2 ⟨y,bl,e⟩);obtain ⟨_,_,nX⟩:=F.Z;have aI:=(F.B _ (.head _)).1;simp only at aI;refine ⟨F.Z,nX.box F.C aI _,F.M.set (fun o=>absurd o (dj aI)) _,fun y bl=>?_,F.D,fun y bl=>((F.P y bl).set (fun q=>q.2 _ (.head _) rfl) _).eU fun b q=>⟨q.1,fun z bN=>?_⟩⟩
 . rcases ao7.1 bl with rfl | bl
   . exact ⟨aI,F.a'.put eC⟩
   . have:=F.B y (.tail _ bl);exact ⟨this.1,this.2.set (d' y bl) _⟩
 . rcases ao7.1 bN with rfl | bN
   . exact q.2 (n,l) (.head _)
   . exact q.2 z (.tail _ bN)
theorem cE.swap (F:cE W af ak aM h aC r d (x::y::b7) bK):cE W af ak aM h aC r d (y::x::b7) bK:=by
 have al:∀z:Nat × List V,z ∈ y::x::b7↔z ∈ x::y::b7:=fun z=>by simp only [ao7];exact ⟨fun q=>by rcases q with q | q | q<;>simp [q],fun q=>by rcases q with q | q | q<;>simp [q]⟩
 refine ⟨F.Z,F.C,F.M,fun z bN=>F.B z ((al z).1 bN),?_,fun z bN=>(F.P z bN).eU fun b q=>⟨q.1,fun a b5=>q.2 a ((al a).1 b5)⟩⟩;have:=F.D;simp only [ap9,List.nodup_cons,ao7,not_or] at this ⊢;exact ⟨⟨fun e=>this.1.1 e.symm,this.2.1⟩,this.1.2,this.2.2⟩
theorem cE.drop (F:cE W af ak aM h aC r d (x::b7) bK):cE W af ak aM h aC r d b7 bK:=
 ⟨F.Z,F.C,F.M,fun z bN=>F.B z (.tail _ bN),by have:=F.D;rw [ap9,List.nodup_cons] at this;exact this.2,fun z bN=>(F.P z bN).eU fun b q=>⟨q.1,fun a b5=>q.2 a (.tail _ b5)⟩⟩
theorem cE.vK (F:cE W af ak aM h aC r d (x::(n,l)::b7) bK) (eC:List V):cE W af ak aM (h.set (ao n) (.bd eC 0 false)) aC r d (x::(n,eC)::b7) bK:=(F.swap.du eC).swap
theorem cE.only {x:aP × V} (F:cE W af ak aM h aC r d b7 (x::bK)):cE W af ak aM h aC r d b7 [x]:=⟨F.Z,F.C,F.M,F.B,F.D,fun z bN=>F.P z (by rw [apz] at bN;subst bN;exact .head _)⟩
theorem cE.st (F:cE W af ak aM h aC r d b7 bK) (z l:List V):∃g,(h.new (.bd z 0 false)).set (ao h.next) (.bd l 0 false)=g/\cE W af ak aM g aC r d ((h.next,l)::b7) bK:=by obtain ⟨g,q,e,A⟩:=fz h z l;exact ⟨g,q,F.box e A⟩
theorem cE.CI (F:cE W af ak aM h aC r d b7 ((p,v)::bK)):v.one=true/\v.cells=[v]/\v.hO=true:=F.bg.one
theorem cE.leaf (F:cE W af ak aM h aC r d b7 bK) (k n a:Int) {s:List UInt8} (al:s.length<=top):cE W af ak aM h aC r d b7 ((.mk k n a s [],.cL)::bK):=F.AS (iR _ _ _ _ _ al)
theorem cE.vx (F:cE W af ak aM h aC r d b7 bK) (A:dt (nZ aM b7) h p v) (k a:Int) {s:List UInt8} (al:s.length<=top):∃g,h.new (.bd (vcs p v) 0 false)=g/\Ext h g/\cE W af ak aM g aC r d b7 ((.mk k 0 a s [p],.slice (ao h.next) 0 1 1)::bK):=by obtain ⟨g,q,e,L⟩:=sC (F:=nZ aM b7) (h:=h) (size:=5) rfl A.cs (F.fresh (by rw [dh];exact aoz _));exact ⟨g,q,e,(F.ext e).AS (oy k 0 a s L rfl al)⟩
theorem cE.qD (F:cE W af ak aM h aC r d b7 bK) (A:dt (nZ aM b7) h p v) (sV:dt (nZ aM b7) h q w) (k a:Int) {s:List UInt8} (al:s.length<=top):∃g,h.new (.bd (vcs p v++vcs q w) 0 false)=g/\Ext h g/\cE W af ak aM g aC r d b7 ((.mk k 0 a s [p,q],.slice (ao h.next) 0 2 2)::bK):=by obtain ⟨g,q,e,L⟩:=xx (F:=nZ aM b7) (h:=h) (size:=5) rfl rfl A.cs sV.cs (F.fresh (by rw [dh];exact aoz _));exact ⟨g,q,e,(F.ext e).AS (oy k 0 a s L rfl al)⟩
theorem cE.Rh (F:cE W af ak aM h aC r d b7 bK) (A:dt (nZ aM b7) h p v) (sV:dt (nZ aM b7) h q w) (Uf:dt (nZ aM b7) h t u) (k a:Int) {s:List UInt8} (al:s.length<=top):∃g,h.new (.bd (vcs p v++(vcs q w++vcs t u)) 0 false)=g/\Ext h g/\cE W af ak aM g aC r d b7 ((.mk k 0 a s [p,q,t],.slice (ao h.next) 0 3 3)::bK):=by obtain ⟨g,q,e,L⟩:=JD (F:=nZ aM b7) (h:=h) (size:=5) rfl rfl rfl A.cs sV.cs Uf.cs (F.fresh (by rw [dh];exact aoz _));exact ⟨g,q,e,(F.ext e).AS (oy k 0 a s L rfl al)⟩
def Out (W:List aq) (af ak:Nat) (h:ah) (aC:V) (d:Nat) (res:bJ (aP × List aq)) (x:V) (ae:ah):Prop:=∃p v bq,res=bq.map (fun ws=>(p,ws))/\x=.agg (vcs p v)/\dt (Fr h.next) ae p v/\Mod (b3 ak) h ae/\dz W af ak ae aC bq d
theorem cE.fin {res:bJ (aP × List aq)} (F:cE W af ak aM h aC r d b7 ((p,v)::bK)) (U:res=r.map fun ws=>(p,ws)):Out W af ak aM aC d res (.agg (vcs p v)) h:=⟨p,v,r,U,rfl,F.bg.eU fun b q=>q.1,F.M,F.C⟩
end
def e2 (W:List aq) (af ak f:Nat) (args:List V) (d:Nat) (f1:List aq->bJ (aP × List aq)) (r:bJ (List aq)):Prop:=
 ∀h aC,dz W af ak h aC r d->(∀ws,r=.ok ws->f1 ws≠.error b6)->dY Tryz.prog f (.ptr (ao ak) 0::args) h (Out W af ak h aC d (r >>= f1))
theorem ll {W:List aq} {af ak f:Nat} {args:List V} {d:Nat} {f1:List aq->bJ (aP × List aq)} {r:bJ (List aq)} (H:∀h aC res,dz W af ak h aC r d->(r >>= f1)=res->res≠.error b6->dY Tryz.prog f (.ptr (ao ak) 0::args) h (Out W af ak h aC d res)):e2 W af ak f args d f1 r:=
 fun h aC C U=>H h aC _ C rfl (C.ne U)
theorem kl (e:Int × Nat) {α:Type}:Br (Except.error e:bJ α)=true:=rfl
theorem j2 {α:Type} (x:α):Br (Except.ok x:bJ α)=false:=rfl
theorem aep {W:List aq} {af ak:Nat} {h:ah} {aC:V} {r:bJ (List aq)} {d:Nat} (C:dz W af ak h aC r d) (s:List UInt8):∃(b:Bool) (bV:bJ (List aq)) (ad:ah) (i:Nat) (dF aO bs:Int),e5 Tryz.prog 67 [.ptr (ao ak) 0,.str s] h (.bool b) h/\
 (∀(F K:List aq->bJ (aP × List aq)),(r >>= fun ws=>if bm s ws=true then F ws.tail else K ws)=if b=true then (bV >>= F) else (r >>= K))/\
 (b=true->Has h ak [aC,.int .i64 i,.int .i64 af,.int .i64 dF,.int .i64 aO,.int .i64 bs]/\IntKind.i64.wrap ((i:Int)+1)=((i+1:Nat):Int)/\h.set (ao ak) (.bd [aC,.int .i64 (i+1:Nat),.int .i64 af,.int .i64 dF,.int .i64 aO,.int .i64 bs] 0 false)=ad/\Mod (b3 ak) h ad/\dz W af ak ad aC bV d):=by
 cases r with
 | ok ws=>
   by_cases al:bm s ws=true
   . obtain ⟨i,ad,A,kS,q,m,cz⟩:=C.iG (gP al);have k:=ff C s;rw [al] at k;exact ⟨true,.ok ws.tail,ad,i,_,_,_,k,fun F K=>aoN al,fun _=>⟨A,kS,q,m,cz⟩⟩
   . have k:=ff C s;rw [Bool.eq_false_iff.2 al] at k;exact ⟨false,.ok ws,h,0,0,0,0,k,fun F K=>aoI al,fun q=>by cases q⟩
 | error e=>
   obtain ⟨q,i,dF,G⟩:=C;refine ⟨bm s (W.drop i),.error e,_,i,dF,e.1,e.2,Jp G s,fun F K=>?_,fun al=>⟨G.at_,Cc G (FR al),rfl,(Mod.refl (b3 ak) h).set (fun _=>rfl) _,q,_,_,G.put dF e.1 e.2 (FR al)⟩⟩;cases bm s (W.drop i)<;>rfl
section
variable {W:List aq} {af ak n d:Nat} {ws:List aq} {r:bJ (List aq)}
def qj (f1 f2:Nat) (s:List UInt8) (k:Int):cb:=
 cb.seq (cb.cA [⟨(some 2),.new [(.int .i64 0),(.int .i64 0),(.int .i64 0),(.str []),.cL],none,[]⟩])
 (cb.seq (cb.cA [⟨(some 5),.gM (.t 0),none,[0]⟩,
   ⟨(some 6),.call f1 [(.t 5)],none,[5]⟩,
   ⟨(some 3),.new [(.int .i64 0),(.int .i64 0),(.int .i64 0),(.str []),.cL],none,[]⟩,
   ⟨none,.st 5 (.t 3) (.t 6),none,[3,6]⟩])
 (cb.seq (cb.seq (cb.cA [⟨(some 7),.gM (.t 0),none,[0]⟩,
   ⟨(some 8),.call 27 [(.t 7)],none,[7]⟩,
   ⟨(some 9),.un .not (.t 8),none,[8]⟩,
   ⟨(some 10),.gM (.t 9),none,[9]⟩,
   ⟨(some 11),.gM (.t 0),(some (10,true)),[0,10]⟩,
   ⟨(some 12),.call 67 [(.t 11),(.c (.str s))],(some (10,true)),[11,10]⟩,
   ⟨(some 13),.pick (.t 10) (.t 12) (.c (.bool false)),none,[10,12]⟩])
  (cb.cond (.t 13)
   (cb.seq (cb.cA [⟨(some 14),.gM (.t 0),none,[0]⟩,
     ⟨(some 15),.qG (.t 14),none,[14]⟩,
     ⟨(some 16),.iI 1 (.t 15),none,[15]⟩,
     ⟨(some 17),.kJ (.t 16),none,[16]⟩,
     ⟨(some 18),.bin (.int .add) (.t 17) (.c (.int .i64 1)),none,[17]⟩,
     ⟨(some 19),.qG (.t 14),none,[14]⟩,
     ⟨(some 20),.iI 1 (.t 19),none,[19]⟩,
     ⟨none,.st 1 (.t 20) (.t 18),none,[20,18]⟩])
    (cb.seq (cb.cA [⟨(some 21),.gM (.t 0),none,[0]⟩,
      ⟨(some 22),.call f2 [(.t 21)],none,[21]⟩,
      ⟨(some 4),.new [(.int .i64 0),(.int .i64 0),(.int .i64 0),(.str []),.cL],none,[]⟩,
      ⟨none,.st 5 (.t 4) (.t 22),none,[4,22]⟩])
    (cb.seq (cb.cA [⟨(some 23),.iI 2 (.t 3),none,[3]⟩,
      ⟨(some 24),.kJ (.t 23),none,[23]⟩,
      ⟨(some 25),.k9 5 (.t 3),none,[3]⟩,
      ⟨(some 26),.k9 5 (.t 4),none,[4]⟩,
      ⟨(some 27),.td 2 5 [(.int .i64 0),(.int .i64 0),(.int .i64 0),(.str []),.cL] [(0,5,(.t 25)),(5,5,(.t 26))],none,[25,26]⟩,
      ⟨(some 28),.call 72 [(.c (.int .i64 k)),(.t 24),(.c (.str [])),(.t 27)],none,[24,27]⟩,
      ⟨none,.st 5 (.t 2) (.t 28),none,[2,28]⟩])
    (cb.ret))))
   (cb.skip)))
 (cb.seq (cb.cA [⟨(some 29),.k9 5 (.t 3),none,[3]⟩,
   ⟨none,.st 5 (.t 2) (.t 29),none,[2,29]⟩])
 (cb.ret))))
theorem Mo {f f1 f2:Nat} {fn:Func} {s:List UInt8} {k:Int} {q2 sX G:List aq->bJ (aP × List aq)} (bN:cn f 30 fn (qj f1 f2 s k) [.eB 2 5]) (e1:(f1=4294967296)=False) (fH:(f2=4294967296)=False) (H1:e2 W af ak f1 [] d q2 (.ok ws)) (eY:∀ws,e2 W af ak f2 [] d sX (.ok ws))
 (n_:G ws=(q2 ws >>= fun q=>if bm s q.2=true then sX q.2.tail >>= fun z=>.ok (two k q.1 z.1,z.2) else .ok (q.1,q.2))):e2 W af ak f [] d G (.ok ws):=by
 refine ll fun h aC res C U a8=>bN.z rfl (cm ?_);replace U:G ws=res:=U;rw [n_] at U;unfold qj;have ee:=cE.start C;obtain ⟨ad,an,b2⟩:=ee.new b8;simp only [an,e1,fH,aoK,↓aa,ab,simprocAttr];refine aY (H1 ad aC b2.C (fA (r:=(.ok ws)) U a8)) ?_;rintro x ag ⟨a,b4,bc,bY,rfl,gI,m2,bx⟩;replace U:=e6 (r:=(.ok ws)) U bY
 try dsimp only at U
 have bM:=b2.eN m2 bx gI;have dN:=bM.bg.one;obtain ⟨ar,aB,bj⟩:=bM.st b8 (vcs a b4);simp only [dN.1,dN.2.1,dN.2.2,aB,e1,fH,aoK,↓aa,ab,simprocAttr];refine bQ (jG bj.C) ?_;cases bc with
 | error e=>
   replace U:=kY U;have o:=bj.bg.one;have bb:=bj.drop.du (vcs a b4);simp only [bb.a'.g,o.1,o.2.1,o.2.2,aX,vcs,bR,kl,bj.a'.g,bj.bT.g,e1,fH,aoK,↓aa,ab,simprocAttr];exact bb.fin U
 | ok dd=>
   replace U:=hk U
   try dsimp only at U
   simp only [j2,e1,fH,aoK,↓aa,ab,simprocAttr];refine bQ (ff bj.C s) ?_;cases b_:bm s dd with
   | true=>
     simp only [b_,aoM] at U;obtain ⟨i4,aT,eL,p5,bt,m4,ch⟩:=bj.C.iG (gP b_);have a6:=bj.call m4 ch;simp only [eL.g,p5,bt,e1,fH,aoK,↓aa,ab,simprocAttr];refine aY (eY _ aT aC a6.C (fA (r:=(.ok dd.tail)) U a8)) ?_;rintro x bE ⟨b,eK,b1,eW,rfl,jZ,m5,bW⟩;replace U:=e6 (r:=(.ok dd.tail)) U eW
     try dsimp only at U
     have bO:=a6.eN m5 bW jZ;have fm:=bO.bg.one;obtain ⟨bA,cx,cj⟩:=bO.st b8 (vcs b eK);have e':=cj.cg.one;have l9:=cj.bg.one;obtain ⟨cl,dq,dR,cV⟩:=cj.qD cj.cg cj.bg k a.a (s:=[]) (aoQ _);simp only [vcs,aoW,ao5] at dq;simp only [fm.1,fm.2.1,fm.2.2,cx,cj.bT.g,cj.a'.g,e'.1,e'.2.1,e'.2.2,l9.1,l9.2.1,l9.2.2,dq,e1,fH,aoK,↓aa,ab,simprocAttr];refine aY (gf k a.a [] cV.bg.c') ?_;rintro x er ⟨rfl,f'⟩;have dK:=cV.ext f';have o:=dK.bg.one;have bb:=dK.drop.drop.du (vcs (aP.mk k 0 a.a [] [a,b]) (.slice (ao bA.next) 0 2 2));simp only [bb.a'.g,o.1,o.2.1,o.2.2,aX,vcs,bR,dK.a'.g,dK.bT.g,dK.c2.g,e1,fH,aoK,↓aa,ab,simprocAttr];exact bb.fin (ji U)
   | false=>
     simp only [b_,aoA,aoK] at U;have o:=bj.bg.one;have bb:=bj.drop.du (vcs a b4);simp only [bb.a'.g,o.1,o.2.1,o.2.2,aX,vcs,bR,bj.a'.g,bj.bT.g,e1,fH,aoK,↓aa,ab,simprocAttr];exact bb.fin U.symm
def O4 (f1 f2:Nat) (s:List UInt8) (k:Int):cb:=
 cb.seq (cb.cA [⟨(some 2),.new [(.int .i64 0),(.int .i64 0),(.int .i64 0),(.str []),.cL],none,[]⟩])
 (cb.seq (cb.seq (cb.cA [⟨(some 5),.gM (.t 0),none,[0]⟩,
   ⟨(some 6),.call 122 [(.t 5)],none,[5]⟩,
   ⟨(some 7),.un .not (.t 6),none,[6]⟩])
  (cb.cond (.t 7)
   (cb.seq (cb.cA [⟨(some 8),.build [(.int .i64 0),(.int .i64 0),(.int .i64 0),(.str []),.cL] [],none,[]⟩,
     ⟨none,.st 5 (.t 2) (.t 8),none,[2,8]⟩])
    (cb.ret))
   (cb.skip)))
 (cb.seq (cb.cA [⟨(some 9),.gM (.t 0),none,[0]⟩,
   ⟨(some 10),.call f1 [(.t 9)],none,[9]⟩,
   ⟨(some 3),.new [(.int .i64 0),(.int .i64 0),(.int .i64 0),(.str []),.cL],none,[]⟩,
   ⟨none,.st 5 (.t 3) (.t 10),none,[3,10]⟩])
 (cb.seq (cb.seq (cb.cA [⟨(some 11),.gM (.t 0),none,[0]⟩,
   ⟨(some 12),.call 27 [(.t 11)],none,[11]⟩,
   ⟨(some 13),.un .not (.t 12),none,[12]⟩,
   ⟨(some 14),.gM (.t 13),none,[13]⟩,
   ⟨(some 15),.gM (.t 0),(some (14,true)),[0,14]⟩,
   ⟨(some 16),.call 67 [(.t 15),(.c (.str s))],(some (14,true)),[15,14]⟩,
   ⟨(some 17),.pick (.t 14) (.t 16) (.c (.bool false)),none,[14,16]⟩])
  (cb.cond (.t 17)
   (cb.seq (cb.cA [⟨(some 18),.gM (.t 0),none,[0]⟩,
     ⟨(some 19),.qG (.t 18),none,[18]⟩,
     ⟨(some 20),.iI 1 (.t 19),none,[19]⟩,
     ⟨(some 21),.kJ (.t 20),none,[20]⟩,
     ⟨(some 22),.bin (.int .add) (.t 21) (.c (.int .i64 1)),none,[21]⟩,
     ⟨(some 23),.qG (.t 18),none,[18]⟩,
     ⟨(some 24),.iI 1 (.t 23),none,[23]⟩,
     ⟨none,.st 1 (.t 24) (.t 22),none,[24,22]⟩])
    (cb.seq (cb.cA [⟨(some 25),.gM (.t 0),none,[0]⟩,
      ⟨(some 26),.call f2 [(.t 25)],none,[25]⟩,
      ⟨(some 4),.new [(.int .i64 0),(.int .i64 0),(.int .i64 0),(.str []),.cL],none,[]⟩,
      ⟨none,.st 5 (.t 4) (.t 26),none,[4,26]⟩])
    (cb.cA [⟨(some 27),.iI 2 (.t 3),none,[3]⟩,
      ⟨(some 28),.kJ (.t 27),none,[27]⟩,
      ⟨(some 29),.k9 5 (.t 3),none,[3]⟩,
      ⟨(some 30),.k9 5 (.t 4),none,[4]⟩,
      ⟨(some 31),.td 2 5 [(.int .i64 0),(.int .i64 0),(.int .i64 0),(.str []),.cL] [(0,5,(.t 29)),(5,5,(.t 30))],none,[29,30]⟩,
      ⟨(some 32),.call 72 [(.c (.int .i64 k)),(.t 28),(.c (.str [])),(.t 31)],none,[28,31]⟩,
      ⟨none,.st 5 (.t 3) (.t 32),none,[3,32]⟩])))
   (cb.skip)))
 (cb.seq (cb.cA [⟨(some 33),.gM (.t 0),none,[0]⟩,
   ⟨(some 34),.call 124 [(.t 33)],none,[33]⟩])
 (cb.seq (cb.cA [⟨(some 35),.k9 5 (.t 3),none,[3]⟩,
   ⟨none,.st 5 (.t 2) (.t 35),none,[2,35]⟩])
 (cb.ret))))))
theorem DW {f f1 f2:Nat} {fn:Func} {s:List UInt8} {k:Int} {q2 sX G:List aq->bJ (aP × List aq)} (bN:cn f 36 fn (O4 f1 f2 s k) [.eB 2 5]) (e1:(f1=4294967296)=False) (fH:(f2=4294967296)=False) (H1:∀ws,e2 W af ak f1 [] (d+1) q2 (.ok ws)) (eY:∀ws,e2 W af ak f2 [] (d+1) sX (.ok ws))
 (n_:G=fun ws=>j1 af d ws (q2 ws >>= fun q=>if bm s q.2=true then sX q.2.tail >>= fun z=>.ok (two k q.1 z.1,z.2) else .ok (q.1,q.2))):e2 W af ak f [] d G r:=by
 refine ll fun h aC res C U a8=>bN.z rfl (cm ?_);rw [n_] at U;unfold O4;have ee:=cE.start C;obtain ⟨ad,an,b2⟩:=ee.new b8;simp only [an,e1,fH,aoK,↓aa,ab,simprocAttr];refine aY (DX b2.C) ?_;rintro x ag ⟨m2,⟨rfl,Ap,rfl,bk,bx⟩ | ⟨rfl,e,bx,eh⟩⟩
 rotate_left
 . rw [eh] at U;have bM:=(b2.call m2 bx).leaf 0 0 0 (s:=[]) (aoQ _);have bb:=bM.du b8;simp only [bM.a'.g,bb.a'.g,aX,↓aa,ab,simprocAttr];exact bb.fin (r:=.error e) U.symm
 replace U:=hk U;unfold j1 at U;rw [aoI (by omega)] at U;have bM:=b2.call m2 bx;simp only [e1,fH,aoK,↓aa,ab,simprocAttr];refine aY (H1 _ ag aC bM.C (fA (r:=(.ok Ap)) U a8)) ?_;rintro x ar ⟨a,b4,bV,fR,rfl,gZ,m3,cq⟩;replace U:=e6 (r:=(.ok Ap)) U fR
 try dsimp only at U
 have bj:=bM.eN m3 cq gZ;have c4:=bj.bg.one;obtain ⟨aT,bt,a6⟩:=bj.st b8 (vcs a b4);simp only [c4.1,c4.2.1,c4.2.2,bt,e1,fH,aoK,↓aa,ab,simprocAttr];refine bQ (jG a6.C) ?_;cases bV with
 | error e=>
   replace U:=kY U;simp only [kl,e1,fH,aoK,↓aa,ab,simprocAttr];refine aY (vw a6.C) ?_;rintro x bE ⟨m5,bW⟩;have bO:=a6.call m5 bW;have o:=bO.bg.one;have bb:=bO.drop.du (vcs a b4);simp only [bb.a'.g,o.1,o.2.1,o.2.2,aX,vcs,bR,bO.a'.g,bO.bT.g,e1,fH,aoK,↓aa,ab,simprocAttr];exact bb.fin U
 | ok dk=>
   replace U:=hk U
   try dsimp only at U
   simp only [j2,e1,fH,aoK,↓aa,ab,simprocAttr];refine bQ (ff a6.C s) ?_;cases b_:bm s dk with
   | true=>
     simp only [b_,aoM] at U;obtain ⟨i5,bE,iB,uG,ca,m5,bW⟩:=a6.C.iG (gP b_);have bO:=a6.call m5 bW;simp only [iB.g,uG,ca,e1,fH,aoK,↓aa,ab,simprocAttr];refine aY (eY _ bE aC bO.C (fA (r:=(.ok dk.tail)) U a8)) ?_;rintro x bA ⟨b,eK,dS,iV,rfl,kW,m6,cv⟩;replace U:=e6 (r:=(.ok dk.tail)) U iV
     try dsimp only at U
     have cj:=bO.eN m6 cv kW;have gl:=cj.bg.one;obtain ⟨cl,dq,cV⟩:=cj.st b8 (vcs b eK);have kt:=cV.cg.one;have ku:=cV.bg.one;obtain ⟨er,dy,f',dK⟩:=cV.qD cV.cg cV.bg k a.a (s:=[]) (aoQ _);simp only [vcs,aoW,ao5] at dy;simp only [gl.1,gl.2.1,gl.2.2,dq,cV.bT.g,cV.a'.g,kt.1,kt.2.1,kt.2.2,ku.1,ku.2.1,ku.2.2,dy,e1,fH,aoK,↓aa,ab,simprocAttr];refine aY (gf k a.a [] dK.bg.c') ?_;rintro x fB ⟨rfl,jy⟩;have ep:=dK.ext jy;have hS:=ep.bg.one;have fr:=ep.vK [.int .i64 k,.int .i64 0,.int .i64 a.a,.str [],(.slice (ao cl.next) 0 2 2)];generalize l':fB.set _ _=iJ at fr;simp only [ep.bT.g,l',e1,fH,aoK,hS.1,hS.2.1,hS.2.2,vcs,bR,↓aa,ab,simprocAttr];refine aY (vw fr.C) ?_;rintro x lv ⟨m11,lo⟩;have lU:=fr.call m11 lo;have o:=lU.bg.one;have bb:=lU.drop.drop.du (vcs (aP.mk k 0 a.a [] [a,b]) (.slice (ao cl.next) 0 2 2));simp only [bb.a'.g,o.1,o.2.1,o.2.2,aX,vcs,bR,lU.a'.g,lU.bT.g,lU.c2.g,e1,fH,aoK,hS.1,hS.2.1,hS.2.2,↓aa,ab,simprocAttr];exact bb.fin (ji U)
   | false=>
     simp only [b_,aoA,aoK] at U;simp only [e1,fH,aoK,↓aa,ab,simprocAttr];refine aY (vw a6.C) ?_;rintro x bE ⟨m5,bW⟩;have bO:=a6.call m5 bW;have o:=bO.bg.one;have bb:=bO.drop.du (vcs a b4);simp only [bb.a'.g,o.1,o.2.1,o.2.2,aX,vcs,bR,bO.a'.g,bO.bT.g,e1,fH,aoK,↓aa,ab,simprocAttr];exact bb.fin U.symm
end
section
variable {W:List aq} {af ak n d:Nat} {ws:List aq} {r:bJ (List aq)}
def GF (W:List aq) (af ak:Nat) (h:ah) (aC:V) (d:Nat) (res:bJ (List aP × List aq)) (x:V) (ae:ah):Prop:=∃l bq,res=bq.map (fun ws=>(l,ws))/\dB h.next (Fr h.next) ae 5 (l.map aP.enc) x/\l.length<=1500000/\Mod (b3 ak) h ae/\dz W af ak ae aC bq d
structure jx (W:List aq) (af ak n:Nat):Prop where
 ty:∀d r,e2 W af ak 120 [] d ((aU af n).ty d) r
 hI:∀d ws,e2 W af ak 153 [] d ((aU af n).hI d) (.ok ws)
 named:∀d ws,e2 W af ak 188 [] d ((aU af n).named d) (.ok ws)
 jf:∀d ws,e2 W af ak 210 [] d ((aU af n).jf d) (.ok ws)
 pat:∀d r,e2 W af ak 73 [] d ((aU af n).pat d) r
 iQ:∀d ws,e2 W af ak 123 [] d ((aU af n).iQ d) (.ok ws)
 gN:∀d ws,e2 W af ak 154 [] d ((aU af n).gN d) (.ok ws)
 seq:∀d r,e2 W af ak 74 [] d ((aU af n).seq d) r
 fn:∀d r,e2 W af ak 121 [] d (fun ws=>eD af mA ws >>= fun b9=>(aU af n).fn d (bI af ws) b9) r
 one:∀d ws,e2 W af ak 125 [] d ((aU af n).one d) (.ok ws)
 hl:∀d (k:Int) ws,ws≠[]->e2 W af ak 157 [.int .i64 k] d (fun ws=>(aU af n).hl d k (bI af ws) ws.tail) (.ok ws)
 lt:∀d ws,ws≠[]->e2 W af ak 156 [] d (fun ws=>(aU af n).lt d (bI af ws) ws.tail) (.ok ws)
 binds:∀d ws h aC,dz W af ak h aC (.ok ws) d->(aU af n).binds d [] ws≠.error b6->dY Tryz.prog 71 [.ptr (ao ak) 0] h (GF W af ak h aC d ((aU af n).binds d [] ws))
 pair:∀d ws,e2 W af ak 159 [] d ((aU af n).pair d) (.ok ws)
 iX:∀d ws,e2 W af ak 190 [] d ((aU af n).iX d) (.ok ws)
 hA:∀d ws,e2 W af ak 211 [] d ((aU af n).hA d) (.ok ws)
 hB:∀d ws,e2 W af ak 225 [] d ((aU af n).hB d) (.ok ws)
 pre:∀d ws,e2 W af ak 230 [] d ((aU af n).pre d) (.ok ws)
 app:∀d ws,e2 W af ak 233 [] d ((aU af n).app d) (.ok ws)
 atom:∀d ws,e2 W af ak 234 [] d ((aU af n).atom d) (.ok ws)
theorem ai3 (I:jx W af ak n) (d:Nat) (ws:List aq):e2 W af ak 153 [] d ((aU af (n+1)).hI d) (.ok ws):=Mo (s:=nV) Xl (by decide) (by decide) (I.named d ws) (I.hI d) rfl
theorem aiZ (I:jx W af ak n) (d:Nat) (ws:List aq):e2 W af ak 159 [] d ((aU af (n+1)).pair d) (.ok ws):=Mo (s:=jt) Xs (by decide) (by decide) (I.iX d ws) (I.pair d) rfl
theorem ajt (I:jx W af ak n) (d:Nat) (r:bJ (List aq)):e2 W af ak 73 [] d ((aU af (n+1)).pat d) r:=DW (s:=jt) N' (by decide) (by decide) (I.iQ (d+1)) (fun ws=>I.pat (d+1) (.ok ws)) rfl
theorem akN (I:jx W af ak n) (d:Nat) (r:bJ (List aq)):e2 W af ak 74 [] d ((aU af (n+1)).seq d) r:=DW (s:=Ab) N_ (by decide) (by decide) (I.one (d+1)) (fun ws=>I.seq (d+1) (.ok ws)) rfl
theorem alW (I:jx W af ak n) (d:Nat) (r:bJ (List aq)):e2 W af ak 120 [] d ((aU af (n+1)).ty d) r:=by
 refine ll fun h aC res C U a8=>MS.z rfl (cm ?_);replace U:(r >>= fun ws=>C_ af (aU af n) d ws)=res:=U;unfold C_ at U;unfold G8;have ee:=cE.start C;obtain ⟨ad,an,b2⟩:=ee.new b8;simp only [an,↓aa,ab,simprocAttr];refine aY (DX b2.C) ?_;rintro x ag ⟨m2,⟨rfl,Ap,rfl,bk,bx⟩ | ⟨rfl,e,bx,eh⟩⟩
 rotate_left
 . rw [eh] at U;have bM:=(b2.call m2 bx).leaf 0 0 0 (s:=[]) (aoQ _);have bb:=bM.du b8;simp only [bM.a'.g,bb.a'.g,aX,↓aa,ab,simprocAttr];exact bb.fin (r:=.error e) U.symm
 replace U:=hk U;unfold j1 at U;rw [aoI (by omega)] at U;have bM:=b2.call m2 bx;simp only [↓aa,ab,simprocAttr];refine aY (I.hI (d+1) _ ag aC bM.C (fA (r:=(.ok Ap)) U a8)) ?_;rintro x ar ⟨a,b4,bV,fR,rfl,gZ,m3,cq⟩;replace U:=e6 (r:=(.ok Ap)) U fR
 try dsimp only at U
 have bj:=bM.eN m3 cq gZ;have c4:=bj.bg.one;obtain ⟨aT,bt,a6⟩:=bj.st b8 (vcs a b4);simp only [c4.1,c4.2.1,c4.2.2,bt,↓aa,ab,simprocAttr];obtain ⟨b,SQ,fB,i9,d9,ang,oU,Uu,hF,eb⟩:=aep a6.C lN;replace U:=(hF (fun ws=>(aU af n).ty (d+1) ws >>= fun z=>.ok (two 4 a z.1,z.2)) (fun ws=>.ok (a,ws))).symm.trans U;refine bQ Uu ?_;cases b with
 | true=>
   obtain ⟨oE,ye,l_,m9,fQ⟩:=eb rfl;have ep:=a6.call m9 fQ;simp only [aoM] at U;simp only [oE.g,ye,l_,↓aa,ab,simprocAttr];refine aY (I.ty (d+1) _ fB aC ep.C (fA (r:=SQ) U a8)) ?_;rintro x iJ ⟨b,eK,sK,Ul,rfl,U2,m10,iU⟩;replace U:=e6 (r:=SQ) U Ul
   try dsimp only at U
   have fr:=ep.eN m10 iU U2;have JW:=fr.bg.one;obtain ⟨lv,pk,lU⟩:=fr.st b8 (vcs b eK);have xQ:=lU.cg.one;have xR:=lU.bg.one;obtain ⟨Bz,x0,tj,nx⟩:=lU.qD lU.cg lU.bg 4 a.a (s:=[]) (aoQ _);simp only [vcs,aoW,ao5] at x0;simp only [JW.1,JW.2.1,JW.2.2,pk,lU.bT.g,lU.a'.g,xQ.1,xQ.2.1,xQ.2.2,xR.1,xR.2.1,xR.2.2,x0,↓aa,ab,simprocAttr];refine aY (gf 4 a.a [] nx.bg.c') ?_;rintro x abO ⟨rfl,DU⟩;have Gz:=nx.ext DU;have hS:=Gz.bg.one;have GA:=Gz.vK [.int .i64 4,.int .i64 0,.int .i64 a.a,.str [],(.slice (ao lv.next) 0 2 2)];generalize aj2:abO.set _ _=ans at GA;simp only [Gz.bT.g,aj2,hS.1,hS.2.1,hS.2.2,vcs,bR,↓aa,ab,simprocAttr];refine aY (vw GA.C) ?_;rintro x ant ⟨m15,Uc⟩;have AH:=GA.call m15 Uc;have o:=AH.bg.one;have bb:=AH.drop.drop.du (vcs (aP.mk 4 0 a.a [] [a,b]) (.slice (ao lv.next) 0 2 2));simp only [bb.a'.g,o.1,o.2.1,o.2.2,aX,vcs,bR,AH.a'.g,AH.bT.g,AH.c2.g,hS.1,hS.2.1,hS.2.2,↓aa,ab,simprocAttr];exact bb.fin (ji U)
 | false=>
   simp only [aoA,aoK] at U;simp only [↓aa,ab,simprocAttr];refine aY (vw a6.C) ?_;rintro x bE ⟨m5,bW⟩;have bO:=a6.call m5 bW;have o:=bO.bg.one;have bb:=bO.drop.du (vcs a b4);simp only [bb.a'.g,o.1,o.2.1,o.2.2,aX,vcs,bR,bO.a'.g,bO.bT.g,↓aa,ab,simprocAttr];exact bb.fin (ji U)
theorem aid (ws:List aq):(bm h3 ws||bm qS ws||bm qR ws)=(nO ws).isSome:=by unfold nO;cases bm h3 ws<;>cases bm qS ws<;>cases bm qR ws<;>rfl
theorem aii (ws:List aq):(bm rO ws||bm hZ ws)=(nP ws).isSome:=by unfold nP;cases bm rO ws<;>cases bm hZ ws<;>rfl
theorem ail (ws:List aq):(bm nV ws||bm qT ws||bm qz ws)=(nQ ws).isSome:=by unfold nQ;cases bm nV ws<;>cases bm qT ws<;>cases bm qz ws<;>rfl
theorem aif {s:List UInt8} (h:nO ws=some s):bm s ws=true/\s.length<=top:=by
 refine ⟨?_,RS h⟩;unfold nO at h
 repeat' split at h
 all_goals (cases h;try assumption)
theorem aik {s:List UInt8} (h:nP ws=some s):bm s ws=true/\s.length<=top:=by
 refine ⟨?_,RT h⟩;unfold nP at h
 repeat' split at h
 all_goals (cases h;try assumption)
theorem ain {s:List UInt8} (h:nQ ws=some s):bm s ws=true/\s.length<=top:=by
 refine ⟨?_,RV h⟩;unfold nQ at h
 repeat' split at h
 all_goals (cases h;try assumption)
theorem Zp (I:jx W af ak n) (d:Nat) (ws:List aq):e2 W af ak 190 [] d ((aU af (n+1)).iX d) (.ok ws):=by
 refine ll fun h aC res C U a8=>Xz.z rfl (cm ?_);replace U:Be (aU af n) d ws=res:=U;unfold Be at U;unfold Nl;have ee:=cE.start C;obtain ⟨ad,an,b2⟩:=ee.new b8;simp only [an,↓aa,ab,simprocAttr];refine aY (I.hA d _ ad aC b2.C (fA (r:=(.ok ws)) U a8)) ?_;rintro x ag ⟨a,b4,bc,bY,rfl,gI,m2,bx⟩;replace U:=e6 (r:=(.ok ws)) U bY
 try dsimp only at U
 have bM:=b2.eN m2 bx gI;have dN:=bM.bg.one;obtain ⟨ar,aB,bj⟩:=bM.st b8 (vcs a b4);simp only [dN.1,dN.2.1,dN.2.2,aB,↓aa,ab,simprocAttr];refine bQ (jG bj.C) ?_;cases bc with
 | error e=>
   replace U:=kY U;have o:=bj.bg.one;have bb:=bj.drop.du (vcs a b4);simp only [bb.a'.g,o.1,o.2.1,o.2.2,aX,vcs,bR,kl,bj.a'.g,bj.bT.g,↓aa,ab,simprocAttr];exact bb.fin U
 | ok dd=>
   replace U:=hk U
   try dsimp only at U
   simp only [j2,↓aa,ab,simprocAttr];refine bQ (ff bj.C h3) ?_;simp only [ij,↓aa,ab,simprocAttr];refine jz (.bool (bm qS dd)) (fun ax=>by simp only [ax,↓aa,ab,simprocAttr];exact ff bj.C qS) ?_;simp only [ij,↓aa,ab,simprocAttr];refine jz (.bool (bm qR dd)) (fun ax=>by simp only [ax,↓aa,ab,simprocAttr];exact ff bj.C qR) ?_;have dp:(bm h3 dd||bm qS dd||bm qR dd)=(nO dd).isSome:=aid _;cases bG:nO dd with
   | none=>
     rw [bG] at dp;simp only [bG] at U;have o:=bj.bg.one;have bb:=bj.drop.du (vcs a b4);simp only [bb.a'.g,o.1,o.2.1,o.2.2,aX,vcs,bR,ij,dp,Option.isSome_none,bj.a'.g,bj.bT.g,↓aa,ab,simprocAttr];exact bb.fin U.symm
   | some s=>
     rw [bG] at dp;simp only [bG] at U;obtain ⟨B3,tL⟩:=aif bG;obtain ⟨i4,oP,c4,aT,⟨eL,aj4,aj5⟩,p5,bt,m4,ch⟩:=bj.C.read B3;have a6:=bj.call m4 ch;simp only [ij,dp,Option.isSome_some,eL.g,aj4,aj5,p5,bt,↓aa,ab,simprocAttr];refine aY (I.hA d _ aT aC a6.C (fA (r:=(.ok dd.tail)) U a8)) ?_;rintro x bE ⟨b,eK,b1,eW,rfl,jZ,m5,bW⟩;replace U:=e6 (r:=(.ok dd.tail)) U eW
     try dsimp only at U
     have bO:=a6.eN m5 bW jZ;have fm:=bO.bg.one;obtain ⟨bA,cx,cj⟩:=bO.st b8 (vcs b eK);have e':=cj.cg.one;have l9:=cj.bg.one;obtain ⟨cl,dq,dR,cV⟩:=cj.qD cj.cg cj.bg 38 a.a (s:=s) tL;simp only [vcs,aoW,ao5] at dq;simp only [fm.1,fm.2.1,fm.2.2,cx,cj.bT.g,cj.a'.g,e'.1,e'.2.1,e'.2.2,l9.1,l9.2.1,l9.2.2,dq,↓aa,ab,simprocAttr];refine aY (gf 38 a.a s cV.bg.c') ?_;rintro x er ⟨rfl,f'⟩;have dK:=cV.ext f';have o:=dK.bg.one;have bb:=dK.drop.drop.du (vcs (aP.mk 38 0 a.a s [a,b]) (.slice (ao bA.next) 0 2 2));simp only [bb.a'.g,o.1,o.2.1,o.2.2,aX,vcs,bR,dK.a'.g,dK.bT.g,dK.c2.g,↓aa,ab,simprocAttr];exact bb.fin (ji U)
end
section
variable {W:List aq} {af ak n d:Nat} {ws:List aq} {r:bJ (List aq)}
def mB (W:List aq) (ak:Nat) (g:ah):Nat:=if ((gv (g.get (ao ak)) 4).getD .bad).toN=0 then W.length - ((gv (g.get (ao ak)) 1).getD .bad).toN+1 else 0
theorem Rw {h:ah} {aC:V} (C:dz W af ak h aC (.ok ws) d):mB W ak h=ws.length+1:=by obtain ⟨i,G,q,_⟩:=C;unfold mB;rw [G.at_.g,zE,zE,q,aoZ];rfl
theorem ahc {h:ah} {aC:V} {e:Int × Nat} (C:dz W af ak h aC (.error e) d):mB W ak h=0:=by obtain ⟨q,i,dF,G⟩:=C;unfold mB;rw [G.at_.g,zE];exact aoI (by show ¬e.1.toNat=0;omega)
theorem sD {h ae:ah} {aC:V} {dF:Nat} (C:dz W af ak h aC (.ok ws) d) (fq:dz W af ak ae aC r dF) (aG:∀w',r=.ok w'->w'.length<ws.length):mB W ak ae<mB W ak h:=by
 rw [Rw C];cases r with
 | ok w'=>rw [Rw fq];have:=aG w' rfl;omega
 | error e=>rw [ahc fq];omega
theorem shr {α:Type} {P:Int × Nat->Prop} {q:bJ (α × List aq)} {p:α} {aA:List aq} (g:eI P aA q) (e:q=r.map (fun ws=>(p,ws))) (aG:aA.length<=ws.length):∀w',r=.ok w'->w'.length<ws.length:=by rintro w' rfl;rw [e] at g;exact apP g aG
theorem Am (ws:List aq):ws.tail.length<=ws.length:=by cases ws<;>simp
theorem alo (J:∀m,m<=n->jx W af ak m) (d:Nat) (ws:List aq):e2 W af ak 211 [] d ((aU af (n+1)).hA d) (.ok ws):=by
 have I:=J n (aoz n);refine ll fun h aC res C U a8=>XG.z rfl (cm ?_);replace U:C4 (aU af n) d ws=res:=U;unfold C4 at U;unfold Nq;have ee:=cE.start C;obtain ⟨ad,an,b2⟩:=ee.new b8;simp only [an,↓aa,ab,simprocAttr];refine aY (I.hB d _ ad aC b2.C (fA (r:=(.ok ws)) U a8)) ?_;rintro x ag ⟨a0,ya,bc,bY,rfl,gI,m2,bx⟩;replace U:=e6 (r:=(.ok ws)) U bY
 try dsimp only at U
 have bM:=b2.eN m2 bx gI;have dN:=bM.bg.one;obtain ⟨ar,aB,bj⟩:=bM.st b8 (vcs a0 ya);simp only [dN.1,dN.2.1,dN.2.2,aB,↓aa,ab,simprocAttr];refine gb (fun r g=>r 0=.ptr (ao ak) 0/\r 2=.ptr (ao h.next) 0/\r 3=.ptr (ao ag.next) 0/\∃m a b4 rg,m<=n/\cE W af ak h g aC rg d [(ag.next,vcs a b4),(h.next,b8)] [(a,b4)]/\(rg >>= fun ws=>(aU af m).lH d a ws)=res) (fun _ g=>mB W ak g) ?_ ?_
 . exact ⟨by simp only [↓aa,cM,simprocAttr],by simp only [↓aa,cM,simprocAttr],by simp only [↓aa,cM,simprocAttr],n,_,_,_,aoz _,bj.only,U⟩
 rintro r aT ⟨aW,bc,bV,m,a,b4,rg,hm,a6,U⟩;have da:=a6.CI;simp only [aW,bc,bV,da.1,da.2.1,da.2.2,↓aa,ab,simprocAttr];refine bQ (jG a6.C) ?_;cases rg with
 | error e=>
   replace U:=kY U;have o:=a6.bg.one;have bb:=a6.drop.du (vcs a b4);simp only [bb.a'.g,o.1,o.2.1,o.2.2,aX,vcs,bR,kl,a6.a'.g,a6.bT.g,aW,bc,bV,da.1,da.2.1,da.2.2,↓aa,ab,simprocAttr];exact bb.fin U
 | ok dk=>
   replace U:=hk U
   try dsimp only at U
   cases m with
   | zero=>exact (a8 U.symm).elim
   | succ m=>
     replace U:ub (aU af m) d a dk=res:=U;unfold ub at U;have I:=J m (by omega);simp only [j2,aW,bc,bV,da.1,da.2.1,da.2.2,↓aa,ab,simprocAttr];refine bQ (ff a6.C rO) ?_;simp only [ij,↓aa,ab,simprocAttr];refine jz (.bool (bm hZ dk)) (fun ax=>by simp only [ax,aW,↓aa,ab,simprocAttr];exact ff a6.C hZ) ?_;have dp:(bm rO dk||bm hZ dk)=(nP dk).isSome:=aii _;cases bG:nP dk with
     | none=>
       rw [bG] at dp;simp only [bG] at U;have o:=a6.bg.one;have bb:=a6.drop.du (vcs a b4);simp only [bb.a'.g,o.1,o.2.1,o.2.2,aX,vcs,bR,ij,dp,Option.isSome_none,a6.a'.g,a6.bT.g,aW,bc,bV,da.1,da.2.1,da.2.2,↓aa,ab,simprocAttr];exact bb.fin U.symm
     | some s=>
       rw [bG] at dp;simp only [bG] at U;obtain ⟨B3,tL⟩:=aik bG;obtain ⟨i5,pD,jO,bE,⟨iB,Kx,Ky⟩,uG,ca,m5,bW⟩:=a6.C.read B3;have bO:=a6.call m5 bW;simp only [ij,dp,Option.isSome_some,iB.g,Kx,Ky,uG,ca,aW,bc,bV,da.1,da.2.1,da.2.2,↓aa,ab,simprocAttr];refine aY (I.hB d _ bE aC bO.C (fA (r:=(.ok dk.tail)) U a8)) ?_;rintro x bA ⟨b,eK,dS,iV,rfl,kW,m6,cv⟩;replace U:=e6 (r:=(.ok dk.tail)) U iV
       try dsimp only at U
       have cj:=bO.eN m6 cv kW;have gl:=cj.bg.one;obtain ⟨cl,dq,cV⟩:=cj.st b8 (vcs b eK);have kt:=cV.cg.one;have ku:=cV.bg.one;obtain ⟨er,dy,f',dK⟩:=cV.qD cV.cg cV.bg 38 a.a (s:=s) tL;simp only [vcs,aoW,ao5] at dy;simp only [gl.1,gl.2.1,gl.2.2,dq,cV.bT.g,cV.a'.g,kt.1,kt.2.1,kt.2.2,ku.1,ku.2.1,ku.2.2,dy,aW,bc,bV,da.1,da.2.1,da.2.2,↓aa,ab,simprocAttr];refine aY (gf 38 a.a s dK.bg.c') ?_;rintro x fB ⟨rfl,jy⟩;have ep:=dK.ext jy;have ox:=ep.bg.one;have fr:=ep.vK [.int .i64 38,.int .i64 0,.int .i64 a.a,.str s,(.slice (ao cl.next) 0 2 2)];generalize l':fB.set _ _=iJ at fr;simp only [ox.1,ox.2.1,ox.2.2,vcs,bR,ep.bT.g,l',aW,bc,bV,da.1,da.2.1,da.2.2,↓aa,ab,simprocAttr];exact ⟨⟨m,(aP.mk 38 0 a.a s [a,b]),(.slice (ao cl.next) 0 2 2),_,by omega,fr.drop.only,by exact U⟩,sD a6.C fr.C (shr ((shorter af m).hB d _ (.inl trivial)) iV (Am _))⟩
theorem alq (J:∀m,m<=n->jx W af ak m) (d:Nat) (ws:List aq):e2 W af ak 225 [] d ((aU af (n+1)).hB d) (.ok ws):=by
 have I:=J n (aoz n);refine ll fun h aC res C U a8=>XK.z rfl (cm ?_);replace U:C5 (aU af n) d ws=res:=U;unfold C5 at U;unfold Nt;have ee:=cE.start C;obtain ⟨ad,an,b2⟩:=ee.new b8;simp only [an,↓aa,ab,simprocAttr];refine aY (I.pre d _ ad aC b2.C (fA (r:=(.ok ws)) U a8)) ?_;rintro x ag ⟨a0,ya,bc,bY,rfl,gI,m2,bx⟩;replace U:=e6 (r:=(.ok ws)) U bY
 try dsimp only at U
 have bM:=b2.eN m2 bx gI;have dN:=bM.bg.one;obtain ⟨ar,aB,bj⟩:=bM.st b8 (vcs a0 ya);simp only [dN.1,dN.2.1,dN.2.2,aB,↓aa,ab,simprocAttr];refine gb (fun r g=>r 0=.ptr (ao ak) 0/\r 2=.ptr (ao h.next) 0/\r 3=.ptr (ao ag.next) 0/\∃m a b4 rg,m<=n/\cE W af ak h g aC rg d [(ag.next,vcs a b4),(h.next,b8)] [(a,b4)]/\(rg >>= fun ws=>(aU af m).lI d a ws)=res) (fun _ g=>mB W ak g) ?_ ?_
 . exact ⟨by simp only [↓aa,cM,simprocAttr],by simp only [↓aa,cM,simprocAttr],by simp only [↓aa,cM,simprocAttr],n,_,_,_,aoz _,bj.only,U⟩
 rintro r aT ⟨aW,bc,bV,m,a,b4,rg,hm,a6,U⟩;have da:=a6.CI;simp only [aW,bc,bV,da.1,da.2.1,da.2.2,↓aa,ab,simprocAttr];refine bQ (jG a6.C) ?_;cases rg with
 | error e=>
   replace U:=kY U;have o:=a6.bg.one;have bb:=a6.drop.du (vcs a b4);simp only [bb.a'.g,o.1,o.2.1,o.2.2,aX,vcs,bR,kl,a6.a'.g,a6.bT.g,aW,bc,bV,da.1,da.2.1,da.2.2,↓aa,ab,simprocAttr];exact bb.fin U
 | ok dk=>
   replace U:=hk U
   try dsimp only at U
   cases m with
   | zero=>exact (a8 U.symm).elim
   | succ m=>
     replace U:uc (aU af m) d a dk=res:=U;unfold uc at U;have I:=J m (by omega);simp only [j2,aW,bc,bV,da.1,da.2.1,da.2.2,↓aa,ab,simprocAttr];refine bQ (ff a6.C nV) ?_;simp only [ij,↓aa,ab,simprocAttr];refine jz (.bool (bm qT dk)) (fun ax=>by simp only [ax,aW,↓aa,ab,simprocAttr];exact ff a6.C qT) ?_;simp only [ij,↓aa,ab,simprocAttr];refine jz (.bool (bm qz dk)) (fun ax=>by simp only [ax,aW,↓aa,ab,simprocAttr];exact ff a6.C qz) ?_;have dp:(bm nV dk||bm qT dk||bm qz dk)=(nQ dk).isSome:=ail _;cases bG:nQ dk with
     | none=>
       rw [bG] at dp;simp only [bG] at U;have o:=a6.bg.one;have bb:=a6.drop.du (vcs a b4);simp only [bb.a'.g,o.1,o.2.1,o.2.2,aX,vcs,bR,ij,dp,Option.isSome_none,a6.a'.g,a6.bT.g,aW,bc,bV,da.1,da.2.1,da.2.2,↓aa,ab,simprocAttr];exact bb.fin U.symm
     | some s=>
       rw [bG] at dp;simp only [bG] at U;obtain ⟨B3,tL⟩:=ain bG;obtain ⟨i5,pD,jO,bE,⟨iB,Kx,Ky⟩,uG,ca,m5,bW⟩:=a6.C.read B3;have bO:=a6.call m5 bW;simp only [ij,dp,Option.isSome_some,iB.g,Kx,Ky,uG,ca,aW,bc,bV,da.1,da.2.1,da.2.2,↓aa,ab,simprocAttr];refine aY (I.pre d _ bE aC bO.C (fA (r:=(.ok dk.tail)) U a8)) ?_;rintro x bA ⟨b,eK,dS,iV,rfl,kW,m6,cv⟩;replace U:=e6 (r:=(.ok dk.tail)) U iV
       try dsimp only at U
       have cj:=bO.eN m6 cv kW;have gl:=cj.bg.one;obtain ⟨cl,dq,cV⟩:=cj.st b8 (vcs b eK);have kt:=cV.cg.one;have ku:=cV.bg.one;obtain ⟨er,dy,f',dK⟩:=cV.qD cV.cg cV.bg 38 a.a (s:=s) tL;simp only [vcs,aoW,ao5] at dy;simp only [gl.1,gl.2.1,gl.2.2,dq,cV.bT.g,cV.a'.g,kt.1,kt.2.1,kt.2.2,ku.1,ku.2.1,ku.2.2,dy,aW,bc,bV,da.1,da.2.1,da.2.2,↓aa,ab,simprocAttr];refine aY (gf 38 a.a s dK.bg.c') ?_;rintro x fB ⟨rfl,jy⟩;have ep:=dK.ext jy;have ox:=ep.bg.one;have fr:=ep.vK [.int .i64 38,.int .i64 0,.int .i64 a.a,.str s,(.slice (ao cl.next) 0 2 2)];generalize l':fB.set _ _=iJ at fr;simp only [ox.1,ox.2.1,ox.2.2,vcs,bR,ep.bT.g,l',aW,bc,bV,da.1,da.2.1,da.2.2,↓aa,ab,simprocAttr];exact ⟨⟨m,(aP.mk 38 0 a.a s [a,b]),(.slice (ao cl.next) 0 2 2),_,by omega,fr.drop.only,by exact U⟩,sD a6.C fr.C (shr ((shorter af m).pre d _ (.inl trivial)) iV (Am _))⟩
end
section
variable {W:List aq} {af ak n d:Nat} {ws:List aq} {r:bJ (List aq)}
theorem A_ {α β:Type} {q:bJ (α × List aq)} {f:α × List aq->β × List aq} {p:α} {P:β} {res:bJ (β × List aq)} (U:q.map f=res) (E:q=r.map (fun ws=>(p,ws))) (aE:∀ws,f (p,ws)=(P,ws)):res=r.map (fun ws=>(P,ws)):=by
 rw [<-U,E];cases r with
 | ok ws=>exact congrArg Except.ok (aE ws)
 | error e=>rfl
theorem Hq {α β:Type} {q:bJ (α × List aq)} {f:α × List aq->β} {res:bJ β} (U:q.map f=res) (a8:res≠.error b6) {aA:List aq} {F:List aq->bJ (α × List aq)} (e:F aA=q):∀w,(Except.ok aA:bJ (List aq))=.ok w->F w≠.error b6:=by rintro w h z;cases h;rw [e] at z;rw [z] at U;exact a8 U.symm
theorem p3 {h:ah} {aC:V} (C:dz W af ak h aC (.ok ws) d) {k:Int} (aD:cS k ws=true):dY Tryz.prog 69 [.ptr (ao ak) 0,.int .i64 k] h fun x ae=>Mod (b3 ak) h ae/\∃w,fc af k ws=.ok (w,ws.tail)/\x=.agg w.enc/\iF W k w/\dz W af ak ae aC (.ok ws.tail) d:=by
 refine (x' C k).mono ?_;rintro x ae ⟨m,w,bq,E,rfl,hw,fq⟩;cases ws with
 | nil=>cases aD
 | cons v t=>
   simp only [cS,aoO] at aD;have e:fc af k (v::t)=.ok (v,t):=by simp only [fc,aoN aD]
   replace E:fc af k (v::t)=bq.map (fun ws=>(w,ws)):=E;rw [e] at E;cases bq with
   | error e=>cases E
   | ok jV=>
     obtain ⟨rfl,rfl⟩:=Prod.mk.inj (Except.ok.inj E);exact ⟨m,v,e,rfl,hw,fq⟩
theorem Ta {h:ah} {aC:V} (C:dz W af ak h aC (.ok ws) d):e5 Tryz.prog 235 [.ptr (ao ak) 0] h (.bool (n0 ws)) h:=by
 refine je (XT.z rfl (cm ?_));unfold NB;simp only [↓aa,ab,simprocAttr];refine bQ (lB C 1) ?_;simp only [ij,↓aa,ab,simprocAttr];refine jz (.bool (cS 2 ws)) (fun ax=>by simp only [ax,↓aa,ab,simprocAttr];exact lB C 2) ?_;simp only [ij,↓aa,ab,simprocAttr];refine jz (.bool (cS 3 ws)) (fun ax=>by simp only [ax,↓aa,ab,simprocAttr];exact lB C 3) ?_;simp only [ij,↓aa,ab,simprocAttr];refine jz (.bool (cS 4 ws)) (fun ax=>by simp only [ax,↓aa,ab,simprocAttr];exact lB C 4) ?_;simp only [ij,↓aa,ab,simprocAttr];refine jz (.bool (bm hr ws)) (fun ax=>by simp only [ax,↓aa,ab,simprocAttr];exact ff C hr) ?_;simp only [ij,↓aa,ab,simprocAttr];refine jz (.bool (bm pa ws)) (fun ax=>by simp only [ax,↓aa,ab,simprocAttr];exact ff C pa) ?_;simp only [ij,↓aa,ab,simprocAttr];refine jz (.bool (bm ic ws)) (fun ax=>by simp only [ax,↓aa,ab,simprocAttr];exact ff C ic) ?_;simp only [ij,↓aa,ab,simprocAttr];refine jz (.bool (bm i' ws)) (fun ax=>by simp only [ax,↓aa,ab,simprocAttr];exact ff C i') ?_;have dp:(cS 1 ws||cS 2 ws||cS 3 ws||cS 4 ws||bm hr ws||bm pa ws||bm ic ws||bm i' ws)=n0 ws:=by simp only [n0,rR,List.any_cons,List.any_nil,Bool.or_false];ac_rfl
 simp only [ij,dp,↓aa,ab,simprocAttr]
theorem Wh {h:ah} {aC:V} (C:dz W af ak h aC (.ok ws) d):e5 Tryz.prog 155 [.ptr (ao ak) 0] h (.bool (x7 ws)) h:=by
 refine je (Xn.z rfl (cm ?_));unfold Na;simp only [↓aa,ab,simprocAttr];refine bQ (lB C 3) ?_;simp only [ij,↓aa,ab,simprocAttr];refine jz (.bool (cS 1 ws)) (fun ax=>by simp only [ax,↓aa,ab,simprocAttr];exact lB C 1) ?_;simp only [ij,↓aa,ab,simprocAttr];refine jz (.bool (cS 4 ws)) (fun ax=>by simp only [ax,↓aa,ab,simprocAttr];exact lB C 4) ?_;simp only [ij,↓aa,ab,simprocAttr];refine jz (.bool (bm pn ws)) (fun ax=>by simp only [ax,↓aa,ab,simprocAttr];exact ff C pn) ?_;simp only [ij,↓aa,ab,simprocAttr];refine jz (.bool (bm hZ ws)) (fun ax=>by simp only [ax,↓aa,ab,simprocAttr];exact ff C hZ) ?_;simp only [ij,↓aa,ab,simprocAttr];refine jz (.bool (bm hr ws)) (fun ax=>by simp only [ax,↓aa,ab,simprocAttr];exact ff C hr) ?_;simp only [ij,↓aa,ab,simprocAttr];refine jz (.bool (bm ic ws)) (fun ax=>by simp only [ax,↓aa,ab,simprocAttr];exact ff C ic) ?_;simp only [ij,↓aa,ab,simprocAttr];refine jz (.bool (bm i' ws)) (fun ax=>by simp only [ax,↓aa,ab,simprocAttr];exact ff C i') ?_;have dp:(cS 3 ws||cS 1 ws||cS 4 ws||bm pn ws||bm hZ ws||bm hr ws||bm ic ws||bm i' ws)=x7 ws:=by simp only [x7,rR,List.any_cons,List.any_nil,Bool.or_false];ac_rfl
 simp only [ij,dp,↓aa,ab,simprocAttr]
theorem DB {h:ah} {aC:V} (k:Int) (C:dz W af ak h aC (.ok ws) d) (hw:ws≠[]):dY Tryz.prog 189 [.ptr (ao ak) 0,.int .i64 k] h (Out W af ak h aC d (.ok (.mk k (if bm ic ws=true then 1 else 0) (bI af ws) [] [],ws.tail))):=by
 refine Xy.z rfl (cm ?_);unfold Nk;have ee:=cE.start C;obtain ⟨ad,an,b2⟩:=ee.new b8;simp only [an,↓aa,ab,simprocAttr];refine bQ (sj b2.C) ?_;have LS:=b2.leaf k 0 (bI af ws) (s:=[]) (aoQ _);simp only [↓aa,ab,simprocAttr];refine aY (gf k (bI af ws) [] LS.bg.c') ?_;rintro x ag ⟨rfl,bs⟩;have bM:=LS.ext bs;obtain ⟨ar,aB,bj⟩:=bM.st b8 [.int .i64 k,.int .i64 0,.int .i64 (bI af ws),.str [],.cL];simp only [aB,vcs,bR,↓aa,ab,simprocAttr];refine bQ (ff bj.C ic) ?_;cases b_:bm ic ws with
 | true=>
   rw [aoN rfl];have a6:=bj.du [.int .i64 k,.int .i64 1,.int .i64 (bI af ws),.str [],.cL];generalize bt:ar.set _ _=aT at a6;obtain ⟨i5,bE,iB,uG,ca,m5,bW⟩:=a6.C.iG hw;have bO:=a6.call m5 bW;have gS:=bO.leaf k 1 (bI af ws) (s:=[]) (aoQ _);have o:=gS.bg.one;have bb:=gS.drop.du (vcs (.mk k 1 (bI af ws) [] []) .cL);simp only [bb.a'.g,o.1,o.2.1,o.2.2,aX,vcs,bR,bj.a'.g,bt,iB.g,uG,ca,gS.a'.g,gS.bT.g,↓aa,ab,simprocAttr];exact bb.fin rfl
 | false=>
   rw [aoI ao2];obtain ⟨i4,aT,eL,p5,bt,m4,ch⟩:=bj.C.iG hw;have a6:=bj.call m4 ch;have o:=a6.bg.one;have bb:=a6.drop.du (vcs (aP.mk k 0 (bI af ws) [] []) .cL);simp only [bb.a'.g,o.1,o.2.1,o.2.2,aX,vcs,bR,eL.g,p5,bt,a6.a'.g,a6.bT.g,↓aa,ab,simprocAttr];exact bb.fin rfl
theorem V_ (I:jx W af ak n) (d:Nat) (ws:List aq):e2 W af ak 234 [] d ((aU af (n+1)).atom d) (.ok ws):=by
 refine ll fun h aC res C U a8=>XS.z rfl (cm ?_);replace U:tb af (aU af n) d ws=res:=U;unfold tb at U;unfold NA;have ee:=cE.start C;dsimp only at U;obtain ⟨ad,an,b2⟩:=ee.new b8;simp only [an,↓aa,ab,simprocAttr];refine bQ (sj b2.C) ?_;simp only [↓aa,ab,simprocAttr];refine bQ (lB b2.C 1) ?_;cases b_:cS 1 ws with
 | true=>
   simp only [b_,aoM] at U;simp only [↓aa,ab,simprocAttr];refine aY (p3 b2.C b_) ?_;rintro x ag ⟨m2,aR,bY,rfl,e4,bx⟩;rw [bY] at U
   try replace U:=hk U
   try dsimp only at U
   have bM:=b2.call m2 bx;obtain ⟨ar,aB,bj⟩:=bM.st [.int .i64 0,.int .i64 0,.int .i64 0,.str []] [.int .i64 aR.kind,.int .i64 aR.num,.int .i64 aR.pos,.str aR.text];have gS:=bj.leaf 20 aR.num (bI af ws) (s:=[]) (aoQ _);have o:=gS.bg.one;have bb:=gS.drop.du (vcs (.mk 20 aR.num (bI af ws) [] []) .cL);simp only [bb.a'.g,o.1,o.2.1,o.2.2,aX,vcs,bR,aq.enc,aB,bj.a'.g,gS.a'.g,gS.bT.g,↓aa,ab,simprocAttr];exact bb.fin U.symm
 | false=>
   simp only [b_,aoA,aoK] at U;simp only [↓aa,ab,simprocAttr];refine bQ (lB b2.C 2) ?_;cases dD:cS 2 ws with
   | true=>
     simp only [dD,aoM] at U;simp only [↓aa,ab,simprocAttr];refine aY (p3 b2.C dD) ?_;rintro x ag ⟨m2,aR,bY,rfl,e4,bx⟩;rw [bY] at U
     try replace U:=hk U
     try dsimp only at U
     have bM:=b2.call m2 bx;obtain ⟨ar,aB,bj⟩:=bM.st [.int .i64 0,.int .i64 0,.int .i64 0,.str []] [.int .i64 aR.kind,.int .i64 aR.num,.int .i64 aR.pos,.str aR.text];have gC:=bj.leaf 21 0 (bI af ws) (s:=aR.text) (iF.fh bj.C e4);simp only [aq.enc,aB,bj.a'.g,↓aa,ab,simprocAttr];refine aY (gf 21 (bI af ws) aR.text gC.bg.c') ?_;rintro x aT ⟨rfl,cO⟩;have a6:=gC.ext cO;have o:=a6.bg.one;have bb:=a6.drop.du (vcs (aP.mk 21 0 (bI af ws) aR.text []) .cL);simp only [bb.a'.g,o.1,o.2.1,o.2.2,aX,vcs,bR,a6.a'.g,a6.bT.g,↓aa,ab,simprocAttr];exact bb.fin U.symm
   | false=>
     simp only [dD,aoA,aoK] at U;simp only [↓aa,ab,simprocAttr];refine bQ (lB b2.C 3) ?_;cases eO:cS 3 ws with
     | true=>
       simp only [eO,aoM] at U;simp only [↓aa,ab,simprocAttr];refine aY (p3 b2.C eO) ?_;rintro x ag ⟨m2,aR,bY,rfl,e4,bx⟩;rw [bY] at U
       try replace U:=hk U
       try dsimp only at U
       have bM:=b2.call m2 bx;obtain ⟨ar,aB,bj⟩:=bM.st [.int .i64 0,.int .i64 0,.int .i64 0,.str []] [.int .i64 aR.kind,.int .i64 aR.num,.int .i64 aR.pos,.str aR.text];have gC:=bj.leaf 24 0 (bI af ws) (s:=aR.text) (iF.fh bj.C e4);simp only [aq.enc,aB,bj.a'.g,↓aa,ab,simprocAttr];refine aY (gf 24 (bI af ws) aR.text gC.bg.c') ?_;rintro x aT ⟨rfl,cO⟩;have a6:=gC.ext cO;have o:=a6.bg.one;have bb:=a6.drop.du (vcs (aP.mk 24 0 (bI af ws) aR.text []) .cL);simp only [bb.a'.g,o.1,o.2.1,o.2.2,aX,vcs,bR,a6.a'.g,a6.bT.g,↓aa,ab,simprocAttr];exact bb.fin U.symm
     | false=>
       simp only [eO,aoA,aoK] at U;simp only [↓aa,ab,simprocAttr];refine bQ (lB b2.C 4) ?_;cases jn:cS 4 ws with
       | true=>
         simp only [jn,aoM] at U;simp only [↓aa,ab,simprocAttr];refine aY (p3 b2.C jn) ?_;rintro x ag ⟨m2,aR,bY,rfl,e4,bx⟩;rw [bY] at U
         try replace U:=hk U
         try dsimp only at U
         have bM:=b2.call m2 bx;obtain ⟨ar,aB,bj⟩:=bM.st [.int .i64 0,.int .i64 0,.int .i64 0,.str []] [.int .i64 aR.kind,.int .i64 aR.num,.int .i64 aR.pos,.str aR.text];have gC:=bj.leaf 25 0 (bI af ws) (s:=aR.text) (iF.fh bj.C e4);simp only [aq.enc,aB,bj.a'.g,↓aa,ab,simprocAttr];refine aY (gf 25 (bI af ws) aR.text gC.bg.c') ?_;rintro x aT ⟨rfl,cO⟩;have a6:=gC.ext cO;have o:=a6.bg.one;have bb:=a6.drop.du (vcs (aP.mk 25 0 (bI af ws) aR.text []) .cL);simp only [bb.a'.g,o.1,o.2.1,o.2.2,aX,vcs,bR,a6.a'.g,a6.bT.g,↓aa,ab,simprocAttr];exact bb.fin U.symm
       | false=>
         simp only [jn,aoA,aoK] at U;simp only [↓aa,ab,simprocAttr];refine bQ (ff b2.C ic) ?_;cases kG:bm ic ws with
         | true=>
           simp only [kG,aoM] at U;simp only [↓aa,ab,simprocAttr];refine aY (DB 23 b2.C (gP kG)) ?_;rintro x ag ⟨c,eu,bc,bY,rfl,gI,m2,bx⟩;rw [aoN kG] at bY;have bM:=b2.eN m2 bx gI;have o:=bM.bg.one;have bb:=bM.du (vcs c eu);simp only [bb.a'.g,o.1,o.2.1,o.2.2,aX,vcs,bR,bM.a'.g,↓aa,ab,simprocAttr];exact bb.fin (U.symm.trans bY)
         | false=>
           simp only [kG,aoA,aoK] at U;simp only [↓aa,ab,simprocAttr];refine bQ (ff b2.C i') ?_;cases kH:bm i' ws with
           | true=>
             simp only [kH,aoM] at U;simp only [↓aa,ab,simprocAttr];refine aY (DB 23 b2.C (gP kH)) ?_;rintro x ag ⟨c,eu,bc,bY,rfl,gI,m2,bx⟩;rw [aoI (by rw [kG];exact ao2)] at bY;have bM:=b2.eN m2 bx gI;have o:=bM.bg.one;have bb:=bM.du (vcs c eu);simp only [bb.a'.g,o.1,o.2.1,o.2.2,aX,vcs,bR,bM.a'.g,↓aa,ab,simprocAttr];exact bb.fin (U.symm.trans bY)
           | false=>
             simp only [kH,aoA,aoK] at U;simp only [↓aa,ab,simprocAttr];refine bQ (ff b2.C pa) ?_;cases pP:bm pa ws with
             | true=>
               simp only [pP,aoM] at U;obtain ⟨i2,ag,fu,mf,av,m2,bx⟩:=b2.C.iG (gP pP);have bM:=b2.call m2 bx;simp only [fu.g,mf,av,↓aa,ab,simprocAttr];refine aY (I.seq d _ ag aC bM.C (fA (r:=(.ok ws.tail)) U a8)) ?_;rintro x ar ⟨a,b4,bV,fR,rfl,gZ,m3,cq⟩;replace U:=e6 (r:=(.ok ws.tail)) U fR
               try dsimp only at U
               have bj:=bM.eN m3 cq gZ;have c4:=bj.bg.one;obtain ⟨aT,bt,a6⟩:=bj.st b8 (vcs a b4);simp only [c4.1,c4.2.1,c4.2.2,bt,↓aa,ab,simprocAttr];refine aY (iy a6.C EU) ?_;rintro x bE ⟨m5,b1,eW,bW⟩;replace U:=iW (r:=bV) U eW
               try dsimp only at U
               have bO:=a6.call m5 bW;have o:=bO.bg.one;have bb:=bO.drop.du (vcs a b4);simp only [bb.a'.g,o.1,o.2.1,o.2.2,aX,vcs,bR,bO.a'.g,bO.bT.g,↓aa,ab,simprocAttr];exact bb.fin (ji U)
             | false=>
               simp only [pP,aoA,aoK] at U;simp only [↓aa,ab,simprocAttr];refine aY (iy b2.C hr) ?_;rintro x ag ⟨m2,bc,bY,bx⟩;replace U:=iW (r:=(.ok ws)) U bY
               try dsimp only at U
               have bM:=b2.call m2 bx;simp only [↓aa,ab,simprocAttr];refine bQ (jG bM.C) ?_;cases bc with
               | error e=>
                 replace U:=kY U;replace U:(Except.error e >>= fun ws=>(aU af n).seq d ws >>= fun q=>eD af fO q.2 >>= fun w=>.ok (q.1,w))=res:=U.symm;simp only [kl,↓aa,ab,simprocAttr];refine aY (I.seq d _ ag aC bM.C (fA (r:=(.error e)) U a8)) ?_;rintro x ar ⟨a,b4,bV,fR,rfl,gZ,m3,cq⟩;replace U:=e6 (r:=(.error e)) U fR
                 try dsimp only at U
                 have bj:=bM.eN m3 cq gZ;have c4:=bj.bg.one;obtain ⟨aT,bt,a6⟩:=bj.st b8 (vcs a b4);simp only [c4.1,c4.2.1,c4.2.2,bt,↓aa,ab,simprocAttr];refine aY (iy a6.C fO) ?_;rintro x bE ⟨m5,b1,eW,bW⟩;replace U:=iW (r:=bV) U eW
                 try dsimp only at U
                 have bO:=a6.call m5 bW;have o:=bO.bg.one;have bb:=bO.drop.du (vcs a b4);simp only [bb.a'.g,o.1,o.2.1,o.2.2,aX,vcs,bR,bO.a'.g,bO.bT.g,↓aa,ab,simprocAttr];exact bb.fin (ji U)
               | ok yj=>
                 replace U:=hk U
                 try dsimp only at U
                 simp only [j2,↓aa,ab,simprocAttr];refine bQ (ff bM.C fO) ?_;cases pQ:bm fO yj with
                 | true=>
                   simp only [pQ,aoM] at U;obtain ⟨i3,ar,fj,yf,aB,m3,cq⟩:=bM.C.iG (gP pQ);have bj:=bM.call m3 cq;have gC:=bj.leaf 22 0 (bI af ws) (s:=[]) (aoQ _);simp only [fj.g,yf,aB,↓aa,ab,simprocAttr];refine aY (gf 22 (bI af ws) [] gC.bg.c') ?_;rintro x aT ⟨rfl,cO⟩;have a6:=gC.ext cO;have o:=a6.bg.one;have bb:=a6.du (vcs (aP.mk 22 0 (bI af ws) [] []) .cL);simp only [bb.a'.g,o.1,o.2.1,o.2.2,aX,vcs,bR,a6.a'.g,↓aa,ab,simprocAttr];exact bb.fin U.symm
                 | false=>
                   simp only [pQ,aoA,aoK] at U;simp only [↓aa,ab,simprocAttr];refine aY (I.seq d _ ag aC bM.C (fA (r:=(.ok yj)) U a8)) ?_;rintro x ar ⟨a,b4,bV,fR,rfl,gZ,m3,cq⟩;replace U:=e6 (r:=(.ok yj)) U fR
                   try dsimp only at U
                   have bj:=bM.eN m3 cq gZ;have c4:=bj.bg.one;obtain ⟨aT,bt,a6⟩:=bj.st b8 (vcs a b4);simp only [c4.1,c4.2.1,c4.2.2,bt,↓aa,ab,simprocAttr];refine aY (iy a6.C fO) ?_;rintro x bE ⟨m5,b1,eW,bW⟩;replace U:=iW (r:=bV) U eW
                   try dsimp only at U
                   have bO:=a6.call m5 bW;have o:=bO.bg.one;have bb:=bO.drop.du (vcs a b4);simp only [bb.a'.g,o.1,o.2.1,o.2.2,aX,vcs,bR,bO.a'.g,bO.bT.g,↓aa,ab,simprocAttr];exact bb.fin (ji U)
end
section
variable {W:List aq} {af ak n d:Nat} {ws:List aq} {r:bJ (List aq)}
theorem ajM (I:jx W af ak n) (d:Nat) (ws:List aq):e2 W af ak 230 [] d ((aU af (n+1)).pre d) (.ok ws):=by
 refine ll fun h aC res C U a8=>XO.z rfl (cm ?_);replace U:((Except.ok ws:bJ (List aq)) >>= fun ws=>j1 af d ws (if bm hZ ws then ((aU af n).pre (d+1) ws.tail).map fun q=>(.mk 39 0 (bI af ws) [] [q.1],q.2) else if bm x5 ws then ((aU af n).pre (d+1) ws.tail).map fun q=>(.mk 36 0 (bI af ws) [] [q.1],q.2) else (aU af n).app (d+1) ws))=res:=U;unfold Nw;have ee:=cE.start C;obtain ⟨ad,an,b2⟩:=ee.new b8;simp only [an,↓aa,ab,simprocAttr];refine aY (DX b2.C) ?_;rintro x ag ⟨m2,⟨rfl,Ap,adZ,bk,bx⟩ | ⟨rfl,e,bx,eh⟩⟩
 rotate_left
 . replace U:=(eh _).symm.trans U;have bM:=(b2.call m2 bx).leaf 0 0 0 (s:=[]) (aoQ _);have bb:=bM.du b8;simp only [bM.a'.g,bb.a'.g,aX,↓aa,ab,simprocAttr];exact bb.fin (r:=.error e) U.symm
 cases adZ;replace U:=hk U;unfold j1 at U;rw [aoI (by omega)] at U
 try dsimp only at U
 have bM:=b2.call m2 bx;simp only [↓aa,ab,simprocAttr];refine bQ (sj bM.C) ?_;obtain ⟨ar,aB,bj⟩:=bM.new b8;simp only [aB,↓aa,ab,simprocAttr];refine bQ (ff bj.C hZ) ?_;cases b_:bm hZ ws with
 | true=>
   simp only [b_,aoM] at U;obtain ⟨i4,aT,eL,p5,bt,m4,ch⟩:=bj.C.iG (gP b_);have a6:=bj.call m4 ch;simp only [eL.g,p5,bt,↓aa,ab,simprocAttr];refine aY (I.pre (d+1) _ aT aC a6.C (Hq U a8 rfl)) ?_;rintro x bE ⟨b,eK,b1,eW,rfl,jZ,m5,bW⟩;have bO:=a6.eN m5 bW jZ;have fm:=bO.bg.one;obtain ⟨bA,cx,cj⟩:=bO.st b8 (vcs b eK);have e':=cj.bg.one;obtain ⟨cl,dq,dR,cV⟩:=cj.vx cj.bg 39 (bI af ws) (s:=[]) (aoQ _);simp only [fm.1,fm.2.1,fm.2.2,cx,cj.a'.g,e'.1,e'.2.1,e'.2.2,dq,↓aa,ab,simprocAttr];refine aY (gf 39 (bI af ws) [] cV.bg.c') ?_;rintro x er ⟨rfl,f'⟩;have dK:=cV.ext f';have hS:=dK.bg.one;have ep:=dK.vK [.int .i64 39,.int .i64 0,.int .i64 (bI af ws),.str [],(.slice (ao bA.next) 0 1 1)];generalize l_:er.set _ _=fB at ep;simp only [vcs,bR,dK.bT.g,l_,hS.1,hS.2.1,hS.2.2,↓aa,ab,simprocAttr];refine aY (vw ep.C) ?_;rintro x iJ ⟨m10,iU⟩;have fr:=ep.call m10 iU;have o:=fr.bg.one;have bb:=fr.drop.drop.du (vcs (aP.mk 39 0 (bI af ws) [] [b]) (.slice (ao bA.next) 0 1 1));simp only [bb.a'.g,o.1,o.2.1,o.2.2,aX,vcs,bR,fr.a'.g,fr.bT.g,fr.c2.g,hS.1,hS.2.1,hS.2.2,↓aa,ab,simprocAttr];exact bb.fin (A_ U eW fun _=>rfl)
 | false=>
   simp only [b_,aoA,aoK] at U;simp only [↓aa,ab,simprocAttr];refine bQ (ff bj.C x5) ?_;cases dD:bm x5 ws with
   | true=>
     simp only [dD,aoM] at U;obtain ⟨i4,aT,eL,p5,bt,m4,ch⟩:=bj.C.iG (gP dD);have a6:=bj.call m4 ch;simp only [eL.g,p5,bt,↓aa,ab,simprocAttr];refine aY (I.pre (d+1) _ aT aC a6.C (Hq U a8 rfl)) ?_;rintro x bE ⟨b,eK,b1,eW,rfl,jZ,m5,bW⟩;have bO:=a6.eN m5 bW jZ;have fm:=bO.bg.one;obtain ⟨bA,cx,cj⟩:=bO.st b8 (vcs b eK);have e':=cj.bg.one;obtain ⟨cl,dq,dR,cV⟩:=cj.vx cj.bg 36 (bI af ws) (s:=[]) (aoQ _);simp only [fm.1,fm.2.1,fm.2.2,cx,cj.a'.g,e'.1,e'.2.1,e'.2.2,dq,↓aa,ab,simprocAttr];refine aY (gf 36 (bI af ws) [] cV.bg.c') ?_;rintro x er ⟨rfl,f'⟩;have dK:=cV.ext f';have hS:=dK.bg.one;have ep:=dK.vK [.int .i64 36,.int .i64 0,.int .i64 (bI af ws),.str [],(.slice (ao bA.next) 0 1 1)];generalize l_:er.set _ _=fB at ep;simp only [vcs,bR,dK.bT.g,l_,hS.1,hS.2.1,hS.2.2,↓aa,ab,simprocAttr];refine aY (vw ep.C) ?_;rintro x iJ ⟨m10,iU⟩;have fr:=ep.call m10 iU;have o:=fr.bg.one;have bb:=fr.drop.drop.du (vcs (aP.mk 36 0 (bI af ws) [] [b]) (.slice (ao bA.next) 0 1 1));simp only [bb.a'.g,o.1,o.2.1,o.2.2,aX,vcs,bR,fr.a'.g,fr.bT.g,fr.c2.g,hS.1,hS.2.1,hS.2.2,↓aa,ab,simprocAttr];exact bb.fin (A_ U eW fun _=>rfl)
   | false=>
     simp only [dD,aoA,aoK] at U;simp only [↓aa,ab,simprocAttr];refine aY (I.app (d+1) ws ar aC bj.C (fun w e q=>by cases e;rw [q] at U;exact a8 U.symm)) ?_;rintro x aT ⟨c,eu,cU,jY,rfl,rZ,m4,ch⟩;have a6:=bj.eN m4 ch rZ;have hS:=a6.bg.one;have bO:=a6.du (vcs c eu);generalize ca:aT.set _ _=bE at bO;simp only [a6.a'.g,ca,hS.1,hS.2.1,hS.2.2,↓aa,ab,simprocAttr];refine aY (vw bO.C) ?_;rintro x bA ⟨m6,cv⟩;have cj:=bO.call m6 cv;have o:=cj.bg.one;have bb:=cj.drop.du (vcs c eu);simp only [bb.a'.g,o.1,o.2.1,o.2.2,aX,vcs,bR,cj.a'.g,cj.bT.g,hS.1,hS.2.1,hS.2.2,↓aa,ab,simprocAttr];exact bb.fin (U.symm.trans jY)
theorem VQ (J:∀m,m<=n->jx W af ak m) (d:Nat) (ws:List aq):e2 W af ak 233 [] d ((aU af (n+1)).app d) (.ok ws):=by
 have I:=J n (aoz n);refine ll fun h aC res C U a8=>XR.z rfl (cm ?_);replace U:pC af (aU af n) d ws=res:=U;unfold pC at U;unfold Nz;have ee:=cE.start C;dsimp only at U;obtain ⟨ad,an,b2⟩:=ee.new b8;simp only [an,↓aa,ab,simprocAttr];refine bQ (sj b2.C) ?_;simp only [↓aa,ab,simprocAttr];refine bQ (ff b2.C zz) ?_;cases b_:bm zz ws with
 | true=>
   simp only [b_,aoM] at U;obtain ⟨i2,ag,fu,mf,av,m2,bx⟩:=b2.C.iG (gP b_);have bM:=b2.call m2 bx;simp only [fu.g,mf,av,↓aa,ab,simprocAttr];refine aY (I.atom d _ ag aC bM.C (Hq U a8 rfl)) ?_;rintro x ar ⟨a,b4,bV,fR,rfl,gZ,m3,cq⟩;have bj:=bM.eN m3 cq gZ;have c4:=bj.bg.one;obtain ⟨aT,bt,a6⟩:=bj.st b8 (vcs a b4);have xS:=a6.bg.one;obtain ⟨bE,ca,e7,bO⟩:=a6.vx a6.bg 34 (bI af ws) (s:=[]) (aoQ _);simp only [c4.1,c4.2.1,c4.2.2,bt,a6.a'.g,xS.1,xS.2.1,xS.2.2,ca,↓aa,ab,simprocAttr];refine aY (gf 34 (bI af ws) [] bO.bg.c') ?_;rintro x bA ⟨rfl,e3⟩;have cj:=bO.ext e3;have o:=cj.bg.one;have bb:=cj.drop.du (vcs (aP.mk 34 0 (bI af ws) [] [a]) (.slice (ao aT.next) 0 1 1));simp only [bb.a'.g,o.1,o.2.1,o.2.2,aX,vcs,bR,cj.a'.g,cj.bT.g,↓aa,ab,simprocAttr];exact bb.fin (A_ U fR fun _=>rfl)
 | false=>
   simp only [b_,aoA,aoK] at U;simp only [↓aa,ab,simprocAttr];refine bQ (lB b2.C 4) ?_;cases dD:cS 4 ws with
   | true=>
     simp only [dD,aoM] at U;simp only [↓aa,ab,simprocAttr];refine aY (p3 b2.C dD) ?_;rintro x ag ⟨m2,aR,bY,rfl,e4,bx⟩;rw [bY] at U
     try replace U:=hk U
     try dsimp only at U
     have bM:=b2.call m2 bx;obtain ⟨ar,aB,bj⟩:=bM.st [.int .i64 0,.int .i64 0,.int .i64 0,.str []] [.int .i64 aR.kind,.int .i64 aR.num,.int .i64 aR.pos,.str aR.text];simp only [aq.enc,aB,↓aa,ab,simprocAttr];refine bQ (Ta bj.C) ?_;cases eO:n0 ws.tail with
     | true=>
       simp only [eO,aoM] at U;simp only [bj.a'.g,↓aa,ab,simprocAttr];refine aY (I.atom d _ ar aC bj.C (fA (r:=(.ok ws.tail)) U a8)) ?_;rintro x aT ⟨a,b4,cU,jY,rfl,rZ,m4,ch⟩;replace U:=e6 (r:=(.ok ws.tail)) U jY
       try dsimp only at U
       have a6:=bj.eN m4 ch rZ;have jO:=a6.bg.one;obtain ⟨bE,ca,bO⟩:=a6.st b8 (vcs a b4);have ow:=bO.bg.one;obtain ⟨bA,cx,e3,cj⟩:=bO.vx bO.bg 25 (bI af ws) (s:=aR.text) (iF.fh bO.C e4);simp only [jO.1,jO.2.1,jO.2.2,ca,bO.a'.g,bO.bT.g,ow.1,ow.2.1,ow.2.2,cx,↓aa,ab,simprocAttr];refine aY (gf 25 (bI af ws) aR.text cj.bg.c') ?_;rintro x cl ⟨rfl,dR⟩;have cV:=cj.ext dR;have o:=cV.bg.one;have bb:=cV.drop.drop.du (vcs (aP.mk 25 0 (bI af ws) aR.text [a]) (.slice (ao bE.next) 0 1 1));simp only [bb.a'.g,o.1,o.2.1,o.2.2,aX,vcs,bR,cV.a'.g,cV.bT.g,cV.c2.g,↓aa,ab,simprocAttr];exact bb.fin (ji U)
     | false=>
       simp only [eO,aoA,aoK] at U;have gC:=bj.leaf 25 0 (bI af ws) (s:=aR.text) (iF.fh bj.C e4);simp only [bj.a'.g,↓aa,ab,simprocAttr];refine aY (gf 25 (bI af ws) aR.text gC.bg.c') ?_;rintro x aT ⟨rfl,cO⟩;have a6:=gC.ext cO;have o:=a6.bg.one;have bb:=a6.drop.du (vcs (aP.mk 25 0 (bI af ws) aR.text []) .cL);simp only [bb.a'.g,o.1,o.2.1,o.2.2,aX,vcs,bR,a6.a'.g,a6.bT.g,↓aa,ab,simprocAttr];exact bb.fin U.symm
   | false=>
     simp only [dD,aoA,aoK] at U;simp only [↓aa,ab,simprocAttr];refine aY (I.atom d _ ad aC b2.C (fA (r:=(.ok ws)) U a8)) ?_;rintro x ag ⟨a0,ya,bc,bY,rfl,gI,m2,bx⟩;replace U:=e6 (r:=(.ok ws)) U bY
     try dsimp only at U
     have bM:=b2.eN m2 bx gI;have dN:=bM.bg.one;obtain ⟨ar,aB,bj⟩:=bM.st b8 (vcs a0 ya);simp only [dN.1,dN.2.1,dN.2.2,aB,↓aa,ab,simprocAttr];refine gb (fun r g=>r 0=.ptr (ao ak) 0/\r 2=.ptr (ao h.next) 0/\r 7=.ptr (ao ag.next) 0/\∃m a b4 rg,m<=n/\cE W af ak h g aC rg d [(ag.next,vcs a b4),(h.next,b8)] [(a,b4)]/\(rg >>= fun ws=>(aU af m).args d a ws)=res) (fun _ g=>mB W ak g) ?_ ?_
     . exact ⟨by simp only [↓aa,cM,simprocAttr],by simp only [↓aa,cM,simprocAttr],by simp only [↓aa,cM,simprocAttr],n,_,_,_,aoz _,bj.only,U⟩
     rintro r aT ⟨aW,bc,fg,m,a,b4,rg,hm,a6,U⟩;have da:=a6.CI;simp only [aW,bc,fg,da.1,da.2.1,da.2.2,↓aa,ab,simprocAttr];refine bQ (jG a6.C) ?_;cases rg with
     | error e=>
       replace U:=kY U;have o:=a6.bg.one;have bb:=a6.drop.du (vcs a b4);simp only [bb.a'.g,o.1,o.2.1,o.2.2,aX,vcs,bR,kl,a6.a'.g,a6.bT.g,aW,bc,fg,da.1,da.2.1,da.2.2,↓aa,ab,simprocAttr];exact bb.fin U
     | ok dk=>
       replace U:=hk U
       try dsimp only at U
       cases m with
       | zero=>exact (a8 U.symm).elim
       | succ m=>
         replace U:s9 (aU af m) d a dk=res:=U;unfold s9 at U;have I:=J m (by omega);simp only [j2,aW,bc,fg,da.1,da.2.1,da.2.2,↓aa,ab,simprocAttr];refine bQ (Ta a6.C) ?_;cases eO:n0 dk with
         | true=>
           simp only [eO,aoM] at U;simp only [aW,bc,fg,da.1,da.2.1,da.2.2,↓aa,ab,simprocAttr];refine aY (I.atom d _ aT aC a6.C (fA (r:=(.ok dk)) U a8)) ?_;rintro x bE ⟨b,eK,b1,eW,rfl,jZ,m5,bW⟩;replace U:=e6 (r:=(.ok dk)) U eW
           try dsimp only at U
           have bO:=a6.eN m5 bW jZ;have fm:=bO.bg.one;obtain ⟨bA,cx,cj⟩:=bO.st b8 (vcs b eK);have e':=cj.cg.one;have l9:=cj.bg.one;obtain ⟨cl,dq,dR,cV⟩:=cj.qD cj.cg cj.bg 28 a.a (s:=[]) (aoQ _);simp only [vcs,aoW,ao5] at dq;simp only [fm.1,fm.2.1,fm.2.2,cx,cj.bT.g,cj.a'.g,e'.1,e'.2.1,e'.2.2,l9.1,l9.2.1,l9.2.2,dq,aW,bc,fg,da.1,da.2.1,da.2.2,↓aa,ab,simprocAttr];refine aY (gf 28 a.a [] cV.bg.c') ?_;rintro x er ⟨rfl,f'⟩;have dK:=cV.ext f';have ox:=dK.bg.one;have ep:=dK.vK [.int .i64 28,.int .i64 0,.int .i64 a.a,.str [],(.slice (ao bA.next) 0 2 2)];generalize l_:er.set _ _=fB at ep;simp only [ox.1,ox.2.1,ox.2.2,vcs,bR,dK.bT.g,l_,aW,bc,fg,da.1,da.2.1,da.2.2,↓aa,ab,simprocAttr];exact ⟨⟨m,(aP.mk 28 0 a.a [] [a,b]),(.slice (ao bA.next) 0 2 2),_,by omega,ep.drop.only,by exact U⟩,sD a6.C ep.C (shr ((shorter af m).atom d _ (.inl trivial)) eW (aoz _))⟩
         | false=>
           simp only [eO,aoA,aoK] at U;have o:=a6.bg.one;have bb:=a6.drop.du (vcs a b4);simp only [bb.a'.g,o.1,o.2.1,o.2.2,aX,vcs,bR,a6.a'.g,a6.bT.g,aW,bc,fg,da.1,da.2.1,da.2.2,↓aa,ab,simprocAttr];exact bb.fin U.symm
theorem ahj {a:aP} {w:aq} (aD:cS 3 ws=true) (E:fc af 3 ws=.ok (w,ws.tail)):lb a ws=lb (.mk 2 0 a.a w.text [a]) ws.tail:=by
 cases ws with
 | nil=>cases aD
 | cons v t=>
   simp only [cS,aoO] at aD;simp only [fc,aoN aD,Except.ok.injEq,apy] at E;obtain ⟨rfl,_⟩:=E;rw [lb,aoN aD];rfl
theorem ahi {a:aP} (aD:cS 3 ws=false):lb a ws=(a,ws):=by
 cases ws with
 | nil=>rfl
 | cons v t=>
   simp only [cS,apC] at aD;simp only [lb,aoI aD]
theorem x9 (hw:ws≠[]):ws.tail.length<ws.length:=by cases ws with | nil=>exact absurd rfl hw | cons w t=>simp
theorem ahf (I:jx W af ak n) (d:Nat) (ws:List aq):e2 W af ak 188 [] d ((aU af (n+1)).named d) (.ok ws):=by
 refine ll fun h aC res C U a8=>Xx.z rfl (cm ?_);replace U:CB (aU af n) d ws=res:=U;unfold CB at U;unfold Nj;have ee:=cE.start C;obtain ⟨ad,an,b2⟩:=ee.new b8;simp only [an,↓aa,ab,simprocAttr];refine aY (I.jf d _ ad aC b2.C (fA (r:=(.ok ws)) U a8)) ?_;rintro x ag ⟨a0,ya,bc,bY,rfl,gI,m2,bx⟩;replace U:=e6 (r:=(.ok ws)) U bY
 try dsimp only at U
 have bM:=b2.eN m2 bx gI;have dN:=bM.bg.one;obtain ⟨ar,aB,bj⟩:=bM.st b8 (vcs a0 ya);simp only [dN.1,dN.2.1,dN.2.2,aB,↓aa,ab,simprocAttr];refine gb (fun r g=>r 0=.ptr (ao ak) 0/\r 2=.ptr (ao h.next) 0/\r 3=.ptr (ao ag.next) 0/\∃a b4 rg,cE W af ak h g aC rg d [(ag.next,vcs a b4),(h.next,b8)] [(a,b4)]/\(rg >>= fun ws=>.ok (lb a ws))=res) (fun _ g=>mB W ak g) ?_ ?_
 . exact ⟨by simp only [↓aa,cM,simprocAttr],by simp only [↓aa,cM,simprocAttr],by simp only [↓aa,cM,simprocAttr],_,_,_,bj.only,U⟩
 rintro r aT ⟨aW,bc,bV,a,b4,rg,a6,U⟩;have da:=a6.CI;simp only [aW,bc,bV,da.1,da.2.1,da.2.2,↓aa,ab,simprocAttr];refine bQ (jG a6.C) ?_;cases rg with
 | error e=>
   replace U:=kY U;have o:=a6.bg.one;have bb:=a6.drop.du (vcs a b4);simp only [bb.a'.g,o.1,o.2.1,o.2.2,aX,vcs,bR,kl,a6.a'.g,a6.bT.g,aW,bc,bV,da.1,da.2.1,da.2.2,↓aa,ab,simprocAttr];exact bb.fin U
 | ok dk=>
   replace U:=hk U
   try dsimp only at U
   simp only [j2,aW,bc,bV,da.1,da.2.1,da.2.2,↓aa,ab,simprocAttr];refine bQ (lB a6.C 3) ?_;cases b_:cS 3 dk with
   | true=>
     simp only [aW,bc,bV,da.1,da.2.1,da.2.2,↓aa,ab,simprocAttr];refine aY (p3 a6.C b_) ?_;rintro x bE ⟨m5,rV,eW,rfl,adV,bW⟩;rw [ahj b_ eW] at U;have bO:=a6.call m5 bW;obtain ⟨bA,cx,cj⟩:=bO.st [.int .i64 0,.int .i64 0,.int .i64 0,.str []] [.int .i64 rV.kind,.int .i64 rV.num,.int .i64 rV.pos,.str rV.text];have e':=cj.bg.one;obtain ⟨cl,dq,dR,cV⟩:=cj.vx cj.bg 2 a.a (s:=rV.text) (iF.fh cj.C adV);simp only [aq.enc,cx,cj.bT.g,cj.a'.g,e'.1,e'.2.1,e'.2.2,dq,aW,bc,bV,da.1,da.2.1,da.2.2,↓aa,ab,simprocAttr];refine aY (gf 2 a.a rV.text cV.bg.c') ?_;rintro x er ⟨rfl,f'⟩;have dK:=cV.ext f';have ox:=dK.bg.one;have ep:=dK.vK [.int .i64 2,.int .i64 0,.int .i64 a.a,.str rV.text,(.slice (ao bA.next) 0 1 1)];generalize l_:er.set _ _=fB at ep;simp only [ox.1,ox.2.1,ox.2.2,vcs,bR,dK.bT.g,l_,aW,bc,bV,da.1,da.2.1,da.2.2,↓aa,ab,simprocAttr];exact ⟨⟨(aP.mk 2 0 a.a rV.text [a]),(.slice (ao bA.next) 0 1 1),_,ep.drop.only,by exact U⟩,sD a6.C ep.C (fun w' e=>by cases e;exact x9 (agj b_))⟩
   | false=>
     rw [ahi b_] at U;have o:=a6.bg.one;have bb:=a6.drop.du (vcs a b4);simp only [bb.a'.g,o.1,o.2.1,o.2.2,aX,vcs,bR,a6.a'.g,a6.bT.g,aW,bc,bV,da.1,da.2.1,da.2.2,↓aa,ab,simprocAttr];exact bb.fin U.symm
theorem ajp (I:jx W af ak n) (d:Nat) (ws:List aq):e2 W af ak 123 [] d ((aU af (n+1)).iQ d) (.ok ws):=by
 refine ll fun h aC res C U a8=>W7.z rfl (cm ?_);replace U:ug af (aU af n) d ws=res:=U;unfold ug at U;unfold MV;have ee:=cE.start C;obtain ⟨ad,an,b2⟩:=ee.new b8;simp only [an,↓aa,ab,simprocAttr];refine bQ (lB b2.C 4) ?_;cases b_:cS 4 ws with
 | true=>
   simp only [b_,aoM] at U;simp only [↓aa,ab,simprocAttr];refine aY (p3 b2.C b_) ?_;rintro x ag ⟨m2,aR,bY,rfl,e4,bx⟩;rw [bY] at U
   try replace U:=hk U
   try dsimp only at U
   have bM:=b2.call m2 bx;obtain ⟨ar,aB,bj⟩:=bM.st [.int .i64 0,.int .i64 0,.int .i64 0,.str []] [.int .i64 aR.kind,.int .i64 aR.num,.int .i64 aR.pos,.str aR.text];simp only [aq.enc,aB,↓aa,ab,simprocAttr];refine bQ (Wh bj.C) ?_;cases dD:x7 ws.tail with
   | true=>
     simp only [dD,aoM] at U;simp only [↓aa,ab,simprocAttr];refine aY (I.gN d _ ar aC bj.C (fA (r:=(.ok ws.tail)) U a8)) ?_;rintro x aT ⟨a,b4,cU,jY,rfl,rZ,m4,ch⟩;replace U:=e6 (r:=(.ok ws.tail)) U jY
     try dsimp only at U
     have a6:=bj.eN m4 ch rZ;have jO:=a6.bg.one;obtain ⟨bE,ca,bO⟩:=a6.st b8 (vcs a b4);have ow:=bO.bg.one;obtain ⟨bA,cx,e3,cj⟩:=bO.vx bO.bg 16 aR.pos (s:=aR.text) (iF.fh bO.C e4);simp only [jO.1,jO.2.1,jO.2.2,ca,bO.a'.g,bO.bT.g,ow.1,ow.2.1,ow.2.2,cx,↓aa,ab,simprocAttr];refine aY (gf 16 aR.pos aR.text cj.bg.c') ?_;rintro x cl ⟨rfl,dR⟩;have cV:=cj.ext dR;have o:=cV.bg.one;have bb:=cV.drop.drop.du (vcs (aP.mk 16 0 aR.pos aR.text [a]) (.slice (ao bE.next) 0 1 1));simp only [bb.a'.g,o.1,o.2.1,o.2.2,aX,vcs,bR,cV.a'.g,cV.bT.g,cV.c2.g,↓aa,ab,simprocAttr];exact bb.fin (ji U)
   | false=>
     simp only [dD,aoA,aoK] at U;have gC:=bj.leaf 16 0 aR.pos (s:=aR.text) (iF.fh bj.C e4);simp only [bj.a'.g,↓aa,ab,simprocAttr];refine aY (gf 16 aR.pos aR.text gC.bg.c') ?_;rintro x aT ⟨rfl,cO⟩;have a6:=gC.ext cO;have o:=a6.bg.one;have bb:=a6.drop.du (vcs (aP.mk 16 0 aR.pos aR.text []) .cL);simp only [bb.a'.g,o.1,o.2.1,o.2.2,aX,vcs,bR,a6.a'.g,a6.bT.g,↓aa,ab,simprocAttr];exact bb.fin U.symm
 | false=>
   simp only [b_,aoA,aoK] at U;simp only [↓aa,ab,simprocAttr];refine aY (I.gN d ws ad aC b2.C (fun w e q=>by cases e;rw [q] at U;exact a8 U.symm)) ?_;rintro x ag ⟨c,eu,bc,bY,rfl,gI,m2,bx⟩;have bM:=b2.eN m2 bx gI;have o:=bM.bg.one;have bb:=bM.du (vcs c eu);simp only [bb.a'.g,o.1,o.2.1,o.2.2,aX,vcs,bR,bM.a'.g,↓aa,ab,simprocAttr];exact bb.fin (U.symm.trans bY)
theorem ajr (I:jx W af ak n) (d:Nat) (ws:List aq):e2 W af ak 154 [] d ((aU af (n+1)).gN d) (.ok ws):=by
 refine ll fun h aC res C U a8=>Xm.z rfl (cm ?_);replace U:uh af (aU af n) d ws=res:=U;unfold uh at U;unfold M_;have ee:=cE.start C;dsimp only at U;obtain ⟨ad,an,b2⟩:=ee.new b8;simp only [an,↓aa,ab,simprocAttr];refine bQ (sj b2.C) ?_;simp only [↓aa,ab,simprocAttr];refine bQ (ff b2.C pn) ?_;cases b_:bm pn ws with
 | true=>
   simp only [b_,aoM] at U;obtain ⟨i2,ag,fu,mf,av,m2,bx⟩:=b2.C.iG (gP b_);have bM:=b2.call m2 bx;have AI:=bM.leaf 10 0 (bI af ws) (s:=[]) (aoQ _);simp only [fu.g,mf,av,↓aa,ab,simprocAttr];refine aY (gf 10 (bI af ws) [] AI.bg.c') ?_;rintro x ar ⟨rfl,cT⟩;have bj:=AI.ext cT;have o:=bj.bg.one;have bb:=bj.du (vcs (aP.mk 10 0 (bI af ws) [] []) .cL);simp only [bb.a'.g,o.1,o.2.1,o.2.2,aX,vcs,bR,bj.a'.g,↓aa,ab,simprocAttr];exact bb.fin U.symm
 | false=>
   simp only [b_,aoA,aoK] at U;simp only [↓aa,ab,simprocAttr];refine bQ (lB b2.C 3) ?_;cases dD:cS 3 ws with
   | true=>
     simp only [dD,aoM] at U;simp only [↓aa,ab,simprocAttr];refine aY (p3 b2.C dD) ?_;rintro x ag ⟨m2,aR,bY,rfl,e4,bx⟩;rw [bY] at U
     try replace U:=hk U
     try dsimp only at U
     have bM:=b2.call m2 bx;obtain ⟨ar,aB,bj⟩:=bM.st [.int .i64 0,.int .i64 0,.int .i64 0,.str []] [.int .i64 aR.kind,.int .i64 aR.num,.int .i64 aR.pos,.str aR.text];have gC:=bj.leaf 11 0 (bI af ws) (s:=aR.text) (iF.fh bj.C e4);simp only [aq.enc,aB,bj.a'.g,↓aa,ab,simprocAttr];refine aY (gf 11 (bI af ws) aR.text gC.bg.c') ?_;rintro x aT ⟨rfl,cO⟩;have a6:=gC.ext cO;have o:=a6.bg.one;have bb:=a6.drop.du (vcs (aP.mk 11 0 (bI af ws) aR.text []) .cL);simp only [bb.a'.g,o.1,o.2.1,o.2.2,aX,vcs,bR,a6.a'.g,a6.bT.g,↓aa,ab,simprocAttr];exact bb.fin U.symm
   | false=>
     simp only [dD,aoA,aoK] at U;simp only [↓aa,ab,simprocAttr];refine bQ (lB b2.C 4) ?_;cases eO:cS 4 ws with
     | true=>
       simp only [eO,aoM] at U;simp only [↓aa,ab,simprocAttr];refine aY (p3 b2.C eO) ?_;rintro x ag ⟨m2,aR,bY,rfl,e4,bx⟩;rw [bY] at U
       try replace U:=hk U
       try dsimp only at U
       have bM:=b2.call m2 bx;obtain ⟨ar,aB,bj⟩:=bM.st [.int .i64 0,.int .i64 0,.int .i64 0,.str []] [.int .i64 aR.kind,.int .i64 aR.num,.int .i64 aR.pos,.str aR.text];have gC:=bj.leaf 16 0 (bI af ws) (s:=aR.text) (iF.fh bj.C e4);simp only [aq.enc,aB,bj.a'.g,↓aa,ab,simprocAttr];refine aY (gf 16 (bI af ws) aR.text gC.bg.c') ?_;rintro x aT ⟨rfl,cO⟩;have a6:=gC.ext cO;have o:=a6.bg.one;have bb:=a6.drop.du (vcs (aP.mk 16 0 (bI af ws) aR.text []) .cL);simp only [bb.a'.g,o.1,o.2.1,o.2.2,aX,vcs,bR,a6.a'.g,a6.bT.g,↓aa,ab,simprocAttr];exact bb.fin U.symm
     | false=>
       simp only [eO,aoA,aoK] at U;simp only [↓aa,ab,simprocAttr];refine bQ (lB b2.C 1) ?_;cases jn:cS 1 ws with
       | true=>
         simp only [jn,aoM] at U;simp only [↓aa,ab,simprocAttr];refine aY (p3 b2.C jn) ?_;rintro x ag ⟨m2,aR,bY,rfl,e4,bx⟩;rw [bY] at U
         try replace U:=hk U
         try dsimp only at U
         have bM:=b2.call m2 bx;obtain ⟨ar,aB,bj⟩:=bM.st [.int .i64 0,.int .i64 0,.int .i64 0,.str []] [.int .i64 aR.kind,.int .i64 aR.num,.int .i64 aR.pos,.str aR.text];have gS:=bj.leaf 12 aR.num (bI af ws) (s:=[]) (aoQ _);have o:=gS.bg.one;have bb:=gS.drop.du (vcs (.mk 12 aR.num (bI af ws) [] []) .cL);simp only [bb.a'.g,o.1,o.2.1,o.2.2,aX,vcs,bR,aq.enc,aB,bj.a'.g,gS.a'.g,gS.bT.g,↓aa,ab,simprocAttr];exact bb.fin U.symm
       | false=>
         simp only [jn,aoA,aoK] at U;simp only [↓aa,ab,simprocAttr];refine bQ (ff b2.C hZ) ?_;cases kG:bm hZ ws with
         | true=>
           simp only [kG,aoM] at U;obtain ⟨i2,ag,fu,mf,av,m2,bx⟩:=b2.C.iG (gP kG);have bM:=b2.call m2 bx;simp only [fu.g,mf,av,↓aa,ab,simprocAttr];refine aY (x' bM.C 1) ?_;rintro x ar ⟨m3,eH,bV,fR,rfl,pR,cq⟩;have bj:=bM.call m3 cq;obtain ⟨aT,bt,a6⟩:=bj.st [.int .i64 0,.int .i64 0,.int .i64 0,.str []] [.int .i64 eH.kind,.int .i64 eH.num,.int .i64 eH.pos,.str eH.text];obtain ⟨jM,fX⟩:=iF.ahC a6.C pR;have wn:IntKind.i64.wrap (0-eH.num)=-eH.num:=by rw [wrap_i64 (by omega) (by omega)];omega
           by_cases aI:eH.num=-1073741824
           ·
            have g0:(1073741823 < -eH.num)=True:=aoU (by omega);have g1:sF eH.num=-1073741824:=by unfold sF;rw [aoN aI,aI]
            have gS:=a6.leaf 12 (sF eH.num) (bI af ws) (s:=[]) (aoQ _);rw [g1] at gS;have o:=gS.bg.one;have bb:=gS.drop.du (vcs (.mk 12 (-1073741824) (bI af ws) [] []) .cL);simp only [bb.a'.g,o.1,o.2.1,o.2.2,aX,vcs,bR,aq.enc,bt,wn,g0,a6.a'.g,gS.a'.g,gS.bT.g,↓aa,ab,simprocAttr];exact bb.fin (A_ U fR fun _=>by rw [g1])
           ·
            have g0:(1073741823 < -eH.num)=False:=aoV (by omega);have g1:sF eH.num=-eH.num:=by unfold sF;rw [aoI aI]
            have gS:=a6.leaf 12 (sF eH.num) (bI af ws) (s:=[]) (aoQ _);rw [g1] at gS;have o:=gS.bg.one;have bb:=gS.drop.du (vcs (.mk 12 (-eH.num) (bI af ws) [] []) .cL);simp only [bb.a'.g,o.1,o.2.1,o.2.2,aX,vcs,bR,aq.enc,bt,wn,g0,a6.a'.g,gS.a'.g,gS.bT.g,↓aa,ab,simprocAttr];exact bb.fin (A_ U fR fun _=>by rw [g1])
         | false=>
           simp only [kG,aoA,aoK] at U;simp only [↓aa,ab,simprocAttr];refine bQ (ff b2.C ic) ?_;cases kH:bm ic ws with
           | true=>
             simp only [kH,aoM] at U;simp only [↓aa,ab,simprocAttr];refine aY (DB 14 b2.C (gP kH)) ?_;rintro x ag ⟨c,eu,bc,bY,rfl,gI,m2,bx⟩;rw [aoN kH] at bY;have bM:=b2.eN m2 bx gI;have o:=bM.bg.one;have bb:=bM.du (vcs c eu);simp only [bb.a'.g,o.1,o.2.1,o.2.2,aX,vcs,bR,bM.a'.g,↓aa,ab,simprocAttr];exact bb.fin (U.symm.trans bY)
           | false=>
             simp only [kH,aoA,aoK] at U;simp only [↓aa,ab,simprocAttr];refine bQ (ff b2.C i') ?_;cases pP:bm i' ws with
             | true=>
               simp only [pP,aoM] at U;simp only [↓aa,ab,simprocAttr];refine aY (DB 14 b2.C (gP pP)) ?_;rintro x ag ⟨c,eu,bc,bY,rfl,gI,m2,bx⟩;rw [aoI (by rw [kH];exact ao2)] at bY;have bM:=b2.eN m2 bx gI;have o:=bM.bg.one;have bb:=bM.du (vcs c eu);simp only [bb.a'.g,o.1,o.2.1,o.2.2,aX,vcs,bR,bM.a'.g,↓aa,ab,simprocAttr];exact bb.fin (U.symm.trans bY)
             | false=>
               simp only [pP,aoA,aoK] at U;simp only [↓aa,ab,simprocAttr];refine aY (iy b2.C hr) ?_;rintro x ag ⟨m2,bc,bY,bx⟩;replace U:=iW (r:=(.ok ws)) U bY
               try dsimp only at U
               have bM:=b2.call m2 bx;simp only [↓aa,ab,simprocAttr];refine bQ (jG bM.C) ?_;cases bc with
               | error e=>
                 replace U:=kY U;replace U:(Except.error e >>= fun ws=>(aU af n).pat d ws >>= fun q=>eD af fO q.2 >>= fun w=>.ok (q.1,w))=res:=U.symm;simp only [kl,↓aa,ab,simprocAttr];refine aY (I.pat d _ ag aC bM.C (fA (r:=(.error e)) U a8)) ?_;rintro x ar ⟨a,b4,bV,fR,rfl,gZ,m3,cq⟩;replace U:=e6 (r:=(.error e)) U fR
                 try dsimp only at U
                 have bj:=bM.eN m3 cq gZ;have c4:=bj.bg.one;obtain ⟨aT,bt,a6⟩:=bj.st b8 (vcs a b4);simp only [c4.1,c4.2.1,c4.2.2,bt,↓aa,ab,simprocAttr];refine aY (iy a6.C fO) ?_;rintro x bE ⟨m5,b1,eW,bW⟩;replace U:=iW (r:=bV) U eW
                 try dsimp only at U
                 have bO:=a6.call m5 bW;have o:=bO.bg.one;have bb:=bO.drop.du (vcs a b4);simp only [bb.a'.g,o.1,o.2.1,o.2.2,aX,vcs,bR,bO.a'.g,bO.bT.g,↓aa,ab,simprocAttr];exact bb.fin (ji U)
               | ok yj=>
                 replace U:=hk U
                 try dsimp only at U
                 simp only [j2,↓aa,ab,simprocAttr];refine bQ (ff bM.C fO) ?_;cases pQ:bm fO yj with
                 | true=>
                   simp only [pQ,aoM] at U;obtain ⟨i3,ar,fj,yf,aB,m3,cq⟩:=bM.C.iG (gP pQ);have bj:=bM.call m3 cq;have gC:=bj.leaf 13 0 (bI af ws) (s:=[]) (aoQ _);simp only [fj.g,yf,aB,↓aa,ab,simprocAttr];refine aY (gf 13 (bI af ws) [] gC.bg.c') ?_;rintro x aT ⟨rfl,cO⟩;have a6:=gC.ext cO;have o:=a6.bg.one;have bb:=a6.du (vcs (aP.mk 13 0 (bI af ws) [] []) .cL);simp only [bb.a'.g,o.1,o.2.1,o.2.2,aX,vcs,bR,a6.a'.g,↓aa,ab,simprocAttr];exact bb.fin U.symm
                 | false=>
                   simp only [pQ,aoA,aoK] at U;simp only [↓aa,ab,simprocAttr];refine aY (I.pat d _ ag aC bM.C (fA (r:=(.ok yj)) U a8)) ?_;rintro x ar ⟨a,b4,bV,fR,rfl,gZ,m3,cq⟩;replace U:=e6 (r:=(.ok yj)) U fR
                   try dsimp only at U
                   have bj:=bM.eN m3 cq gZ;have c4:=bj.bg.one;obtain ⟨aT,bt,a6⟩:=bj.st b8 (vcs a b4);simp only [c4.1,c4.2.1,c4.2.2,bt,↓aa,ab,simprocAttr];refine aY (iy a6.C fO) ?_;rintro x bE ⟨m5,b1,eW,bW⟩;replace U:=iW (r:=bV) U eW
                   try dsimp only at U
                   have bO:=a6.call m5 bW;have o:=bO.bg.one;have bb:=bO.drop.du (vcs a b4);simp only [bb.a'.g,o.1,o.2.1,o.2.2,aX,vcs,bR,bO.a'.g,bO.bT.g,↓aa,ab,simprocAttr];exact bb.fin (ji U)
end
section
variable {W:List aq} {af ak n d:Nat} {ws:List aq} {r:bJ (List aq)}
theorem S2 {s t:List UInt8} (al:bm s ws=true) (h:s≠t):bm t ws=false:=by
 cases ws with
 | nil=>rfl
 | cons w r=>
   simp only [bm,aoE,aoO] at al;simp only [bm,al.2,ap5 h,aqa]
theorem Py {Jv aQ:List aq->bJ (aP × List aq)} (d:Nat) (Uv:∀r,e2 W af ak 73 [] d Jv r) (Uw:∀r,e2 W af ak 74 [] d aQ r) (r:bJ (List aq)):e2 W af ak 121 [] d (fun ws=>eD af mA ws >>= fun b9=>Jv b9 >>= fun q=>eD af lN q.2 >>= fun aR=>aQ aR >>= fun z=>.ok (.mk 27 0 (bI af ws) [] [q.1,z.1],z.2)) r:=by
 refine ll fun h aC res C U a8=>W5.z rfl (cm ?_);unfold MT;have ee:=cE.start C;obtain ⟨ad,an,b2⟩:=ee.new b8;simp only [an,↓aa,ab,simprocAttr];obtain ⟨a0,Uq,y7⟩:=acB b2.C;refine bQ Uq ?_;replace U:(r >>= fun ws=>eD af mA ws >>= fun b9=>Jv b9 >>= fun q=>eD af lN q.2 >>= fun aR=>aQ aR >>= fun z=>.ok (.mk 27 0 (a0:Int) [] [q.1,z.1],z.2))=res:=by
  rw [<-U];cases r with
  | error e=>rfl
  | ok ws=>rw [y7 ws rfl];rfl
 simp only [↓aa,ab,simprocAttr];refine aY (iy b2.C mA) ?_;rintro x ag ⟨m2,bc,bY,bx⟩;replace U:=iW (r:=r) U bY
 try dsimp only at U
 have bM:=b2.call m2 bx;simp only [↓aa,ab,simprocAttr];refine aY (Uv _ ag aC bM.C (fA (r:=bc) U a8)) ?_;rintro x ar ⟨a,b4,bV,fR,rfl,gZ,m3,cq⟩;replace U:=e6 (r:=bc) U fR
 try dsimp only at U
 have bj:=bM.eN m3 cq gZ;have c4:=bj.bg.one;obtain ⟨aT,bt,a6⟩:=bj.st b8 (vcs a b4);simp only [c4.1,c4.2.1,c4.2.2,bt,↓aa,ab,simprocAttr];refine aY (iy a6.C lN) ?_;rintro x bE ⟨m5,b1,eW,bW⟩;replace U:=iW (r:=bV) U eW
 try dsimp only at U
 have bO:=a6.call m5 bW;simp only [↓aa,ab,simprocAttr];refine aY (Uw _ bE aC bO.C (fA (r:=b1) U a8)) ?_;rintro x bA ⟨b,eK,dS,iV,rfl,kW,m6,cv⟩;replace U:=e6 (r:=b1) U iV
 try dsimp only at U
 have cj:=bO.eN m6 cv kW;have gl:=cj.bg.one;obtain ⟨cl,dq,cV⟩:=cj.st b8 (vcs b eK);have kt:=cV.cg.one;have ku:=cV.bg.one;obtain ⟨er,dy,f',dK⟩:=cV.qD cV.cg cV.bg 27 a0 (s:=[]) (aoQ _);simp only [vcs,aoW,ao5] at dy;simp only [gl.1,gl.2.1,gl.2.2,dq,cV.bT.g,cV.a'.g,kt.1,kt.2.1,kt.2.2,ku.1,ku.2.1,ku.2.2,dy,↓aa,ab,simprocAttr];refine aY (gf 27 a0 [] dK.bg.c') ?_;rintro x fB ⟨rfl,jy⟩;have ep:=dK.ext jy;have o:=ep.bg.one;have bb:=ep.drop.drop.du (vcs (aP.mk 27 0 a0 [] [a,b]) (.slice (ao cl.next) 0 2 2));simp only [bb.a'.g,o.1,o.2.1,o.2.2,aX,vcs,bR,ep.a'.g,ep.bT.g,ep.c2.g,↓aa,ab,simprocAttr];exact bb.fin (ji U)
theorem Jo (I:jx W af ak n) (d:Nat) (r:bJ (List aq)):e2 W af ak 158 [] d ((aU af n).one d) r:=by
 refine ll fun h aC res C U a8=>Xq.z rfl (cm ?_);unfold Nd;have ee:=cE.start C;obtain ⟨ad,an,b2⟩:=ee.new b8;simp only [an,↓aa,ab,simprocAttr];refine bQ (jG b2.C) ?_;cases r with
 | error e=>
   replace U:=kY U;have gS:=b2.leaf 0 0 0 (s:=[]) (aoQ _);have o:=gS.bg.one;have bb:=gS.du (vcs (.mk 0 0 0 [] []) .cL);simp only [bb.a'.g,o.1,o.2.1,o.2.2,aX,vcs,bR,kl,gS.a'.g,↓aa,ab,simprocAttr];exact bb.fin (r:=.error e) U
 | ok a_=>
   replace U:=hk U
   try dsimp only at U
   simp only [j2,↓aa,ab,simprocAttr];refine aY (I.one d _ ad aC b2.C (fun w e q=>by cases e;rw [q] at U;exact a8 U.symm)) ?_;rintro x ag ⟨c,eu,bc,bY,rfl,gI,m2,bx⟩;have bM:=b2.eN m2 bx gI;have o:=bM.bg.one;have bb:=bM.du (vcs c eu);simp only [bb.a'.g,o.1,o.2.1,o.2.2,aX,vcs,bR,bM.a'.g,↓aa,ab,simprocAttr];exact bb.fin (U.symm.trans bY)
theorem ahZ (I:jx W af ak n) (d:Nat) (ws:List aq):e2 W af ak 125 [] d ((aU af (n+1)).one d) (.ok ws):=by
 refine ll fun h aC res C U a8=>W9.z rfl (cm ?_);replace U:ua af (aU af n) d ws=res:=U;unfold ua at U;unfold MX;have ee:=cE.start C;dsimp only at U;obtain ⟨ad,an,b2⟩:=ee.new b8;simp only [an,↓aa,ab,simprocAttr];refine bQ (ff b2.C rC) ?_;cases b_:bm rC ws with
 | true=>
   simp only [b_,aoM] at U;have hF:(fun ws=>(aU af n).lt d (bI af ws) ws.tail) ws=(aU af n).lt d (bI af ws) ws.tail:=rfl;simp only [↓aa,ab,simprocAttr];refine aY (I.lt d ws (gP b_) ad aC b2.C (fun w e q=>by cases e;rw [hF] at q;rw [q] at U;exact a8 U.symm)) ?_;rintro x ag ⟨c,eu,bc,bY,rfl,gI,m2,bx⟩;replace bY:=hF.symm.trans bY;have bM:=b2.eN m2 bx gI;have o:=bM.bg.one;have bb:=bM.du (vcs c eu);simp only [bb.a'.g,o.1,o.2.1,o.2.2,aX,vcs,bR,bM.a'.g,↓aa,ab,simprocAttr];exact bb.fin (U.symm.trans bY)
 | false=>
   simp only [b_,aoA,aoK] at U;simp only [↓aa,ab,simprocAttr];refine bQ (ff b2.C mA) ?_;cases dD:bm mA ws with
   | true=>
     simp only [dD,aoM] at U;have hF:(fun ws=>eD af mA ws >>= fun b9=>(aU af n).fn d (bI af ws) b9) ws=(aU af n).fn d (bI af ws) ws.tail:=by show (eD af mA ws >>= _)=_;unfold eD;rw [aoN dD];rfl
     simp only [↓aa,ab,simprocAttr];refine aY (I.fn d (.ok ws) ad aC b2.C (fun w e q=>by cases e;rw [hF] at q;rw [q] at U;exact a8 U.symm)) ?_;rintro x ag ⟨c,eu,bc,bY,rfl,gI,m2,bx⟩;replace bY:=hF.symm.trans bY;have bM:=b2.eN m2 bx gI;have o:=bM.bg.one;have bb:=bM.du (vcs c eu);simp only [bb.a'.g,o.1,o.2.1,o.2.2,aX,vcs,bR,bM.a'.g,↓aa,ab,simprocAttr];exact bb.fin (U.symm.trans bY)
   | false=>
     simp only [dD,aoA,aoK] at U;simp only [↓aa,ab,simprocAttr];refine bQ (ff b2.C zx) ?_;cases eO:bm zx ws with
     | true=>
       simp only [eO,aoM] at U;rw [S2 eO (t:=vu) (by decide),aoI ao2] at U;have hF:(fun ws=>(aU af n).hl d 32 (bI af ws) ws.tail) ws=(aU af n).hl d 32 (bI af ws) ws.tail:=rfl;simp only [↓aa,ab,simprocAttr];refine aY (I.hl d 32 ws (gP eO) ad aC b2.C (fun w e q=>by cases e;rw [hF] at q;rw [q] at U;exact a8 U.symm)) ?_;rintro x ag ⟨c,eu,bc,bY,rfl,gI,m2,bx⟩;replace bY:=hF.symm.trans bY;have bM:=b2.eN m2 bx gI;have o:=bM.bg.one;have bb:=bM.du (vcs c eu);simp only [bb.a'.g,o.1,o.2.1,o.2.2,aX,vcs,bR,bM.a'.g,↓aa,ab,simprocAttr];exact bb.fin (U.symm.trans bY)
     | false=>
       simp only [eO,aoA,aoK] at U;simp only [↓aa,ab,simprocAttr];refine bQ (ff b2.C zA) ?_;cases jn:bm zA ws with
       | true=>
         simp only [jn,aoM] at U;rw [S2 jn (t:=vu) (by decide),aoI ao2] at U;have hF:(fun ws=>(aU af n).hl d 33 (bI af ws) ws.tail) ws=(aU af n).hl d 33 (bI af ws) ws.tail:=rfl;simp only [↓aa,ab,simprocAttr];refine aY (I.hl d 33 ws (gP jn) ad aC b2.C (fun w e q=>by cases e;rw [hF] at q;rw [q] at U;exact a8 U.symm)) ?_;rintro x ag ⟨c,eu,bc,bY,rfl,gI,m2,bx⟩;replace bY:=hF.symm.trans bY;have bM:=b2.eN m2 bx gI;have o:=bM.bg.one;have bb:=bM.du (vcs c eu);simp only [bb.a'.g,o.1,o.2.1,o.2.2,aX,vcs,bR,bM.a'.g,↓aa,ab,simprocAttr];exact bb.fin (U.symm.trans bY)
       | false=>
         simp only [jn,aoA,aoK] at U;simp only [↓aa,ab,simprocAttr];refine bQ (ff b2.C vu) ?_;cases kG:bm vu ws with
         | true=>
           simp only [kG,aoM] at U;simp only [↓aa,ab,simprocAttr];refine bQ (sj b2.C) ?_;obtain ⟨i2,ag,fu,mf,av,m2,bx⟩:=b2.C.iG (gP kG);have bM:=b2.call m2 bx;simp only [fu.g,mf,av,↓aa,ab,simprocAttr];refine aY (I.seq d _ ag aC bM.C (fA (r:=(.ok ws.tail)) U a8)) ?_;rintro x ar ⟨a,b4,bV,fR,rfl,gZ,m3,cq⟩;replace U:=e6 (r:=(.ok ws.tail)) U fR
           try dsimp only at U
           have bj:=bM.eN m3 cq gZ;have c4:=bj.bg.one;obtain ⟨aT,bt,a6⟩:=bj.st b8 (vcs a b4);simp only [c4.1,c4.2.1,c4.2.2,bt,↓aa,ab,simprocAttr];refine aY (iy a6.C EV) ?_;rintro x bE ⟨m5,b1,eW,bW⟩;replace U:=iW (r:=bV) U eW
           try dsimp only at U
           have bO:=a6.call m5 bW;simp only [↓aa,ab,simprocAttr];refine aY (Jo I d _ bE aC bO.C (fA (r:=b1) U a8)) ?_;rintro x bA ⟨b,eK,dS,iV,rfl,kW,m6,cv⟩;replace U:=e6 (r:=b1) U iV
           try dsimp only at U
           have cj:=bO.eN m6 cv kW;have gl:=cj.bg.one;obtain ⟨cl,dq,cV⟩:=cj.st b8 (vcs b eK);simp only [gl.1,gl.2.1,gl.2.2,dq,↓aa,ab,simprocAttr];refine aY (iy cV.C ET) ?_;rintro x er ⟨m8,gm,Gm,gh⟩;replace U:=iW (r:=dS) U Gm
           try dsimp only at U
           have dK:=cV.call m8 gh;simp only [↓aa,ab,simprocAttr];refine aY (Jo I d _ er aC dK.C (fA (r:=gm) U a8)) ?_;rintro x fB ⟨c,eu,mb,Gn,rfl,yy,m9,fQ⟩;replace U:=e6 (r:=gm) U Gn
           try dsimp only at U
           have ep:=dK.eN m9 fQ yy;have xK:=ep.bg.one;obtain ⟨iJ,l',fr⟩:=ep.st b8 (vcs c eu);have xN:=fr.cY.one;have xO:=fr.cg.one;have xP:=fr.bg.one;obtain ⟨lv,pk,DT,lU⟩:=fr.Rh fr.cY fr.cg fr.bg 31 (bI af ws) (s:=[]) (aoQ _);simp only [vcs,aoW,ao5] at pk;simp only [xK.1,xK.2.1,xK.2.2,l',fr.c2.g,fr.bT.g,fr.a'.g,xN.1,xN.2.1,xN.2.2,xO.1,xO.2.1,xO.2.2,xP.1,xP.2.1,xP.2.2,pk,↓aa,ab,simprocAttr];refine aY (gf 31 (bI af ws) [] lU.bg.c') ?_;rintro x Bz ⟨rfl,tj⟩;have nx:=lU.ext tj;have o:=nx.bg.one;have bb:=nx.drop.drop.drop.du (vcs (aP.mk 31 0 (bI af ws) [] [a,b,c]) (.slice (ao iJ.next) 0 3 3));simp only [bb.a'.g,o.1,o.2.1,o.2.2,aX,vcs,bR,nx.a'.g,nx.bT.g,nx.c2.g,nx.h9.g,↓aa,ab,simprocAttr];exact bb.fin (ji U)
         | false=>
           simp only [kG,aoA,aoK] at U;simp only [↓aa,ab,simprocAttr];refine aY (I.pair d _ ad aC b2.C (fA (r:=(.ok ws)) U a8)) ?_;rintro x ag ⟨a,b4,bc,bY,rfl,gI,m2,bx⟩;replace U:=e6 (r:=(.ok ws)) U bY
           try dsimp only at U
           have bM:=b2.eN m2 bx gI;have dN:=bM.bg.one;obtain ⟨ar,aB,bj⟩:=bM.st b8 (vcs a b4);simp only [dN.1,dN.2.1,dN.2.2,aB,↓aa,ab,simprocAttr];refine bQ (jG bj.C) ?_;cases bc with
           | error e=>
             replace U:=kY U;have o:=bj.bg.one;have bb:=bj.drop.du (vcs a b4);simp only [bb.a'.g,o.1,o.2.1,o.2.2,aX,vcs,bR,kl,bj.a'.g,bj.bT.g,↓aa,ab,simprocAttr];exact bb.fin U
           | ok dd=>
             replace U:=hk U
             try dsimp only at U
             simp only [j2,↓aa,ab,simprocAttr];refine bQ (ff bj.C Ac) ?_;cases kH:bm Ac dd with
             | true=>
               simp only [kH,aoM] at U;obtain ⟨i4,aT,eL,p5,bt,m4,ch⟩:=bj.C.iG (gP kH);have a6:=bj.call m4 ch;simp only [eL.g,p5,bt,↓aa,ab,simprocAttr];refine aY (Jo I d _ aT aC a6.C (fA (r:=(.ok dd.tail)) U a8)) ?_;rintro x bE ⟨b,eK,b1,eW,rfl,jZ,m5,bW⟩;replace U:=e6 (r:=(.ok dd.tail)) U eW
               try dsimp only at U
               have bO:=a6.eN m5 bW jZ;have fm:=bO.bg.one;obtain ⟨bA,cx,cj⟩:=bO.st b8 (vcs b eK);have e':=cj.cg.one;have l9:=cj.bg.one;obtain ⟨cl,dq,dR,cV⟩:=cj.qD cj.cg cj.bg 37 a.a (s:=[]) (aoQ _);simp only [vcs,aoW,ao5] at dq;simp only [fm.1,fm.2.1,fm.2.2,cx,cj.bT.g,cj.a'.g,e'.1,e'.2.1,e'.2.2,l9.1,l9.2.1,l9.2.2,dq,↓aa,ab,simprocAttr];refine aY (gf 37 a.a [] cV.bg.c') ?_;rintro x er ⟨rfl,f'⟩;have dK:=cV.ext f';have o:=dK.bg.one;have bb:=dK.drop.drop.du (vcs (aP.mk 37 0 a.a [] [a,b]) (.slice (ao bA.next) 0 2 2));simp only [bb.a'.g,o.1,o.2.1,o.2.2,aX,vcs,bR,dK.a'.g,dK.bT.g,dK.c2.g,↓aa,ab,simprocAttr];exact bb.fin (ji U)
             | false=>
               simp only [kH,aoA,aoK] at U;have o:=bj.bg.one;have bb:=bj.drop.du (vcs a b4);simp only [bb.a'.g,o.1,o.2.1,o.2.2,aX,vcs,bR,bj.a'.g,bj.bT.g,↓aa,ab,simprocAttr];exact bb.fin U.symm
theorem OB (I:jx W af ak n) (d:Nat) (bk:d=0) (k:Int) (r:bJ (List aq)):e2 W af ak 70 [.int .i64 k] d (kZ af (aU af n) k) r:=by
 refine ll fun h aC res C U a8=>Yw.z rfl (cm ?_);unfold N7;unfold kZ at U;rw [show (aU af n).ty 0=(aU af n).ty d from by rw [bk]] at U;have ee:=cE.start C;obtain ⟨ad,an,b2⟩:=ee.new b8;simp only [an,↓aa,ab,simprocAttr];refine aY (x' b2.C 4) ?_;rintro x ag ⟨m2,aR,bc,bY,rfl,e4,bx⟩;replace U:=e6 (r:=r) U bY
 try dsimp only at U
 have bM:=b2.call m2 bx;obtain ⟨ar,aB,bj⟩:=bM.st [.int .i64 0,.int .i64 0,.int .i64 0,.str []] [.int .i64 aR.kind,.int .i64 aR.num,.int .i64 aR.pos,.str aR.text];simp only [aq.enc,aB,↓aa,ab,simprocAttr];refine bQ (jG bj.C) ?_;cases bc with
 | error e=>
   replace U:=kY U;have gC:=bj.leaf k 0 aR.pos (s:=aR.text) (iF.fh bj.C e4);simp only [kl,bj.a'.g,↓aa,ab,simprocAttr];refine aY (gf k aR.pos aR.text gC.bg.c') ?_;rintro x aT ⟨rfl,cO⟩;have a6:=gC.ext cO;have o:=a6.bg.one;have bb:=a6.drop.du (vcs (aP.mk k 0 aR.pos aR.text []) .cL);simp only [bb.a'.g,o.1,o.2.1,o.2.2,aX,vcs,bR,a6.a'.g,a6.bT.g,↓aa,ab,simprocAttr];exact bb.fin U
 | ok dd=>
   replace U:=hk U
   try dsimp only at U
   simp only [j2,↓aa,ab,simprocAttr];refine bQ (ff bj.C zy) ?_;cases b_:bm zy dd with
   | true=>
     simp only [b_,aoM] at U;obtain ⟨i4,aT,eL,p5,bt,m4,ch⟩:=bj.C.iG (gP b_);have a6:=bj.call m4 ch;simp only [eL.g,p5,bt,↓aa,ab,simprocAttr];refine aY (I.ty d _ aT aC a6.C (fA (r:=(.ok dd.tail)) U a8)) ?_;rintro x bE ⟨a,b4,b1,eW,rfl,jZ,m5,bW⟩;replace U:=e6 (r:=(.ok dd.tail)) U eW
     try dsimp only at U
     have bO:=a6.eN m5 bW jZ;have fm:=bO.bg.one;obtain ⟨bA,cx,cj⟩:=bO.st b8 (vcs a b4);have e':=cj.bg.one;obtain ⟨cl,dq,dR,cV⟩:=cj.vx cj.bg k aR.pos (s:=aR.text) (iF.fh cj.C e4);simp only [fm.1,fm.2.1,fm.2.2,cx,cj.a'.g,cj.bT.g,e'.1,e'.2.1,e'.2.2,dq,↓aa,ab,simprocAttr];refine aY (gf k aR.pos aR.text cV.bg.c') ?_;rintro x er ⟨rfl,f'⟩;have dK:=cV.ext f';have o:=dK.bg.one;have bb:=dK.drop.drop.du (vcs (aP.mk k 0 aR.pos aR.text [a]) (.slice (ao bA.next) 0 1 1));simp only [bb.a'.g,o.1,o.2.1,o.2.2,aX,vcs,bR,dK.a'.g,dK.bT.g,dK.c2.g,↓aa,ab,simprocAttr];exact bb.fin (ji U)
   | false=>
     simp only [b_,aoA,aoK] at U;have gC:=bj.leaf k 0 aR.pos (s:=aR.text) (iF.fh bj.C e4);simp only [bj.a'.g,↓aa,ab,simprocAttr];refine aY (gf k aR.pos aR.text gC.bg.c') ?_;rintro x aT ⟨rfl,cO⟩;have a6:=gC.ext cO;have o:=a6.bg.one;have bb:=a6.drop.du (vcs (aP.mk k 0 aR.pos aR.text []) .cL);simp only [bb.a'.g,o.1,o.2.1,o.2.2,aX,vcs,bR,a6.a'.g,a6.bT.g,↓aa,ab,simprocAttr];exact bb.fin U.symm
end
section
variable {W:List aq} {af ak n:Nat}
theorem VS (J:∀m,m<=n->iE W af ak m) (d:Nat) (ws:List aq):gD W af ak 229 [] d ws ((aU af (n+1)).app d ws):=by
 have I:=J n (aoz n);intro h aC i C a8;generalize U:(aU af (n+1)).app d ws=res at a8 ⊢;replace U:pC af (aU af n) d ws=res:=U;unfold pC at U;dsimp only at U;refine XL.x rfl (cm ?_);unfold Nu;have bX:=C.at_.lt;obtain ⟨ad,an,aO,bz⟩:=fS h b8;have m1:Mod (b3 ak) h ad:=aO.mod _;have cw:=m1;have cz:=C.ext aO;simp only [an,↓aa,ab,simprocAttr];refine bQ (qO cz) ?_;simp only [↓aa,ab,simprocAttr];refine aY (ho cz zz) ?_;rintro x ag ⟨rfl,m2,i2,bx⟩;have M2:=cw.trans m2;cases b_:bm zz ws with
 | true=>
   simp only [b_,aoM,aoA,aoK,bB] at U bx;simp only [↓aa,ab,simprocAttr];have g3:(aU af n).atom d ws.tail≠.error b6:=fun q=>by rw [q] at U;exact a8 U.symm
   refine cH (I.atom d ws.tail ag aC i2 bx g3) ?_ ?_
   rotate_left
   . rintro x ar ⟨e,he,rfl,m,bn⟩;simp only [cF,aX,↓aa,ab,simprocAttr];exact ⟨e,by rw [he] at U;exact U.symm,rfl,(M2.trans m),bn⟩
   rintro x ar ⟨a,dd,b4,i3,bV,rfl,aN,m3,cq⟩;rw [bV] at U
   try simp only [bB] at U
   have ct:=M2.trans m3;have JZ:=aN.one;obtain ⟨aT,bt,cO,qc⟩:=sC (F:=Fr ag.next) (h:=ar) (size:=5) rfl aN.cs (rf m3.next);have m4:Mod (b3 ak) ar aT:=cO.mod _;have cZ:=ct.trans m4;have ch:=cq.ext cO;have ef:=oy (l:=[a]) 34 0 (bI af ws) [] qc rfl (aoQ _);have kT:=bz.mod (m2.trans (m3.trans m4)) (bU bX);have o:=ef.one;simp only [o.1,o.2.1,o.2.2,aX,vcs,bR,JZ.1,JZ.2.1,JZ.2.2,bt,kT.g,↓aa,ab,simprocAttr];exact ⟨_,_,_,_,U.symm,rfl,(ef.box (by have:=m2.next;have:=bz.lt;omega) _).cP (by have:=(m1.trans m2).next;omega),cZ.set (fun o=>absurd o (dj (aoz _))) _,C.box ch (aoz _) _⟩
 | false=>
   simp only [b_,aoM,aoA,aoK,bB] at U bx;simp only [↓aa,ab,simprocAttr];refine bQ (j' bx 4) ?_;cases dD:cS 4 ws with
   | true=>
     simp only [dD,aoM,aoA,aoK,bB] at U;simp only [↓aa,ab,simprocAttr];refine cH (mK bx 4) ?_ ?_
     rotate_left
     . rintro x ar ⟨e,he,rfl,m,bn⟩;simp only [cF,aX,↓aa,ab,simprocAttr];exact ⟨e,by rw [he] at U;exact U.symm,rfl,(M2.trans m),bn⟩
     rintro x ar ⟨⟨eH,dd⟩,bV,rfl,⟨pR,o6⟩,m3,i3,cq⟩;rw [bV] at U
     try simp only [bB] at U
     have ct:=M2.trans m3;obtain ⟨aT,bt,cO,eL⟩:=fz ar b8 [.int .i64 25,.int .i64 0,.int .i64 (bI af ws),.str eH.text,.cL];have m4:Mod (b3 ak) ar aT:=cO.mod _;have cZ:=ct.trans m4;have ch:=cq.ext cO;simp only [aq.enc,bt,↓aa,ab,simprocAttr];refine aY (Mh ch) ?_;rintro x bE ⟨rfl,e7⟩;have m5:Mod (b3 ak) aT bE:=e7.mod _;have cR:=cZ.trans m5;have bW:=ch.ext e7;cases eO:n0 dd with
     | true=>
       simp only [eO,aoM,aoA,aoK,bB] at U;simp only [↓aa,ab,simprocAttr];have g6:(aU af n).atom d dd≠.error b6:=fun q=>by rw [q] at U;exact a8 U.symm
       refine cH (I.atom d dd bE aC i3 bW g6) ?_ ?_
       rotate_left
       . rintro x bA ⟨e,he,rfl,m,bn⟩;simp only [cF,aX,↓aa,ab,simprocAttr];exact ⟨e,by rw [he] at U;exact U.symm,rfl,(cR.trans m),bn⟩
       rintro x bA ⟨a,jv,b4,i6,dS,rfl,aN,m6,cv⟩;rw [dS] at U
       try simp only [bB] at U
       have di:=cR.trans m6;have e':=aN.one;obtain ⟨cl,dq,dR,q3⟩:=sC (F:=Fr bE.next) (h:=bA) (size:=5) rfl aN.cs (rf m6.next);have m7:Mod (b3 ak) bA cl:=dR.mod _;have ew:=di.trans m7;have eP:=cv.ext dR;have ef:=oy (l:=[a]) 25 0 (bI af ws) eH.text q3 rfl (le_top (C.fh eH pR));have kU:=eL.mod (m5.trans (m6.trans m7)) (bU (by have:=ct.next;omega));obtain ⟨er,dy⟩:∃g,cl.set (ao ar.next) (.bd [.int .i64 25,.int .i64 0,.int .i64 (bI af ws),.str eH.text,(.slice (ao bA.next) 0 1 1)] 0 false)=g:=⟨_,rfl⟩;have ps:=kU.put [.int .i64 25,.int .i64 0,.int .i64 (bI af ws),.str eH.text,(.slice (ao bA.next) 0 1 1)];rw [dy] at ps;have gh:=C.box eP (n:=ar.next) ct.next (.bd [.int .i64 25,.int .i64 0,.int .i64 (bI af ws),.str eH.text,(.slice (ao bA.next) 0 1 1)] 0 false)
       rw [dy] at gh;have gY:Mod (b3 ak) h er:=by rw [<-dy];exact ew.set (fun o=>absurd o (dj ct.next)) _
       have qd:=aN.mod m7 (by have:=cR.next;omega);have wk:=qd.box (n:=ar.next) (by have:=m5.next;have:=eL.lt;omega) (.bd [.int .i64 25,.int .i64 0,.int .i64 (bI af ws),.str eH.text,(.slice (ao bA.next) 0 1 1)] 0 false);rw [dy] at wk;have oM:=ef.box (n:=ar.next) (by have:=m5.next;have:=eL.lt;omega) (.bd [.int .i64 25,.int .i64 0,.int .i64 (bI af ws),.str eH.text,(.slice (ao bA.next) 0 1 1)] 0 false);rw [dy] at oM;have hC:=bz.mod (m2.trans (m3.trans (m4.trans (m5.trans (m6.trans m7))))) (bU bX);have p8:=hC.set (m:=ar.next) (by have:=bz.lt;have:=(m2.trans m3).next;omega) (.bd [.int .i64 25,.int .i64 0,.int .i64 (bI af ws),.str eH.text,(.slice (ao bA.next) 0 1 1)] 0 false);rw [dy] at p8;have m8:Mod (fun b=>b=ao ar.next) cl er:=by rw [<-dy];exact (Mod.refl (fun b=>b=ao ar.next) _).set (fun _=>rfl) _
       have o:=oM.one;simp only [o.1,o.2.1,o.2.2,aX,vcs,bR,e'.1,e'.2.1,e'.2.2,dq,kU.g,dy,ps.g,p8.g,↓aa,ab,simprocAttr];exact ⟨_,_,_,_,U.symm,rfl,(oM.box (by have:=(m2.trans (m3.trans (m4.trans m5))).next;have:=bz.lt;omega) _).cP (by have:=(m1.trans (m2.trans (m3.trans (m4.trans m5)))).next;omega),gY.set (fun o=>absurd o (dj (aoz _))) _,C.box gh (aoz _) _⟩
     | false=>
       simp only [eO,aoM,aoA,aoK,bB] at U;have hf:=eL.mod m5 (bU (by have:=ct.next;omega));have hT:=bz.mod (m2.trans (m3.trans (m4.trans m5))) (bU bX);simp only [aX,vcs,bR,hf.g,hT.g,↓aa,ab,simprocAttr];exact ⟨_,_,_,_,U.symm,rfl,iR _ _ _ _ _ (le_top (C.fh eH pR)),cR.set (fun o=>absurd o (dj (aoz _))) _,C.box bW (aoz _) _⟩
   | false=>
     simp only [dD,aoM,aoA,aoK,bB] at U;simp only [↓aa,ab,simprocAttr];have g3:(aU af n).atom d ws≠.error b6:=fun q=>by rw [q] at U;exact a8 U.symm
     refine cH (I.atom d ws ag aC i2 bx g3) ?_ ?_
     rotate_left
     . rintro x ar ⟨e,he,rfl,m,bn⟩;simp only [cF,aX,↓aa,ab,simprocAttr];exact ⟨e,by rw [he] at U;exact U.symm,rfl,(M2.trans m),bn⟩
     rintro x ar ⟨a,dd,b4,i3,bV,rfl,aN,m3,cq⟩;rw [bV] at U
     try simp only [bB] at U
     have ct:=M2.trans m3;have c4:=aN.one;obtain ⟨aT,bt,cO,eL⟩:=fz ar b8 (vcs a b4);have m4:Mod (b3 ak) ar aT:=cO.mod _;have cZ:=ct.trans m4;have ch:=cq.ext cO;have kT:=bz.mod (m2.trans (m3.trans m4)) (bU bX);have sW:=aN.By cO;have ov:ag.next<=ar.next:=m3.next
     simp only [c4.1,c4.2.1,c4.2.2,bt,eL.g,kT.g,↓aa,ab,simprocAttr];refine gb (fun r g=>r 0=.ptr (ao ak) 0/\r 2=.ptr (ao h.next) 0/\r 5=.ptr (ao ar.next) 0/\Has g h.next b8/\Mod (b3 ak) h g/\∃m a b4 dm iY,m<=n/\Has g ar.next (vcs a b4)/\dt (lp ag.next ar.next) g a b4/\ed W af ak g d dm aC iY/\(aU af m).args d a dm=res) (fun _ g=>qF W ak g) ?_ ?_
     . exact ⟨by simp only [↓aa,cM,simprocAttr],by simp only [↓aa,cM,simprocAttr],by simp only [↓aa,cM,simprocAttr],kT,cZ,n,_,_,_,_,aoz _,eL,sW,ch,U⟩
     rintro r bE ⟨aW,bc,b1,R,cR,m,a,b4,dm,iY,hm,A,P,bW,U⟩;cases m with
     | zero=>exact (a8 U.symm).elim
     | succ m=>
       replace U:s9 (aU af m) d a dm=res:=U;unfold s9 at U;have I:=J m (by omega);have ja:=A.lt;simp only [aW,bc,b1,↓aa,ab,simprocAttr];refine aY (Mh bW) ?_;rintro x bA ⟨rfl,e3⟩;have m6:Mod (b3 ak) bE bA:=e3.mod _;have di:=cR.trans m6;have cv:=bW.ext e3;cases jn:n0 dm with
       | true=>
         simp only [jn,aoM,aoA,aoK,bB] at U;have jF:=A.mod m6 (bU (by have:=ct.next;omega));simp only [jF.g,aW,bc,b1,↓aa,ab,simprocAttr];have g7:(aU af m).atom d dm≠.error b6:=fun q=>by rw [q] at U;exact a8 U.symm
         refine cH (I.atom d dm bA aC iY cv g7) ?_ ?_
         rotate_left
         . rintro x cl ⟨e,he,rfl,m,bn⟩;simp only [cF,aX,jF.g,aW,bc,b1,kR,↓aa,ab,simprocAttr];exact ⟨rfl,e,by rw [he] at U;exact U.symm,rfl,(di.trans m),bn⟩
         rintro x cl ⟨b,mL,eK,i7,fg,rfl,fM,m7,eP⟩;rw [fg] at U
         try simp only [bB] at U
         have ew:=di.trans m7;have kU:=jF.mod m7 (bU (by have:=ct.next;omega));simp only [aW,bc,b1,jF.g,kU.g,↓aa,ab,simprocAttr];have U4:=P.xF (m6.trans m7) (by have:=M2.next;omega);refine aY (uy 28 U4 (fM.HT (h7:=ag.next) (n:=ar.next) (by have:=cR.next;have:=m6.next;have:=ja;have:=ov;omega) (by have:=m6.next;have:=ja;have:=ov;omega))) ?_;rintro x er ⟨eu,rfl,kX,f'⟩;have ef:=HU kX (by have:=cR.next;have:=(m6.trans m7).next;have:=ja;have:=ov;omega) (by have:=(m6.trans m7).next;have:=ja;have:=ov;omega);have m8:Mod (b3 ak) cl er:=f'.mod _;have gY:=ew.trans m8;have gh:=eP.ext f';have o:=ef.one;have v':=kU.mod m8 (bU (by have:=ct.next;omega));have Gc:=R.mod (m6.trans (m7.trans m8)) (bU bX);simp only [o.1,o.2.1,o.2.2,vcs,bR,aW,bc,b1,v'.g,jF.g,kU.g,↓aa,ab,simprocAttr];have fq:=C.box gh (n:=ar.next) ct.next (.bd (vcs (two 28 a b) eu) 0 false)
         exact ⟨⟨Gc.set (by have:=bz.lt;have:=(m2.trans m3).next;omega) _,gY.set (fun o=>absurd o (dj ct.next)) _,m,(two 28 a b),eu,_,_,by omega,v'.put _,ef.set (fun q=>q.2 rfl) _,fq,U⟩,by rw [lD bW,lD fq];have:=va ((shorter af m).atom d dm (.inl trivial)) fg;omega⟩
       | false=>
         simp only [jn,aoM,aoA,aoK,bB] at U;have yz:=P.xF m6 (by have:=M2.next;omega);have jg:=R.mod m6 (bU bX);have jF:=A.mod m6 (bU (by have:=ct.next;omega));have o:=yz.one;simp only [o.1,o.2.1,o.2.2,aX,vcs,bR,aW,bc,b1,jg.g,jF.g,↓aa,ab,simprocAttr];exact ⟨_,_,_,_,U.symm,rfl,yz.De (by have:=bz.lt;have:=m2.next;omega) (by have:=(m1.trans m2).next;omega) _,di.set (fun o=>absurd o (dj (aoz _))) _,C.box cv (aoz _) _⟩
end
section
variable {B h7 hg ak:Nat} {G F:aN->Prop} {h ae:ah} {size:Nat} {es:List (List D)} {v dc:V} {l:List aP} {p:aP} {W:List aq} {af d i:Nat} {ws bS:List aq} {aC:V}
theorem R5 (H:dB B G h size es v) (cd:h7<=B):dB h7 G h size es v:=by obtain ⟨us,a,b,c,d⟩:=H.ex;exact ⟨us,a.mono cd,b,c,d⟩
theorem R4 (H:dB B (Fr B) h size es v) (cd:h7<=B):dB h7 (Fr h7) h size es v:=R5 (H.eU fun b q=>aoF cd q) cd
theorem ZK {u:List V} (H:ev F h p.enc u):∃v,u=vcs p v/\dt F h p v:=by rw [Ft] at H;obtain ⟨_,rfl,cf⟩:=H.int;obtain ⟨_,rfl,c6⟩:=cf.int;obtain ⟨_,rfl,c3⟩:=c6.int;obtain ⟨_,rfl,al,hj⟩:=c3.str;obtain ⟨v,_,rfl,q,c5⟩:=hj.c';obtain rfl:=c5.no;exact ⟨v,rfl,q,al⟩
theorem ud (O:dB B (Fr B) h 5 (l.map aP.enc) dc) (aG:l.length<=3000000):e_ (Fr B) h 5 (l.map aP.enc) dc:=
 O.c' (by rw [ao6];unfold top;omega) (fun b q=>q) fun b q=>q
theorem rI (O:dB B (Fr B) h 5 (l.map aP.enc) dc) (aG:l.length<=3000000) (k n a:Int) {s:List UInt8} (al:s.length<=top):dt (Fr B) h (.mk k n a s l) dc:=⟨ud O aG,al⟩
theorem aiL {t:List aP} (O:dB B (Fr B) h 5 ((p::t).map aP.enc) dc) (aG:(p::t).length<=3000000):∃b off v,j9 5 dc (.int .i64 0)=some (.ptr b off)/\rE 5 (h.get b) off=some (.agg (vcs p v))/\dt (Fr B) h p v:=by obtain ⟨b,off,u,aO,bs,cT,cO,_⟩:=(ud O aG).at (k:=.i64) (i:=0) (by simp);simp only [ap9,List.getElem_cons_zero] at bs;obtain ⟨v,rfl,q⟩:=ZK bs;exact ⟨b,off+0 * 5,v,aO,cO h (Ext.refl h),q⟩
theorem zX (P:dt (Fr B) h p v) (cd:B<=h.next):∃g,h.new (.bd (vcs p v) 0 false)=g/\Ext h g/\dB B (Fr B) g 5 ([p].map aP.enc) (.slice (ao h.next) 0 1 1):=by obtain ⟨g,an,av,aB⟩:=aiN (cs:=vcs p v) (size:=5) rfl P.cs;exact ⟨g,an,av,R5 (aB.eU fun b q=>q.1) cd⟩
theorem pf (O:dB B (Fr B) h 5 (l.map aP.enc) dc) (P:dt (Fr hg) h p v) (bZ:∀b,dc.bp b->dP b<hg) (cd:B<=hg) (wR:hg<=h.next) (aG:l.length<=3000000):
 ∃ea ae,kj 5 dc (.slice (ao h.next) 0 1 1) (h.new (.bd (vcs p v) 0 false))=.val ea ae/\dB B (Fr B) ae 5 ((l++[p]).map aP.enc) ea/\Mod (fun b=>B<=dP b/\dP b<hg) h ae/\Mod dc.bp h ae/\∀b,ea.bp b->dc.bp b\/h.next<dP b:=by
 obtain ⟨ea,ae,an,av,aB,_,ca⟩:=O.add (ds:=p.enc) (cs:=vcs p v) (P.cs.eU fun b q=>⟨aoF cd q,fun z=>by have:=bZ b z;unfold Fr at q;omega⟩) (by decide) (aoF cd wR) (by rw [ao6];unfold top;omega) rfl;refine ⟨ea,ae,an,by rw [aqf];exact av,⟨aB.next,fun b o q=>aB.get b o fun z=>q ⟨O.base z,bZ b z⟩⟩,aB,ca⟩
theorem aiK {eC:List aP} {w:V} (O:dB B (Fr B) h 5 (l.map aP.enc) dc) (L:dB hg (Fr hg) h 5 (eC.map aP.enc) w) (bZ:∀b,dc.bp b->dP b<hg) (cd:B<=hg) (wR:hg<=h.next) (aG:l.length<=3000000) (j3:eC.length<=3000000):
 ∃ea ae,kj 5 dc w h=.val ea ae/\dB B (Fr B) ae 5 ((l++eC).map aP.enc) ea/\Mod (fun b=>B<=dP b/\dP b<hg) h ae:=by
 obtain ⟨ea,ae,an,av,aB,_⟩:=aiJ O (ud L j3) (fun b q=>⟨aoF cd q,fun z=>by have:=bZ b z;unfold Fr at q;omega⟩) (by decide) (aoF cd wR) (by rw [ao6,ao6];unfold top;omega);refine ⟨ea,ae,an,by rw [aqf];exact av,aB.next,fun b o q=>aB.get b o fun z=>q ⟨O.base z,bZ b z⟩⟩
theorem lg (O:dB B G h size es v) {n:Nat} (aI:h.next<=n):∀b,v.bp b->dP b<n:=fun b q=>by have:=O.RP q;unfold Old at this;omega
abbrev yp (B hg:Nat):aN->Prop:=fun b=>B<=dP b/\dP b<hg
theorem oa {n:Nat} {c:List V} (A:Has h n c) (m:Mod (yp B hg) h ae) (aI:n<B\/hg<=n):Has ae n c:=A.mod m fun z=>by unfold yp at z;rw [dh] at z;omega
theorem dt.lY (A:dt (Fr h7) h p v) (m:Mod (yp B hg) h ae) (aI:hg<=h7):dt (Fr h7) ae p v:=⟨A.c'.mod m fun b q _=>⟨fun z=>by unfold yp at z;unfold Fr at q;omega,q⟩,A.str⟩
theorem ed.lY {dF:Nat} {bS:List aq} {fV:Nat} {H ki:ah} (c:ed W af ak h d ws aC i) (eV:ed W af ak H dF bS aC fV) (m:Mod (yp B hg) H ki) (cd:h.next<=B):ed W af ak ki dF bS aC fV:=c.own eV m fun b q=>aoF cd q.1
theorem ou {M:aN->Prop} {aM:ah} (a:Mod M aM h) (m:Mod (yp B hg) h ae) (cd:aM.next<=B):Mod M aM ae:=ahb a m fun b q=>aoF cd q.1
theorem zM {s:List UInt8} (e:eD af s ws=.ok bS):bS.length<ws.length:=by
 unfold eD at e
 split at e
 . cases e;exact fw (by assumption)
 . cases e
theorem Tn {k:Int} {w:aq} (e:fc af k ws=.ok (w,bS)):bS.length<ws.length:=by have:=ky (af:=af) (ws:=ws) (k:=k) (E:=fun _=>True) (fun _ _=>trivial);rw [e] at this;exact this
theorem ed.p6 (c:ed W af ak h d ws aC i):ws.length<=1000000:=by rw [c.eq,aoZ];have:=c.nC;omega
theorem Fl (O:dB B (Fr B) h size es v) {n:Nat} (aI:n<B) (k:c_):dB B (Fr B) (h.set (ao n) k) size es v:=
 O.mod (M:=fun b=>b=ao n) ((Mod.refl (fun b=>b=ao n) h).set (fun _=>rfl) k) (fun b q z=>by have:=O.base q;rw [show b=ao n from z,dh] at this;omega) fun b q _ _ z=>by unfold Fr at q;rw [show b=ao n from z,dh] at q;omega
theorem aiO (H:dB B G h size es v):dB B (fun b=>G b/\Old h b) h size es v:=by obtain ⟨us,a,b,c,d⟩:=H.ex;exact ⟨us,a,b,c,fun i e u an av=>((d i e u an av).cu).eU fun b q=>⟨⟨q.1.1,q.2⟩,q.1.2⟩⟩
theorem R6 (H:dB B (Fr B) h size es v) {n:Nat} (aI:h.next<=n):dB B (lp B n) h size es v:=(aiO H).eU fun b q=>⟨q.1,fun z=>by rw [z] at q;exact dj aI q.2⟩
theorem zW {n:Nat} (O:dB B (lp B n) h size es v) (m:Mod (b3 ak) h ae) (ad:ak<B):dB B (lp B n) ae size es v:=
 O.mod m (fun b q z=>by have:=O.base q;rw [show b=ao ak from z,dh] at this;omega) fun b q _ _ z=>by have:=q.1;rw [show b=ao ak from z,dh] at this;omega
theorem Ka {n:Nat} (O:dB B (lp B n) h 5 (l.map aP.enc) dc) (P:dt (Fr hg) h p v) (bZ:∀b,dc.bp b->dP b<hg) (aI:n<hg) (cd:B<=hg) (wR:hg<=h.next) (aG:l.length<=3000000):
 ∃ea ae,kj 5 dc (.slice (ao h.next) 0 1 1) (h.new (.bd (vcs p v) 0 false))=.val ea ae/\dB B (lp B n) ae 5 ((l++[p]).map aP.enc) ea/\Mod (fun b=>B<=dP b/\dP b<hg) h ae/\Mod dc.bp h ae/\∀b,ea.bp b->dc.bp b\/h.next<dP b:=by
 obtain ⟨ea,ae,an,av,aB,_,ca⟩:=O.add (ds:=p.enc) (cs:=vcs p v) (P.cs.eU fun b q=>⟨⟨aoF cd q,fun z=>by unfold Fr at q;rw [z,dh] at q;omega⟩,fun z=>by have:=bZ b z;unfold Fr at q;omega⟩) (by decide) (aoF cd wR) (by rw [ao6];unfold top;omega) rfl;refine ⟨ea,ae,an,by rw [aqf];exact av,⟨aB.next,fun b o q=>aB.get b o fun z=>q ⟨O.base z,bZ b z⟩⟩,aB,ca⟩
theorem aiP {n:Nat} (O:dB B (lp B n) h 5 (l.map aP.enc) dc) (ap:¬dc.bp (ao n)) (wv:c_) (aG:l.length<=3000000) (k m a:Int) {s:List UInt8} (al:s.length<=top):dt (Fr B) (h.set (ao n) wv) (.mk k m a s l) dc:=
 ⟨(O.mod (M:=fun b=>b=ao n) ((Mod.refl (fun b=>b=ao n) h).set (fun _=>rfl) wv) (fun b q z=>ap (by rw [<-show b=ao n from z];exact q)) (fun b q _ _ z=>q.2 z)).c' (by rw [ao6];unfold top;omega) (fun b q=>q.1) fun b q=>q,al⟩
end
end
end Go.Proofs.YtahfljfikfkpnaaGreatDoor
