/- The chapter's functions, walked by the abstract machine: plain lemmas, no condition. Printed by a program from longer texts: names made short. -/
import Derived.Test.YtahfljfikfkpnaaGreatDoorM12
import Derived.Test.YtahfljfikfkpnaaGreatDoorM13
import Derived.Test.YtahfljfikfkpnaaGreatDoorM7
set_option linter.unusedSectionVars false
set_option linter.unusedSimpArgs false
set_option linter.unusedVariables false
set_option maxHeartbeats 64000000
noncomputable section
namespace Go.Proofs.YtahfljfikfkpnaaGreatDoor
section
open Go bg
section
variable {W:List aq} {ab ak:Nat} {h af:ah} {d:Nat} {ws:List aq} {aA:V} {i:Nat}
theorem Tk (s:List UInt8) (eG:List (List UInt8)) (ws:List aq):r6 (s::eG) ws=(bb s ws||r6 eG ws):=rfl
theorem Tj (C:ed W ab ak h d ws aA i) (eG:List (List UInt8)) {da:V} (L:hy h 1 da eG.length (eG.map V.str)) (adU:eG.length<=1000):e' Tryz.prog 148 [.ptr (an ak) 0,da] h (.bool (r6 eG ws)) h:=by
 refine jj (Xo.z rfl (cl ?_));unfold Nf;simp only [L.len,↓aa,ad,simprocAttr];refine gf (fun r g=>g=h/\r 0=.ptr (an ak) 0/\r 7=da/\r 8=.int .i64 eG.length/\∃j:Nat,r 9=.int .i64 j/\j<=eG.length/\r6 eG ws=r6 (eG.drop j) ws) (fun r g=>eG.length - (r 9).toN) ?_ ?_
 . exact ⟨rfl,by simp only [↓aa,cQ,simprocAttr],by simp only [↓aa,cQ,simprocAttr],by simp only [↓aa,cQ,simprocAttr],0,by simp only [↓aa,cQ,simprocAttr]<;>rfl,api _,rfl⟩
 rintro r g ⟨rfl,aW,e3,hd,j,py,cY,al⟩;by_cases a1:j<eG.length
 . have g0:((j:Int) < (eG.length:Int))=True:=apk (by omega);obtain ⟨b,off,ao,av⟩:=L.mF (k:=.i64) a1;have aC:=av.la (i:=j * 1) (by simp;omega);rw [List.getElem_map] at aC;have lr:=uO a1 (by omega);have bu:eG.drop j=eG[j]::eG.drop (j+1):=apB a1;have aP:eG[j * 1]'(by omega)=eG[j]:=by congr 1;omega
   simp only [aW,e3,hd,py,g0,ao,aC,aP,↓aa,ad,simprocAttr];refine bQ (Ta C eG[j]) ?_;cases b0:bb eG[j] ws with
   | true=>
     simp only [↓aa,ad,simprocAttr];rw [al,bu,Tk,b0,Bool.true_or]
   | false=>
     simp only [aW,e3,hd,py,lr,↓aa,ad,simprocAttr];refine ⟨⟨j+1,rfl,a1,?_⟩,by omega⟩;rw [al,bu,Tk,b0,Bool.false_or]
 . have g0:((j:Int) < (eG.length:Int))=False:=apl (by omega);have bu:eG.drop j=[]:=apI (by omega);rw [bu] at al;simp only [aW,e3,hd,py,g0,↓aa,ad,simprocAttr];exact al.symm
theorem Mt (C:ed W ab ak h d ws aA i):dW Tryz.prog 232 [.ptr (an ak) 0] h fun x af=>x=.bool (n1 ws)/\Ext h af:=by
 refine XZ.z rfl (cl ?_);unfold NJ;obtain ⟨ae,ao,aP,L,_⟩:=Cx h 1 4 [.str e9,.str pj,.str h3,.str iE] rfl (by unfold top;omega);have cy:=C.ext aP;simp only [e9,pj,h3,iE] at ao;simp only [ao,↓aa,ad,simprocAttr];refine bQ (Tj cy [e9,pj,h3,iE] L (by simp)) ?_;cases aL:r6 [e9,pj,h3,iE] ws with
 | true=>
   simp only [↓aa,ad,simprocAttr];exact ⟨by simp [n1,aL],aP⟩
 | false=>
   simp only [↓aa,ad,simprocAttr];refine bQ (kb cy 1) ?_;cases dr:cJ 1 ws with
   | true=>
     simp only [↓aa,ad,simprocAttr];exact ⟨by simp [n1,aL,dr],aP⟩
   | false=>
     simp only [↓aa,ad,simprocAttr];refine bQ (kb cy 2) ?_;cases dZ:cJ 2 ws with
     | true=>
       simp only [↓aa,ad,simprocAttr];exact ⟨by simp [n1,aL,dr,dZ],aP⟩
     | false=>
       simp only [↓aa,ad,simprocAttr];refine bQ (kb cy 3) ?_;cases hT:cJ 3 ws with
       | true=>
         simp only [↓aa,ad,simprocAttr];exact ⟨by simp [n1,aL,dr,dZ,hT],aP⟩
       | false=>
         simp only [↓aa,ad,simprocAttr];refine bQ (kb cy 4) ?_;simp only [↓aa,ad,simprocAttr];exact ⟨by simp [n1,aL,dr,dZ,hT],aP⟩
def np:Nat->List (List UInt8)
 | 0=>[gQ,q5,q4]
 | 1=>[r4,hN]
 | 2=>[kW,q6,qL]
 | _=>[]
def o4 (eG:List (List UInt8)) (ws:List aq):Option (List UInt8):=eG.find? fun s=>bb s ws
theorem abm (ws:List aq):o4 (np 0) ws=nQ ws:=by unfold o4 np nQ;cases ae:bb gQ ws<;>cases ag:bb q5 ws<;>cases ar:bb q4 ws<;>simp [List.find?,ae,ag,ar]
theorem abn (ws:List aq):o4 (np 1) ws=nR ws:=by unfold o4 np nR;cases ae:bb r4 ws<;>cases ag:bb hN ws<;>simp [List.find?,ae,ag]
theorem abo (ws:List aq):o4 (np 2) ws=nS ws:=by unfold o4 np nS;cases ae:bb kW ws<;>cases ag:bb q6 ws<;>cases ar:bb qL ws<;>simp [List.find?,ae,ag,ar]
theorem ahq (h:ah):vD none h=.val (.map (an h.next)) (h.new (.mp [] 0)):=rfl
theorem Ao {h af:ah} {v:V} {n:Nat} {aj:List V} {b:aO} (L:hy h 1 v n aj) (m:Mod (fun p=>p=b) h af) (ai:¬v.bn b):hy af 1 v n aj:=hy.mod m L fun p q e=>ai (by rw [<-show p=b from e];exact q)
theorem agV (h:ah) {k:Nat} (aD:k<=2):dW Tryz.prog 224 [] h fun x af=>Ext h af/\∃da,rV o1 .cS false af x (.int .i64 k)=some da/\hy af 1 da (np k).length ((np k).map V.str)/\∀b,da.bn b->h.next<=dP b:=by
 refine XS.z rfl (cl ?_);unfold NC;have cw:=rh.new (α:=V) id h;have aP:Ext h (h.new (.mp [] 0)):=(Ext.refl h).new _;generalize ao:h.new (.mp [] 0)=ae at cw aP;obtain ⟨ag,av,bu,oM,_,df⟩:=Cx ae 1 3 ((np 0).map V.str) rfl (by unfold top;omega);obtain ⟨ar,aC,cu,m3,n3⟩:=(cw.ext bu).uL 0 (.slice (an ae.next) 0 3 3);obtain ⟨aT,bs,cN,qm,_,oU⟩:=Cx ar 1 2 ((np 1).map V.str) rfl (by unfold top;omega);obtain ⟨bC,ca,cR,m5,CH⟩:=(cu.ext cN).uL 1 (.slice (an ar.next) 0 2 2);obtain ⟨bA,cD,eS,uZ,_,ts⟩:=Cx bC 1 3 ((np 2).map V.str) rfl (by unfold top;omega);obtain ⟨cd,dy,ew,m7,n7⟩:=(cR.ext eS).uL 2 (.slice (an bC.next) 0 3 3);simp only [np,List.map,gQ,q5,q4,r4,hN,kW,q6,qL] at av bs cD;have dp:=aP.next;have fz:=bu.next;have uS:=cN.next;have aoR:=eS.next
 have iR:=cw.cr;unfold Old at iR;rw [dk] at iR;have dG:∀(m n c:Nat),h.next<m->¬(V.slice (an m) 0 n c).bn (an h.next):=fun m n c aH q=>by
  have e:an h.next=an m:=q
  rw [lN] at e;omega
 have e5:=dG ae.next 3 3 (by omega)
 have y3:=dG ar.next 2 2 (by omega)
 have anb:=dG bC.next 3 3 (by omega)
 have K_:∀{h af:ah} {v:V} {n:Nat} {aj:List V},hy h 1 v n aj->Ext h af->hy af 1 v n aj:=fun L e=>hy.mod (e.mod (fun _=>False)) L (fun _ _ q=>q);have UP:=Ao (K_ (Ao (K_ (Ao oM m3 e5) cN) m5 e5) eS) m7 e5;have US:=Ao (K_ (Ao qm m5 y3) eS) m7 y3;have UU:=Ao uZ m7 anb;have am4:Ext h cd:=by have cM:=aP.trans bu;have a2:=cM.lg m3 (fun b q=>by rw [show b=an h.next from q,dk];omega);have a3:=(a2.trans cN).lg m5 (fun b q=>by rw [show b=an h.next from q,dk];omega);exact (a3.trans eS).lg m7 (fun b q=>by rw [show b=an h.next from q,dk];omega)
 simp only [id_eq] at aC ca dy;simp only [ahq,ao,av,aC,bs,ca,cD,dy,ql.eq,↓aa,ad,simprocAttr];refine ⟨am4,?_⟩
 match k,aD with
 | 0,_=>exact ⟨_,(ew.look 0 .cS false).trans rfl,UP,fun b q=>by rw [df b q,dk];omega⟩
 | 1,_=>exact ⟨_,(ew.look 1 .cS false).trans rfl,US,fun b q=>by rw [oU b q,dk];omega⟩
 | 2,_=>exact ⟨_,(ew.look 2 .cS false).trans rfl,UU,fun b q=>by rw [ts b q,dk];omega⟩
theorem abp (s:List UInt8) (eG:List (List UInt8)) (ws:List aq):o4 (s::eG) ws=if bb s ws then some s else o4 eG ws:=by unfold o4;rw [List.find?_cons];cases bb s ws<;>rfl
theorem Kc (C:ed W ab ak h d ws aA i) {k:Nat} (aD:k<=2):dW Tryz.prog 208 [.ptr (an ak) 0,.int .i64 k] h fun x af=>x=.tuple [.str ((o4 (np k) ws).getD []),.bool (o4 (np k) ws).isSome]/\Mod (b3 ak) h af/\∃fX,ed W ab ak af d (if (o4 (np k) ws).isSome then ws.tail else ws) aA fX:=by
 refine XL.z rfl (cl ?_);unfold c208;simp only [↓aa,ad,simprocAttr];refine aX (agV h aD) ?_;rintro x ae ⟨aP,da,ao,L,tQ⟩;have cy:=C.ext aP;have ED:(np k).length<=3:=by
  match k,aD with
  | 0,_=>decide
  | 1,_=>decide
  | 2,_=>decide
 generalize adU:np k=eG at L ED;simp only [ql.eq,ao,L.len,↓aa,ad,simprocAttr];refine gf (fun r g=>r 0=.ptr (an ak) 0/\r 10=da/\r 11=.int .i64 eG.length/\Mod (b3 ak) ae g/\(∃fX,ed W ab ak g d ws aA fX)/\∃j:Nat,r 12=.int .i64 j/\j<=eG.length/\o4 eG ws=o4 (eG.drop j) ws) (fun r g=>eG.length - (r 12).toN) ?_ ?_
 . exact ⟨by simp only [↓aa,cQ,simprocAttr],by simp only [↓aa,cQ,simprocAttr],by simp only [↓aa,cQ,simprocAttr],Mod.refl _ _,⟨_,cy⟩,0,by simp only [↓aa,cQ,simprocAttr]<;>rfl,api _,rfl⟩
 rintro r g ⟨aW,sZ,vR,m,⟨fX,gH⟩,j,KF,cY,al⟩;by_cases a1:j<eG.length
 . have g0:((j:Int) < (eG.length:Int))=True:=apk (by omega);have Ji:∀b,da.bn b->¬b3 ak b:=fun b q z=>by
    have:=tQ b q;rw [show b=an ak from z,dk] at this;have:=C.at_.lt;omega
   have UX:hy g 1 da eG.length (eG.map V.str):=hy.mod m L Ji;obtain ⟨b,off,ao,av⟩:=UX.mF (k:=.i64) a1;have aC:=av.la (i:=j * 1) (by simp;omega);rw [List.getElem_map] at aC;have lr:=uO a1 (by omega);have bu:eG.drop j=eG[j]::eG.drop (j+1):=apB a1;have aaJ:eG[j * 1]'(by omega)=eG[j]:=by congr 1;omega
   simp only [aW,sZ,vR,KF,g0,ao,aC,aaJ,↓aa,ad,simprocAttr];refine aX (hs gH eG[j]) ?_;rintro x g1 ⟨rfl,m1,i2,bx⟩;rw [al,bu,abp];cases b0:bb eG[j] ws with
   | true=>
     rw [b0] at bx;simp only [↓aa,ad,simprocAttr];exact ⟨(aP.mod _).trans (m.trans m1),i2,bx⟩
   | false=>
     rw [b0] at bx;simp only [aW,sZ,vR,KF,lr,↓aa,ad,simprocAttr];exact ⟨⟨m.trans m1,⟨i2,bx⟩,j+1,rfl,a1,rfl⟩,by omega⟩
 . have g0:((j:Int) < (eG.length:Int))=False:=apl (by omega);have bu:eG.drop j=[]:=apI (by omega);rw [bu] at al;simp only [aW,sZ,vR,KF,g0,↓aa,ad,simprocAttr];rw [al];exact ⟨rfl,(aP.mod _).trans m,fX,gH⟩
end
section
variable {α β:Type}
theorem WH (x:α) (f:α->bH β):(Except.ok x >>= f)=f x:=rfl
theorem WG (e:Int × Nat) (f:α->bH β):((Except.error e:bH α) >>= f)=.error e:=rfl
theorem WI (x:α):(pure x:bH α)=.ok x:=rfl
theorem ahj (x:α) (f:α->β):(Except.ok x:bH α).map f=.ok (f x):=rfl
theorem ahi (e:Int × Nat) (f:α->β):(Except.error e:bH α).map f=.error e:=rfl
set_option linter.defProp false in
def bB:=And.intro @WH<|And.intro @WG<|And.intro @WI<|And.intro @ahj @ahi
end
theorem jq {xs:List V} {s:V}:wL (.func 104 []) xs s=some (.tuple (.func 104 (xs++[])::s.list)):=O0 (show Nat.beq 104 eA=false by decide)
theorem bT {ak n:Nat} (h:ak<n):¬b3 ak (an n):=fun z=>by have Dh:an n=an ak:=z;rw [lN] at Dh;omega
theorem aht {M V:aO->Prop} {aL h af:ah} (a:Mod M aL h) (m:Mod V h af) (Ep:∀b,V b->aL.next<=dP b):Mod M aL af:=
 ⟨ao6 a.next m.next,fun b ai q=>(m.get b (a.cr ai) fun z=>by have:=Ep b z;unfold Old at ai;omega).trans (a.get b ai q)⟩
theorem ry {B n:Nat} (h:B<=n):Fr B (an n):=by show B<=dP (an n);rw [dk];exact h
theorem JJ {F:aO->Prop} {h:ah} {size:Nat} {d1 d2 d3:List D} {ch c8 c3:List V} (cZ:ch.length=size) (z2:c8.length=size) (z3:c3.length=size) (H1:eJ F h d1 ch) (e0:eJ F h d2 c8) (Gu:eJ F h d3 c3) (hJ:F (an h.next)):∃g,h.new (.bc (ch++(c8++c3)) 0 false)=g/\Ext h g/\fw F g size [d1,d2,d3] (.slice (an h.next) 0 3 3):=by
 have:=JI (F:=F) (h:=h) (size:=size) [d1,d2,d3] [ch,c8,c3] rfl (fun c q=>by
  simp only [apy,List.not_mem_nil,or_false] at q;rcases q with rfl | rfl | rfl
  . exact cZ
  . exact z2
  . exact z3) (fun i e u a b=>by
  match i with
  | 0=>simp only [apj,ao4] at a b;subst a b;exact H1
  | 1=>simp only [apO,apj,ao4] at a b;subst a b;exact e0
  | 2=>simp only [apO,apj,ao4] at a b;subst a b;exact Gu
  | i+3=>simp at a) hJ (by show _<=top;unfold top;simp)
 simpa using this
theorem oy {F:aO->Prop} {h:ah} {v:V} {l:List aN} {es:List (List D)} (k n a:Int) (s:List UInt8) (L:fw F h 5 es v) (he:es=l.map aN.enc) (al:s.length<=top):dq F h (.mk k n a s l) v:=⟨by subst he;exact L,al⟩
theorem le_top {s:List UInt8} (h:s.length<=100000):s.length<=top:=by unfold top;omega
section
variable {B:Nat} {G F:aO->Prop} {h af:ah} {size:Nat} {es mv:List (List D)} {v w:V}
theorem PG {F:aO->Prop}:∀(us:List (List V)) (es:List (List D)),us.length=es.length->(∀(i:Nat) (e:List D) (u:List V),es[i]? =some e->us[i]? =some u->eJ F h e u)->hE us.flatten=true
 | [],_,_,_=>rfl
 | u::us,[],h,_=>by simp at h
 | u::us,e::es,aH,H=>by
   have ae:=(H 0 e u rfl rfl).hE;have ag:=PG us es (by simpa using aH) fun i e u a b=>H (i+1) e u (by simpa using a) (by simpa using b);have app:∀a b:List V,hE a=true->hE b=true->hE (a++b)=true:=by
    intro a
    induction a with
    | nil=>intro b _ q;exact q
    | cons x a b6=>
      intro b ao av;simp only [hE,ao7,apm] at ao ⊢;exact ⟨ao.1,b6 b ao.2 av⟩
   rw [aqb];exact app _ _ ae ag
theorem ai3 (H:dz B G h size es v) (L:fw F h size mv w) (hJ:∀b,F b->G b/\¬v.bn b) (dS:1<=size) (cj:B<=h.next) (hlen:(es.length+mv.length) * size<=top):
 ∃ez af,l0 size v w h=.val ez af/\dz B G af size (es++mv) ez/\Mod v.bn h af/\∀b,ez.bn b->v.bn b\/h.next<=dP b:=by
 obtain ⟨us,a,b,c,d⟩:=H.ex;obtain ⟨TS,a2,df,c8,d2⟩:=L.ex;obtain ⟨ez,af,ao,av,aC,bs⟩:=GZ dS a a2 cj hlen (PG TS mv df d2)
 have h4:∀b,(G b/\¬v.bn b)->Old h b->¬v.bn b/\(G b/\¬ez.bn b):=fun b q o=>⟨q.2,q.1,fun z=>by
  rcases bs b z with z | z
  . exact q.2 z
  . unfold Old at o;omega⟩
 refine ⟨ez,af,ao,⟨us++TS,?_,by simp [b,df],?_,?_⟩,aC,bs⟩
 . rw [apb,aqF];exact av
 . intro u hu;rcases aqL.1 hu with hu | hu
   . exact c u hu
   . exact c8 u hu
 . intro i e u aP bu;by_cases aM:i<es.length
   . rw [apC aM] at aP;rw [apC (by omega)] at bu;exact (d i e u aP bu).mod aC h4
   . rw [apJ (by omega)] at aP;rw [apJ (by omega),b] at bu;exact (d2 _ e u aP bu).mod aC fun b q o=>h4 b (hJ b q) o
theorem ai7 {ds:List D} {cs:List V} (bN:cs.length=size) (H:eJ F h ds cs):∃g,h.new (.bc cs 0 false)=g/\Ext h g/\dz h.next (fun b=>F b/\Old h b) g size [ds] (.slice (an h.next) 0 1 1):=by
 obtain ⟨g,ao,av,aC⟩:=Rv h size 1 cs (by omega) (by unfold top;omega);refine ⟨g,ao,av,⟨[cs],by simpa using aC,rfl,fun u hu=>by rw [ap2] at hu;subst hu;exact bN,fun i e u a b=>?_⟩⟩;cases i with
 | zero=>
   simp only [apj,ao4] at a b;subst a b;refine (H.cr.ext av).eW fun b q=>⟨q,fun z=>?_⟩;exact dh (ao1 _) (by rw [<-show b=an h.next from z];exact q.2)
 | succ i=>simp at a
theorem hv {ak Gn:Nat} (O:dz B (Fr Gn) h size es v) (m:Mod (b3 ak) h af) (ae:ak<B) (ag:ak<Gn):dz B (Fr Gn) af size es v:=
 O.mod m (fun b q z=>by have:=O.base q;rw [show b=an ak from z,dk] at this;omega) fun b q _ _ z=>by unfold Fr at q;rw [show b=an ak from z,dk] at q;omega
theorem ed.own {W:List aq} {ab ak d dE i fX:Nat} {ws bS:List aq} {aA:V} {H km:ah} {M:aO->Prop} (c:ed W ab ak h d ws aA i) (eX:ed W ab ak H dE bS aA fX) (m:Mod M H km) (fE:∀b,M b->h.next<=dP b):ed W ab ak km dE bS aA fX:=
 ⟨eX.at_.mod m fun z=>by have:=fE _ z;rw [dk] at this;have:=c.at_.lt;omega,eX.c7.mod m fun b q z=>by have:=fE _ z;have:=c.c7.cr q;unfold Old at this;omega,eX.ap,eX.le,eX.eq,eX.nF,eX.wM,eX.fj,eX.num⟩
end
theorem im (s k:Bool):V.bif s (.bool true) (V.opt (!s) (.bool k))=.bool (s||k):=by cases s<;>rfl
theorem R3 {ws:List aq} {s:List UInt8} (h:nQ ws=some s):s.length<=top:=by
 unfold nQ at h
 repeat' split at h
 all_goals first
  | (cases h;exact le_top (by decide))
  | cases h
theorem R4 {ws:List aq} {s:List UInt8} (h:nR ws=some s):s.length<=top:=by
 unfold nR at h
 repeat' split at h
 all_goals first
  | (cases h;exact le_top (by decide))
  | cases h
theorem R6 {ws:List aq} {s:List UInt8} (h:nS ws=some s):s.length<=top:=by
 unfold nS at h
 repeat' split at h
 all_goals first
  | (cases h;exact le_top (by decide))
  | cases h
def gD (W:List aq) (ab ak f:Nat) (args:List V) (d:Nat) (ws:List aq) (res:bH (aN × List aq)):Prop:=
 ∀(h:ah) (aA:V) (i:Nat),ed W ab ak h d ws aA i->res≠.error b7->
  j2 Tryz.prog f (.ptr (an ak) 0::args) h (fun x af=>∃p bS v fX,res=.ok (p,bS)/\x=.agg (vcs p v)/\dq (Fr h.next) af p v/\Mod (b3 ak) h af/\ed W ab ak af d bS aA fX) (tk W ab ak h res)
def AX (W:List aq) (ab ak f:Nat) (args:List V) (d:Nat) (ws:List aq) (res:bH (List aN × List aq)):Prop:=
 ∀(h:ah) (aA:V) (i:Nat),ed W ab ak h d ws aA i->res≠.error b7->
  j2 Tryz.prog f (.ptr (an ak) 0::args) h (fun x af=>∃l bS fX,res=.ok (l,bS)/\dz h.next (Fr h.next) af 5 (l.map aN.enc) x/\l.length<=1000000/\Mod (b3 ak) h af/\ed W ab ak af d bS aA fX) (tk W ab ak h res)
structure iI (W:List aq) (ab ak n:Nat):Prop where
 ty:∀d ws,gD W ab ak 101 [] d ws ((aU ab n).ty d ws)
 hx:∀d ws,gD W ab ak 146 [] d ws ((aU ab n).hx d ws)
 named:∀d ws,gD W ab ak 184 [] d ws ((aU ab n).named d ws)
 jk:∀d ws,gD W ab ak 206 [] d ws ((aU ab n).jk d ws)
 pat:∀d ws,gD W ab ak 55 [] d ws ((aU ab n).pat d ws)
 iU:∀d ws,gD W ab ak 105 [] d ws ((aU ab n).iU d ws)
 gP:∀d ws,gD W ab ak 147 [] d ws ((aU ab n).gP d ws)
 seq:∀d ws,gD W ab ak 56 [] d ws ((aU ab n).seq d ws)
 cases:∀d ws,AX W ab ak 186 [] d ws ((aU ab n).cases d [] (if bb jZ ws then ws.tail else ws))
 fn:∀d (a:Nat) ws,gD W ab ak 102 [.int .i64 a] d ws ((aU ab n).fn d a ws)
 one:∀d ws,gD W ab ak 107 [] d ws ((aU ab n).one d ws)
 hq:∀d k (a:Nat) ws,gD W ab ak 150 [.int .i64 k,.int .i64 a] d ws ((aU ab n).hq d k a ws)
 lt:∀d (a:Nat) ws,gD W ab ak 149 [.int .i64 a] d ws ((aU ab n).lt d a ws)
 binds:∀d ws,AX W ab ak 54 [] d ws ((aU ab n).binds d [] ws)
 pair:∀d ws,gD W ab ak 151 [] d ws ((aU ab n).pair d ws)
 ja:∀d ws,gD W ab ak 187 [] d ws ((aU ab n).ja d ws)
 hF:∀d ws,gD W ab ak 207 [.int .i64 1] d ws ((aU ab n).hF d ws)
 hG:∀d ws,gD W ab ak 207 [.int .i64 2] d ws ((aU ab n).hG d ws)
 pre:∀d ws,gD W ab ak 223 [] d ws ((aU ab n).pre d ws)
 app:∀d ws,gD W ab ak 229 [] d ws ((aU ab n).app d ws)
 atom:∀d ws,gD W ab ak 231 [] d ws ((aU ab n).atom d ws)
section
variable {W:List aq} {ab ak n:Nat}
theorem ajm (I:iI W ab ak n) (d:Nat) (ws:List aq):gD W ab ak 146 [] d ws ((aU ab (n+1)).hx d ws):=by
 intro h aA i C a8;generalize U:(aU ab (n+1)).hx d ws=res at a8 ⊢;replace U:Kn (aU ab n) d ws=res:=U;unfold Kn at U;refine Xm.x rfl (cl ?_);unfold Nc;have bX:=C.at_.lt;obtain ⟨ae,ao,aP,bz⟩:=fU h b8;have m1:Mod (b3 ak) h ae:=aP.mod _;have cw:=m1;have cy:=C.ext aP;simp only [ao,↓aa,ad,simprocAttr];have g2:(aU ab n).named d ws≠.error b7:=fun q=>by rw [q] at U;exact a8 U.symm
 refine cH (I.named d ws ae aA i cy g2) ?_ ?_
 rotate_left
 . rintro x ag ⟨e,he,rfl,m,bo⟩;simp only [cF,aY,↓aa,ad,simprocAttr];exact ⟨e,by rw [he] at U;exact U.symm,rfl,(cw.trans m),bo⟩
 rintro x ag ⟨a,bt,b5,i2,bf,rfl,aO,m2,bx⟩;rw [bf] at U
 try simp only [bB] at U
 have M2:=cw.trans m2;have dx:=aO.one;obtain ⟨ar,aC,cT,fl⟩:=fq ag b8 (vcs a b5);have m3:Mod (b3 ak) ag ar:=cT.mod _;have cu:=M2.trans m3;have cq:=bx.ext cT;simp only [dx.1,dx.2.1,dx.2.2,aC,↓aa,ad,simprocAttr];refine aX (hs cq kW) ?_;rintro x aT ⟨rfl,m4,i4,cf⟩;have cX:=cu.trans m4;cases b_:bb kW bt with
 | true=>
   simp only [b_,apd,ao2,apa,bB] at U cf;have iY:=fl.mod m4 (bT (by have:=M2.next;omega));simp only [iY.g,↓aa,ad,simprocAttr];have g5:(aU ab n).hx d bt.tail≠.error b7:=fun q=>by rw [q] at U;exact a8 U.symm
   refine cH (I.hx d bt.tail aT aA i4 cf g5) ?_ ?_
   rotate_left
   . rintro x bC ⟨e,he,rfl,m,bo⟩;simp only [cF,aY,iY.g,↓aa,ad,simprocAttr];exact ⟨rfl,e,by rw [he] at U;exact U.symm,rfl,(cX.trans m),bo⟩
   rintro x bC ⟨b,fs,eM,i5,b4,rfl,fO,m5,bV⟩;rw [b4] at U
   try simp only [bB] at U
   have cR:=cX.trans m5;have gz:=iY.mod m5 (bT (by have:=M2.next;omega));simp only [iY.g,gz.g,↓aa,ad,simprocAttr];have mW:=aO.mod (m3.trans (m4.trans m5)) (by have:=cw.next;omega);refine aX (uI 3 mW (fO.cO (by have:=(m2.trans (m3.trans m4)).next;omega))) ?_;rintro x bA ⟨ev,rfl,k3,eS⟩;have ef:=k3.eW (eZ:=Fr ae.next) fun b q=>q.elim (fun q=>q.1) (fun q=>by have:=(m2.trans (m3.trans (m4.trans m5))).next;unfold Fr;omega);have m6:Mod (b3 ak) bC bA:=eS.mod _;have de:=cR.trans m6;have cv:=bV.ext eS;have jl:=bz.mod (m2.trans (m3.trans (m4.trans (m5.trans m6)))) (bT bX);have kl:=gz.mod m6 (bT (by have:=M2.next;omega));have o:=ef.one;simp only [o.1,o.2.1,o.2.2,aY,vcs,bR,jl.g,kl.g,iY.g,gz.g,↓aa,ad,simprocAttr];exact ⟨_,_,_,_,U.symm,rfl,(ef.box (by have:=bX;have:=bz.lt;omega) _).cO (by have:=m1.next;omega),de.set (fun o=>absurd o (dh (ao1 _))) _,C.box cv (ao1 _) _⟩
 | false=>
   simp only [b_,apd,ao2,apa,bB] at U cf;have iY:=fl.mod m4 (bT (by have:=M2.next;omega));have u1:=aO.mod (m3.trans m4) (by have:=cw.next;omega);have kZ:=bz.mod (m2.trans (m3.trans m4)) (bT bX);have o:=u1.one;simp only [o.1,o.2.1,o.2.2,aY,vcs,bR,iY.g,kZ.g,↓aa,ad,simprocAttr];exact ⟨_,_,_,_,U.symm,rfl,(u1.box (by have:=bX;have:=bz.lt;omega) _).cO (by have:=m1.next;omega),cX.set (fun o=>absurd o (dh (ao1 _))) _,C.box cf (ao1 _) _⟩
theorem aji (I:iI W ab ak n) (d:Nat) (ws:List aq):gD W ab ak 151 [] d ws ((aU ab (n+1)).pair d ws):=by
 intro h aA i C a8;generalize U:(aU ab (n+1)).pair d ws=res at a8 ⊢;replace U:Km (aU ab n) d ws=res:=U;unfold Km at U;refine Xr.x rfl (cl ?_);unfold Ni;have bX:=C.at_.lt;obtain ⟨ae,ao,aP,bz⟩:=fU h b8;have m1:Mod (b3 ak) h ae:=aP.mod _;have cw:=m1;have cy:=C.ext aP;simp only [ao,↓aa,ad,simprocAttr];have g2:(aU ab n).ja d ws≠.error b7:=fun q=>by rw [q] at U;exact a8 U.symm
 refine cH (I.ja d ws ae aA i cy g2) ?_ ?_
 rotate_left
 . rintro x ag ⟨e,he,rfl,m,bo⟩;simp only [cF,aY,↓aa,ad,simprocAttr];exact ⟨e,by rw [he] at U;exact U.symm,rfl,(cw.trans m),bo⟩
 rintro x ag ⟨a,bt,b5,i2,bf,rfl,aO,m2,bx⟩;rw [bf] at U
 try simp only [bB] at U
 have M2:=cw.trans m2;have dx:=aO.one;obtain ⟨ar,aC,cT,fl⟩:=fq ag b8 (vcs a b5);have m3:Mod (b3 ak) ag ar:=cT.mod _;have cu:=M2.trans m3;have cq:=bx.ext cT;simp only [dx.1,dx.2.1,dx.2.2,aC,↓aa,ad,simprocAttr];refine aX (hs cq hh) ?_;rintro x aT ⟨rfl,m4,i4,cf⟩;have cX:=cu.trans m4;cases b_:bb hh bt with
 | true=>
   simp only [b_,apd,ao2,apa,bB] at U cf;have iY:=fl.mod m4 (bT (by have:=M2.next;omega));simp only [iY.g,↓aa,ad,simprocAttr];have g5:(aU ab n).pair d bt.tail≠.error b7:=fun q=>by rw [q] at U;exact a8 U.symm
   refine cH (I.pair d bt.tail aT aA i4 cf g5) ?_ ?_
   rotate_left
   . rintro x bC ⟨e,he,rfl,m,bo⟩;simp only [cF,aY,iY.g,↓aa,ad,simprocAttr];exact ⟨rfl,e,by rw [he] at U;exact U.symm,rfl,(cX.trans m),bo⟩
   rintro x bC ⟨b,fs,eM,i5,b4,rfl,fO,m5,bV⟩;rw [b4] at U
   try simp only [bB] at U
   have cR:=cX.trans m5;have gz:=iY.mod m5 (bT (by have:=M2.next;omega));simp only [iY.g,gz.g,↓aa,ad,simprocAttr];have mW:=aO.mod (m3.trans (m4.trans m5)) (by have:=cw.next;omega);refine aX (uI 26 mW (fO.cO (by have:=(m2.trans (m3.trans m4)).next;omega))) ?_;rintro x bA ⟨ev,rfl,k3,eS⟩;have ef:=k3.eW (eZ:=Fr ae.next) fun b q=>q.elim (fun q=>q.1) (fun q=>by have:=(m2.trans (m3.trans (m4.trans m5))).next;unfold Fr;omega);have m6:Mod (b3 ak) bC bA:=eS.mod _;have de:=cR.trans m6;have cv:=bV.ext eS;have jl:=bz.mod (m2.trans (m3.trans (m4.trans (m5.trans m6)))) (bT bX);have kl:=gz.mod m6 (bT (by have:=M2.next;omega));have o:=ef.one;simp only [o.1,o.2.1,o.2.2,aY,vcs,bR,jl.g,kl.g,iY.g,gz.g,↓aa,ad,simprocAttr];exact ⟨_,_,_,_,U.symm,rfl,(ef.box (by have:=bX;have:=bz.lt;omega) _).cO (by have:=m1.next;omega),de.set (fun o=>absurd o (dh (ao1 _))) _,C.box cv (ao1 _) _⟩
 | false=>
   simp only [b_,apd,ao2,apa,bB] at U cf;have iY:=fl.mod m4 (bT (by have:=M2.next;omega));have u1:=aO.mod (m3.trans m4) (by have:=cw.next;omega);have kZ:=bz.mod (m2.trans (m3.trans m4)) (bT bX);have o:=u1.one;simp only [o.1,o.2.1,o.2.2,aY,vcs,bR,iY.g,kZ.g,↓aa,ad,simprocAttr];exact ⟨_,_,_,_,U.symm,rfl,(u1.box (by have:=bX;have:=bz.lt;omega) _).cO (by have:=m1.next;omega),cX.set (fun o=>absurd o (dh (ao1 _))) _,C.box cf (ao1 _) _⟩
theorem amm (I:iI W ab ak n) (d:Nat) (ws:List aq):gD W ab ak 101 [] d ws ((aU ab (n+1)).ty d ws):=by
 intro h aA i C a8;generalize U:(aU ab (n+1)).ty d ws=res at a8 ⊢;replace U:Da ab (aU ab n) d ws=res:=U;unfold Da at U;refine WU.x rfl (cl ?_);unfold MJ;have bX:=C.at_.lt;obtain ⟨ae,ao,aP,bz⟩:=fU h b8;have m1:Mod (b3 ak) h ae:=aP.mod _;have cw:=m1;have cy:=C.ext aP;simp only [ao,↓aa,ad,simprocAttr];refine cH (D3 cy) ?_ ?_
 rotate_left
 . rintro x ag ⟨a_,e,he,rfl,m,bo⟩;cases he;simp only [cF,aY,eV,cC,↓aa,ad,simprocAttr];unfold jb at U;rw [ape a_] at U;exact ⟨_,U.symm,rfl,cw.trans m,bo⟩
 rintro x ag ⟨a_,m2,bx⟩;unfold jb at U;rw [ao_ (by omega)] at U;have M2:=cw.trans m2;simp only [eV,apo,jq,cC,↓aa,ad,simprocAttr];have g3:(aU ab n).hx (d+1) ws≠.error b7:=fun q=>by rw [q] at U;exact a8 U.symm
 refine cH (I.hx (d+1) ws ag aA i bx g3) ?_ ?_
 rotate_left
 . rintro x ar ⟨e,he,rfl,m,kc,a0,a',qw,bo⟩;simp only [cF,aY,eV,cC,↓aa,ad,simprocAttr];refine (uf bo.1).mono ?_;rintro u aT ⟨rfl,dv,iR,cM,bW,ch,mY⟩;exact ⟨e,by rw [he] at U;exact U.symm,rfl,(M2.trans m).trans dv,iR,cM,bW,ch,mY,bo.2⟩
 rintro x ar ⟨a,db,b5,i3,bU,rfl,aO,m3,cq⟩;rw [bU] at U
 try simp only [bB] at U
 have cu:=M2.trans m3;have c2:=aO.one;obtain ⟨aT,bs,cN,eF⟩:=fq ar b8 (vcs a b5);have m4:Mod (b3 ak) ar aT:=cN.mod _;have cX:=cu.trans m4;have cf:=cq.ext cN;simp only [c2.1,c2.2.1,c2.2.2,bs,eV,apo,jq,cC,↓aa,ad,simprocAttr];refine aX (hs cf jY) ?_;rintro x bC ⟨rfl,m5,i5,bV⟩;have cR:=cX.trans m5;cases b_:bb jY db with
 | true=>
   simp only [b_,apd,ao2,apa,bB] at U bV;have hk:=eF.mod m5 (bT (by have:=cu.next;omega));simp only [hk.g,eV,apo,jq,cC,↓aa,ad,simprocAttr];have g6:(aU ab n).ty (d+1) db.tail≠.error b7:=fun q=>by rw [q] at U;exact a8 U.symm
   refine cH (I.ty (d+1) db.tail bC aA i5 bV g6) ?_ ?_
   rotate_left
   . rintro x bA ⟨e,he,rfl,m,kc,a0,a',qw,bo⟩;simp only [cF,aY,hk.g,eV,cC,↓aa,ad,simprocAttr];refine ⟨rfl,?_⟩;refine (uf bo.1).mono ?_;rintro u cd ⟨rfl,dv,iR,cM,bW,ch,mY⟩;exact ⟨e,by rw [he] at U;exact U.symm,rfl,(cR.trans m).trans dv,iR,cM,bW,ch,mY,bo.2⟩
   rintro x bA ⟨b,jz,eM,i6,ea,rfl,fO,m6,cv⟩;rw [ea] at U
   try simp only [bB] at U
   have de:=cR.trans m6;have jM:=hk.mod m6 (bT (by have:=cu.next;omega));simp only [eV,apo,jq,cC,hk.g,jM.g,↓aa,ad,simprocAttr];have u2:=aO.mod (m4.trans (m5.trans m6)) (by have:=M2.next;omega);refine aX (uI 4 u2 (fO.cO (by have:=(m3.trans (m4.trans m5)).next;omega))) ?_;rintro x cd ⟨ev,rfl,k3,dI⟩;have ef:=k3.eW (eZ:=Fr ag.next) fun b q=>q.elim (fun q=>q.1) (fun q=>by have:=(m3.trans (m4.trans (m5.trans m6))).next;unfold Fr;omega);have m7:Mod (b3 ak) bA cd:=dI.mod _;have ew:=de.trans m7;have eR:=cv.ext dI;have hH:=bz.mod (m2.trans (m3.trans (m4.trans (m5.trans (m6.trans m7))))) (bT bX);have k0:=jM.mod m7 (bT (by have:=cu.next;omega));have o:=ef.one;simp only [o.1,o.2.1,o.2.2,aY,vcs,bR,hH.g,k0.g,eV,apo,jq,cC,hk.g,jM.g,↓aa,ad,simprocAttr];have jA:=hH.put (vcs (two 4 a b) ev);refine (ue (C.box eR (ao1 _) _)).mono ?_;rintro u et ⟨rfl,dv,fo⟩;have mT:=jA.mod dv (bT bX);simp only [mT.g,eV,vcs,bR,↓aa,ad,simprocAttr];exact ⟨_,_,_,_,U.symm,rfl,((ef.box (by have:=m2.next;have:=bz.lt;omega) _).mod dv (by have:=bz.lt;have:=m2.next;omega)).cO (by have:=(m1.trans m2).next;omega),(ew.set (fun o=>absurd o (dh (ao1 _))) _).trans dv,fo⟩
 | false=>
   simp only [b_,apd,ao2,apa,bB] at U bV;have hk:=eF.mod m5 (bT (by have:=cu.next;omega));have mW:=aO.mod (m4.trans m5) (by have:=M2.next;omega);have hY:=bz.mod (m2.trans (m3.trans (m4.trans m5))) (bT bX);have o:=mW.one;simp only [o.1,o.2.1,o.2.2,aY,vcs,bR,hk.g,hY.g,eV,apo,jq,cC,↓aa,ad,simprocAttr];have jA:=hY.put (vcs a b5);refine (ue (C.box bV (ao1 _) _)).mono ?_;rintro u bA ⟨rfl,dv,fo⟩;have mT:=jA.mod dv (bT bX);simp only [mT.g,eV,vcs,bR,↓aa,ad,simprocAttr];exact ⟨_,_,_,_,U.symm,rfl,((mW.box (by have:=m2.next;have:=bz.lt;omega) _).mod dv (by have:=bz.lt;have:=m2.next;omega)).cO (by have:=(m1.trans m2).next;omega),(cR.set (fun o=>absurd o (dh (ao1 _))) _).trans dv,fo⟩
theorem ajT (I:iI W ab ak n) (d:Nat) (ws:List aq):gD W ab ak 55 [] d ws ((aU ab (n+1)).pat d ws):=by
 intro h aA i C a8;generalize U:(aU ab (n+1)).pat d ws=res at a8 ⊢;replace U:Kr ab (aU ab n) d ws=res:=U;unfold Kr at U;refine Yp.x rfl (cl ?_);unfold N5;have bX:=C.at_.lt;obtain ⟨ae,ao,aP,bz⟩:=fU h b8;have m1:Mod (b3 ak) h ae:=aP.mod _;have cw:=m1;have cy:=C.ext aP;simp only [ao,↓aa,ad,simprocAttr];refine cH (D3 cy) ?_ ?_
 rotate_left
 . rintro x ag ⟨a_,e,he,rfl,m,bo⟩;cases he;simp only [cF,aY,eV,cC,↓aa,ad,simprocAttr];unfold jb at U;rw [ape a_] at U;exact ⟨_,U.symm,rfl,cw.trans m,bo⟩
 rintro x ag ⟨a_,m2,bx⟩;unfold jb at U;rw [ao_ (by omega)] at U;have M2:=cw.trans m2;simp only [eV,apo,jq,cC,↓aa,ad,simprocAttr];have g3:(aU ab n).iU (d+1) ws≠.error b7:=fun q=>by rw [q] at U;exact a8 U.symm
 refine cH (I.iU (d+1) ws ag aA i bx g3) ?_ ?_
 rotate_left
 . rintro x ar ⟨e,he,rfl,m,kc,a0,a',qw,bo⟩;simp only [cF,aY,eV,cC,↓aa,ad,simprocAttr];refine (uf bo.1).mono ?_;rintro u aT ⟨rfl,dv,iR,cM,bW,ch,mY⟩;exact ⟨e,by rw [he] at U;exact U.symm,rfl,(M2.trans m).trans dv,iR,cM,bW,ch,mY,bo.2⟩
 rintro x ar ⟨a,db,b5,i3,bU,rfl,aO,m3,cq⟩;rw [bU] at U
 try simp only [bB] at U
 have cu:=M2.trans m3;have c2:=aO.one;obtain ⟨aT,bs,cN,eF⟩:=fq ar b8 (vcs a b5);have m4:Mod (b3 ak) ar aT:=cN.mod _;have cX:=cu.trans m4;have cf:=cq.ext cN;simp only [c2.1,c2.2.1,c2.2.2,bs,eV,apo,jq,cC,↓aa,ad,simprocAttr];refine aX (hs cf hh) ?_;rintro x bC ⟨rfl,m5,i5,bV⟩;have cR:=cX.trans m5;cases b_:bb hh db with
 | true=>
   simp only [b_,apd,ao2,apa,bB] at U bV;have hk:=eF.mod m5 (bT (by have:=cu.next;omega));simp only [hk.g,eV,apo,jq,cC,↓aa,ad,simprocAttr];have g6:(aU ab n).pat (d+1) db.tail≠.error b7:=fun q=>by rw [q] at U;exact a8 U.symm
   refine cH (I.pat (d+1) db.tail bC aA i5 bV g6) ?_ ?_
   rotate_left
   . rintro x bA ⟨e,he,rfl,m,kc,a0,a',qw,bo⟩;simp only [cF,aY,hk.g,eV,cC,↓aa,ad,simprocAttr];refine ⟨rfl,?_⟩;refine (uf bo.1).mono ?_;rintro u cd ⟨rfl,dv,iR,cM,bW,ch,mY⟩;exact ⟨e,by rw [he] at U;exact U.symm,rfl,(cR.trans m).trans dv,iR,cM,bW,ch,mY,bo.2⟩
   rintro x bA ⟨b,jz,eM,i6,ea,rfl,fO,m6,cv⟩;rw [ea] at U
   try simp only [bB] at U
   have de:=cR.trans m6;have jM:=hk.mod m6 (bT (by have:=cu.next;omega));simp only [eV,apo,jq,cC,hk.g,jM.g,↓aa,ad,simprocAttr];have u2:=aO.mod (m4.trans (m5.trans m6)) (by have:=M2.next;omega);refine aX (uI 15 u2 (fO.cO (by have:=(m3.trans (m4.trans m5)).next;omega))) ?_;rintro x cd ⟨ev,rfl,k3,dI⟩;have ef:=k3.eW (eZ:=Fr ag.next) fun b q=>q.elim (fun q=>q.1) (fun q=>by have:=(m3.trans (m4.trans (m5.trans m6))).next;unfold Fr;omega);have m7:Mod (b3 ak) bA cd:=dI.mod _;have ew:=de.trans m7;have eR:=cv.ext dI;have hH:=bz.mod (m2.trans (m3.trans (m4.trans (m5.trans (m6.trans m7))))) (bT bX);have k0:=jM.mod m7 (bT (by have:=cu.next;omega));have o:=ef.one;simp only [o.1,o.2.1,o.2.2,aY,vcs,bR,hH.g,k0.g,eV,apo,jq,cC,hk.g,jM.g,↓aa,ad,simprocAttr];have jA:=hH.put (vcs (two 15 a b) ev);refine (ue (C.box eR (ao1 _) _)).mono ?_;rintro u et ⟨rfl,dv,fo⟩;have mT:=jA.mod dv (bT bX);simp only [mT.g,eV,vcs,bR,↓aa,ad,simprocAttr];exact ⟨_,_,_,_,U.symm,rfl,((ef.box (by have:=m2.next;have:=bz.lt;omega) _).mod dv (by have:=bz.lt;have:=m2.next;omega)).cO (by have:=(m1.trans m2).next;omega),(ew.set (fun o=>absurd o (dh (ao1 _))) _).trans dv,fo⟩
 | false=>
   simp only [b_,apd,ao2,apa,bB] at U bV;have hk:=eF.mod m5 (bT (by have:=cu.next;omega));have mW:=aO.mod (m4.trans m5) (by have:=M2.next;omega);have hY:=bz.mod (m2.trans (m3.trans (m4.trans m5))) (bT bX);have o:=mW.one;simp only [o.1,o.2.1,o.2.2,aY,vcs,bR,hk.g,hY.g,eV,apo,jq,cC,↓aa,ad,simprocAttr];have jA:=hY.put (vcs a b5);refine (ue (C.box bV (ao1 _) _)).mono ?_;rintro u bA ⟨rfl,dv,fo⟩;have mT:=jA.mod dv (bT bX);simp only [mT.g,eV,vcs,bR,↓aa,ad,simprocAttr];exact ⟨_,_,_,_,U.symm,rfl,((mW.box (by have:=m2.next;have:=bz.lt;omega) _).mod dv (by have:=bz.lt;have:=m2.next;omega)).cO (by have:=(m1.trans m2).next;omega),(cR.set (fun o=>absurd o (dh (ao1 _))) _).trans dv,fo⟩
theorem ale (I:iI W ab ak n) (d:Nat) (ws:List aq):gD W ab ak 56 [] d ws ((aU ab (n+1)).seq d ws):=by
 intro h aA i C a8;generalize U:(aU ab (n+1)).seq d ws=res at a8 ⊢;replace U:K2 ab (aU ab n) d ws=res:=U;unfold K2 at U;refine Yq.x rfl (cl ?_);unfold N6;have bX:=C.at_.lt;obtain ⟨ae,ao,aP,bz⟩:=fU h b8;have m1:Mod (b3 ak) h ae:=aP.mod _;have cw:=m1;have cy:=C.ext aP;simp only [ao,↓aa,ad,simprocAttr];refine cH (D3 cy) ?_ ?_
 rotate_left
 . rintro x ag ⟨a_,e,he,rfl,m,bo⟩;cases he;simp only [cF,aY,eV,cC,↓aa,ad,simprocAttr];unfold jb at U;rw [ape a_] at U;exact ⟨_,U.symm,rfl,cw.trans m,bo⟩
 rintro x ag ⟨a_,m2,bx⟩;unfold jb at U;rw [ao_ (by omega)] at U;have M2:=cw.trans m2;simp only [eV,apo,jq,cC,↓aa,ad,simprocAttr];have g3:(aU ab n).one (d+1) ws≠.error b7:=fun q=>by rw [q] at U;exact a8 U.symm
 refine cH (I.one (d+1) ws ag aA i bx g3) ?_ ?_
 rotate_left
 . rintro x ar ⟨e,he,rfl,m,kc,a0,a',qw,bo⟩;simp only [cF,aY,eV,cC,↓aa,ad,simprocAttr];refine (uf bo.1).mono ?_;rintro u aT ⟨rfl,dv,iR,cM,bW,ch,mY⟩;exact ⟨e,by rw [he] at U;exact U.symm,rfl,(M2.trans m).trans dv,iR,cM,bW,ch,mY,bo.2⟩
 rintro x ar ⟨a,db,b5,i3,bU,rfl,aO,m3,cq⟩;rw [bU] at U
 try simp only [bB] at U
 have cu:=M2.trans m3;have c2:=aO.one;obtain ⟨aT,bs,cN,eF⟩:=fq ar b8 (vcs a b5);have m4:Mod (b3 ak) ar aT:=cN.mod _;have cX:=cu.trans m4;have cf:=cq.ext cN;simp only [c2.1,c2.2.1,c2.2.2,bs,eV,apo,jq,cC,↓aa,ad,simprocAttr];refine aX (hs cf Ai) ?_;rintro x bC ⟨rfl,m5,i5,bV⟩;have cR:=cX.trans m5;cases b_:bb Ai db with
 | true=>
   simp only [b_,apd,ao2,apa,bB] at U bV;have hk:=eF.mod m5 (bT (by have:=cu.next;omega));simp only [hk.g,eV,apo,jq,cC,↓aa,ad,simprocAttr];have g6:(aU ab n).seq (d+1) db.tail≠.error b7:=fun q=>by rw [q] at U;exact a8 U.symm
   refine cH (I.seq (d+1) db.tail bC aA i5 bV g6) ?_ ?_
   rotate_left
   . rintro x bA ⟨e,he,rfl,m,kc,a0,a',qw,bo⟩;simp only [cF,aY,hk.g,eV,cC,↓aa,ad,simprocAttr];refine ⟨rfl,?_⟩;refine (uf bo.1).mono ?_;rintro u cd ⟨rfl,dv,iR,cM,bW,ch,mY⟩;exact ⟨e,by rw [he] at U;exact U.symm,rfl,(cR.trans m).trans dv,iR,cM,bW,ch,mY,bo.2⟩
   rintro x bA ⟨b,jz,eM,i6,ea,rfl,fO,m6,cv⟩;rw [ea] at U
   try simp only [bB] at U
   have de:=cR.trans m6;have jM:=hk.mod m6 (bT (by have:=cu.next;omega));simp only [eV,apo,jq,cC,hk.g,jM.g,↓aa,ad,simprocAttr];have u2:=aO.mod (m4.trans (m5.trans m6)) (by have:=M2.next;omega);refine aX (uI 35 u2 (fO.cO (by have:=(m3.trans (m4.trans m5)).next;omega))) ?_;rintro x cd ⟨ev,rfl,k3,dI⟩;have ef:=k3.eW (eZ:=Fr ag.next) fun b q=>q.elim (fun q=>q.1) (fun q=>by have:=(m3.trans (m4.trans (m5.trans m6))).next;unfold Fr;omega);have m7:Mod (b3 ak) bA cd:=dI.mod _;have ew:=de.trans m7;have eR:=cv.ext dI;have hH:=bz.mod (m2.trans (m3.trans (m4.trans (m5.trans (m6.trans m7))))) (bT bX);have k0:=jM.mod m7 (bT (by have:=cu.next;omega));have o:=ef.one;simp only [o.1,o.2.1,o.2.2,aY,vcs,bR,hH.g,k0.g,eV,apo,jq,cC,hk.g,jM.g,↓aa,ad,simprocAttr];have jA:=hH.put (vcs (two 35 a b) ev);refine (ue (C.box eR (ao1 _) _)).mono ?_;rintro u et ⟨rfl,dv,fo⟩;have mT:=jA.mod dv (bT bX);simp only [mT.g,eV,vcs,bR,↓aa,ad,simprocAttr];exact ⟨_,_,_,_,U.symm,rfl,((ef.box (by have:=m2.next;have:=bz.lt;omega) _).mod dv (by have:=bz.lt;have:=m2.next;omega)).cO (by have:=(m1.trans m2).next;omega),(ew.set (fun o=>absurd o (dh (ao1 _))) _).trans dv,fo⟩
 | false=>
   simp only [b_,apd,ao2,apa,bB] at U bV;have hk:=eF.mod m5 (bT (by have:=cu.next;omega));have mW:=aO.mod (m4.trans m5) (by have:=M2.next;omega);have hY:=bz.mod (m2.trans (m3.trans (m4.trans m5))) (bT bX);have o:=mW.one;simp only [o.1,o.2.1,o.2.2,aY,vcs,bR,hk.g,hY.g,eV,apo,jq,cC,↓aa,ad,simprocAttr];have jA:=hY.put (vcs a b5);refine (ue (C.box bV (ao1 _) _)).mono ?_;rintro u bA ⟨rfl,dv,fo⟩;have mT:=jA.mod dv (bT bX);simp only [mT.g,eV,vcs,bR,↓aa,ad,simprocAttr];exact ⟨_,_,_,_,U.symm,rfl,((mW.box (by have:=m2.next;have:=bz.lt;omega) _).mod dv (by have:=bz.lt;have:=m2.next;omega)).cO (by have:=(m1.trans m2).next;omega),(cR.set (fun o=>absurd o (dh (ao1 _))) _).trans dv,fo⟩
theorem abu (I:iI W ab ak n) (d:Nat) (a0:Nat) (ws:List aq):gD W ab ak 102 [.int .i64 a0] d ws ((aU ab (n+1)).fn d a0 ws):=by
 intro h aA i C a8;generalize U:(aU ab (n+1)).fn d a0 ws=res at a8 ⊢;replace U:HW ab (aU ab n) d a0 ws=res:=U;unfold HW at U;refine WV.x rfl (cl ?_);unfold MK;have bX:=C.at_.lt;obtain ⟨ae,ao,aP,bz⟩:=fU h b8;have m1:Mod (b3 ak) h ae:=aP.mod _;have cw:=m1;have cy:=C.ext aP;simp only [ao,↓aa,ad,simprocAttr];have g2:(aU ab n).pat d ws≠.error b7:=fun q=>by rw [q] at U;exact a8 U.symm
 refine cH (I.pat d ws ae aA i cy g2) ?_ ?_
 rotate_left
 . rintro x ag ⟨e,he,rfl,m,bo⟩;simp only [cF,aY,↓aa,ad,simprocAttr];exact ⟨e,by rw [he] at U;exact U.symm,rfl,(cw.trans m),bo⟩
 rintro x ag ⟨a,bt,b5,i2,bf,rfl,aO,m2,bx⟩;rw [bf] at U
 try simp only [bB] at U
 have M2:=cw.trans m2;have dx:=aO.one;obtain ⟨ar,aC,cT,fl⟩:=fq ag b8 (vcs a b5);have m3:Mod (b3 ak) ag ar:=cT.mod _;have cu:=M2.trans m3;have cq:=bx.ext cT;simp only [dx.1,dx.2.1,dx.2.2,aC,↓aa,ad,simprocAttr];refine cH (kR cq jY) ?_ ?_
 rotate_left
 . rintro x aT ⟨e,he,rfl,m,bo⟩;simp only [cF,aY,↓aa,ad,simprocAttr];exact ⟨e,by rw [he] at U;exact U.symm,rfl,(cu.trans m),bo⟩
 rintro x aT ⟨dj,cU,m4,i4,cf⟩;rw [cU] at U
 try simp only [bB] at U
 have cX:=cu.trans m4;have iY:=fl.mod m4 (bT (by have:=M2.next;omega));simp only [iY.g,↓aa,ad,simprocAttr];have g5:(aU ab n).seq d dj≠.error b7:=fun q=>by rw [q] at U;exact a8 U.symm
 refine cH (I.seq d dj aT aA i4 cf g5) ?_ ?_
 rotate_left
 . rintro x bC ⟨e,he,rfl,m,bo⟩;simp only [cF,aY,iY.g,↓aa,ad,simprocAttr];exact ⟨rfl,e,by rw [he] at U;exact U.symm,rfl,(cX.trans m),bo⟩
 rintro x bC ⟨b,fs,eM,i5,b4,rfl,fO,m5,bV⟩;rw [b4] at U
 try simp only [bB] at U
 have cR:=cX.trans m5;have gz:=iY.mod m5 (bT (by have:=M2.next;omega));have mW:=aO.mod (m3.trans (m4.trans m5)) (by have:=cw.next;omega);have ov:=mW.one;have J7:=fO.one;obtain ⟨bA,cD,eS,uZ⟩:=xF (F:=Fr ae.next) (h:=bC) (size:=5) rfl rfl mW.cs (fO.cO (ia:=ae.next) (by have:=(m2.trans (m3.trans m4)).next;omega)).cs (ry (m2.trans (m3.trans (m4.trans m5))).next);simp only [vcs,apm,apx] at cD;have m6:Mod (b3 ak) bC bA:=eS.mod _;have de:=cR.trans m6;have cv:=bV.ext eS;have ef:=oy (l:=[a,b]) 27 0 a0 [] uZ rfl (api _);have jl:=bz.mod (m2.trans (m3.trans (m4.trans (m5.trans m6)))) (bT bX);have kl:=gz.mod m6 (bT (by have:=M2.next;omega));have o:=ef.one;simp only [o.1,o.2.1,o.2.2,aY,vcs,bR,ov.1,ov.2.1,ov.2.2,J7.1,J7.2.1,J7.2.2,cD,jl.g,kl.g,iY.g,gz.g,↓aa,ad,simprocAttr];exact ⟨_,_,_,_,U.symm,rfl,(ef.box (by have:=bX;have:=bz.lt;omega) _).cO (by have:=m1.next;omega),de.set (fun o=>absurd o (dh (ao1 _))) _,C.box cv (ao1 _) _⟩
end
section
variable {W:List aq} {ab ak n:Nat}
theorem ait (I:iI W ab ak n) (d:Nat) (ws:List aq):gD W ab ak 107 [] d ws ((aU ab (n+1)).one d ws):=by
 intro h aA i C a8;generalize U:(aU ab (n+1)).one d ws=res at a8 ⊢;replace U:uq ab (aU ab n) d ws=res:=U;unfold uq at U;dsimp only at U;refine WZ.x rfl (cl ?_);unfold MP;have bX:=C.at_.lt;obtain ⟨ae,ao,aP,bz⟩:=fU h b8;have m1:Mod (b3 ak) h ae:=aP.mod _;have cw:=m1;have cy:=C.ext aP;simp only [ao,↓aa,ad,simprocAttr];refine bQ (q2 cy) ?_;simp only [↓aa,ad,simprocAttr];refine aX (hs cy pk) ?_;rintro x ag ⟨rfl,m2,i2,bx⟩;have M2:=cw.trans m2;cases b_:bb pk ws with
 | true=>
   simp only [b_,apd,ao2,apa,bB] at U bx;simp only [↓aa,ad,simprocAttr];have g3:(aU ab n).lt d (bG ab ws) ws.tail≠.error b7:=fun q=>by rw [q] at U;exact a8 U.symm
   refine cH (I.lt d (bG ab ws) ws.tail ag aA i2 bx g3) ?_ ?_
   rotate_left
   . rintro x ar ⟨e,he,rfl,m,bo⟩;simp only [cF,aY,↓aa,ad,simprocAttr];exact ⟨e,by rw [he] at U;exact U.symm,rfl,(M2.trans m),bo⟩
   rintro x ar ⟨a,db,b5,i3,bU,rfl,aO,m3,cq⟩;rw [bU] at U
   try simp only [bB] at U
   have cu:=M2.trans m3;have mm:=bz.mod (m2.trans m3) (bT bX);have o:=aO.one;simp only [o.1,o.2.1,o.2.2,aY,vcs,bR,mm.g,↓aa,ad,simprocAttr];exact ⟨_,_,_,_,U.symm,rfl,(aO.box (by have:=m2.next;have:=bz.lt;omega) _).cO (by have:=(m1.trans m2).next;omega),cu.set (fun o=>absurd o (dh (ao1 _))) _,C.box cq (ao1 _) _⟩
 | false=>
   simp only [b_,apd,ao2,apa,bB] at U bx;simp only [↓aa,ad,simprocAttr];refine aX (hs bx mH) ?_;rintro x ar ⟨rfl,m3,i3,cq⟩;have cu:=M2.trans m3;cases dC:bb mH ws with
   | true=>
     simp only [dC,apd,ao2,apa,bB] at U cq;simp only [↓aa,ad,simprocAttr];have g4:(aU ab n).fn d (bG ab ws) ws.tail≠.error b7:=fun q=>by rw [q] at U;exact a8 U.symm
     refine cH (I.fn d (bG ab ws) ws.tail ar aA i3 cq g4) ?_ ?_
     rotate_left
     . rintro x aT ⟨e,he,rfl,m,bo⟩;simp only [cF,aY,↓aa,ad,simprocAttr];exact ⟨e,by rw [he] at U;exact U.symm,rfl,(cu.trans m),bo⟩
     rintro x aT ⟨a,dj,b5,i4,cU,rfl,aO,m4,cf⟩;rw [cU] at U
     try simp only [bB] at U
     have cX:=cu.trans m4;have kZ:=bz.mod (m2.trans (m3.trans m4)) (bT bX);have o:=aO.one;simp only [o.1,o.2.1,o.2.2,aY,vcs,bR,kZ.g,↓aa,ad,simprocAttr];exact ⟨_,_,_,_,U.symm,rfl,(aO.box (by have:=(m2.trans m3).next;have:=bz.lt;omega) _).cO (by have:=(m1.trans (m2.trans m3)).next;omega),cX.set (fun o=>absurd o (dh (ao1 _))) _,C.box cf (ao1 _) _⟩
   | false=>
     simp only [dC,apd,ao2,apa,bB] at U cq;simp only [↓aa,ad,simprocAttr];refine aX (hs cq vz) ?_;rintro x aT ⟨rfl,m4,i4,cf⟩;have cX:=cu.trans m4;cases eP:bb vz ws with
     | true=>
       simp only [eP,apd,ao2,apa,bB] at U cf;simp only [↓aa,ad,simprocAttr];have g5:(aU ab n).seq d ws.tail≠.error b7:=fun q=>by rw [q] at U;exact a8 U.symm
       refine cH (I.seq d ws.tail aT aA i4 cf g5) ?_ ?_
       rotate_left
       . rintro x bC ⟨e,he,rfl,m,bo⟩;simp only [cF,aY,↓aa,ad,simprocAttr];exact ⟨e,by rw [he] at U;exact U.symm,rfl,(cX.trans m),bo⟩
       rintro x bC ⟨a,fs,b5,i5,b4,rfl,aO,m5,bV⟩;rw [b4] at U
       try simp only [bB] at U
       have cR:=cX.trans m5;have eQ:=aO.one;obtain ⟨bA,cD,eS,jN⟩:=fq bC b8 (vcs a b5);have m6:Mod (b3 ak) bC bA:=eS.mod _;have de:=cR.trans m6;have cv:=bV.ext eS;simp only [eQ.1,eQ.2.1,eQ.2.2,cD,↓aa,ad,simprocAttr];refine cH (kR cv EY) ?_ ?_
       rotate_left
       . rintro x cd ⟨e,he,rfl,m,bo⟩;simp only [cF,aY,↓aa,ad,simprocAttr];exact ⟨e,by rw [he] at U;exact U.symm,rfl,(de.trans m),bo⟩
       rintro x cd ⟨mS,e3,m7,i7,eR⟩;rw [e3] at U
       try simp only [bB] at U
       have ew:=de.trans m7;simp only [↓aa,ad,simprocAttr];have g8:(aU ab n).one d mS≠.error b7:=fun q=>by rw [q] at U;exact a8 U.symm
       refine cH (I.one d mS cd aA i7 eR g8) ?_ ?_
       rotate_left
       . rintro x et ⟨e,he,rfl,m,bo⟩;simp only [cF,aY,↓aa,ad,simprocAttr];exact ⟨e,by rw [he] at U;exact U.symm,rfl,(ew.trans m),bo⟩
       rintro x et ⟨b,v_,eM,i8,hd,rfl,fO,m8,gj⟩;rw [hd] at U
       try simp only [bB] at U
       have g':=ew.trans m8;have xZ:=fO.one;obtain ⟨fD,mg,jD,oH⟩:=fq et b8 (vcs b eM);have m9:Mod (b3 ak) et fD:=jD.mod _;have ib:=g'.trans m9;have fS:=gj.ext jD;simp only [xZ.1,xZ.2.1,xZ.2.2,mg,↓aa,ad,simprocAttr];refine cH (kR fS EW) ?_ ?_
       rotate_left
       . rintro x iN ⟨e,he,rfl,m,bo⟩;simp only [cF,aY,↓aa,ad,simprocAttr];exact ⟨e,by rw [he] at U;exact U.symm,rfl,(ib.trans m),bo⟩
       rintro x iN ⟨Ge,sZ,m10,i10,iZ⟩;rw [sZ] at U
       try simp only [bB] at U
       have oO:=ib.trans m10;have Dj:=jN.mod (m7.trans (m8.trans (m9.trans m10))) (bT (by have:=cR.next;omega));have ys:=oH.mod m10 (bT (by have:=g'.next;omega));simp only [Dj.g,ys.g,↓aa,ad,simprocAttr];have g11:(aU ab n).one d Ge≠.error b7:=fun q=>by rw [q] at U;exact a8 U.symm
       refine cH (I.one d Ge iN aA i10 iZ g11) ?_ ?_
       rotate_left
       . rintro x ly ⟨e,he,rfl,m,bo⟩;simp only [cF,aY,Dj.g,ys.g,↓aa,ad,simprocAttr];exact ⟨rfl,e,by rw [he] at U;exact U.symm,rfl,(oO.trans m),bo⟩
       rintro x ly ⟨c,T1,ev,i11,vR,rfl,ef,m11,lu⟩;rw [vR] at U
       try simp only [bB] at U
       have u0:=oO.trans m11;have LL:=Dj.mod m11 (bT (by have:=cR.next;omega));have LM:=ys.mod m11 (bT (by have:=g'.next;omega));have L':=aO.mod (m6.trans (m7.trans (m8.trans (m9.trans (m10.trans m11))))) (by have:=cX.next;omega);have Ma:=fO.mod (m9.trans (m10.trans m11)) (by have:=ew.next;omega);have xW:=L'.one;have xX:=Ma.one;have J5:=ef.one;obtain ⟨BE,x4,tz,UO⟩:=JJ (F:=Fr aT.next) (h:=ly) (size:=5) rfl rfl rfl L'.cs (Ma.cO (ia:=aT.next) (by have:=(m5.trans (m6.trans m7)).next;omega)).cs (ef.cO (ia:=aT.next) (by have:=(m5.trans (m6.trans (m7.trans (m8.trans (m9.trans m10))))).next;omega)).cs (ry (m5.trans (m6.trans (m7.trans (m8.trans (m9.trans (m10.trans m11)))))).next);simp only [vcs,apm,apx] at x4;have m12:Mod (b3 ak) ly BE:=tz.mod _;have GB:=u0.trans m12;have wh:=lu.ext tz;have AV:=oy (l:=[a,b,c]) 31 0 (bG ab ws) [] UO rfl (api _);have T8:=bz.mod (m2.trans (m3.trans (m4.trans (m5.trans (m6.trans (m7.trans (m8.trans (m9.trans (m10.trans (m11.trans m12)))))))))) (bT bX);have T':=LL.mod m12 (bT (by have:=cR.next;omega));have Ub:=LM.mod m12 (bT (by have:=g'.next;omega));have o:=AV.one;simp only [o.1,o.2.1,o.2.2,aY,vcs,bR,xW.1,xW.2.1,xW.2.2,xX.1,xX.2.1,xX.2.2,J5.1,J5.2.1,J5.2.2,x4,T8.g,T'.g,Ub.g,Dj.g,ys.g,LL.g,LM.g,↓aa,ad,simprocAttr];exact ⟨_,_,_,_,U.symm,rfl,(AV.box (by have:=(m2.trans (m3.trans m4)).next;have:=bz.lt;omega) _).cO (by have:=(m1.trans (m2.trans (m3.trans m4))).next;omega),GB.set (fun o=>absurd o (dh (ao1 _))) _,C.box wh (ao1 _) _⟩
     | false=>
       simp only [eP,apd,ao2,apa,bB] at U cf;simp only [↓aa,ad,simprocAttr];refine aX (hs cf zC) ?_;rintro x bC ⟨rfl,m5,i5,bV⟩;have cR:=cX.trans m5;cases ju:bb zC ws with
       | true=>
         simp only [ju,apd,ao2,apa,bB] at U bV;simp only [↓aa,ad,simprocAttr];have g6:(aU ab n).hq d 32 (bG ab ws) ws.tail≠.error b7:=fun q=>by rw [q] at U;exact a8 U.symm
         refine cH (I.hq d 32 (bG ab ws) ws.tail bC aA i5 bV g6) ?_ ?_
         rotate_left
         . rintro x bA ⟨e,he,rfl,m,bo⟩;simp only [cF,aY,↓aa,ad,simprocAttr];exact ⟨e,by rw [he] at U;exact U.symm,rfl,(cR.trans m),bo⟩
         rintro x bA ⟨a,jz,b5,i6,ea,rfl,aO,m6,cv⟩;rw [ea] at U
         try simp only [bB] at U
         have de:=cR.trans m6;have jl:=bz.mod (m2.trans (m3.trans (m4.trans (m5.trans m6)))) (bT bX);have o:=aO.one;simp only [o.1,o.2.1,o.2.2,aY,vcs,bR,jl.g,↓aa,ad,simprocAttr];exact ⟨_,_,_,_,U.symm,rfl,(aO.box (by have:=(m2.trans (m3.trans (m4.trans m5))).next;have:=bz.lt;omega) _).cO (by have:=(m1.trans (m2.trans (m3.trans (m4.trans m5)))).next;omega),de.set (fun o=>absurd o (dh (ao1 _))) _,C.box cv (ao1 _) _⟩
       | false=>
         simp only [ju,apd,ao2,apa,bB] at U bV;simp only [↓aa,ad,simprocAttr];refine aX (hs bV zE) ?_;rintro x bA ⟨rfl,m6,i6,cv⟩;have de:=cR.trans m6;cases kO:bb zE ws with
         | true=>
           simp only [kO,apd,ao2,apa,bB] at U cv;simp only [↓aa,ad,simprocAttr];have g7:(aU ab n).hq d 33 (bG ab ws) ws.tail≠.error b7:=fun q=>by rw [q] at U;exact a8 U.symm
           refine cH (I.hq d 33 (bG ab ws) ws.tail bA aA i6 cv g7) ?_ ?_
           rotate_left
           . rintro x cd ⟨e,he,rfl,m,bo⟩;simp only [cF,aY,↓aa,ad,simprocAttr];exact ⟨e,by rw [he] at U;exact U.symm,rfl,(de.trans m),bo⟩
           rintro x cd ⟨a,mS,b5,i7,e3,rfl,aO,m7,eR⟩;rw [e3] at U
           try simp only [bB] at U
           have ew:=de.trans m7;have hH:=bz.mod (m2.trans (m3.trans (m4.trans (m5.trans (m6.trans m7))))) (bT bX);have o:=aO.one;simp only [o.1,o.2.1,o.2.2,aY,vcs,bR,hH.g,↓aa,ad,simprocAttr];exact ⟨_,_,_,_,U.symm,rfl,(aO.box (by have:=(m2.trans (m3.trans (m4.trans (m5.trans m6)))).next;have:=bz.lt;omega) _).cO (by have:=(m1.trans (m2.trans (m3.trans (m4.trans (m5.trans m6))))).next;omega),ew.set (fun o=>absurd o (dh (ao1 _))) _,C.box eR (ao1 _) _⟩
         | false=>
           simp only [kO,apd,ao2,apa,bB] at U cv;simp only [↓aa,ad,simprocAttr];have g7:(aU ab n).pair d ws≠.error b7:=fun q=>by rw [q] at U;exact a8 U.symm
           refine cH (I.pair d ws bA aA i6 cv g7) ?_ ?_
           rotate_left
           . rintro x cd ⟨e,he,rfl,m,bo⟩;simp only [cF,aY,↓aa,ad,simprocAttr];exact ⟨e,by rw [he] at U;exact U.symm,rfl,(de.trans m),bo⟩
           rintro x cd ⟨a,mS,b5,i7,e3,rfl,aO,m7,eR⟩;rw [e3] at U
           try simp only [bB] at U
           have ew:=de.trans m7;have jy:=aO.one;obtain ⟨et,dH,ga,pD⟩:=fq cd b8 (vcs a b5);have m8:Mod (b3 ak) cd et:=ga.mod _;have g':=ew.trans m8;have gj:=eR.ext ga;simp only [jy.1,jy.2.1,jy.2.2,dH,↓aa,ad,simprocAttr];refine aX (hs gj Aj) ?_;rintro x fD ⟨rfl,m9,i9,fS⟩;have ib:=g'.trans m9;cases kP:bb Aj mS with
           | true=>
             simp only [kP,apd,ao2,apa,bB] at U fS;have s_:=pD.mod m9 (bT (by have:=ew.next;omega));simp only [s_.g,↓aa,ad,simprocAttr];have g10:(aU ab n).one d mS.tail≠.error b7:=fun q=>by rw [q] at U;exact a8 U.symm
             refine cH (I.one d mS.tail fD aA i9 fS g10) ?_ ?_
             rotate_left
             . rintro x iN ⟨e,he,rfl,m,bo⟩;simp only [cF,aY,s_.g,↓aa,ad,simprocAttr];exact ⟨rfl,e,by rw [he] at U;exact U.symm,rfl,(ib.trans m),bo⟩
             rintro x iN ⟨b,Ge,eM,i10,sZ,rfl,fO,m10,iZ⟩;rw [sZ] at U
             try simp only [bB] at U
             have oO:=ib.trans m10;have Gj:=s_.mod m10 (bT (by have:=ew.next;omega));simp only [s_.g,Gj.g,↓aa,ad,simprocAttr];have Dv:=aO.mod (m8.trans (m9.trans m10)) (by have:=de.next;omega);refine aX (uI 37 Dv (fO.cO (by have:=(m7.trans (m8.trans m9)).next;omega))) ?_;rintro x ly ⟨ev,rfl,k3,DW⟩;have ef:=k3.eW (eZ:=Fr bA.next) fun b q=>q.elim (fun q=>q.1) (fun q=>by have:=(m7.trans (m8.trans (m9.trans m10))).next;unfold Fr;omega);have m11:Mod (b3 ak) iN ly:=DW.mod _;have u0:=oO.trans m11;have lu:=iZ.ext DW;have Di:=bz.mod (m2.trans (m3.trans (m4.trans (m5.trans (m6.trans (m7.trans (m8.trans (m9.trans (m10.trans m11))))))))) (bT bX);have Ua:=Gj.mod m11 (bT (by have:=ew.next;omega));have o:=ef.one;simp only [o.1,o.2.1,o.2.2,aY,vcs,bR,Di.g,Ua.g,s_.g,Gj.g,↓aa,ad,simprocAttr];exact ⟨_,_,_,_,U.symm,rfl,(ef.box (by have:=(m2.trans (m3.trans (m4.trans (m5.trans m6)))).next;have:=bz.lt;omega) _).cO (by have:=(m1.trans (m2.trans (m3.trans (m4.trans (m5.trans m6))))).next;omega),u0.set (fun o=>absurd o (dh (ao1 _))) _,C.box lu (ao1 _) _⟩
           | false=>
             simp only [kP,apd,ao2,apa,bB] at U fS;have s_:=pD.mod m9 (bT (by have:=ew.next;omega));have u3:=aO.mod (m8.trans m9) (by have:=de.next;omega);have Gh:=bz.mod (m2.trans (m3.trans (m4.trans (m5.trans (m6.trans (m7.trans (m8.trans m9))))))) (bT bX);have o:=u3.one;simp only [o.1,o.2.1,o.2.2,aY,vcs,bR,s_.g,Gh.g,↓aa,ad,simprocAttr];exact ⟨_,_,_,_,U.symm,rfl,(u3.box (by have:=(m2.trans (m3.trans (m4.trans (m5.trans m6)))).next;have:=bz.lt;omega) _).cO (by have:=(m1.trans (m2.trans (m3.trans (m4.trans (m5.trans m6))))).next;omega),ib.set (fun o=>absurd o (dh (ao1 _))) _,C.box fS (ao1 _) _⟩
end
section
variable {W:List aq} {ab ak n:Nat}
theorem ajQ (I:iI W ab ak n) (d:Nat) (ws:List aq):gD W ab ak 147 [] d ws ((aU ab (n+1)).gP d ws):=by
 intro h aA i C a8;generalize U:(aU ab (n+1)).gP d ws=res at a8 ⊢;replace U:p_ ab (aU ab n) d ws=res:=U;unfold p_ at U;dsimp only at U;refine Xn.x rfl (cl ?_);unfold Nd;have bX:=C.at_.lt;obtain ⟨ae,ao,aP,bz⟩:=fU h b8;have m1:Mod (b3 ak) h ae:=aP.mod _;have cw:=m1;have cy:=C.ext aP;simp only [ao,↓aa,ad,simprocAttr];refine bQ (q2 cy) ?_;simp only [↓aa,ad,simprocAttr];refine aX (hs cy iW) ?_;rintro x ag ⟨rfl,m2,i2,bx⟩;have M2:=cw.trans m2;cases b_:bb iW ws with
 | true=>
   simp only [b_,apd,ao2,apa,bB] at U bx;have kk:=bz.mod m2 (bT bX);simp only [aY,vcs,bR,kk.g,↓aa,ad,simprocAttr];exact ⟨_,_,_,_,U.symm,rfl,iV _ _ _ _ _ (api _),M2.set (fun o=>absurd o (dh (ao1 _))) _,C.box bx (ao1 _) _⟩
 | false=>
   simp only [b_,apd,ao2,apa,bB] at U bx;simp only [↓aa,ad,simprocAttr];refine bQ (kb bx 3) ?_;cases dC:cJ 3 ws with
   | true=>
     simp only [dC,apd,ao2,apa,bB] at U;simp only [↓aa,ad,simprocAttr];refine cH (mQ bx 3) ?_ ?_
     rotate_left
     . rintro x ar ⟨e,he,rfl,m,bo⟩;simp only [cF,aY,↓aa,ad,simprocAttr];exact ⟨e,by rw [he] at U;exact U.symm,rfl,(M2.trans m),bo⟩
     rintro x ar ⟨⟨eI,db⟩,bU,rfl,⟨pZ,pa⟩,m3,i3,cq⟩;rw [bU] at U
     try simp only [bB] at U
     have cu:=M2.trans m3;have mm:=bz.mod (m2.trans m3) (bT bX);simp only [aY,vcs,bR,aq.enc,mm.g,↓aa,ad,simprocAttr];exact ⟨_,_,_,_,U.symm,rfl,iV _ _ _ _ _ (le_top (C.fj eI pZ)),cu.set (fun o=>absurd o (dh (ao1 _))) _,C.box cq (ao1 _) _⟩
   | false=>
     simp only [dC,apd,ao2,apa,bB] at U;simp only [↓aa,ad,simprocAttr];refine bQ (kb bx 4) ?_;cases eP:cJ 4 ws with
     | true=>
       simp only [eP,apd,ao2,apa,bB] at U;simp only [↓aa,ad,simprocAttr];refine cH (mQ bx 4) ?_ ?_
       rotate_left
       . rintro x ar ⟨e,he,rfl,m,bo⟩;simp only [cF,aY,↓aa,ad,simprocAttr];exact ⟨e,by rw [he] at U;exact U.symm,rfl,(M2.trans m),bo⟩
       rintro x ar ⟨⟨eI,db⟩,bU,rfl,⟨pZ,pa⟩,m3,i3,cq⟩;rw [bU] at U
       try simp only [bB] at U
       have cu:=M2.trans m3;have mm:=bz.mod (m2.trans m3) (bT bX);simp only [aY,vcs,bR,aq.enc,mm.g,↓aa,ad,simprocAttr];exact ⟨_,_,_,_,U.symm,rfl,iV _ _ _ _ _ (le_top (C.fj eI pZ)),cu.set (fun o=>absurd o (dh (ao1 _))) _,C.box cq (ao1 _) _⟩
     | false=>
       simp only [eP,apd,ao2,apa,bB] at U;simp only [↓aa,ad,simprocAttr];refine bQ (kb bx 1) ?_;cases ju:cJ 1 ws with
       | true=>
         simp only [ju,apd,ao2,apa,bB] at U;simp only [↓aa,ad,simprocAttr];refine cH (mQ bx 1) ?_ ?_
         rotate_left
         . rintro x ar ⟨e,he,rfl,m,bo⟩;simp only [cF,aY,↓aa,ad,simprocAttr];exact ⟨e,by rw [he] at U;exact U.symm,rfl,(M2.trans m),bo⟩
         rintro x ar ⟨⟨eI,db⟩,bU,rfl,⟨pZ,pa⟩,m3,i3,cq⟩;rw [bU] at U
         try simp only [bB] at U
         have cu:=M2.trans m3;have mm:=bz.mod (m2.trans m3) (bT bX);simp only [aY,vcs,bR,aq.enc,mm.g,↓aa,ad,simprocAttr];exact ⟨_,_,_,_,U.symm,rfl,iV _ _ _ _ _ (api _),cu.set (fun o=>absurd o (dh (ao1 _))) _,C.box cq (ao1 _) _⟩
       | false=>
         simp only [ju,apd,ao2,apa,bB] at U;simp only [↓aa,ad,simprocAttr];refine aX (hs bx hN) ?_;rintro x ar ⟨rfl,m3,i3,cq⟩;have cu:=M2.trans m3;cases kO:bb hN ws with
         | true=>
           simp only [kO,apd,ao2,apa,bB] at U cq;simp only [↓aa,ad,simprocAttr];refine cH (mQ cq 1) ?_ ?_
           rotate_left
           . rintro x aT ⟨e,he,rfl,m,bo⟩;simp only [cF,aY,↓aa,ad,simprocAttr];exact ⟨e,by rw [he] at U;exact U.symm,rfl,(cu.trans m),bo⟩
           rintro x aT ⟨⟨gp,dj⟩,cU,rfl,⟨xq,vo⟩,m4,i4,cf⟩;rw [cU] at U
           try simp only [bB] at U
           have cX:=cu.trans m4;simp only [aq.enc,↓aa,ad,simprocAttr];refine bQ (ahD _ (C.num gp xq vo).1 (C.num gp xq vo).2 _) ?_;have kZ:=bz.mod (m2.trans (m3.trans m4)) (bT bX);simp only [aY,vcs,bR,kZ.g,↓aa,ad,simprocAttr];exact ⟨_,_,_,_,U.symm,rfl,iV _ _ _ _ _ (api _),cX.set (fun o=>absurd o (dh (ao1 _))) _,C.box cf (ao1 _) _⟩
         | false=>
           simp only [kO,apd,ao2,apa,bB] at U cq;simp only [↓aa,ad,simprocAttr];refine aX (hs cq h3) ?_;rintro x aT ⟨rfl,m4,i4,cf⟩;have cX:=cu.trans m4;cases kP:bb h3 ws with
           | true=>
             simp only [kP,apd,ao2,apa,bB] at U cf;have kZ:=bz.mod (m2.trans (m3.trans m4)) (bT bX);simp only [aY,vcs,bR,kZ.g,↓aa,ad,simprocAttr];exact ⟨_,_,_,_,U.symm,rfl,iV _ _ _ _ _ (api _),cX.set (fun o=>absurd o (dh (ao1 _))) _,C.box cf (ao1 _) _⟩
           | false=>
             simp only [kP,apd,ao2,apa,bB] at U cf;simp only [↓aa,ad,simprocAttr];refine aX (hs cf iE) ?_;rintro x bC ⟨rfl,m5,i5,bV⟩;have cR:=cX.trans m5;cases pX:bb iE ws with
             | true=>
               simp only [pX,apd,ao2,apa,bB] at U bV;have hY:=bz.mod (m2.trans (m3.trans (m4.trans m5))) (bT bX);simp only [aY,vcs,bR,hY.g,↓aa,ad,simprocAttr];exact ⟨_,_,_,_,U.symm,rfl,iV _ _ _ _ _ (api _),cR.set (fun o=>absurd o (dh (ao1 _))) _,C.box bV (ao1 _) _⟩
             | false=>
               simp only [pX,apd,ao2,apa,bB] at U bV;simp only [↓aa,ad,simprocAttr];refine cH (kR bV e9) ?_ ?_
               rotate_left
               . rintro x bA ⟨e,he,rfl,m,bo⟩;simp only [cF,aY,↓aa,ad,simprocAttr];exact ⟨e,by rw [he] at U;exact U.symm,rfl,(cR.trans m),bo⟩
               rintro x bA ⟨jz,ea,m6,i6,cv⟩;rw [ea] at U
               try simp only [bB] at U
               have de:=cR.trans m6;simp only [↓aa,ad,simprocAttr];refine aX (hs cv ej) ?_;rintro x cd ⟨rfl,m7,i7,eR⟩;have ew:=de.trans m7;cases pY:bb ej jz with
               | true=>
                 simp only [pY,apd,ao2,apa,bB] at U eR;have hH:=bz.mod (m2.trans (m3.trans (m4.trans (m5.trans (m6.trans m7))))) (bT bX);simp only [aY,vcs,bR,hH.g,↓aa,ad,simprocAttr];exact ⟨_,_,_,_,U.symm,rfl,iV _ _ _ _ _ (api _),ew.set (fun o=>absurd o (dh (ao1 _))) _,C.box eR (ao1 _) _⟩
               | false=>
                 simp only [pY,apd,ao2,apa,bB] at U eR;simp only [↓aa,ad,simprocAttr];have g8:(aU ab n).pat d jz≠.error b7:=fun q=>by rw [q] at U;exact a8 U.symm
                 refine cH (I.pat d jz cd aA i7 eR g8) ?_ ?_
                 rotate_left
                 . rintro x et ⟨e,he,rfl,m,bo⟩;simp only [cF,aY,↓aa,ad,simprocAttr];exact ⟨e,by rw [he] at U;exact U.symm,rfl,(ew.trans m),bo⟩
                 rintro x et ⟨a,v_,b5,i8,hd,rfl,aO,m8,gj⟩;rw [hd] at U
                 try simp only [bB] at U
                 have g':=ew.trans m8;have xZ:=aO.one;obtain ⟨fD,mg,jD,oH⟩:=fq et b8 (vcs a b5);have m9:Mod (b3 ak) et fD:=jD.mod _;have ib:=g'.trans m9;have fS:=gj.ext jD;simp only [xZ.1,xZ.2.1,xZ.2.2,mg,↓aa,ad,simprocAttr];refine cH (kR fS ej) ?_ ?_
                 rotate_left
                 . rintro x iN ⟨e,he,rfl,m,bo⟩;simp only [cF,aY,↓aa,ad,simprocAttr];exact ⟨e,by rw [he] at U;exact U.symm,rfl,(ib.trans m),bo⟩
                 rintro x iN ⟨Ge,sZ,m10,i10,iZ⟩;rw [sZ] at U
                 try simp only [bB] at U
                 have oO:=ib.trans m10;have ys:=oH.mod m10 (bT (by have:=g'.next;omega));have Dv:=aO.mod (m9.trans m10) (by have:=ew.next;omega);have we:=bz.mod (m2.trans (m3.trans (m4.trans (m5.trans (m6.trans (m7.trans (m8.trans (m9.trans m10)))))))) (bT bX);have o:=Dv.one;simp only [o.1,o.2.1,o.2.2,aY,vcs,bR,ys.g,we.g,↓aa,ad,simprocAttr];exact ⟨_,_,_,_,U.symm,rfl,(Dv.box (by have:=(m2.trans (m3.trans (m4.trans (m5.trans (m6.trans m7))))).next;have:=bz.lt;omega) _).cO (by have:=(m1.trans (m2.trans (m3.trans (m4.trans (m5.trans (m6.trans m7)))))).next;omega),oO.set (fun o=>absurd o (dh (ao1 _))) _,C.box iZ (ao1 _) _⟩
theorem Wj (I:iI W ab ak n) (d:Nat) (ws:List aq):gD W ab ak 231 [] d ws ((aU ab (n+1)).atom d ws):=by
 intro h aA i C a8;generalize U:(aU ab (n+1)).atom d ws=res at a8 ⊢;replace U:tr ab (aU ab n) d ws=res:=U;unfold tr at U;dsimp only at U;refine XY.x rfl (cl ?_);unfold NI;have bX:=C.at_.lt;obtain ⟨ae,ao,aP,bz⟩:=fU h b8;have m1:Mod (b3 ak) h ae:=aP.mod _;have cw:=m1;have cy:=C.ext aP;simp only [ao,↓aa,ad,simprocAttr];refine bQ (q2 cy) ?_;simp only [↓aa,ad,simprocAttr];refine bQ (kb cy 1) ?_;cases b_:cJ 1 ws with
 | true=>
   simp only [b_,apd,ao2,apa,bB] at U;simp only [↓aa,ad,simprocAttr];refine cH (mQ cy 1) ?_ ?_
   rotate_left
   . rintro x ag ⟨e,he,rfl,m,bo⟩;simp only [cF,aY,↓aa,ad,simprocAttr];exact ⟨e,by rw [he] at U;exact U.symm,rfl,(cw.trans m),bo⟩
   rintro x ag ⟨⟨aQ,bt⟩,bf,rfl,⟨e8,tN⟩,m2,i2,bx⟩;rw [bf] at U
   try simp only [bB] at U
   have M2:=cw.trans m2;have kk:=bz.mod m2 (bT bX);simp only [aY,vcs,bR,aq.enc,kk.g,↓aa,ad,simprocAttr];exact ⟨_,_,_,_,U.symm,rfl,iV _ _ _ _ _ (api _),M2.set (fun o=>absurd o (dh (ao1 _))) _,C.box bx (ao1 _) _⟩
 | false=>
   simp only [b_,apd,ao2,apa,bB] at U;simp only [↓aa,ad,simprocAttr];refine bQ (kb cy 2) ?_;cases dC:cJ 2 ws with
   | true=>
     simp only [dC,apd,ao2,apa,bB] at U;simp only [↓aa,ad,simprocAttr];refine cH (mQ cy 2) ?_ ?_
     rotate_left
     . rintro x ag ⟨e,he,rfl,m,bo⟩;simp only [cF,aY,↓aa,ad,simprocAttr];exact ⟨e,by rw [he] at U;exact U.symm,rfl,(cw.trans m),bo⟩
     rintro x ag ⟨⟨aQ,bt⟩,bf,rfl,⟨e8,tN⟩,m2,i2,bx⟩;rw [bf] at U
     try simp only [bB] at U
     have M2:=cw.trans m2;have kk:=bz.mod m2 (bT bX);simp only [aY,vcs,bR,aq.enc,kk.g,↓aa,ad,simprocAttr];exact ⟨_,_,_,_,U.symm,rfl,iV _ _ _ _ _ (le_top (C.fj aQ e8)),M2.set (fun o=>absurd o (dh (ao1 _))) _,C.box bx (ao1 _) _⟩
   | false=>
     simp only [dC,apd,ao2,apa,bB] at U;simp only [↓aa,ad,simprocAttr];refine bQ (kb cy 3) ?_;cases eP:cJ 3 ws with
     | true=>
       simp only [eP,apd,ao2,apa,bB] at U;simp only [↓aa,ad,simprocAttr];refine cH (mQ cy 3) ?_ ?_
       rotate_left
       . rintro x ag ⟨e,he,rfl,m,bo⟩;simp only [cF,aY,↓aa,ad,simprocAttr];exact ⟨e,by rw [he] at U;exact U.symm,rfl,(cw.trans m),bo⟩
       rintro x ag ⟨⟨aQ,bt⟩,bf,rfl,⟨e8,tN⟩,m2,i2,bx⟩;rw [bf] at U
       try simp only [bB] at U
       have M2:=cw.trans m2;have kk:=bz.mod m2 (bT bX);simp only [aY,vcs,bR,aq.enc,kk.g,↓aa,ad,simprocAttr];exact ⟨_,_,_,_,U.symm,rfl,iV _ _ _ _ _ (le_top (C.fj aQ e8)),M2.set (fun o=>absurd o (dh (ao1 _))) _,C.box bx (ao1 _) _⟩
     | false=>
       simp only [eP,apd,ao2,apa,bB] at U;simp only [↓aa,ad,simprocAttr];refine bQ (kb cy 4) ?_;cases ju:cJ 4 ws with
       | true=>
         simp only [ju,apd,ao2,apa,bB] at U;simp only [↓aa,ad,simprocAttr];refine cH (mQ cy 4) ?_ ?_
         rotate_left
         . rintro x ag ⟨e,he,rfl,m,bo⟩;simp only [cF,aY,↓aa,ad,simprocAttr];exact ⟨e,by rw [he] at U;exact U.symm,rfl,(cw.trans m),bo⟩
         rintro x ag ⟨⟨aQ,bt⟩,bf,rfl,⟨e8,tN⟩,m2,i2,bx⟩;rw [bf] at U
         try simp only [bB] at U
         have M2:=cw.trans m2;have kk:=bz.mod m2 (bT bX);simp only [aY,vcs,bR,aq.enc,kk.g,↓aa,ad,simprocAttr];exact ⟨_,_,_,_,U.symm,rfl,iV _ _ _ _ _ (le_top (C.fj aQ e8)),M2.set (fun o=>absurd o (dh (ao1 _))) _,C.box bx (ao1 _) _⟩
       | false=>
         simp only [ju,apd,ao2,apa,bB] at U;simp only [↓aa,ad,simprocAttr];refine aX (hs cy h3) ?_;rintro x ag ⟨rfl,m2,i2,bx⟩;have M2:=cw.trans m2;cases kO:bb h3 ws with
         | true=>
           simp only [kO,apd,ao2,apa,bB] at U bx;have kk:=bz.mod m2 (bT bX);simp only [aY,vcs,bR,kk.g,↓aa,ad,simprocAttr];exact ⟨_,_,_,_,U.symm,rfl,iV _ _ _ _ _ (api _),M2.set (fun o=>absurd o (dh (ao1 _))) _,C.box bx (ao1 _) _⟩
         | false=>
           simp only [kO,apd,ao2,apa,bB] at U bx;simp only [↓aa,ad,simprocAttr];refine aX (hs bx iE) ?_;rintro x ar ⟨rfl,m3,i3,cq⟩;have cu:=M2.trans m3;cases kP:bb iE ws with
           | true=>
             simp only [kP,apd,ao2,apa,bB] at U cq;have mm:=bz.mod (m2.trans m3) (bT bX);simp only [aY,vcs,bR,mm.g,↓aa,ad,simprocAttr];exact ⟨_,_,_,_,U.symm,rfl,iV _ _ _ _ _ (api _),cu.set (fun o=>absurd o (dh (ao1 _))) _,C.box cq (ao1 _) _⟩
           | false=>
             simp only [kP,apd,ao2,apa,bB] at U cq;simp only [↓aa,ad,simprocAttr];refine aX (hs cq pj) ?_;rintro x aT ⟨rfl,m4,i4,cf⟩;have cX:=cu.trans m4;cases pX:bb pj ws with
             | true=>
               simp only [pX,apd,ao2,apa,bB] at U cf;simp only [↓aa,ad,simprocAttr];have g5:(aU ab n).seq d ws.tail≠.error b7:=fun q=>by rw [q] at U;exact a8 U.symm
               refine cH (I.seq d ws.tail aT aA i4 cf g5) ?_ ?_
               rotate_left
               . rintro x bC ⟨e,he,rfl,m,bo⟩;simp only [cF,aY,↓aa,ad,simprocAttr];exact ⟨e,by rw [he] at U;exact U.symm,rfl,(cX.trans m),bo⟩
               rintro x bC ⟨a,fs,b5,i5,b4,rfl,aO,m5,bV⟩;rw [b4] at U
               try simp only [bB] at U
               have cR:=cX.trans m5;have eQ:=aO.one;obtain ⟨bA,cD,eS,jN⟩:=fq bC b8 (vcs a b5);have m6:Mod (b3 ak) bC bA:=eS.mod _;have de:=cR.trans m6;have cv:=bV.ext eS;simp only [eQ.1,eQ.2.1,eQ.2.2,cD,↓aa,ad,simprocAttr];refine cH (kR cv EX) ?_ ?_
               rotate_left
               . rintro x cd ⟨e,he,rfl,m,bo⟩;simp only [cF,aY,↓aa,ad,simprocAttr];exact ⟨e,by rw [he] at U;exact U.symm,rfl,(de.trans m),bo⟩
               rintro x cd ⟨mS,e3,m7,i7,eR⟩;rw [e3] at U
               try simp only [bB] at U
               have ew:=de.trans m7;have T_:=jN.mod m7 (bT (by have:=cR.next;omega));have qn:=aO.mod (m6.trans m7) (by have:=cX.next;omega);have hH:=bz.mod (m2.trans (m3.trans (m4.trans (m5.trans (m6.trans m7))))) (bT bX);have o:=qn.one;simp only [o.1,o.2.1,o.2.2,aY,vcs,bR,T_.g,hH.g,↓aa,ad,simprocAttr];exact ⟨_,_,_,_,U.symm,rfl,(qn.box (by have:=(m2.trans (m3.trans m4)).next;have:=bz.lt;omega) _).cO (by have:=(m1.trans (m2.trans (m3.trans m4))).next;omega),ew.set (fun o=>absurd o (dh (ao1 _))) _,C.box eR (ao1 _) _⟩
             | false=>
               simp only [pX,apd,ao2,apa,bB] at U cf;simp only [↓aa,ad,simprocAttr];refine cH (kR cf e9) ?_ ?_
               rotate_left
               . rintro x bC ⟨e,he,rfl,m,bo⟩;simp only [cF,aY,↓aa,ad,simprocAttr];exact ⟨e,by rw [he] at U;exact U.symm,rfl,(cX.trans m),bo⟩
               rintro x bC ⟨fs,b4,m5,i5,bV⟩;rw [b4] at U
               try simp only [bB] at U
               have cR:=cX.trans m5;simp only [↓aa,ad,simprocAttr];refine aX (hs bV ej) ?_;rintro x bA ⟨rfl,m6,i6,cv⟩;have de:=cR.trans m6;cases pY:bb ej fs with
               | true=>
                 simp only [pY,apd,ao2,apa,bB] at U cv;have jl:=bz.mod (m2.trans (m3.trans (m4.trans (m5.trans m6)))) (bT bX);simp only [aY,vcs,bR,jl.g,↓aa,ad,simprocAttr];exact ⟨_,_,_,_,U.symm,rfl,iV _ _ _ _ _ (api _),de.set (fun o=>absurd o (dh (ao1 _))) _,C.box cv (ao1 _) _⟩
               | false=>
                 simp only [pY,apd,ao2,apa,bB] at U cv;simp only [↓aa,ad,simprocAttr];have g7:(aU ab n).seq d fs≠.error b7:=fun q=>by rw [q] at U;exact a8 U.symm
                 refine cH (I.seq d fs bA aA i6 cv g7) ?_ ?_
                 rotate_left
                 . rintro x cd ⟨e,he,rfl,m,bo⟩;simp only [cF,aY,↓aa,ad,simprocAttr];exact ⟨e,by rw [he] at U;exact U.symm,rfl,(de.trans m),bo⟩
                 rintro x cd ⟨a,mS,b5,i7,e3,rfl,aO,m7,eR⟩;rw [e3] at U
                 try simp only [bB] at U
                 have ew:=de.trans m7;have jy:=aO.one;obtain ⟨et,dH,ga,pD⟩:=fq cd b8 (vcs a b5);have m8:Mod (b3 ak) cd et:=ga.mod _;have g':=ew.trans m8;have gj:=eR.ext ga;simp only [jy.1,jy.2.1,jy.2.2,dH,↓aa,ad,simprocAttr];refine cH (kR gj ej) ?_ ?_
                 rotate_left
                 . rintro x fD ⟨e,he,rfl,m,bo⟩;simp only [cF,aY,↓aa,ad,simprocAttr];exact ⟨e,by rw [he] at U;exact U.symm,rfl,(g'.trans m),bo⟩
                 rintro x fD ⟨uR,py,m9,i9,fS⟩;rw [py] at U
                 try simp only [bB] at U
                 have ib:=g'.trans m9;have s_:=pD.mod m9 (bT (by have:=ew.next;omega));have u3:=aO.mod (m8.trans m9) (by have:=de.next;omega);have Gh:=bz.mod (m2.trans (m3.trans (m4.trans (m5.trans (m6.trans (m7.trans (m8.trans m9))))))) (bT bX);have o:=u3.one;simp only [o.1,o.2.1,o.2.2,aY,vcs,bR,s_.g,Gh.g,↓aa,ad,simprocAttr];exact ⟨_,_,_,_,U.symm,rfl,(u3.box (by have:=(m2.trans (m3.trans (m4.trans (m5.trans m6)))).next;have:=bz.lt;omega) _).cO (by have:=(m1.trans (m2.trans (m3.trans (m4.trans (m5.trans m6))))).next;omega),ib.set (fun o=>absurd o (dh (ao1 _))) _,C.box fS (ao1 _) _⟩
theorem aka (I:iI W ab ak n) (d:Nat) (ws:List aq):gD W ab ak 223 [] d ws ((aU ab (n+1)).pre d ws):=by
 intro h aA i C a8;generalize U:(aU ab (n+1)).pre d ws=res at a8 ⊢;replace U:Kw ab (aU ab n) d ws=res:=U;unfold Kw at U;dsimp only at U;refine XR.x rfl (cl ?_);unfold NB;have bX:=C.at_.lt;obtain ⟨ae,ao,aP,bz⟩:=fU h b8;have m1:Mod (b3 ak) h ae:=aP.mod _;have cw:=m1;have cy:=C.ext aP;simp only [ao,↓aa,ad,simprocAttr];refine cH (D3 cy) ?_ ?_
 rotate_left
 . rintro x ag ⟨a_,e,he,rfl,m,bo⟩;cases he;simp only [cF,aY,eV,cC,↓aa,ad,simprocAttr];unfold jb at U;rw [ape a_] at U;exact ⟨_,U.symm,rfl,cw.trans m,bo⟩
 rintro x ag ⟨a_,m2,bx⟩;unfold jb at U;rw [ao_ (by omega)] at U;have M2:=cw.trans m2;simp only [eV,apo,jq,cC,↓aa,ad,simprocAttr];refine bQ (q2 bx) ?_;simp only [eV,apo,jq,cC,↓aa,ad,simprocAttr];refine aX (hs bx hN) ?_;rintro x ar ⟨rfl,m3,i3,cq⟩;have cu:=M2.trans m3;cases b_:bb hN ws with
 | true=>
   simp only [b_,apd,ao2,apa,bB] at U cq;simp only [eV,apo,jq,cC,↓aa,ad,simprocAttr];have g4:(aU ab n).pre (d+1) ws.tail≠.error b7:=fun q=>by rw [q] at U;exact a8 U.symm
   refine cH (I.pre (d+1) ws.tail ar aA i3 cq g4) ?_ ?_
   rotate_left
   . rintro x aT ⟨e,he,rfl,m,kc,a0,a',qw,bo⟩;simp only [cF,aY,eV,cC,↓aa,ad,simprocAttr];refine (uf bo.1).mono ?_;rintro u bC ⟨rfl,dv,iR,cM,bW,ch,mY⟩;exact ⟨e,by rw [he] at U;exact U.symm,rfl,(cu.trans m).trans dv,iR,cM,bW,ch,mY,bo.2⟩
   rintro x aT ⟨a,dj,b5,i4,cU,rfl,aO,m4,cf⟩;rw [cU] at U
   try simp only [bB] at U
   have cX:=cu.trans m4;have xY:=aO.one;obtain ⟨bC,ca,e7,sa⟩:=sR (F:=Fr ar.next) (h:=aT) (size:=5) rfl aO.cs (ry m4.next);have m5:Mod (b3 ak) aT bC:=e7.mod _;have cR:=cX.trans m5;have bV:=cf.ext e7;have ef:=oy (l:=[a]) 39 0 (bG ab ws) [] sa rfl (api _);have hY:=bz.mod (m2.trans (m3.trans (m4.trans m5))) (bT bX);have o:=ef.one;simp only [o.1,o.2.1,o.2.2,aY,vcs,bR,xY.1,xY.2.1,xY.2.2,ca,hY.g,eV,apo,jq,cC,↓aa,ad,simprocAttr];have jA:=hY.put (vcs (.mk 39 0 (bG ab ws) [] [a]) (.slice (an aT.next) 0 1 1));refine (ue (C.box bV (ao1 _) _)).mono ?_;rintro u bA ⟨rfl,dv,fo⟩;have mT:=jA.mod dv (bT bX);simp only [mT.g,eV,vcs,bR,↓aa,ad,simprocAttr];exact ⟨_,_,_,_,U.symm,rfl,((ef.box (by have:=(m2.trans m3).next;have:=bz.lt;omega) _).mod dv (by have:=bz.lt;have:=(m2.trans m3).next;omega)).cO (by have:=(m1.trans (m2.trans m3)).next;omega),(cR.set (fun o=>absurd o (dh (ao1 _))) _).trans dv,fo⟩
 | false=>
   simp only [b_,apd,ao2,apa,bB] at U cq;simp only [eV,apo,jq,cC,↓aa,ad,simprocAttr];refine aX (hs cq x9) ?_;rintro x aT ⟨rfl,m4,i4,cf⟩;have cX:=cu.trans m4;cases dC:bb x9 ws with
   | true=>
     simp only [dC,apd,ao2,apa,bB] at U cf;simp only [eV,apo,jq,cC,↓aa,ad,simprocAttr];have g5:(aU ab n).pre (d+1) ws.tail≠.error b7:=fun q=>by rw [q] at U;exact a8 U.symm
     refine cH (I.pre (d+1) ws.tail aT aA i4 cf g5) ?_ ?_
     rotate_left
     . rintro x bC ⟨e,he,rfl,m,kc,a0,a',qw,bo⟩;simp only [cF,aY,eV,cC,↓aa,ad,simprocAttr];refine (uf bo.1).mono ?_;rintro u bA ⟨rfl,dv,iR,cM,bW,ch,mY⟩;exact ⟨e,by rw [he] at U;exact U.symm,rfl,(cX.trans m).trans dv,iR,cM,bW,ch,mY,bo.2⟩
     rintro x bC ⟨a,fs,b5,i5,b4,rfl,aO,m5,bV⟩;rw [b4] at U
     try simp only [bB] at U
     have cR:=cX.trans m5;have ov:=aO.one;obtain ⟨bA,cD,eS,uZ⟩:=sR (F:=Fr aT.next) (h:=bC) (size:=5) rfl aO.cs (ry m5.next);have m6:Mod (b3 ak) bC bA:=eS.mod _;have de:=cR.trans m6;have cv:=bV.ext eS;have ef:=oy (l:=[a]) 36 0 (bG ab ws) [] uZ rfl (api _);have jl:=bz.mod (m2.trans (m3.trans (m4.trans (m5.trans m6)))) (bT bX);have o:=ef.one;simp only [o.1,o.2.1,o.2.2,aY,vcs,bR,ov.1,ov.2.1,ov.2.2,cD,jl.g,eV,apo,jq,cC,↓aa,ad,simprocAttr];have jA:=jl.put (vcs (.mk 36 0 (bG ab ws) [] [a]) (.slice (an bC.next) 0 1 1));refine (ue (C.box cv (ao1 _) _)).mono ?_;rintro u cd ⟨rfl,dv,fo⟩;have mT:=jA.mod dv (bT bX);simp only [mT.g,eV,vcs,bR,↓aa,ad,simprocAttr];exact ⟨_,_,_,_,U.symm,rfl,((ef.box (by have:=(m2.trans (m3.trans m4)).next;have:=bz.lt;omega) _).mod dv (by have:=bz.lt;have:=(m2.trans (m3.trans m4)).next;omega)).cO (by have:=(m1.trans (m2.trans (m3.trans m4))).next;omega),(de.set (fun o=>absurd o (dh (ao1 _))) _).trans dv,fo⟩
   | false=>
     simp only [dC,apd,ao2,apa,bB] at U cf;simp only [eV,apo,jq,cC,↓aa,ad,simprocAttr];have g5:(aU ab n).app (d+1) ws≠.error b7:=fun q=>by rw [q] at U;exact a8 U.symm
     refine cH (I.app (d+1) ws aT aA i4 cf g5) ?_ ?_
     rotate_left
     . rintro x bC ⟨e,he,rfl,m,kc,a0,a',qw,bo⟩;simp only [cF,aY,eV,cC,↓aa,ad,simprocAttr];refine (uf bo.1).mono ?_;rintro u bA ⟨rfl,dv,iR,cM,bW,ch,mY⟩;exact ⟨e,by rw [he] at U;exact U.symm,rfl,(cX.trans m).trans dv,iR,cM,bW,ch,mY,bo.2⟩
     rintro x bC ⟨a,fs,b5,i5,b4,rfl,aO,m5,bV⟩;rw [b4] at U
     try simp only [bB] at U
     have cR:=cX.trans m5;have hY:=bz.mod (m2.trans (m3.trans (m4.trans m5))) (bT bX);have o:=aO.one;simp only [o.1,o.2.1,o.2.2,aY,vcs,bR,hY.g,eV,apo,jq,cC,↓aa,ad,simprocAttr];have jA:=hY.put (vcs a b5);refine (ue (C.box bV (ao1 _) _)).mono ?_;rintro u bA ⟨rfl,dv,fo⟩;have mT:=jA.mod dv (bT bX);simp only [mT.g,eV,vcs,bR,↓aa,ad,simprocAttr];exact ⟨_,_,_,_,U.symm,rfl,((aO.box (by have:=(m2.trans (m3.trans m4)).next;have:=bz.lt;omega) _).mod dv (by have:=bz.lt;have:=(m2.trans (m3.trans m4)).next;omega)).cO (by have:=(m1.trans (m2.trans (m3.trans m4))).next;omega),(cR.set (fun o=>absurd o (dh (ao1 _))) _).trans dv,fo⟩
theorem Zz (I:iI W ab ak n) (d:Nat) (ws:List aq):gD W ab ak 187 [] d ws ((aU ab (n+1)).ja d ws):=by
 intro h aA i C a8;generalize U:(aU ab (n+1)).ja d ws=res at a8 ⊢;replace U:Bl (aU ab n) d ws=res:=U;unfold Bl at U;refine XF.x rfl (cl ?_);unfold Nt;have bX:=C.at_.lt;obtain ⟨ae,ao,aP,bz⟩:=fU h b8;have m1:Mod (b3 ak) h ae:=aP.mod _;have cw:=m1;have cy:=C.ext aP;simp only [ao,↓aa,ad,simprocAttr];have g2:(aU ab n).hF d ws≠.error b7:=fun q=>by rw [q] at U;exact a8 U.symm
 refine cH (I.hF d ws ae aA i cy g2) ?_ ?_
 rotate_left
 . rintro x ag ⟨e,he,rfl,m,bo⟩;simp only [cF,aY,↓aa,ad,simprocAttr];exact ⟨e,by rw [he] at U;exact U.symm,rfl,(cw.trans m),bo⟩
 rintro x ag ⟨a,bt,b5,i2,bf,rfl,aO,m2,bx⟩;rw [bf] at U
 try simp only [bB] at U
 have M2:=cw.trans m2;have dx:=aO.one;obtain ⟨ar,aC,cT,fl⟩:=fq ag b8 (vcs a b5);have m3:Mod (b3 ak) ag ar:=cT.mod _;have cu:=M2.trans m3;have cq:=bx.ext cT;simp only [dx.1,dx.2.1,dx.2.2,aC,↓aa,ad,simprocAttr];refine aX (Kc cq (k:=0) (by omega)) ?_;rintro x aT ⟨rfl,m4,i4,cf⟩;rw [abm] at cf ⊢;have cX:=cu.trans m4;cases bJ:nQ bt with
 | none=>
   simp only [bJ,Option.isSome,Option.getD,apd,ao2,apa,bB] at U cf;have iY:=fl.mod m4 (bT (by have:=M2.next;omega));have u1:=aO.mod (m3.trans m4) (by have:=cw.next;omega);have kZ:=bz.mod (m2.trans (m3.trans m4)) (bT bX);have o:=u1.one;simp only [o.1,o.2.1,o.2.2,aY,vcs,bR,Option.isSome,Option.getD,iY.g,kZ.g,↓aa,ad,simprocAttr];exact ⟨_,_,_,_,U.symm,rfl,(u1.box (by have:=bX;have:=bz.lt;omega) _).cO (by have:=m1.next;omega),cX.set (fun o=>absurd o (dh (ao1 _))) _,C.box cf (ao1 _) _⟩
 | some uC=>
   simp only [bJ,Option.isSome,Option.getD,apd,ao2,apa,bB] at U cf;have iY:=fl.mod m4 (bT (by have:=M2.next;omega));simp only [Option.isSome,Option.getD,iY.g,↓aa,ad,simprocAttr];have g5:(aU ab n).hF d bt.tail≠.error b7:=fun q=>by rw [q] at U;exact a8 U.symm
   refine cH (I.hF d bt.tail aT aA i4 cf g5) ?_ ?_
   rotate_left
   . rintro x bC ⟨e,he,rfl,m,bo⟩;simp only [cF,aY,iY.g,↓aa,ad,simprocAttr];exact ⟨rfl,e,by rw [he] at U;exact U.symm,rfl,(cX.trans m),bo⟩
   rintro x bC ⟨b,fs,eM,i5,b4,rfl,fO,m5,bV⟩;rw [b4] at U
   try simp only [bB] at U
   have cR:=cX.trans m5;have gz:=iY.mod m5 (bT (by have:=M2.next;omega));simp only [iY.g,gz.g,↓aa,ad,simprocAttr];have mW:=aO.mod (m3.trans (m4.trans m5)) (by have:=cw.next;omega);refine aX (Ka uC (R3 bJ) mW (fO.cO (by have:=(m2.trans (m3.trans m4)).next;omega))) ?_;rintro x bA ⟨ev,rfl,k3,eS⟩;have ef:=k3.eW (eZ:=Fr ae.next) fun b q=>q.elim (fun q=>q.1) (fun q=>by have:=(m2.trans (m3.trans (m4.trans m5))).next;unfold Fr;omega);have m6:Mod (b3 ak) bC bA:=eS.mod _;have de:=cR.trans m6;have cv:=bV.ext eS;have jl:=bz.mod (m2.trans (m3.trans (m4.trans (m5.trans m6)))) (bT bX);have kl:=gz.mod m6 (bT (by have:=M2.next;omega));have o:=ef.one;simp only [o.1,o.2.1,o.2.2,aY,vcs,bR,jl.g,kl.g,iY.g,gz.g,↓aa,ad,simprocAttr];exact ⟨_,_,_,_,U.symm,rfl,(ef.box (by have:=bX;have:=bz.lt;omega) _).cO (by have:=m1.next;omega),de.set (fun o=>absurd o (dh (ao1 _))) _,C.box cv (ao1 _) _⟩
end
theorem ajn:(lO=0)=False:=apl (by decide)
theorem ajo:(lO=1)=False:=apl (by decide)
theorem ajp:(lO=2)=False:=apl (by decide)
theorem ajq:(lO=3)=False:=apl (by decide)
set_option linter.defProp false in
def kY:=And.intro ajn<|And.intro ajo<|And.intro ajp ajq
abbrev lv (B n:Nat):aO->Prop:=fun b=>B<=dP b/\b≠an n
def qS (W:List aq) (ak:Nat) (g:ah):Nat:=W.length - ((hc (g.get (an ak)) 1).getD .bad).toN
section
variable {W:List aq} {ab ak n d i B:Nat} {ws:List aq} {aA:V} {h af:ah} {p:aN} {v:V}
theorem lH (C:ed W ab ak h d ws aA i):qS W ak h=ws.length:=by unfold qS;rw [C.at_.g,zJ,C.eq,apr];rfl
theorem dq.xL (A:dq (lv B n) h p v) (m:Mod (b3 ak) h af) (ax:ak<B):dq (lv B n) af p v:=⟨A.c7.mod m fun b q _=>⟨fun z=>by have:=q.1;rw [show b=an ak from z,dk] at this;omega,q⟩,A.str⟩
theorem dq.BD (A:dq (Fr B) h p v) (e:Ext h af):dq (lv B h.next) af p v:=(A.cr.ext e).eW fun b q=>⟨q.1,fun z=>by rw [z] at q;exact dh (ao1 _) q.2⟩
theorem H0 {ez:V} {p':aN} {k:ah} (A:dq (fun b=>(lv B n b/\Old k b)\/k.next<=dP b) h p' ez) (ae:B<=k.next) (ag:n<k.next):dq (lv B n) h p' ez:=A.eW fun b q=>q.elim (fun q=>q.1) fun q=>⟨by omega,fun z=>by rw [z,dk] at q;omega⟩
theorem vg {α:Type} {E:Int × Nat->Prop} {r:bH (α × List aq)} {a:α} {bS:List aq} (g:eK E ws r) (e:r=.ok (a,bS)):bS.length<ws.length:=by rw [e] at g;exact g
theorem dq.HZ (A:dq (Fr B) h p v) {ia:Nat} (ae:ia<=B) (ag:n<B):dq (lv ia n) h p v:=A.eW fun b q=>⟨ao6 ae q,fun z=>by unfold Fr at q;rw [z,dk] at q;omega⟩
theorem dq.Df (A:dq (lv B n) h p v) {m ia:Nat} (hm:m<B) (cj:ia<=B) (k:c'):dq (Fr ia) (h.set (an m) k) p v:=(A.set (fun q=>by have:=q.1;rw [dk] at this;omega) k).eW fun b q=>ao6 cj q.1
end
end
section
open Go bg
set_option maxHeartbeats 40000000
set_option maxRecDepth 100000
noncomputable section
def MH:cA Tryz.f10:=⟨_,by conv=>lhs;reduce;simp only [cx,simprocAttr]⟩
theorem W2:cm 10 68 Tryz.f10 MH.1 [.t 2,.eB 3 2]:=⟨Tryz.func10,by kernel_rfl⟩
def NQ:cA Tryz.f27:=⟨_,by conv=>lhs;reduce;simp only [cx,simprocAttr]⟩
theorem X8:cm 27 9 Tryz.f27 NQ.1 [.t 2]:=⟨Tryz.func27,by kernel_rfl⟩
def NR:cA Tryz.f28:=⟨_,by conv=>lhs;reduce;simp only [cx,simprocAttr]⟩
theorem X9:cm 28 105 Tryz.f28 NR.1 [.eB 2 5]:=⟨Tryz.func28,by kernel_rfl⟩
def NT:cA Tryz.f30:=⟨_,by conv=>lhs;reduce;simp only [cx,simprocAttr]⟩
theorem X_:cm 30 17 Tryz.f30 NT.1 []:=⟨Tryz.func30,by kernel_rfl⟩
def Ob:cA Tryz.f66:=⟨_,by conv=>lhs;reduce;simp only [cx,simprocAttr]⟩
theorem YB:cm 66 28 Tryz.f66 Ob.1 [.t 2]:=⟨Tryz.func66,by kernel_rfl⟩
def Oc:cA Tryz.f67:=⟨_,by conv=>lhs;reduce;simp only [cx,simprocAttr]⟩
theorem YC:cm 67 26 Tryz.f67 Oc.1 [.t 4]:=⟨Tryz.func67,by kernel_rfl⟩
def Od:cA Tryz.f68:=⟨_,by conv=>lhs;reduce;simp only [cx,simprocAttr]⟩
theorem YD:cm 68 58 Tryz.f68 Od.1 [.t 2]:=⟨Tryz.func68,by kernel_rfl⟩
def Oe:cA Tryz.f69:=⟨_,by conv=>lhs;reduce;simp only [cx,simprocAttr]⟩
theorem YE:cm 69 30 Tryz.f69 Oe.1 [.eB 4 4]:=⟨Tryz.func69,by kernel_rfl⟩
def Og:cA Tryz.f70:=⟨_,by conv=>lhs;reduce;simp only [cx,simprocAttr]⟩
theorem YF:cm 70 39 Tryz.f70 Og.1 [.eB 4 5]:=⟨Tryz.func70,by kernel_rfl⟩
def Oh:cA Tryz.f71:=⟨_,by conv=>lhs;reduce;simp only [cx,simprocAttr]⟩
theorem YG:cm 71 37 Tryz.f71 Oh.1 [.t 2]:=⟨Tryz.func71,by kernel_rfl⟩
def Oi:cA Tryz.f72:=⟨_,by conv=>lhs;reduce;simp only [cx,simprocAttr]⟩
theorem YH:cm 72 14 Tryz.f72 Oi.1 [.eB 8 5]:=⟨Tryz.func72,by kernel_rfl⟩
def YI:cA Tryz.f73:=⟨_,by conv=>lhs;reduce;simp only [cx,simprocAttr]⟩
theorem Oj:cm 73 36 Tryz.f73 YI.1 [.eB 2 5]:=⟨Tryz.func73,by kernel_rfl⟩
def YJ:cA Tryz.f74:=⟨_,by conv=>lhs;reduce;simp only [cx,simprocAttr]⟩
theorem Ok:cm 74 36 Tryz.f74 YJ.1 [.eB 2 5]:=⟨Tryz.func74,by kernel_rfl⟩
def Ol:cA Tryz.f75:=⟨_,by conv=>lhs;reduce;simp only [cx,simprocAttr]⟩
theorem YK:cm 75 14 Tryz.f75 Ol.1 []:=⟨Tryz.func75,by kernel_rfl⟩
def M1:cA Tryz.f118:=⟨_,by conv=>lhs;reduce;simp only [cx,simprocAttr]⟩
theorem W_:cm 118 30 Tryz.f118 M1.1 [.t 4]:=⟨Tryz.func118,by kernel_rfl⟩
def c119:cA Tryz.f119:=⟨_,by conv=>lhs;reduce;simp only [cx,simprocAttr]⟩
theorem Xa:cm 119 9 Tryz.f119 c119.1 []:=⟨Tryz.func119,by kernel_rfl⟩
def Hb:cA Tryz.f120:=⟨_,by conv=>lhs;reduce;simp only [cx,simprocAttr]⟩
theorem M3:cm 120 31 Tryz.f120 Hb.1 [.eB 2 5]:=⟨Tryz.func120,by kernel_rfl⟩
def M4:cA Tryz.f121:=⟨_,by conv=>lhs;reduce;simp only [cx,simprocAttr]⟩
theorem Xc:cm 121 21 Tryz.f121 M4.1 [.eB 2 5]:=⟨Tryz.func121,by kernel_rfl⟩
def M5:cA Tryz.f122:=⟨_,by conv=>lhs;reduce;simp only [cx,simprocAttr]⟩
theorem Xd:cm 122 19 Tryz.f122 M5.1 [.t 2]:=⟨Tryz.func122,by kernel_rfl⟩
def M6:cA Tryz.f123:=⟨_,by conv=>lhs;reduce;simp only [cx,simprocAttr]⟩
theorem Xe:cm 123 28 Tryz.f123 M6.1 [.eB 2 5]:=⟨Tryz.func123,by kernel_rfl⟩
def M7:cA Tryz.f124:=⟨_,by conv=>lhs;reduce;simp only [cx,simprocAttr]⟩
theorem Xf:cm 124 9 Tryz.f124 M7.1 []:=⟨Tryz.func124,by kernel_rfl⟩
def M8:cA Tryz.f125:=⟨_,by conv=>lhs;reduce;simp only [cx,simprocAttr]⟩
theorem Xg:cm 125 82 Tryz.f125 M8.1 [.eB 2 5]:=⟨Tryz.func125,by kernel_rfl⟩
def Xt:cA Tryz.f153:=⟨_,by conv=>lhs;reduce;simp only [cx,simprocAttr]⟩
theorem Xu:cm 153 30 Tryz.f153 Xt.1 [.eB 2 5]:=⟨Tryz.func153,by kernel_rfl⟩
def Nk:cA Tryz.f154:=⟨_,by conv=>lhs;reduce;simp only [cx,simprocAttr]⟩
theorem Xv:cm 154 101 Tryz.f154 Nk.1 [.eB 2 5]:=⟨Tryz.func154,by kernel_rfl⟩
def Nl:cA Tryz.f155:=⟨_,by conv=>lhs;reduce;simp only [cx,simprocAttr]⟩
theorem Xw:cm 155 33 Tryz.f155 Nl.1 [.t 2]:=⟨Tryz.func155,by kernel_rfl⟩
def Nn:cA Tryz.f156:=⟨_,by conv=>lhs;reduce;simp only [cx,simprocAttr]⟩
theorem Xx:cm 156 55 Tryz.f156 Nn.1 [.eB 2 5]:=⟨Tryz.func156,by kernel_rfl⟩
def Hc:cA Tryz.f157:=⟨_,by conv=>lhs;reduce;simp only [cx,simprocAttr]⟩
theorem Xy:cm 157 72 Tryz.f157 Hc.1 [.eB 4 5]:=⟨Tryz.func157,by kernel_rfl⟩
def Np:cA Tryz.f158:=⟨_,by conv=>lhs;reduce;simp only [cx,simprocAttr]⟩
theorem Xz:cm 158 8 Tryz.f158 Np.1 [.eB 2 5]:=⟨Tryz.func158,by kernel_rfl⟩
def XA:cA Tryz.f159:=⟨_,by conv=>lhs;reduce;simp only [cx,simprocAttr]⟩
theorem XB:cm 159 30 Tryz.f159 XA.1 [.eB 2 5]:=⟨Tryz.func159,by kernel_rfl⟩
def Nu:cA Tryz.f188:=⟨_,by conv=>lhs;reduce;simp only [cx,simprocAttr]⟩
theorem XG:cm 188 24 Tryz.f188 Nu.1 [.eB 2 5]:=⟨Tryz.func188,by kernel_rfl⟩
def Nv:cA Tryz.f189:=⟨_,by conv=>lhs;reduce;simp only [cx,simprocAttr]⟩
theorem XH:cm 189 21 Tryz.f189 Nv.1 [.eB 4 5]:=⟨Tryz.func189,by kernel_rfl⟩
def Nw:cA Tryz.f190:=⟨_,by conv=>lhs;reduce;simp only [cx,simprocAttr]⟩
theorem XI:cm 190 51 Tryz.f190 Nw.1 [.eB 2 5]:=⟨Tryz.func190,by kernel_rfl⟩
def He:cA Tryz.f210:=⟨_,by conv=>lhs;reduce;simp only [cx,simprocAttr]⟩
theorem XO:cm 210 76 Tryz.f210 He.1 [.eB 2 5]:=⟨Tryz.func210,by kernel_rfl⟩
def NA:cA Tryz.f211:=⟨_,by conv=>lhs;reduce;simp only [cx,simprocAttr]⟩
theorem XP:cm 211 47 Tryz.f211 NA.1 [.eB 2 5]:=⟨Tryz.func211,by kernel_rfl⟩
def ND:cA Tryz.f225:=⟨_,by conv=>lhs;reduce;simp only [cx,simprocAttr]⟩
theorem XT:cm 225 51 Tryz.f225 ND.1 [.eB 2 5]:=⟨Tryz.func225,by kernel_rfl⟩
def NH:cA Tryz.f230:=⟨_,by conv=>lhs;reduce;simp only [cx,simprocAttr]⟩
theorem XX:cm 230 50 Tryz.f230 NH.1 [.eB 2 5]:=⟨Tryz.func230,by kernel_rfl⟩
def NK:cA Tryz.f233:=⟨_,by conv=>lhs;reduce;simp only [cx,simprocAttr]⟩
theorem X0:cm 233 62 Tryz.f233 NK.1 [.eB 2 5]:=⟨Tryz.func233,by kernel_rfl⟩
def NL:cA Tryz.f234:=⟨_,by conv=>lhs;reduce;simp only [cx,simprocAttr]⟩
theorem X1:cm 234 93 Tryz.f234 NL.1 [.eB 2 5]:=⟨Tryz.func234,by kernel_rfl⟩
def NM:cA Tryz.f235:=⟨_,by conv=>lhs;reduce;simp only [cx,simprocAttr]⟩
theorem X2:cm 235 33 Tryz.f235 NM.1 [.t 2]:=⟨Tryz.func235,by kernel_rfl⟩
end
end
section
open Go bg
structure gH (W:List aq) (ab ak:Nat) (h:ah) (aA:V) (i:Nat) (d aP bu:Int):Prop where
 at_:Has h ak [aA,.int .i64 i,.int .i64 ab,.int .i64 d,.int .i64 aP,.int .i64 bu]
 c7:hy h 4 aA W.length (gZ W)
 ap:¬aA.bn (an ak)
 le:i<=W.length
 nF:W.length<=1000000
 fj:∀w ∈ W,w.text.length<=100000
 num:∀w ∈ W,w.kind=1->-1073741824<=w.num/\w.num<=1073741823
section
variable {W:List aq} {ab ak:Nat} {h af:ah} {aA:V} {i:Nat} {d aP bu:Int}
theorem gH.ext (c:gH W ab ak h aA i d aP bu) (e:Ext h af):gH W ab ak af aA i d aP bu:=⟨c.at_.ext e,c.c7.mod (e.mod (fun _=>False)) (fun _ _ q=>q),c.ap,c.le,c.nF,c.fj,c.num⟩
theorem gH.put (c:gH W ab ak h aA i d aP bu) {fX:Nat} (dE u' va:Int) (aM:fX<=W.length):gH W ab ak (h.set (an ak) (.bc [aA,.int .i64 fX,.int .i64 ab,.int .i64 dE,.int .i64 u',.int .i64 va] 0 false)) aA fX dE u' va:=
 ⟨c.at_.put _,c.c7.mod ((Mod.refl (b3 ak) h).set (fun _=>rfl) _) (fun b ai q=>c.ap (by rw [<-show b=an ak from q];exact ai)),c.ap,aM,c.nF,c.fj,c.num⟩
theorem gH.box (c:gH W ab ak h aA i d aP bu) {H:ah} {fX:Nat} {dE u' va:Int} (eX:gH W ab ak H aA fX dE u' va) {n:Nat} (aF:h.next<=n) (k:c'):gH W ab ak (H.set (an n) k) aA fX dE u' va:=
 ⟨eX.at_.set (by have:=c.at_.lt;omega) k,eX.c7.mod ((Mod.refl (fun b=>b=an n) H).set (fun _=>rfl) k) (fun b ai q=>dh aF (by rw [<-show b=an n from q];exact c.c7.cr ai)),eX.ap,eX.le,eX.nF,eX.fj,eX.num⟩
theorem gH.own (c:gH W ab ak h aA i d aP bu) {H km:ah} {M:aO->Prop} {fX:Nat} {dE u' va:Int} (eX:gH W ab ak H aA fX dE u' va) (m:Mod M H km) (fE:∀b,M b->h.next<=dP b):gH W ab ak km aA fX dE u' va:=
 ⟨eX.at_.mod m fun z=>by have:=fE _ z;rw [dk] at this;have:=c.at_.lt;omega,eX.c7.mod m fun b q z=>by have:=fE _ z;have:=c.c7.cr q;unfold Old at this;omega,eX.ap,eX.le,eX.nF,eX.fj,eX.num⟩
theorem gH.len (c:gH W ab ak h aA i d aP bu):l9 aA=some (.int .i64 W.length):=c.c7.len
theorem gH.word (c:gH W ab ak h aA i d aP bu) {j:Nat} (cY:j<W.length):∃b o,mG 4 aA (.int .i64 j)=some (.ptr b o)/\hc (h.get b) o=some (.int .i64 W[j].kind)/\hc (h.get b) (o+1)=some (.int .i64 W[j].num)/\hc (h.get b) (o+2)=some (.int .i64 W[j].pos)/\hc (h.get b) (o+3)=some (.str W[j].text)/\
 rT 4 (h.get b) o=some (.agg W[j].enc):=by
 obtain ⟨b,off,ao,av⟩:=c.c7.mF (k:=.i64) cY;have aH:(gZ W).length=W.length * 4:=Lu W;have cell:∀k,k<4->hc (h.get b) (off+j * 4+k)=(W[j].enc)[k]? :=fun k aD=>av.cell (F' cY) (by omega) aD;refine ⟨b,off+j * 4,ao,cell 0 (by omega),cell 1 (by omega),cell 2 (by omega),cell 3 (by omega),?_⟩;have:=av.lb (i:=j * 4) (n:=4) (by omega);rw [this,F' cY]
theorem wN (aM:i<W.length):W.drop i=W[i]::W.drop (i+1):=apB aM
theorem yT (aM:¬i<W.length):W.drop i=[]:=apI (by omega)
theorem G6 (C:gH W ab ak h aA i d aP bu):e' Tryz.prog 27 [.ptr (an ak) 0] h (.bool (decide (aP≠0))) h:=by refine jj (X8.z rfl (cl ?_));unfold NQ;simp only [C.at_.g,↓aa,ad,simprocAttr];simp
theorem Ew (C:gH W ab ak h aA i d aP bu):e' Tryz.prog 66 [.ptr (an ak) 0] h (.int .i64 (bG ab (W.drop i))) h:=by
 refine jj (YB.z rfl (cl ?_));unfold Ob;by_cases aM:i<W.length
 . obtain ⟨b,o,ao,av,aC,bs,ca,cD⟩:=C.word aM;have f0:((i:Int) < (W.length:Int))=True:=apk (by omega);rw [wN aM];simp only [C.at_.g,C.len,f0,ao,bs,↓aa,ad,simprocAttr];rfl
 . have f0:((i:Int) < (W.length:Int))=False:=apl (by omega);rw [yT aM];simp only [C.at_.g,C.len,f0,↓aa,ad,simprocAttr];rfl
theorem Cn (C:gH W ab ak h aA i d aP bu) (k:Int):e' Tryz.prog 118 [.ptr (an ak) 0,.int .i64 k] h (.bool (cJ k (W.drop i))) h:=by
 refine jj (W_.z rfl (cl ?_));unfold M1;by_cases aM:i<W.length
 . obtain ⟨b,o,ao,av,aC,bs,ca,cD⟩:=C.word aM;have f0:((i:Int) < (W.length:Int))=True:=apk (by omega);rw [wN aM];simp only [C.at_.g,C.len,f0,ao,av,ap_,↓aa,ad,simprocAttr];rfl
 . have f0:((i:Int) < (W.length:Int))=False:=apl (by omega);rw [yT aM];simp only [C.at_.g,C.len,f0,↓aa,ad,simprocAttr];rfl
theorem Jv (C:gH W ab ak h aA i d aP bu) (s:List UInt8):e' Tryz.prog 67 [.ptr (an ak) 0,.str s] h (.bool (bb s (W.drop i))) h:=by
 refine jj (YC.z rfl (cl ?_));unfold Oc;simp only [↓aa,ad,simprocAttr];refine bQ (Cn C 7) ?_;by_cases aM:i<W.length
 . obtain ⟨b,o,ao,av,aC,bs,ca,cD⟩:=C.word aM;rw [wN aM];by_cases jR:W[i].kind=7
   . have dI:cJ 7 (W[i]::W.drop (i+1))=true:=by simp [cJ,jR]
     have es:bb s (W[i]::W.drop (i+1))=decide (W[i].text=s):=by simp [bb,jR]
     simp only [dI,↓aa,ad,simprocAttr];simp only [C.at_.g,C.len,ao,ca,es,↓aa,ad,simprocAttr]
   . have dI:cJ 7 (W[i]::W.drop (i+1))=false:=by simp [cJ,jR]
     have bA:=Cn C 6;rw [wN aM] at bA;simp only [dI,↓aa,ad,simprocAttr];refine bQ bA ?_;by_cases hU:W[i].kind=6
     . have eS:cJ 6 (W[i]::W.drop (i+1))=true:=by simp [cJ,hU]
       have es:bb s (W[i]::W.drop (i+1))=decide (W[i].text=s):=by simp [bb,hU]
       simp only [eS,↓aa,ad,simprocAttr];simp only [C.at_.g,C.len,ao,ca,es,↓aa,ad,simprocAttr]
     . have eS:cJ 6 (W[i]::W.drop (i+1))=false:=by simp [cJ,hU]
       have es:bb s (W[i]::W.drop (i+1))=false:=by simp [bb,hU,jR]
       simp only [eS,↓aa,ad,simprocAttr];simp only [es]
 . have bA:=Cn C 6;rw [yT aM] at bA ⊢;have jR:cJ 7 []=false:=rfl;have hU:cJ 6 []=false:=rfl;simp only [jR,↓aa,ad,simprocAttr];refine bQ bA ?_;simp only [hU,↓aa,ad,simprocAttr];rfl
theorem Bz (C:gH W ab ak h aA i d aP bu) (k:Int):dW Tryz.prog 75 [.ptr (an ak) 0,.int .i64 k] h fun x af=>Mod (b3 ak) h af/\(aP≠0->gH W ab ak af aA i d aP bu)/\(aP=0->gH W ab ak af aA i d k (bG ab (W.drop i):Nat)):=by
 refine YK.z rfl (cl ?_);unfold Ol;simp only [↓aa,ad,simprocAttr];refine bQ (G6 C) ?_;by_cases he:aP=0
 . simp only [apk he,not_true,aqG,ne_eq,↓aa,ad,simprocAttr];refine bQ (Ew C) ?_;simp only [C.at_.g,↓aa,ad,simprocAttr];exact ⟨(Mod.refl (b3 ak) h).set (fun _=>rfl) _,C.put d k _ C.le⟩
 . simp only [apl he,not_false_eq_true,aqn,ne_eq,↓aa,ad,simprocAttr];exact ⟨Mod.refl _ _,C⟩
theorem Ci (C:gH W ab ak h aA i d aP bu) (aM:i<W.length):IntKind.i64.wrap ((i:Int)+1)=((i+1:Nat):Int):=uO aM (by have:=C.nF;omega)
theorem FW {s:List UInt8} (al:bb s (W.drop i)=true):i<W.length:=by
 by_cases aM:i<W.length
 . exact aM
 . rw [yT aM] at al;cases al
theorem agt {k:Int} (al:cJ k (W.drop i)=true):i<W.length:=by
 by_cases aM:i<W.length
 . exact aM
 . rw [yT aM] at al;cases al
theorem HH:(W.drop i).tail=W.drop (i+1):=by rw [List.tail_drop]
theorem Pc (C:gH W ab ak h aA i d aP bu) (s:List UInt8):dW Tryz.prog 30 [.ptr (an ak) 0,.str s] h fun x af=>Mod (b3 ak) h af/\(bb s (W.drop i)=true->i<W.length/\gH W ab ak af aA (i+1) d aP bu)/\
 (bb s (W.drop i)=false->(aP≠0->gH W ab ak af aA i d aP bu)/\(aP=0->gH W ab ak af aA i d 270 (bG ab (W.drop i):Nat))):=by
 refine X_.z rfl (cl ?_);unfold NT;simp only [↓aa,ad,simprocAttr];refine bQ (Jv C s) ?_;cases al:bb s (W.drop i) with
 | true=>
   have aM:=FW al;simp only [C.at_.g,Ci C aM,↓aa,ad,simprocAttr];exact ⟨(Mod.refl (b3 ak) h).set (fun _=>rfl) _,aM,C.put d aP bu aM⟩
 | false=>
   simp only [↓aa,ad,simprocAttr];refine aX (Bz C 270) ?_;rintro x ae ⟨m,a,b⟩;simp only [↓aa,ad,simprocAttr];exact ⟨m,a,b⟩
def iJ (W:List aq) (k:Int) (w:aq):Prop:=(w ∈ W/\w.kind=k)\/w=⟨0,0,0,[]⟩
theorem Tt (C:gH W ab ak h aA i d aP bu) (k:Int):dW Tryz.prog 69 [.ptr (an ak) 0,.int .i64 k] h fun x af=>Mod (b3 ak) h af/\∃w,x=.agg w.enc/\iJ W k w/\(cJ k (W.drop i)=true->∃aM:i<W.length,w=W[i]/\gH W ab ak af aA (i+1) d aP bu)/\
 (cJ k (W.drop i)=false->(aP≠0->gH W ab ak af aA i d aP bu)/\(aP=0->gH W ab ak af aA i d 270 (bG ab (W.drop i):Nat))):=by
 refine YE.z rfl (cl ?_);unfold Oe;obtain ⟨aL,mM,j3,yp⟩:=fU h [.int .i64 0,.int .i64 0,.int .i64 0,.str []];have nY:=C.ext j3;have dY:ak≠h.next:=by have:=C.at_.lt;omega
 simp only [mM,↓aa,ad,simprocAttr];refine bQ (Cn nY k) ?_;cases aD:cJ k (W.drop i) with
 | false=>
   simp only [↓aa,ad,simprocAttr];refine aX (Bz nY 270) ?_;rintro x ae ⟨m,a,b⟩;have bz:=yp.mod m (bT C.at_.lt);have ft:=bz.put [.int .i64 0,.int .i64 0,.int .i64 0,.str []];simp only [bz.g,ft.g,aY,↓aa,ad,simprocAttr];refine ⟨((j3.mod _).trans m).set (fun o=>absurd o (dh (ao1 _))) _,⟨0,0,0,[]⟩,rfl,.inr rfl,fun q=>C.box (a q) (ao1 _) _,fun q=>C.box (b q) (ao1 _) _⟩
 | true=>
   have aM:=agt aD;have ai:=C.nF;have aQ:IntKind.i64.wrap (((i+1:Nat):Int)-1)=(i:Nat):=by rw [wrap_i64 (by omega) (by omega)];omega
   have cy:=nY.put d aP bu aM;have bz:=yp.set dY.symm (.bc [aA,.int .i64 (i+1:Nat),.int .i64 ab,.int .i64 d,.int .i64 aP,.int .i64 bu] 0 false);obtain ⟨b,o,ao,av,aC,bs,ca,cD⟩:=cy.word aM;simp only [nY.at_.g,Ci C aM,↓aa,ad,simprocAttr];generalize pN:aL.set (an ak) (.bc [aA,.int .i64 (i+1:Nat),.int .i64 ab,.int .i64 d,.int .i64 aP,.int .i64 bu] 0 false)=H at cy bz av aC bs ca cD ⊢;have ft:=bz.put [.int .i64 W[i].kind,.int .i64 W[i].num,.int .i64 W[i].pos,.str W[i].text];simp only [cy.at_.g,bz.g,aQ,ao,cD,aq.enc,ft.g,aY,↓aa,ad,simprocAttr];rw [wN aM] at aD;simp only [cJ,apf] at aD;refine ⟨?_,W[i],rfl,.inl ⟨ap8 aM,aD⟩,aM,rfl,C.box cy (ao1 _) _⟩;rw [<-pN];exact (((j3.mod (b3 ak)).set (b:=an ak) (fun _=>rfl) _)).set (fun o=>absurd o (dh (ao1 _))) _
end
def Bw {α:Type}:bH α->Bool
 | .ok _=>false
 | .error _=>true
def dw (W:List aq) (ab ak:Nat) (h:ah) (aA:V) (r:bH (List aq)) (d:Nat):Prop:=
 match r with
 | .ok ws=>∃i:Nat,gH W ab ak h aA i d 0 0/\ws=W.drop i/\d<=1000
 | .error e=>0<e.1/\∃(i:Nat) (dE:Int),gH W ab ak h aA i dE e.1 e.2
section
variable {α β γ:Type}
theorem fC {r:bH α} {f:α->bH β} {g:β->bH γ} {res:bH γ} (U:(r >>= fun x=>f x >>= g)=res) (a8:res≠.error b7):∀x,r=.ok x->f x≠.error b7:=by rintro x rfl q;apply a8;rw [<-U];show (f x >>= g)=_;rw [q];rfl
theorem e_ {r bq:bH (List aq)} {f:List aq->bH (α × List aq)} {g:α × List aq->bH γ} {res:bH γ} {p:α} (U:(r >>= fun x=>f x >>= g)=res) (E:(r >>= f)=bq.map (fun ws=>(p,ws))):(bq >>= fun ws=>g (p,ws))=res:=by
 rw [<-U];have:(r >>= fun x=>f x >>= g)=((r >>= f) >>= g):=by cases r<;>rfl
 rw [this,E];cases bq<;>rfl
theorem i_ {r bq:bH α} {f:α->bH α} {g:α->bH γ} {res:bH γ} (U:(r >>= fun x=>f x >>= g)=res) (E:bq=(r >>= f)):(bq >>= g)=res:=by rw [<-U,E];cases r<;>rfl
theorem jo {r:bH (List aq)} {P:α} {res:bH (α × List aq)} (U:(r >>= fun ws=>.ok (P,ws))=res):res=r.map (fun ws=>(P,ws)):=by rw [<-U];cases r<;>rfl
theorem k4 {e:Int × Nat} {f:α->bH β} {res:bH β} (U:(Except.error e >>= f)=res):res=.error e:=U.symm
theorem hp {x:α} {f:α->bH β} {res:bH β} (U:(Except.ok x >>= f)=res):f x=res:=U
end
section
variable {W:List aq} {ab ak:Nat} {h af:ah} {aA:V} {r:bH (List aq)} {ws:List aq} {d:Nat}
theorem dw.ne {α:Type} {f1:List aq->bH α} (C:dw W ab ak h aA r d) (U:∀ws,r=.ok ws->f1 ws≠.error b7):(r >>= f1)≠.error b7:=by
 cases r with
 | ok ws=>exact U ws rfl
 | error e=>
   intro q;obtain ⟨mM,_⟩:=C;have:e=b7:=by cases q;rfl
   rw [this] at mM;exact absurd mM (by decide)
theorem dw.g (C:dw W ab ak h aA r d):∃(i:Nat) (dE aP bu:Int),gH W ab ak h aA i dE aP bu:=by
 cases r with
 | ok ws=>obtain ⟨i,G,_⟩:=C;exact ⟨i,_,_,_,G⟩
 | error e=>obtain ⟨_,i,dE,G⟩:=C;exact ⟨i,_,_,_,G⟩
theorem dw.lt (C:dw W ab ak h aA r d):ak<h.next:=by obtain ⟨i,_,_,_,G⟩:=C.g;exact G.at_.lt
theorem dw.ext (C:dw W ab ak h aA r d) (e:Ext h af):dw W ab ak af aA r d:=by
 cases r with
 | ok ws=>obtain ⟨i,G,q⟩:=C;exact ⟨i,G.ext e,q⟩
 | error _=>obtain ⟨q,i,dE,G⟩:=C;exact ⟨q,i,dE,G.ext e⟩
theorem dw.box (C:dw W ab ak h aA r d) {H:ah} {bq:bH (List aq)} {dE:Nat} (fo:dw W ab ak H aA bq dE) {n:Nat} (aF:h.next<=n) (k:c'):dw W ab ak (H.set (an n) k) aA bq dE:=by
 obtain ⟨i,_,_,_,G⟩:=C.g;cases bq with
 | ok ws=>obtain ⟨i,nz,q⟩:=fo;exact ⟨i,G.box nz aF k,q⟩
 | error e=>obtain ⟨q,i,dE,nz⟩:=fo;exact ⟨q,i,dE,G.box nz aF k⟩
theorem dw.own (C:dw W ab ak h aA r d) {H km:ah} {bq:bH (List aq)} {dE:Nat} {M:aO->Prop} (fo:dw W ab ak H aA bq dE) (m:Mod M H km) (fE:∀b,M b->h.next<=dP b):dw W ab ak km aA bq dE:=by
 obtain ⟨i,_,_,_,G⟩:=C.g;cases bq with
 | ok ws=>obtain ⟨i,nz,q⟩:=fo;exact ⟨i,G.own nz m fE,q⟩
 | error e=>obtain ⟨q,i,dE,nz⟩:=fo;exact ⟨q,i,dE,G.own nz m fE⟩
theorem jO (C:dw W ab ak h aA r d):e' Tryz.prog 27 [.ptr (an ak) 0] h (.bool (Bw r)) h:=by
 cases r with
 | ok ws=>obtain ⟨i,G,_⟩:=C;exact G6 G
 | error e=>obtain ⟨q,i,dE,G⟩:=C;have:=G6 G;rw [decide_eq_true (show e.1≠0 by omega)] at this;exact this
theorem acM (C:dw W ab ak h aA r d):∃a:Nat,e' Tryz.prog 66 [.ptr (an ak) 0] h (.int .i64 a) h/\∀ws,r=.ok ws->a=bG ab ws:=by
 cases r with
 | ok ws=>obtain ⟨i,G,q,_⟩:=C;exact ⟨_,Ew G,fun bS e=>by cases e;rw [q]⟩
 | error e=>obtain ⟨q,i,dE,G⟩:=C;exact ⟨_,Ew G,fun bS e=>by cases e⟩
theorem sA (C:dw W ab ak h aA (.ok ws) d):e' Tryz.prog 66 [.ptr (an ak) 0] h (.int .i64 (bG ab ws)) h:=by obtain ⟨i,G,q,_⟩:=C;rw [q];exact Ew G
theorem lF (C:dw W ab ak h aA (.ok ws) d) (k:Int):e' Tryz.prog 118 [.ptr (an ak) 0,.int .i64 k] h (.bool (cJ k ws)) h:=by obtain ⟨i,G,q,_⟩:=C;rw [q];exact Cn G k
theorem fi (C:dw W ab ak h aA (.ok ws) d) (s:List UInt8):e' Tryz.prog 67 [.ptr (an ak) 0,.str s] h (.bool (bb s ws)) h:=by obtain ⟨i,G,q,_⟩:=C;rw [q];exact Jv G s
theorem J1 {a:Nat}:0 < ((270:Int),a).1:=by simp
theorem RU {a:Nat}:0 < ((271:Int),a).1:=by simp
theorem iB (C:dw W ab ak h aA r d) (s:List UInt8):dW Tryz.prog 30 [.ptr (an ak) 0,.str s] h fun x af=>Mod (b3 ak) h af/\∃bq,bq=(r >>= ec ab s)/\dw W ab ak af aA bq d:=by
 cases r with
 | ok ws=>
   obtain ⟨i,G,q,a_⟩:=C;refine (Pc G s).mono ?_;rintro x af ⟨m,a,b⟩;refine ⟨m,ec ab s ws,rfl,?_⟩;unfold ec;rw [q];cases al:bb s (W.drop i) with
   | true=>obtain ⟨aM,nz⟩:=a al;exact ⟨i+1,nz,HH,a_⟩
   | false=>exact ⟨J1,i,d,(b al).2 rfl⟩
 | error e=>
   obtain ⟨q,i,dE,G⟩:=C;refine (Pc G s).mono ?_;rintro x af ⟨m,a,b⟩;refine ⟨m,.error e,rfl,q,?_⟩;cases al:bb s (W.drop i) with
   | true=>exact ⟨_,_,(a al).2⟩
   | false=>exact ⟨_,_,(b al).1 (by omega)⟩
theorem yd (C:dw W ab ak h aA r d) (k:Int):dW Tryz.prog 69 [.ptr (an ak) 0,.int .i64 k] h fun x af=>Mod (b3 ak) h af/\∃w bq,(r >>= fg ab k)=bq.map (fun ws=>(w,ws))/\x=.agg w.enc/\iJ W k w/\dw W ab ak af aA bq d:=by
 cases r with
 | ok ws=>
   obtain ⟨i,G,q,a_⟩:=C;refine (Tt G k).mono ?_;rintro x af ⟨m,w,rfl,hw,a,b⟩;cases al:cJ k (W.drop i) with
   | true=>
     obtain ⟨aM,rfl,nz⟩:=a al;refine ⟨m,_,.ok (W.drop (i+1)),?_,rfl,hw,i+1,nz,rfl,a_⟩;show fg ab k ws=_;rw [q,wN aM] at *;simp only [cJ,apf] at al;simp only [fg,ape al];rfl
   | false=>
     refine ⟨m,w,.error (270,bG ab (W.drop i)),?_,rfl,hw,J1,i,d,(b al).2 rfl⟩;show fg ab k ws=_;rw [q];cases au:W.drop i with
     | nil=>rfl
     | cons v t=>rw [au] at al;simp only [cJ,apV] at al;simp only [fg,ao_ al];rfl
 | error e=>
   obtain ⟨q,i,dE,G⟩:=C;refine (Tt G k).mono ?_;rintro x af ⟨m,w,rfl,hw,a,b⟩;refine ⟨m,w,.error e,rfl,rfl,hw,q,?_⟩;cases al:cJ k (W.drop i) with
   | true=>obtain ⟨_,_,nz⟩:=a al;exact ⟨_,_,nz⟩
   | false=>exact ⟨_,_,(b al).1 (by omega)⟩
theorem iJ.fj (C:dw W ab ak h aA r d) {k:Int} {w:aq} (hw:iJ W k w):w.text.length<=top:=by
 obtain ⟨i,_,_,_,G⟩:=C.g;rcases hw with hw | rfl
 . exact le_top (G.fj w hw.1)
 . exact api _
theorem iJ.ahW (C:dw W ab ak h aA r d) {w:aq} (hw:iJ W 1 w):-1073741824<=w.num/\w.num<=1073741823:=by
 obtain ⟨i,_,_,_,G⟩:=C.g;rcases hw with hw | rfl
 . exact G.num w hw.1 hw.2
 . exact ⟨by decide,by decide⟩
theorem Pr (C:dw W ab ak h aA r d) {l:List aN} {da:V} (aH:l9 da=some (.int .i64 l.length)):dW Tryz.prog 119 [.ptr (an ak) 0,da] h fun x af=>Mod (b3 ak) h af/\∃bq,bq=(r >>= fun ws=>js ab l ws >>= fun _=>.ok ws)/\dw W ab ak af aA bq d:=by
 refine Xa.z rfl (cl ?_);unfold c119;by_cases vi:l.length=64
 . have f0:((l.length:Int)=64)=True:=apk (by omega);simp only [aH,f0,↓aa,ad,simprocAttr];cases r with
   | ok ws=>
     obtain ⟨i,G,q,a_⟩:=C;refine aX (Bz G 270) ?_;rintro x ae ⟨m,a,b⟩;simp only [↓aa,ad,simprocAttr];refine ⟨m,.error (270,bG ab (W.drop i)),?_,J1,i,d,b rfl⟩;show _=(js ab l ws >>= _);unfold js;rw [ape vi,q];rfl
   | error e=>
     obtain ⟨q,i,dE,G⟩:=C;refine aX (Bz G 270) ?_;rintro x ae ⟨m,a,b⟩;simp only [↓aa,ad,simprocAttr];exact ⟨m,.error e,rfl,q,i,dE,a (by omega)⟩
 . have f0:((l.length:Int)=64)=False:=apl (by omega);simp only [aH,f0,↓aa,ad,simprocAttr];refine ⟨Mod.refl _ _,r,?_,C⟩;cases r with
   | ok ws=>show _=(js ab l ws >>= _);unfold js;rw [ao_ vi];rfl
   | error e=>rfl
def Uv (W:List aq) (ab ak:Nat) (h:ah) (aA:V) (r:bH (List aq)) (d:Nat) (x:V) (af:ah):Prop:=Mod (b3 ak) h af/\((x=.bool true/\(∃ws,r=.ok ws/\d<1000/\dw W ab ak af aA (.ok ws) (d+1)))\/
 (x=.bool false/\∃e,dw W ab ak af aA (.error e) d/\∀f:List aq->bH (aN × List aq),(r >>= fun ws=>jb ab d ws (f ws))=.error e))
theorem D0 (C:dw W ab ak h aA r d):dW Tryz.prog 122 [.ptr (an ak) 0] h (Uv W ab ak h aA r d):=by
 refine Xd.z rfl (cl ?_);unfold M5;simp only [↓aa,ad,simprocAttr];refine bQ (jO C) ?_;cases r with
 | error e=>
   have ai:Bw (Except.error e:bH (List aq))=true:=rfl;simp only [ai,↓aa,ad,simprocAttr];exact ⟨Mod.refl _ _,.inr ⟨rfl,e,C,fun _=>rfl⟩⟩
 | ok ws=>
   have ai:Bw (Except.ok ws:bH (List aq))=false:=rfl;obtain ⟨i,G,q,a_⟩:=C;by_cases sz:d<1000
   . have f0:(1000<=(d:Int))=False:=apl (by omega);have wd:IntKind.i64.wrap ((d:Int)+1)=((d+1:Nat):Int):=by rw [wrap_i64 (by omega) (by omega)];rfl
     simp only [ai,G.at_.g,f0,wd,↓aa,ad,simprocAttr];exact ⟨(Mod.refl (b3 ak) h).set (fun _=>rfl) _,.inl ⟨rfl,ws,rfl,sz,i,G.put (d+1:Nat) 0 0 G.le,q,sz⟩⟩
   . have f0:(1000<=(d:Int))=True:=apk (by omega);simp only [ai,G.at_.g,f0,↓aa,ad,simprocAttr];refine aX (Bz G 271) ?_;rintro x ae ⟨m,a,b⟩;simp only [↓aa,ad,simprocAttr];refine ⟨m,.inr ⟨rfl,(271,bG ab (W.drop i)),⟨RU,i,d,b rfl⟩,fun f=>?_⟩⟩;show jb ab d ws (f ws)=_;unfold jb;rw [ape (by omega),q]
theorem vB (C:dw W ab ak h aA r (d+1)):dW Tryz.prog 124 [.ptr (an ak) 0] h fun x af=>Mod (b3 ak) h af/\dw W ab ak af aA r d:=by
 refine Xf.z rfl (cl ?_);unfold M7;cases r with
 | ok ws=>
   obtain ⟨i,G,q,a_⟩:=C;have wd:IntKind.i64.wrap (((d+1:Nat):Int)-1)=(d:Int):=by rw [wrap_i64 (by omega) (by omega)];omega
   simp only [G.at_.g,wd,↓aa,ad,simprocAttr];exact ⟨(Mod.refl (b3 ak) h).set (fun _=>rfl) _,i,G.put d 0 0 G.le,q,by omega⟩
 | error e=>
   obtain ⟨q,i,dE,G⟩:=C;simp only [G.at_.g,↓aa,ad,simprocAttr];exact ⟨(Mod.refl (b3 ak) h).set (fun _=>rfl) _,q,i,_,G.put _ e.1 e.2 G.le⟩
theorem dw.iK (C:dw W ab ak h aA (.ok ws) d) (hw:ws≠[]):∃(i:Nat) (ae:ah),Has h ak [aA,.int .i64 i,.int .i64 ab,.int .i64 d,.int .i64 0,.int .i64 0]/\IntKind.i64.wrap ((i:Int)+1)=((i+1:Nat):Int)/\
 h.set (an ak) (.bc [aA,.int .i64 (i+1:Nat),.int .i64 ab,.int .i64 d,.int .i64 0,.int .i64 0] 0 false)=ae/\Mod (b3 ak) h ae/\dw W ab ak ae aA (.ok ws.tail) d:=by
 obtain ⟨i,G,q,a_⟩:=C;have aM:i<W.length:=by
  by_cases aM:i<W.length
  . exact aM
  . rw [yT aM] at q;exact absurd q hw
 exact ⟨i,_,G.at_,Ci G aM,rfl,(Mod.refl (b3 ak) h).set (fun _=>rfl) _,i+1,G.put d 0 0 aM,by rw [q,HH],a_⟩
theorem dw.read (C:dw W ab ak h aA (.ok ws) d) {s:List UInt8} (al:bb s ws=true):∃(i:Nat) (b:aO) (o:Nat) (ae:ah),(Has h ak [aA,.int .i64 i,.int .i64 ab,.int .i64 d,.int .i64 0,.int .i64 0]/\mG 4 aA (.int .i64 i)=some (.ptr b o)/\hc (h.get b) (o+3)=some (.str s))/\IntKind.i64.wrap ((i:Int)+1)=((i+1:Nat):Int)/\
 h.set (an ak) (.bc [aA,.int .i64 (i+1:Nat),.int .i64 ab,.int .i64 d,.int .i64 0,.int .i64 0] 0 false)=ae/\Mod (b3 ak) h ae/\dw W ab ak ae aA (.ok ws.tail) d:=by
 obtain ⟨i,G,q,a_⟩:=C;rw [q] at al;have aM:=FW al;obtain ⟨b,o,ao,av,aC,bs,ca,cD⟩:=G.word aM;rw [wN aM] at al;simp only [bb,ao7,apf] at al;rw [al.2] at ca;exact ⟨i,b,o,_,⟨G.at_,ao,ca⟩,Ci G aM,rfl,(Mod.refl (b3 ak) h).set (fun _=>rfl) _,i+1,G.put d 0 0 aM,by rw [q,HH],a_⟩
theorem gS {s:List UInt8} (al:bb s ws=true):ws≠[]:=by rintro rfl;cases al
theorem agu {k:Int} (al:cJ k ws=true):ws≠[]:=by rintro rfl;cases al
end
theorem gh {F:aO->Prop} {h:ah} (k:Int) (a:Int) (s:List UInt8) {l:List aN} {da:V} (L:fw F h 5 (l.map aN.enc) da):dW Tryz.prog 72 [.int .i64 k,.int .i64 a,.str s,da] h fun x af=>x=.agg (vcs (.mk k 0 a s l) da)/\Ext h af:=by refine YH.z rfl (cl ?_);unfold Oi;have ol:=L.one;obtain ⟨ae,ao,aP,bz⟩:=fU h b8;have ft:=bz.put [.int .i64 k,.int .i64 0,.int .i64 a,.str s,da];simp only [ao,ol.1,ol.2.1,ol.2.2,bz.g,ft.g,aY,vcs,bR,↓aa,ad,simprocAttr];exact aP.set (ao1 _) _
abbrev n0 (aL:ah) (cb:List (Nat × List V)):aO->Prop:=fun b=>aL.next<=dP b/\∀x ∈ cb,b≠an x.1
structure cE (W:List aq) (ab ak:Nat) (aL h:ah) (aA:V) (r:bH (List aq)) (d:Nat) (cb:List (Nat × List V)) (bP:List (aN × V)):Prop where
 Z:∃r d,dw W ab ak aL aA r d
 C:dw W ab ak h aA r d
 M:Mod (b3 ak) aL h
 B:∀x ∈ cb,aL.next<=x.1/\Has h x.1 x.2
 D:(cb.map Prod.fst).Nodup
 P:∀x ∈ bP,dq (n0 aL cb) h x.1 x.2
section
variable {W:List aq} {ab ak:Nat} {aL h af:ah} {aA:V} {r bq:bH (List aq)} {d dE:Nat} {cb:List (Nat × List V)} {bP:List (aN × V)} {x y:Nat × List V} {n m k:Nat} {l eD:List V} {p q t:aN} {v w u:V}
theorem cE.start (C:dw W ab ak h aA r d):cE W ab ak h h aA r d [] []:=⟨⟨_,_,C⟩,C,Mod.refl _ _,(fun x au=>by cases au),List.nodup_nil,(fun x au=>by cases au)⟩
theorem cE.OI (F:cE W ab ak aL h aA r d cb bP):ak<aL.next:=by obtain ⟨_,_,C⟩:=F.Z;exact C.lt
theorem cE.call (F:cE W ab ak aL h aA r d cb bP) (m:Mod (b3 ak) h af) (fo:dw W ab ak af aA bq dE):cE W ab ak aL af aA bq dE cb bP:=
 ⟨F.Z,fo,F.M.trans m,fun x au=>⟨(F.B x au).1,(F.B x au).2.mod m (bT (aqg F.OI (F.B x au).1))⟩,F.D,fun x au=>⟨(F.P x au).c7.mod m fun b q _=>⟨fun z=>by have:=q.1;rw [show b=an ak from z,dk] at this;have:=F.OI;omega,q⟩,(F.P x au).str⟩⟩
theorem cE.ext (F:cE W ab ak aL h aA r d cb bP) (e:Ext h af):cE W ab ak aL af aA r d cb bP:=F.call (e.mod _) (F.C.ext e)
theorem cE.fresh (F:cE W ab ak aL h aA r d cb bP) {b:aO} (ai:h.next<=dP b):n0 aL cb b:=⟨ao6 F.M.next ai,fun x au z=>by have:=(F.B x au).2.lt;rw [z,dk] at ai;omega⟩
theorem cE.eO (F:cE W ab ak aL h aA r d cb bP) (m:Mod (b3 ak) h af) (fo:dw W ab ak af aA bq dE) (A:dq (Fr h.next) af p v):cE W ab ak aL af aA bq dE cb ((p,v)::bP):=by
 have G:=F.call m fo;refine ⟨G.Z,G.C,G.M,G.B,G.D,fun x au=>?_⟩;rcases apy.1 au with rfl | au
 . exact A.eW fun b q=>F.fresh q
 . exact G.P x au
theorem cE.A1 (F:cE W ab ak aL h aA r d cb bP) (A:dq (n0 aL cb) h p v):cE W ab ak aL h aA r d cb ((p,v)::bP):=⟨F.Z,F.C,F.M,F.B,F.D,fun x au=>by
 rcases apy.1 au with rfl | au
 . exact A
 . exact F.P x au⟩
theorem cE.box (F:cE W ab ak aL h aA r d cb bP) (e:Ext h af) (A:Has af h.next l):cE W ab ak aL af aA r d ((h.next,l)::cb) bP:=by
 have G:=F.ext e;refine ⟨G.Z,G.C,G.M,fun x au=>?_,?_,fun x au=>?_⟩
 . rcases apy.1 au with rfl | au
   . exact ⟨F.M.next,A⟩
   . exact G.B x au
 . rw [aqA,List.nodup_cons];refine ⟨fun hm=>?_,F.D⟩;obtain ⟨x,au,e⟩:=List.mem_map.1 hm;have:=(F.B x au).2.lt;simp only at e;omega
 . refine ((F.P x au).cr.ext e).eW fun b q=>⟨q.1.1,fun y bm=>?_⟩;rcases apy.1 bm with rfl | bm
   . exact fun z=>dh (ao1 _) (by rw [<-show b=an h.next from z];exact q.2)
   . exact q.1.2 y bm
theorem cE.new (F:cE W ab ak aL h aA r d cb bP) (z:List V):∃g,h.new (.bc z 0 false)=g/\cE W ab ak aL g aA r d ((h.next,z)::cb) bP:=by obtain ⟨g,q,e,A⟩:=fU h z;exact ⟨g,q,F.box e A⟩
theorem cE.a' (F:cE W ab ak aL h aA r d ((n,l)::cb) bP):Has h n l:=(F.B _ (.head _)).2
theorem cE.bW (F:cE W ab ak aL h aA r d (x::(n,l)::cb) bP):Has h n l:=(F.B _ (.tail _ (.head _))).2
theorem cE.df (F:cE W ab ak aL h aA r d (x::y::(n,l)::cb) bP):Has h n l:=(F.B _ (.tail _ (.tail _ (.head _)))).2
theorem cE.ic {z:Nat × List V} (F:cE W ab ak aL h aA r d (x::y::z::(n,l)::cb) bP):Has h n l:=(F.B _ (.tail _ (.tail _ (.tail _ (.head _))))).2
theorem cE.bj (F:cE W ab ak aL h aA r d cb ((p,v)::bP)):dq (n0 aL cb) h p v:=F.P _ (.head _)
theorem cE.ck {x:aN × V} (F:cE W ab ak aL h aA r d cb (x::(p,v)::bP)):dq (n0 aL cb) h p v:=F.P _ (.tail _ (.head _))
theorem cE.c0 {x y:aN × V} (F:cE W ab ak aL h aA r d cb (x::y::(p,v)::bP)):dq (n0 aL cb) h p v:=F.P _ (.tail _ (.tail _ (.head _)))
theorem cE.dt (F:cE W ab ak aL h aA r d ((n,l)::cb) bP) (eD:List V):cE W ab ak aL (h.set (an n) (.bc eD 0 false)) aA r d ((n,eD)::cb) bP:=by
 have a_:=F.D;rw [aqA,List.nodup_cons] at a_;have dY:∀y ∈ cb,y.1≠n:=fun y bm e=>a_.1 (List.mem_map.2 ⟨y,bm,e⟩);obtain ⟨_,_,nY⟩:=F.Z;have aF:=(F.B _ (.head _)).1;simp only at aF;refine ⟨F.Z,nY.box F.C aF _,F.M.set (fun o=>absurd o (dh aF)) _,fun y bm=>?_,F.D,fun y bm=>((F.P y bm).set (fun q=>q.2 _ (.head _) rfl) _).eW fun b q=>⟨q.1,fun z bN=>?_⟩⟩
 . rcases apy.1 bm with rfl | bm
   . exact ⟨aF,F.a'.put eD⟩
   . have:=F.B y (.tail _ bm);exact ⟨this.1,this.2.set (dY y bm) _⟩
 . rcases apy.1 bN with rfl | bN
   . exact q.2 (n,l) (.head _)
   . exact q.2 z (.tail _ bN)
theorem cE.swap (F:cE W ab ak aL h aA r d (x::y::cb) bP):cE W ab ak aL h aA r d (y::x::cb) bP:=by
 have al:∀z:Nat × List V,z ∈ y::x::cb↔z ∈ x::y::cb:=fun z=>by simp only [apy];exact ⟨fun q=>by rcases q with q | q | q<;>simp [q],fun q=>by rcases q with q | q | q<;>simp [q]⟩
 refine ⟨F.Z,F.C,F.M,fun z bN=>F.B z ((al z).1 bN),?_,fun z bN=>(F.P z bN).eW fun b q=>⟨q.1,fun a b1=>q.2 a ((al a).1 b1)⟩⟩;have:=F.D;simp only [aqA,List.nodup_cons,apy,not_or] at this ⊢;exact ⟨⟨fun e=>this.1.1 e.symm,this.2.1⟩,this.1.2,this.2.2⟩
theorem cE.drop (F:cE W ab ak aL h aA r d (x::cb) bP):cE W ab ak aL h aA r d cb bP:=
 ⟨F.Z,F.C,F.M,fun z bN=>F.B z (.tail _ bN),by have:=F.D;rw [aqA,List.nodup_cons] at this;exact this.2,fun z bN=>(F.P z bN).eW fun b q=>⟨q.1,fun a b1=>q.2 a (.tail _ b1)⟩⟩
theorem cE.vQ (F:cE W ab ak aL h aA r d (x::(n,l)::cb) bP) (eD:List V):cE W ab ak aL (h.set (an n) (.bc eD 0 false)) aA r d (x::(n,eD)::cb) bP:=(F.swap.dt eD).swap
theorem cE.only {x:aN × V} (F:cE W ab ak aL h aA r d cb (x::bP)):cE W ab ak aL h aA r d cb [x]:=⟨F.Z,F.C,F.M,F.B,F.D,fun z bN=>F.P z (by rw [ap2] at bN;subst bN;exact .head _)⟩
theorem cE.st (F:cE W ab ak aL h aA r d cb bP) (z l:List V):∃g,(h.new (.bc z 0 false)).set (an h.next) (.bc l 0 false)=g/\cE W ab ak aL g aA r d ((h.next,l)::cb) bP:=by obtain ⟨g,q,e,A⟩:=fq h z l;exact ⟨g,q,F.box e A⟩
theorem cE.CP (F:cE W ab ak aL h aA r d cb ((p,v)::bP)):v.one=true/\v.cells=[v]/\v.hZ=true:=F.bj.one
theorem cE.leaf (F:cE W ab ak aL h aA r d cb bP) (k n a:Int) {s:List UInt8} (al:s.length<=top):cE W ab ak aL h aA r d cb ((.mk k n a s [],.cS)::bP):=F.A1 (iV _ _ _ _ _ al)
theorem cE.vC (F:cE W ab ak aL h aA r d cb bP) (A:dq (n0 aL cb) h p v) (k a:Int) {s:List UInt8} (al:s.length<=top):∃g,h.new (.bc (vcs p v) 0 false)=g/\Ext h g/\cE W ab ak aL g aA r d cb ((.mk k 0 a s [p],.slice (an h.next) 0 1 1)::bP):=by obtain ⟨g,q,e,L⟩:=sR (F:=n0 aL cb) (h:=h) (size:=5) rfl A.cs (F.fresh (by rw [dk];exact ao1 _));exact ⟨g,q,e,(F.ext e).A1 (oy k 0 a s L rfl al)⟩
theorem cE.qQ (F:cE W ab ak aL h aA r d cb bP) (A:dq (n0 aL cb) h p v) (ta:dq (n0 aL cb) h q w) (k a:Int) {s:List UInt8} (al:s.length<=top):∃g,h.new (.bc (vcs p v++vcs q w) 0 false)=g/\Ext h g/\cE W ab ak aL g aA r d cb ((.mk k 0 a s [p,q],.slice (an h.next) 0 2 2)::bP):=by obtain ⟨g,q,e,L⟩:=xF (F:=n0 aL cb) (h:=h) (size:=5) rfl rfl A.cs ta.cs (F.fresh (by rw [dk];exact ao1 _));exact ⟨g,q,e,(F.ext e).A1 (oy k 0 a s L rfl al)⟩
theorem cE.Rt (F:cE W ab ak aL h aA r d cb bP) (A:dq (n0 aL cb) h p v) (ta:dq (n0 aL cb) h q w) (Uo:dq (n0 aL cb) h t u) (k a:Int) {s:List UInt8} (al:s.length<=top):∃g,h.new (.bc (vcs p v++(vcs q w++vcs t u)) 0 false)=g/\Ext h g/\cE W ab ak aL g aA r d cb ((.mk k 0 a s [p,q,t],.slice (an h.next) 0 3 3)::bP):=by obtain ⟨g,q,e,L⟩:=JJ (F:=n0 aL cb) (h:=h) (size:=5) rfl rfl rfl A.cs ta.cs Uo.cs (F.fresh (by rw [dk];exact ao1 _));exact ⟨g,q,e,(F.ext e).A1 (oy k 0 a s L rfl al)⟩
def Out (W:List aq) (ab ak:Nat) (h:ah) (aA:V) (d:Nat) (res:bH (aN × List aq)) (x:V) (af:ah):Prop:=∃p v bq,res=bq.map (fun ws=>(p,ws))/\x=.agg (vcs p v)/\dq (Fr h.next) af p v/\Mod (b3 ak) h af/\dw W ab ak af aA bq d
theorem cE.fin {res:bH (aN × List aq)} (F:cE W ab ak aL h aA r d cb ((p,v)::bP)) (U:res=r.map fun ws=>(p,ws)):Out W ab ak aL aA d res (.agg (vcs p v)) h:=⟨p,v,r,U,rfl,F.bj.eW fun b q=>q.1,F.M,F.C⟩
end
def e6 (W:List aq) (ab ak f:Nat) (args:List V) (d:Nat) (f1:List aq->bH (aN × List aq)) (r:bH (List aq)):Prop:=
 ∀h aA,dw W ab ak h aA r d->(∀ws,r=.ok ws->f1 ws≠.error b7)->dW Tryz.prog f (.ptr (an ak) 0::args) h (Out W ab ak h aA d (r >>= f1))
theorem lp {W:List aq} {ab ak f:Nat} {args:List V} {d:Nat} {f1:List aq->bH (aN × List aq)} {r:bH (List aq)} (H:∀h aA res,dw W ab ak h aA r d->(r >>= f1)=res->res≠.error b7->dW Tryz.prog f (.ptr (an ak) 0::args) h (Out W ab ak h aA d res)):e6 W ab ak f args d f1 r:=
 fun h aA C U=>H h aA _ C rfl (C.ne U)
theorem kr (e:Int × Nat) {α:Type}:Bw (Except.error e:bH α)=true:=rfl
theorem j6 {α:Type} (x:α):Bw (Except.ok x:bH α)=false:=rfl
theorem aeA {W:List aq} {ab ak:Nat} {h:ah} {aA:V} {r:bH (List aq)} {d:Nat} (C:dw W ab ak h aA r d) (s:List UInt8):∃(b:Bool) (bU:bH (List aq)) (ae:ah) (i:Nat) (dE aP bu:Int),e' Tryz.prog 67 [.ptr (an ak) 0,.str s] h (.bool b) h/\
 (∀(F K:List aq->bH (aN × List aq)),(r >>= fun ws=>if bb s ws=true then F ws.tail else K ws)=if b=true then (bU >>= F) else (r >>= K))/\
 (b=true->Has h ak [aA,.int .i64 i,.int .i64 ab,.int .i64 dE,.int .i64 aP,.int .i64 bu]/\IntKind.i64.wrap ((i:Int)+1)=((i+1:Nat):Int)/\h.set (an ak) (.bc [aA,.int .i64 (i+1:Nat),.int .i64 ab,.int .i64 dE,.int .i64 aP,.int .i64 bu] 0 false)=ae/\Mod (b3 ak) h ae/\dw W ab ak ae aA bU d):=by
 cases r with
 | ok ws=>
   by_cases al:bb s ws=true
   . obtain ⟨i,ae,A,lr,q,m,cy⟩:=C.iK (gS al);have k:=fi C s;rw [al] at k;exact ⟨true,.ok ws.tail,ae,i,_,_,_,k,fun F K=>ape al,fun _=>⟨A,lr,q,m,cy⟩⟩
   . have k:=fi C s;rw [Bool.eq_false_iff.2 al] at k;exact ⟨false,.ok ws,h,0,0,0,0,k,fun F K=>ao_ al,fun q=>by cases q⟩
 | error e=>
   obtain ⟨q,i,dE,G⟩:=C;refine ⟨bb s (W.drop i),.error e,_,i,dE,e.1,e.2,Jv G s,fun F K=>?_,fun al=>⟨G.at_,Ci G (FW al),rfl,(Mod.refl (b3 ak) h).set (fun _=>rfl) _,q,_,_,G.put dE e.1 e.2 (FW al)⟩⟩;cases bb s (W.drop i)<;>rfl
section
variable {W:List aq} {ab ak n d:Nat} {ws:List aq} {r:bH (List aq)}
def qu (f1 f2:Nat) (s:List UInt8) (k:Int):cc:=
 cc.seq (cc.cz [⟨(some 2),.new [(.int .i64 0),(.int .i64 0),(.int .i64 0),(.str []),.cS],none,[]⟩])
 (cc.seq (cc.cz [⟨(some 5),.gO (.t 0),none,[0]⟩,
   ⟨(some 6),.call f1 [(.t 5)],none,[5]⟩,
   ⟨(some 3),.new [(.int .i64 0),(.int .i64 0),(.int .i64 0),(.str []),.cS],none,[]⟩,
   ⟨none,.st 5 (.t 3) (.t 6),none,[3,6]⟩])
 (cc.seq (cc.seq (cc.cz [⟨(some 7),.gO (.t 0),none,[0]⟩,
   ⟨(some 8),.call 27 [(.t 7)],none,[7]⟩,
   ⟨(some 9),.un .not (.t 8),none,[8]⟩,
   ⟨(some 10),.gO (.t 9),none,[9]⟩,
   ⟨(some 11),.gO (.t 0),(some (10,true)),[0,10]⟩,
   ⟨(some 12),.call 67 [(.t 11),(.c (.str s))],(some (10,true)),[11,10]⟩,
   ⟨(some 13),.pick (.t 10) (.t 12) (.c (.bool false)),none,[10,12]⟩])
  (cc.cond (.t 13)
   (cc.seq (cc.cz [⟨(some 14),.gO (.t 0),none,[0]⟩,
     ⟨(some 15),.qT (.t 14),none,[14]⟩,
     ⟨(some 16),.iM 1 (.t 15),none,[15]⟩,
     ⟨(some 17),.la (.t 16),none,[16]⟩,
     ⟨(some 18),.bin (.int .add) (.t 17) (.c (.int .i64 1)),none,[17]⟩,
     ⟨(some 19),.qT (.t 14),none,[14]⟩,
     ⟨(some 20),.iM 1 (.t 19),none,[19]⟩,
     ⟨none,.st 1 (.t 20) (.t 18),none,[20,18]⟩])
    (cc.seq (cc.cz [⟨(some 21),.gO (.t 0),none,[0]⟩,
      ⟨(some 22),.call f2 [(.t 21)],none,[21]⟩,
      ⟨(some 4),.new [(.int .i64 0),(.int .i64 0),(.int .i64 0),(.str []),.cS],none,[]⟩,
      ⟨none,.st 5 (.t 4) (.t 22),none,[4,22]⟩])
    (cc.seq (cc.cz [⟨(some 23),.iM 2 (.t 3),none,[3]⟩,
      ⟨(some 24),.la (.t 23),none,[23]⟩,
      ⟨(some 25),.lb 5 (.t 3),none,[3]⟩,
      ⟨(some 26),.lb 5 (.t 4),none,[4]⟩,
      ⟨(some 27),.tt 2 5 [(.int .i64 0),(.int .i64 0),(.int .i64 0),(.str []),.cS] [(0,5,(.t 25)),(5,5,(.t 26))],none,[25,26]⟩,
      ⟨(some 28),.call 72 [(.c (.int .i64 k)),(.t 24),(.c (.str [])),(.t 27)],none,[24,27]⟩,
      ⟨none,.st 5 (.t 2) (.t 28),none,[2,28]⟩])
    (cc.ret))))
   (cc.skip)))
 (cc.seq (cc.cz [⟨(some 29),.lb 5 (.t 3),none,[3]⟩,
   ⟨none,.st 5 (.t 2) (.t 29),none,[2,29]⟩])
 (cc.ret))))
theorem Mz {f f1 f2:Nat} {fn:Func} {s:List UInt8} {k:Int} {re tc G:List aq->bH (aN × List aq)} (bN:cm f 30 fn (qu f1 f2 s k) [.eB 2 5]) (e5:(f1=4294967296)=False) (fJ:(f2=4294967296)=False) (H1:e6 W ab ak f1 [] d re (.ok ws)) (e0:∀ws,e6 W ab ak f2 [] d tc (.ok ws))
 (n':G ws=(re ws >>= fun q=>if bb s q.2=true then tc q.2.tail >>= fun z=>.ok (two k q.1 z.1,z.2) else .ok (q.1,q.2))):e6 W ab ak f [] d G (.ok ws):=by
 refine lp fun h aA res C U a8=>bN.z rfl (cl ?_);replace U:G ws=res:=U;rw [n'] at U;unfold qu;have ee:=cE.start C;obtain ⟨ae,ao,b2⟩:=ee.new b8;simp only [ao,e5,fJ,apa,↓aa,ad,simprocAttr];refine aX (H1 ae aA b2.C (fC (r:=(.ok ws)) U a8)) ?_;rintro x ag ⟨a,b5,bf,bY,rfl,gJ,m2,bx⟩;replace U:=e_ (r:=(.ok ws)) U bY
 try dsimp only at U
 have bL:=b2.eO m2 bx gJ;have dx:=bL.bj.one;obtain ⟨ar,aC,bl⟩:=bL.st b8 (vcs a b5);simp only [dx.1,dx.2.1,dx.2.2,aC,e5,fJ,apa,↓aa,ad,simprocAttr];refine bQ (jO bl.C) ?_;cases bf with
 | error e=>
   replace U:=k4 U;have o:=bl.bj.one;have bd:=bl.drop.dt (vcs a b5);simp only [bd.a'.g,o.1,o.2.1,o.2.2,aY,vcs,bR,kr,bl.a'.g,bl.bW.g,e5,fJ,apa,↓aa,ad,simprocAttr];exact bd.fin U
 | ok db=>
   replace U:=hp U
   try dsimp only at U
   simp only [j6,e5,fJ,apa,↓aa,ad,simprocAttr];refine bQ (fi bl.C s) ?_;cases b_:bb s db with
   | true=>
     simp only [b_,apd] at U;obtain ⟨i4,aT,eF,qe,bs,m4,cf⟩:=bl.C.iK (gS b_);have a7:=bl.call m4 cf;simp only [eF.g,qe,bs,e5,fJ,apa,↓aa,ad,simprocAttr];refine aX (e0 _ aT aA a7.C (fC (r:=(.ok db.tail)) U a8)) ?_;rintro x bC ⟨b,eM,b4,eY,rfl,jn,m5,bV⟩;replace U:=e_ (r:=(.ok db.tail)) U eY
     try dsimp only at U
     have bO:=a7.eO m5 bV jn;have eQ:=bO.bj.one;obtain ⟨bA,cD,cg⟩:=bO.st b8 (vcs b eM);have fc:=cg.ck.one;have mc:=cg.bj.one;obtain ⟨cd,dy,dI,cV⟩:=cg.qQ cg.ck cg.bj k a.a (s:=[]) (api _);simp only [vcs,apm,apx] at dy;simp only [eQ.1,eQ.2.1,eQ.2.2,cD,cg.bW.g,cg.a'.g,fc.1,fc.2.1,fc.2.2,mc.1,mc.2.1,mc.2.2,dy,e5,fJ,apa,↓aa,ad,simprocAttr];refine aX (gh k a.a [] cV.bj.c7) ?_;rintro x et ⟨rfl,ga⟩;have dJ:=cV.ext ga;have o:=dJ.bj.one;have bd:=dJ.drop.drop.dt (vcs (aN.mk k 0 a.a [] [a,b]) (.slice (an bA.next) 0 2 2));simp only [bd.a'.g,o.1,o.2.1,o.2.2,aY,vcs,bR,dJ.a'.g,dJ.bW.g,dJ.df.g,e5,fJ,apa,↓aa,ad,simprocAttr];exact bd.fin (jo U)
   | false=>
     simp only [b_,ao2,apa] at U;have o:=bl.bj.one;have bd:=bl.drop.dt (vcs a b5);simp only [bd.a'.g,o.1,o.2.1,o.2.2,aY,vcs,bR,bl.a'.g,bl.bW.g,e5,fJ,apa,↓aa,ad,simprocAttr];exact bd.fin U.symm
def Pf (f1 f2:Nat) (s:List UInt8) (k:Int):cc:=
 cc.seq (cc.cz [⟨(some 2),.new [(.int .i64 0),(.int .i64 0),(.int .i64 0),(.str []),.cS],none,[]⟩])
 (cc.seq (cc.seq (cc.cz [⟨(some 5),.gO (.t 0),none,[0]⟩,
   ⟨(some 6),.call 122 [(.t 5)],none,[5]⟩,
   ⟨(some 7),.un .not (.t 6),none,[6]⟩])
  (cc.cond (.t 7)
   (cc.seq (cc.cz [⟨(some 8),.build [(.int .i64 0),(.int .i64 0),(.int .i64 0),(.str []),.cS] [],none,[]⟩,
     ⟨none,.st 5 (.t 2) (.t 8),none,[2,8]⟩])
    (cc.ret))
   (cc.skip)))
 (cc.seq (cc.cz [⟨(some 9),.gO (.t 0),none,[0]⟩,
   ⟨(some 10),.call f1 [(.t 9)],none,[9]⟩,
   ⟨(some 3),.new [(.int .i64 0),(.int .i64 0),(.int .i64 0),(.str []),.cS],none,[]⟩,
   ⟨none,.st 5 (.t 3) (.t 10),none,[3,10]⟩])
 (cc.seq (cc.seq (cc.cz [⟨(some 11),.gO (.t 0),none,[0]⟩,
   ⟨(some 12),.call 27 [(.t 11)],none,[11]⟩,
   ⟨(some 13),.un .not (.t 12),none,[12]⟩,
   ⟨(some 14),.gO (.t 13),none,[13]⟩,
   ⟨(some 15),.gO (.t 0),(some (14,true)),[0,14]⟩,
   ⟨(some 16),.call 67 [(.t 15),(.c (.str s))],(some (14,true)),[15,14]⟩,
   ⟨(some 17),.pick (.t 14) (.t 16) (.c (.bool false)),none,[14,16]⟩])
  (cc.cond (.t 17)
   (cc.seq (cc.cz [⟨(some 18),.gO (.t 0),none,[0]⟩,
     ⟨(some 19),.qT (.t 18),none,[18]⟩,
     ⟨(some 20),.iM 1 (.t 19),none,[19]⟩,
     ⟨(some 21),.la (.t 20),none,[20]⟩,
     ⟨(some 22),.bin (.int .add) (.t 21) (.c (.int .i64 1)),none,[21]⟩,
     ⟨(some 23),.qT (.t 18),none,[18]⟩,
     ⟨(some 24),.iM 1 (.t 23),none,[23]⟩,
     ⟨none,.st 1 (.t 24) (.t 22),none,[24,22]⟩])
    (cc.seq (cc.cz [⟨(some 25),.gO (.t 0),none,[0]⟩,
      ⟨(some 26),.call f2 [(.t 25)],none,[25]⟩,
      ⟨(some 4),.new [(.int .i64 0),(.int .i64 0),(.int .i64 0),(.str []),.cS],none,[]⟩,
      ⟨none,.st 5 (.t 4) (.t 26),none,[4,26]⟩])
    (cc.cz [⟨(some 27),.iM 2 (.t 3),none,[3]⟩,
      ⟨(some 28),.la (.t 27),none,[27]⟩,
      ⟨(some 29),.lb 5 (.t 3),none,[3]⟩,
      ⟨(some 30),.lb 5 (.t 4),none,[4]⟩,
      ⟨(some 31),.tt 2 5 [(.int .i64 0),(.int .i64 0),(.int .i64 0),(.str []),.cS] [(0,5,(.t 29)),(5,5,(.t 30))],none,[29,30]⟩,
      ⟨(some 32),.call 72 [(.c (.int .i64 k)),(.t 28),(.c (.str [])),(.t 31)],none,[28,31]⟩,
      ⟨none,.st 5 (.t 3) (.t 32),none,[3,32]⟩])))
   (cc.skip)))
 (cc.seq (cc.cz [⟨(some 33),.gO (.t 0),none,[0]⟩,
   ⟨(some 34),.call 124 [(.t 33)],none,[33]⟩])
 (cc.seq (cc.cz [⟨(some 35),.lb 5 (.t 3),none,[3]⟩,
   ⟨none,.st 5 (.t 2) (.t 35),none,[2,35]⟩])
 (cc.ret))))))
theorem DZ {f f1 f2:Nat} {fn:Func} {s:List UInt8} {k:Int} {re tc G:List aq->bH (aN × List aq)} (bN:cm f 36 fn (Pf f1 f2 s k) [.eB 2 5]) (e5:(f1=4294967296)=False) (fJ:(f2=4294967296)=False) (H1:∀ws,e6 W ab ak f1 [] (d+1) re (.ok ws)) (e0:∀ws,e6 W ab ak f2 [] (d+1) tc (.ok ws))
 (n':G=fun ws=>jb ab d ws (re ws >>= fun q=>if bb s q.2=true then tc q.2.tail >>= fun z=>.ok (two k q.1 z.1,z.2) else .ok (q.1,q.2))):e6 W ab ak f [] d G r:=by
 refine lp fun h aA res C U a8=>bN.z rfl (cl ?_);rw [n'] at U;unfold Pf;have ee:=cE.start C;obtain ⟨ae,ao,b2⟩:=ee.new b8;simp only [ao,e5,fJ,apa,↓aa,ad,simprocAttr];refine aX (D0 b2.C) ?_;rintro x ag ⟨m2,⟨rfl,Aw,rfl,a_,bx⟩ | ⟨rfl,e,bx,eh⟩⟩
 rotate_left
 . rw [eh] at U;have bL:=(b2.call m2 bx).leaf 0 0 0 (s:=[]) (api _);have bd:=bL.dt b8;simp only [bL.a'.g,bd.a'.g,aY,↓aa,ad,simprocAttr];exact bd.fin (r:=.error e) U.symm
 replace U:=hp U;unfold jb at U;rw [ao_ (by omega)] at U;have bL:=b2.call m2 bx;simp only [e5,fJ,apa,↓aa,ad,simprocAttr];refine aX (H1 _ ag aA bL.C (fC (r:=(.ok Aw)) U a8)) ?_;rintro x ar ⟨a,b5,bU,fT,rfl,gC,m3,cq⟩;replace U:=e_ (r:=(.ok Aw)) U fT
 try dsimp only at U
 have bl:=bL.eO m3 cq gC;have c2:=bl.bj.one;obtain ⟨aT,bs,a7⟩:=bl.st b8 (vcs a b5);simp only [c2.1,c2.2.1,c2.2.2,bs,e5,fJ,apa,↓aa,ad,simprocAttr];refine bQ (jO a7.C) ?_;cases bU with
 | error e=>
   replace U:=k4 U;simp only [kr,e5,fJ,apa,↓aa,ad,simprocAttr];refine aX (vB a7.C) ?_;rintro x bC ⟨m5,bV⟩;have bO:=a7.call m5 bV;have o:=bO.bj.one;have bd:=bO.drop.dt (vcs a b5);simp only [bd.a'.g,o.1,o.2.1,o.2.2,aY,vcs,bR,bO.a'.g,bO.bW.g,e5,fJ,apa,↓aa,ad,simprocAttr];exact bd.fin U
 | ok dj=>
   replace U:=hp U
   try dsimp only at U
   simp only [j6,e5,fJ,apa,↓aa,ad,simprocAttr];refine bQ (fi a7.C s) ?_;cases b_:bb s dj with
   | true=>
     simp only [b_,apd] at U;obtain ⟨i5,bC,iF,uP,ca,m5,bV⟩:=a7.C.iK (gS b_);have bO:=a7.call m5 bV;simp only [iF.g,uP,ca,e5,fJ,apa,↓aa,ad,simprocAttr];refine aX (e0 _ bC aA bO.C (fC (r:=(.ok dj.tail)) U a8)) ?_;rintro x bA ⟨b,eM,ea,i',rfl,k2,m6,cv⟩;replace U:=e_ (r:=(.ok dj.tail)) U i'
     try dsimp only at U
     have cg:=bO.eO m6 cv k2;have gn:=cg.bj.one;obtain ⟨cd,dy,cV⟩:=cg.st b8 (vcs b eM);have kA:=cV.ck.one;have kB:=cV.bj.one;obtain ⟨et,dH,ga,dJ⟩:=cV.qQ cV.ck cV.bj k a.a (s:=[]) (api _);simp only [vcs,apm,apx] at dH;simp only [gn.1,gn.2.1,gn.2.2,dy,cV.bW.g,cV.a'.g,kA.1,kA.2.1,kA.2.2,kB.1,kB.2.1,kB.2.2,dH,e5,fJ,apa,↓aa,ad,simprocAttr];refine aX (gh k a.a [] dJ.bj.c7) ?_;rintro x fD ⟨rfl,jD⟩;have er:=dJ.ext jD;have hX:=er.bj.one;have fp:=er.vQ [.int .i64 k,.int .i64 0,.int .i64 a.a,.str [],(.slice (an cd.next) 0 2 2)];generalize mf:fD.set _ _=iN at fp;simp only [er.bW.g,mf,e5,fJ,apa,hX.1,hX.2.1,hX.2.2,vcs,bR,↓aa,ad,simprocAttr];refine aX (vB fp.C) ?_;rintro x ly ⟨m11,lu⟩;have lW:=fp.call m11 lu;have o:=lW.bj.one;have bd:=lW.drop.drop.dt (vcs (aN.mk k 0 a.a [] [a,b]) (.slice (an cd.next) 0 2 2));simp only [bd.a'.g,o.1,o.2.1,o.2.2,aY,vcs,bR,lW.a'.g,lW.bW.g,lW.df.g,e5,fJ,apa,hX.1,hX.2.1,hX.2.2,↓aa,ad,simprocAttr];exact bd.fin (jo U)
   | false=>
     simp only [b_,ao2,apa] at U;simp only [e5,fJ,apa,↓aa,ad,simprocAttr];refine aX (vB a7.C) ?_;rintro x bC ⟨m5,bV⟩;have bO:=a7.call m5 bV;have o:=bO.bj.one;have bd:=bO.drop.dt (vcs a b5);simp only [bd.a'.g,o.1,o.2.1,o.2.2,aY,vcs,bR,bO.a'.g,bO.bW.g,e5,fJ,apa,↓aa,ad,simprocAttr];exact bd.fin U.symm
end
section
variable {W:List aq} {ab ak n d:Nat} {ws:List aq} {r:bH (List aq)}
def GJ (W:List aq) (ab ak:Nat) (h:ah) (aA:V) (d:Nat) (res:bH (List aN × List aq)) (x:V) (af:ah):Prop:=∃l bq,res=bq.map (fun ws=>(l,ws))/\dz h.next (Fr h.next) af 5 (l.map aN.enc) x/\l.length<=1500000/\Mod (b3 ak) h af/\dw W ab ak af aA bq d
structure jB (W:List aq) (ab ak n:Nat):Prop where
 ty:∀d r,e6 W ab ak 120 [] d ((aU ab n).ty d) r
 hx:∀d ws,e6 W ab ak 153 [] d ((aU ab n).hx d) (.ok ws)
 named:∀d ws,e6 W ab ak 188 [] d ((aU ab n).named d) (.ok ws)
 jk:∀d ws,e6 W ab ak 210 [] d ((aU ab n).jk d) (.ok ws)
 pat:∀d r,e6 W ab ak 73 [] d ((aU ab n).pat d) r
 iU:∀d ws,e6 W ab ak 123 [] d ((aU ab n).iU d) (.ok ws)
 gP:∀d ws,e6 W ab ak 154 [] d ((aU ab n).gP d) (.ok ws)
 seq:∀d r,e6 W ab ak 74 [] d ((aU ab n).seq d) r
 fn:∀d r,e6 W ab ak 121 [] d (fun ws=>ec ab mH ws >>= fun b9=>(aU ab n).fn d (bG ab ws) b9) r
 one:∀d ws,e6 W ab ak 125 [] d ((aU ab n).one d) (.ok ws)
 hq:∀d (k:Int) ws,ws≠[]->e6 W ab ak 157 [.int .i64 k] d (fun ws=>(aU ab n).hq d k (bG ab ws) ws.tail) (.ok ws)
 lt:∀d ws,ws≠[]->e6 W ab ak 156 [] d (fun ws=>(aU ab n).lt d (bG ab ws) ws.tail) (.ok ws)
 binds:∀d ws h aA,dw W ab ak h aA (.ok ws) d->(aU ab n).binds d [] ws≠.error b7->dW Tryz.prog 71 [.ptr (an ak) 0] h (GJ W ab ak h aA d ((aU ab n).binds d [] ws))
 pair:∀d ws,e6 W ab ak 159 [] d ((aU ab n).pair d) (.ok ws)
 ja:∀d ws,e6 W ab ak 190 [] d ((aU ab n).ja d) (.ok ws)
 hF:∀d ws,e6 W ab ak 211 [] d ((aU ab n).hF d) (.ok ws)
 hG:∀d ws,e6 W ab ak 225 [] d ((aU ab n).hG d) (.ok ws)
 pre:∀d ws,e6 W ab ak 230 [] d ((aU ab n).pre d) (.ok ws)
 app:∀d ws,e6 W ab ak 233 [] d ((aU ab n).app d) (.ok ws)
 atom:∀d ws,e6 W ab ak 234 [] d ((aU ab n).atom d) (.ok ws)
theorem ajl (I:jB W ab ak n) (d:Nat) (ws:List aq):e6 W ab ak 153 [] d ((aU ab (n+1)).hx d) (.ok ws):=Mz (s:=kW) Xu (by decide) (by decide) (I.named d ws) (I.hx d) rfl
theorem ajh (I:jB W ab ak n) (d:Nat) (ws:List aq):e6 W ab ak 159 [] d ((aU ab (n+1)).pair d) (.ok ws):=Mz (s:=hh) XB (by decide) (by decide) (I.ja d ws) (I.pair d) rfl
theorem ajR (I:jB W ab ak n) (d:Nat) (r:bH (List aq)):e6 W ab ak 73 [] d ((aU ab (n+1)).pat d) r:=DZ (s:=hh) Oj (by decide) (by decide) (I.iU (d+1)) (fun ws=>I.pat (d+1) (.ok ws)) rfl
theorem alb (I:jB W ab ak n) (d:Nat) (r:bH (List aq)):e6 W ab ak 74 [] d ((aU ab (n+1)).seq d) r:=DZ (s:=Ai) Ok (by decide) (by decide) (I.one (d+1)) (fun ws=>I.seq (d+1) (.ok ws)) rfl
theorem amk (I:jB W ab ak n) (d:Nat) (r:bH (List aq)):e6 W ab ak 120 [] d ((aU ab (n+1)).ty d) r:=by
 refine lp fun h aA res C U a8=>M3.z rfl (cl ?_);replace U:(r >>= fun ws=>Da ab (aU ab n) d ws)=res:=U;unfold Da at U;unfold Hb;have ee:=cE.start C;obtain ⟨ae,ao,b2⟩:=ee.new b8;simp only [ao,↓aa,ad,simprocAttr];refine aX (D0 b2.C) ?_;rintro x ag ⟨m2,⟨rfl,Aw,rfl,a_,bx⟩ | ⟨rfl,e,bx,eh⟩⟩
 rotate_left
 . rw [eh] at U;have bL:=(b2.call m2 bx).leaf 0 0 0 (s:=[]) (api _);have bd:=bL.dt b8;simp only [bL.a'.g,bd.a'.g,aY,↓aa,ad,simprocAttr];exact bd.fin (r:=.error e) U.symm
 replace U:=hp U;unfold jb at U;rw [ao_ (by omega)] at U;have bL:=b2.call m2 bx;simp only [↓aa,ad,simprocAttr];refine aX (I.hx (d+1) _ ag aA bL.C (fC (r:=(.ok Aw)) U a8)) ?_;rintro x ar ⟨a,b5,bU,fT,rfl,gC,m3,cq⟩;replace U:=e_ (r:=(.ok Aw)) U fT
 try dsimp only at U
 have bl:=bL.eO m3 cq gC;have c2:=bl.bj.one;obtain ⟨aT,bs,a7⟩:=bl.st b8 (vcs a b5);simp only [c2.1,c2.2.1,c2.2.2,bs,↓aa,ad,simprocAttr];obtain ⟨b,S3,fD,i9,d9,anJ,o0,UD,hJ,d_⟩:=aeA a7.C jY;replace U:=(hJ (fun ws=>(aU ab n).ty (d+1) ws >>= fun z=>.ok (two 4 a z.1,z.2)) (fun ws=>.ok (a,ws))).symm.trans U;refine bQ UD ?_;cases b with
 | true=>
   obtain ⟨oH,yj,mg,m9,fS⟩:=d_ rfl;have er:=a7.call m9 fS;simp only [apd] at U;simp only [oH.g,yj,mg,↓aa,ad,simprocAttr];refine aX (I.ty (d+1) _ fD aA er.C (fC (r:=S3) U a8)) ?_;rintro x iN ⟨b,eM,sZ,Uu,rfl,U_,m10,iZ⟩;replace U:=e_ (r:=S3) U Uu
   try dsimp only at U
   have fp:=er.eO m10 iZ U_;have J3:=fp.bj.one;obtain ⟨ly,px,lW⟩:=fp.st b8 (vcs b eM);have xW:=lW.ck.one;have xX:=lW.bj.one;obtain ⟨BE,x4,tz,nA⟩:=lW.qQ lW.ck lW.bj 4 a.a (s:=[]) (api _);simp only [vcs,apm,apx] at x4;simp only [J3.1,J3.2.1,J3.2.2,px,lW.bW.g,lW.a'.g,xW.1,xW.2.1,xW.2.2,xX.1,xX.2.1,xX.2.2,x4,↓aa,ad,simprocAttr];refine aX (gh 4 a.a [] nA.bj.c7) ?_;rintro x ab0 ⟨rfl,DX⟩;have GD:=nA.ext DX;have hX:=GD.bj.one;have GF:=GD.vQ [.int .i64 4,.int .i64 0,.int .i64 a.a,.str [],(.slice (an ly.next) 0 2 2)];generalize akp:ab0.set _ _=anV at GF;simp only [GD.bW.g,akp,hX.1,hX.2.1,hX.2.2,vcs,bR,↓aa,ad,simprocAttr];refine aX (vB GF.C) ?_;rintro x anW ⟨m15,Ul⟩;have AQ:=GF.call m15 Ul;have o:=AQ.bj.one;have bd:=AQ.drop.drop.dt (vcs (aN.mk 4 0 a.a [] [a,b]) (.slice (an ly.next) 0 2 2));simp only [bd.a'.g,o.1,o.2.1,o.2.2,aY,vcs,bR,AQ.a'.g,AQ.bW.g,AQ.df.g,hX.1,hX.2.1,hX.2.2,↓aa,ad,simprocAttr];exact bd.fin (jo U)
 | false=>
   simp only [ao2,apa] at U;simp only [↓aa,ad,simprocAttr];refine aX (vB a7.C) ?_;rintro x bC ⟨m5,bV⟩;have bO:=a7.call m5 bV;have o:=bO.bj.one;have bd:=bO.drop.dt (vcs a b5);simp only [bd.a'.g,o.1,o.2.1,o.2.2,aY,vcs,bR,bO.a'.g,bO.bW.g,↓aa,ad,simprocAttr];exact bd.fin (jo U)
theorem aiz (ws:List aq):(bb gQ ws||bb q5 ws||bb q4 ws)=(nQ ws).isSome:=by unfold nQ;cases bb gQ ws<;>cases bb q5 ws<;>cases bb q4 ws<;>rfl
theorem aiD (ws:List aq):(bb r4 ws||bb hN ws)=(nR ws).isSome:=by unfold nR;cases bb r4 ws<;>cases bb hN ws<;>rfl
theorem aiG (ws:List aq):(bb kW ws||bb q6 ws||bb qL ws)=(nS ws).isSome:=by unfold nS;cases bb kW ws<;>cases bb q6 ws<;>cases bb qL ws<;>rfl
theorem aiB {s:List UInt8} (h:nQ ws=some s):bb s ws=true/\s.length<=top:=by
 refine ⟨?_,R3 h⟩;unfold nQ at h
 repeat' split at h
 all_goals (cases h;try assumption)
theorem aiF {s:List UInt8} (h:nR ws=some s):bb s ws=true/\s.length<=top:=by
 refine ⟨?_,R4 h⟩;unfold nR at h
 repeat' split at h
 all_goals (cases h;try assumption)
theorem aiI {s:List UInt8} (h:nS ws=some s):bb s ws=true/\s.length<=top:=by
 refine ⟨?_,R6 h⟩;unfold nS at h
 repeat' split at h
 all_goals (cases h;try assumption)
theorem Zy (I:jB W ab ak n) (d:Nat) (ws:List aq):e6 W ab ak 190 [] d ((aU ab (n+1)).ja d) (.ok ws):=by
 refine lp fun h aA res C U a8=>XI.z rfl (cl ?_);replace U:Bl (aU ab n) d ws=res:=U;unfold Bl at U;unfold Nw;have ee:=cE.start C;obtain ⟨ae,ao,b2⟩:=ee.new b8;simp only [ao,↓aa,ad,simprocAttr];refine aX (I.hF d _ ae aA b2.C (fC (r:=(.ok ws)) U a8)) ?_;rintro x ag ⟨a,b5,bf,bY,rfl,gJ,m2,bx⟩;replace U:=e_ (r:=(.ok ws)) U bY
 try dsimp only at U
 have bL:=b2.eO m2 bx gJ;have dx:=bL.bj.one;obtain ⟨ar,aC,bl⟩:=bL.st b8 (vcs a b5);simp only [dx.1,dx.2.1,dx.2.2,aC,↓aa,ad,simprocAttr];refine bQ (jO bl.C) ?_;cases bf with
 | error e=>
   replace U:=k4 U;have o:=bl.bj.one;have bd:=bl.drop.dt (vcs a b5);simp only [bd.a'.g,o.1,o.2.1,o.2.2,aY,vcs,bR,kr,bl.a'.g,bl.bW.g,↓aa,ad,simprocAttr];exact bd.fin U
 | ok db=>
   replace U:=hp U
   try dsimp only at U
   simp only [j6,↓aa,ad,simprocAttr];refine bQ (fi bl.C gQ) ?_;simp only [im,↓aa,ad,simprocAttr];refine jE (.bool (bb q5 db)) (fun ax=>by simp only [ax,↓aa,ad,simprocAttr];exact fi bl.C q5) ?_;simp only [im,↓aa,ad,simprocAttr];refine jE (.bool (bb q4 db)) (fun ax=>by simp only [ax,↓aa,ad,simprocAttr];exact fi bl.C q4) ?_;have di:(bb gQ db||bb q5 db||bb q4 db)=(nQ db).isSome:=aiz _;cases bJ:nQ db with
   | none=>
     rw [bJ] at di;simp only [bJ] at U;have o:=bl.bj.one;have bd:=bl.drop.dt (vcs a b5);simp only [bd.a'.g,o.1,o.2.1,o.2.2,aY,vcs,bR,im,di,Option.isSome_none,bl.a'.g,bl.bW.g,↓aa,ad,simprocAttr];exact bd.fin U.symm
   | some s=>
     rw [bJ] at di;simp only [bJ] at U;obtain ⟨B9,tY⟩:=aiB bJ;obtain ⟨i4,oU,c2,aT,⟨eF,akr,aks⟩,qe,bs,m4,cf⟩:=bl.C.read B9;have a7:=bl.call m4 cf;simp only [im,di,Option.isSome_some,eF.g,akr,aks,qe,bs,↓aa,ad,simprocAttr];refine aX (I.hF d _ aT aA a7.C (fC (r:=(.ok db.tail)) U a8)) ?_;rintro x bC ⟨b,eM,b4,eY,rfl,jn,m5,bV⟩;replace U:=e_ (r:=(.ok db.tail)) U eY
     try dsimp only at U
     have bO:=a7.eO m5 bV jn;have eQ:=bO.bj.one;obtain ⟨bA,cD,cg⟩:=bO.st b8 (vcs b eM);have fc:=cg.ck.one;have mc:=cg.bj.one;obtain ⟨cd,dy,dI,cV⟩:=cg.qQ cg.ck cg.bj 38 a.a (s:=s) tY;simp only [vcs,apm,apx] at dy;simp only [eQ.1,eQ.2.1,eQ.2.2,cD,cg.bW.g,cg.a'.g,fc.1,fc.2.1,fc.2.2,mc.1,mc.2.1,mc.2.2,dy,↓aa,ad,simprocAttr];refine aX (gh 38 a.a s cV.bj.c7) ?_;rintro x et ⟨rfl,ga⟩;have dJ:=cV.ext ga;have o:=dJ.bj.one;have bd:=dJ.drop.drop.dt (vcs (aN.mk 38 0 a.a s [a,b]) (.slice (an bA.next) 0 2 2));simp only [bd.a'.g,o.1,o.2.1,o.2.2,aY,vcs,bR,dJ.a'.g,dJ.bW.g,dJ.df.g,↓aa,ad,simprocAttr];exact bd.fin (jo U)
end
section
variable {W:List aq} {ab ak n d:Nat} {ws:List aq} {r:bH (List aq)}
def mI (W:List aq) (ak:Nat) (g:ah):Nat:=if ((hc (g.get (an ak)) 4).getD .bad).toN=0 then W.length - ((hc (g.get (an ak)) 1).getD .bad).toN+1 else 0
theorem RI {h:ah} {aA:V} (C:dw W ab ak h aA (.ok ws) d):mI W ak h=ws.length+1:=by obtain ⟨i,G,q,_⟩:=C;unfold mI;rw [G.at_.g,zJ,zJ,q,apr];rfl
theorem ahu {h:ah} {aA:V} {e:Int × Nat} (C:dw W ab ak h aA (.error e) d):mI W ak h=0:=by obtain ⟨q,i,dE,G⟩:=C;unfold mI;rw [G.at_.g,zJ];exact ao_ (by show ¬e.1.toNat=0;omega)
theorem sS {h af:ah} {aA:V} {dE:Nat} (C:dw W ab ak h aA (.ok ws) d) (fo:dw W ab ak af aA r dE) (aH:∀w',r=.ok w'->w'.length<ws.length):mI W ak af<mI W ak h:=by
 rw [RI C];cases r with
 | ok w'=>rw [RI fo];have:=aH w' rfl;omega
 | error e=>rw [ahu fo];omega
theorem shr {α:Type} {P:Int × Nat->Prop} {q:bH (α × List aq)} {p:α} {aB:List aq} (g:eK P aB q) (e:q=r.map (fun ws=>(p,ws))) (aH:aB.length<=ws.length):∀w',r=.ok w'->w'.length<ws.length:=by rintro w' rfl;rw [e] at g;exact aqg g aH
theorem At (ws:List aq):ws.tail.length<=ws.length:=by cases ws<;>simp
theorem alQ (J:∀m,m<=n->jB W ab ak m) (d:Nat) (ws:List aq):e6 W ab ak 211 [] d ((aU ab (n+1)).hF d) (.ok ws):=by
 have I:=J n (ao1 n);refine lp fun h aA res C U a8=>XP.z rfl (cl ?_);replace U:C7 (aU ab n) d ws=res:=U;unfold C7 at U;unfold NA;have ee:=cE.start C;obtain ⟨ae,ao,b2⟩:=ee.new b8;simp only [ao,↓aa,ad,simprocAttr];refine aX (I.hG d _ ae aA b2.C (fC (r:=(.ok ws)) U a8)) ?_;rintro x ag ⟨a0,yf,bf,bY,rfl,gJ,m2,bx⟩;replace U:=e_ (r:=(.ok ws)) U bY
 try dsimp only at U
 have bL:=b2.eO m2 bx gJ;have dx:=bL.bj.one;obtain ⟨ar,aC,bl⟩:=bL.st b8 (vcs a0 yf);simp only [dx.1,dx.2.1,dx.2.2,aC,↓aa,ad,simprocAttr];refine gf (fun r g=>r 0=.ptr (an ak) 0/\r 2=.ptr (an h.next) 0/\r 3=.ptr (an ag.next) 0/\∃m a b5 rg,m<=n/\cE W ab ak h g aA rg d [(ag.next,vcs a b5),(h.next,b8)] [(a,b5)]/\(rg >>= fun ws=>(aU ab m).lL d a ws)=res) (fun _ g=>mI W ak g) ?_ ?_
 . exact ⟨by simp only [↓aa,cQ,simprocAttr],by simp only [↓aa,cQ,simprocAttr],by simp only [↓aa,cQ,simprocAttr],n,_,_,_,ao1 _,bl.only,U⟩
 rintro r aT ⟨aW,bf,bU,m,a,b5,rg,hm,a7,U⟩;have c9:=a7.CP;simp only [aW,bf,bU,c9.1,c9.2.1,c9.2.2,↓aa,ad,simprocAttr];refine bQ (jO a7.C) ?_;cases rg with
 | error e=>
   replace U:=k4 U;have o:=a7.bj.one;have bd:=a7.drop.dt (vcs a b5);simp only [bd.a'.g,o.1,o.2.1,o.2.2,aY,vcs,bR,kr,a7.a'.g,a7.bW.g,aW,bf,bU,c9.1,c9.2.1,c9.2.2,↓aa,ad,simprocAttr];exact bd.fin U
 | ok dj=>
   replace U:=hp U
   try dsimp only at U
   cases m with
   | zero=>exact (a8 U.symm).elim
   | succ m=>
     replace U:ur (aU ab m) d a dj=res:=U;unfold ur at U;have I:=J m (by omega);simp only [j6,aW,bf,bU,c9.1,c9.2.1,c9.2.2,↓aa,ad,simprocAttr];refine bQ (fi a7.C r4) ?_;simp only [im,↓aa,ad,simprocAttr];refine jE (.bool (bb hN dj)) (fun ax=>by simp only [ax,aW,↓aa,ad,simprocAttr];exact fi a7.C hN) ?_;have di:(bb r4 dj||bb hN dj)=(nR dj).isSome:=aiD _;cases bJ:nR dj with
     | none=>
       rw [bJ] at di;simp only [bJ] at U;have o:=a7.bj.one;have bd:=a7.drop.dt (vcs a b5);simp only [bd.a'.g,o.1,o.2.1,o.2.2,aY,vcs,bR,im,di,Option.isSome_none,a7.a'.g,a7.bW.g,aW,bf,bU,c9.1,c9.2.1,c9.2.2,↓aa,ad,simprocAttr];exact bd.fin U.symm
     | some s=>
       rw [bJ] at di;simp only [bJ] at U;obtain ⟨B9,tY⟩:=aiF bJ;obtain ⟨i5,pM,gX,bC,⟨iF,KD,KE⟩,uP,ca,m5,bV⟩:=a7.C.read B9;have bO:=a7.call m5 bV;simp only [im,di,Option.isSome_some,iF.g,KD,KE,uP,ca,aW,bf,bU,c9.1,c9.2.1,c9.2.2,↓aa,ad,simprocAttr];refine aX (I.hG d _ bC aA bO.C (fC (r:=(.ok dj.tail)) U a8)) ?_;rintro x bA ⟨b,eM,ea,i',rfl,k2,m6,cv⟩;replace U:=e_ (r:=(.ok dj.tail)) U i'
       try dsimp only at U
       have cg:=bO.eO m6 cv k2;have gn:=cg.bj.one;obtain ⟨cd,dy,cV⟩:=cg.st b8 (vcs b eM);have kA:=cV.ck.one;have kB:=cV.bj.one;obtain ⟨et,dH,ga,dJ⟩:=cV.qQ cV.ck cV.bj 38 a.a (s:=s) tY;simp only [vcs,apm,apx] at dH;simp only [gn.1,gn.2.1,gn.2.2,dy,cV.bW.g,cV.a'.g,kA.1,kA.2.1,kA.2.2,kB.1,kB.2.1,kB.2.2,dH,aW,bf,bU,c9.1,c9.2.1,c9.2.2,↓aa,ad,simprocAttr];refine aX (gh 38 a.a s dJ.bj.c7) ?_;rintro x fD ⟨rfl,jD⟩;have er:=dJ.ext jD;have ow:=er.bj.one;have fp:=er.vQ [.int .i64 38,.int .i64 0,.int .i64 a.a,.str s,(.slice (an cd.next) 0 2 2)];generalize mf:fD.set _ _=iN at fp;simp only [ow.1,ow.2.1,ow.2.2,vcs,bR,er.bW.g,mf,aW,bf,bU,c9.1,c9.2.1,c9.2.2,↓aa,ad,simprocAttr];exact ⟨⟨m,(aN.mk 38 0 a.a s [a,b]),(.slice (an cd.next) 0 2 2),_,by omega,fp.drop.only,by exact U⟩,sS a7.C fp.C (shr ((shorter ab m).hG d _ (.inl trivial)) i' (At _))⟩
theorem alS (J:∀m,m<=n->jB W ab ak m) (d:Nat) (ws:List aq):e6 W ab ak 225 [] d ((aU ab (n+1)).hG d) (.ok ws):=by
 have I:=J n (ao1 n);refine lp fun h aA res C U a8=>XT.z rfl (cl ?_);replace U:C8 (aU ab n) d ws=res:=U;unfold C8 at U;unfold ND;have ee:=cE.start C;obtain ⟨ae,ao,b2⟩:=ee.new b8;simp only [ao,↓aa,ad,simprocAttr];refine aX (I.pre d _ ae aA b2.C (fC (r:=(.ok ws)) U a8)) ?_;rintro x ag ⟨a0,yf,bf,bY,rfl,gJ,m2,bx⟩;replace U:=e_ (r:=(.ok ws)) U bY
 try dsimp only at U
 have bL:=b2.eO m2 bx gJ;have dx:=bL.bj.one;obtain ⟨ar,aC,bl⟩:=bL.st b8 (vcs a0 yf);simp only [dx.1,dx.2.1,dx.2.2,aC,↓aa,ad,simprocAttr];refine gf (fun r g=>r 0=.ptr (an ak) 0/\r 2=.ptr (an h.next) 0/\r 3=.ptr (an ag.next) 0/\∃m a b5 rg,m<=n/\cE W ab ak h g aA rg d [(ag.next,vcs a b5),(h.next,b8)] [(a,b5)]/\(rg >>= fun ws=>(aU ab m).lM d a ws)=res) (fun _ g=>mI W ak g) ?_ ?_
 . exact ⟨by simp only [↓aa,cQ,simprocAttr],by simp only [↓aa,cQ,simprocAttr],by simp only [↓aa,cQ,simprocAttr],n,_,_,_,ao1 _,bl.only,U⟩
 rintro r aT ⟨aW,bf,bU,m,a,b5,rg,hm,a7,U⟩;have c9:=a7.CP;simp only [aW,bf,bU,c9.1,c9.2.1,c9.2.2,↓aa,ad,simprocAttr];refine bQ (jO a7.C) ?_;cases rg with
 | error e=>
   replace U:=k4 U;have o:=a7.bj.one;have bd:=a7.drop.dt (vcs a b5);simp only [bd.a'.g,o.1,o.2.1,o.2.2,aY,vcs,bR,kr,a7.a'.g,a7.bW.g,aW,bf,bU,c9.1,c9.2.1,c9.2.2,↓aa,ad,simprocAttr];exact bd.fin U
 | ok dj=>
   replace U:=hp U
   try dsimp only at U
   cases m with
   | zero=>exact (a8 U.symm).elim
   | succ m=>
     replace U:uu (aU ab m) d a dj=res:=U;unfold uu at U;have I:=J m (by omega);simp only [j6,aW,bf,bU,c9.1,c9.2.1,c9.2.2,↓aa,ad,simprocAttr];refine bQ (fi a7.C kW) ?_;simp only [im,↓aa,ad,simprocAttr];refine jE (.bool (bb q6 dj)) (fun ax=>by simp only [ax,aW,↓aa,ad,simprocAttr];exact fi a7.C q6) ?_;simp only [im,↓aa,ad,simprocAttr];refine jE (.bool (bb qL dj)) (fun ax=>by simp only [ax,aW,↓aa,ad,simprocAttr];exact fi a7.C qL) ?_;have di:(bb kW dj||bb q6 dj||bb qL dj)=(nS dj).isSome:=aiG _;cases bJ:nS dj with
     | none=>
       rw [bJ] at di;simp only [bJ] at U;have o:=a7.bj.one;have bd:=a7.drop.dt (vcs a b5);simp only [bd.a'.g,o.1,o.2.1,o.2.2,aY,vcs,bR,im,di,Option.isSome_none,a7.a'.g,a7.bW.g,aW,bf,bU,c9.1,c9.2.1,c9.2.2,↓aa,ad,simprocAttr];exact bd.fin U.symm
     | some s=>
       rw [bJ] at di;simp only [bJ] at U;obtain ⟨B9,tY⟩:=aiI bJ;obtain ⟨i5,pM,gX,bC,⟨iF,KD,KE⟩,uP,ca,m5,bV⟩:=a7.C.read B9;have bO:=a7.call m5 bV;simp only [im,di,Option.isSome_some,iF.g,KD,KE,uP,ca,aW,bf,bU,c9.1,c9.2.1,c9.2.2,↓aa,ad,simprocAttr];refine aX (I.pre d _ bC aA bO.C (fC (r:=(.ok dj.tail)) U a8)) ?_;rintro x bA ⟨b,eM,ea,i',rfl,k2,m6,cv⟩;replace U:=e_ (r:=(.ok dj.tail)) U i'
       try dsimp only at U
       have cg:=bO.eO m6 cv k2;have gn:=cg.bj.one;obtain ⟨cd,dy,cV⟩:=cg.st b8 (vcs b eM);have kA:=cV.ck.one;have kB:=cV.bj.one;obtain ⟨et,dH,ga,dJ⟩:=cV.qQ cV.ck cV.bj 38 a.a (s:=s) tY;simp only [vcs,apm,apx] at dH;simp only [gn.1,gn.2.1,gn.2.2,dy,cV.bW.g,cV.a'.g,kA.1,kA.2.1,kA.2.2,kB.1,kB.2.1,kB.2.2,dH,aW,bf,bU,c9.1,c9.2.1,c9.2.2,↓aa,ad,simprocAttr];refine aX (gh 38 a.a s dJ.bj.c7) ?_;rintro x fD ⟨rfl,jD⟩;have er:=dJ.ext jD;have ow:=er.bj.one;have fp:=er.vQ [.int .i64 38,.int .i64 0,.int .i64 a.a,.str s,(.slice (an cd.next) 0 2 2)];generalize mf:fD.set _ _=iN at fp;simp only [ow.1,ow.2.1,ow.2.2,vcs,bR,er.bW.g,mf,aW,bf,bU,c9.1,c9.2.1,c9.2.2,↓aa,ad,simprocAttr];exact ⟨⟨m,(aN.mk 38 0 a.a s [a,b]),(.slice (an cd.next) 0 2 2),_,by omega,fp.drop.only,by exact U⟩,sS a7.C fp.C (shr ((shorter ab m).pre d _ (.inl trivial)) i' (At _))⟩
end
section
variable {W:List aq} {ab ak n d:Nat} {ws:List aq} {r:bH (List aq)}
theorem Bg {α β:Type} {q:bH (α × List aq)} {f:α × List aq->β × List aq} {p:α} {P:β} {res:bH (β × List aq)} (U:q.map f=res) (E:q=r.map (fun ws=>(p,ws))) (aE:∀ws,f (p,ws)=(P,ws)):res=r.map (fun ws=>(P,ws)):=by
 rw [<-U,E];cases r with
 | ok ws=>exact congrArg Except.ok (aE ws)
 | error e=>rfl
theorem Hv {α β:Type} {q:bH (α × List aq)} {f:α × List aq->β} {res:bH β} (U:q.map f=res) (a8:res≠.error b7) {aB:List aq} {F:List aq->bH (α × List aq)} (e:F aB=q):∀w,(Except.ok aB:bH (List aq))=.ok w->F w≠.error b7:=by rintro w h z;cases h;rw [e] at z;rw [z] at U;exact a8 U.symm
theorem qb {h:ah} {aA:V} (C:dw W ab ak h aA (.ok ws) d) {k:Int} (aD:cJ k ws=true):dW Tryz.prog 69 [.ptr (an ak) 0,.int .i64 k] h fun x af=>Mod (b3 ak) h af/\∃w,fg ab k ws=.ok (w,ws.tail)/\x=.agg w.enc/\iJ W k w/\dw W ab ak af aA (.ok ws.tail) d:=by
 refine (yd C k).mono ?_;rintro x af ⟨m,w,bq,E,rfl,hw,fo⟩;cases ws with
 | nil=>cases aD
 | cons v t=>
   simp only [cJ,apf] at aD;have e:fg ab k (v::t)=.ok (v,t):=by simp only [fg,ape aD]
   replace E:fg ab k (v::t)=bq.map (fun ws=>(w,ws)):=E;rw [e] at E;cases bq with
   | error e=>cases E
   | ok j1=>
     obtain ⟨rfl,rfl⟩:=Prod.mk.inj (Except.ok.inj E);exact ⟨m,v,e,rfl,hw,fo⟩
theorem Tl {h:ah} {aA:V} (C:dw W ab ak h aA (.ok ws) d):e' Tryz.prog 235 [.ptr (an ak) 0] h (.bool (n1 ws)) h:=by
 refine jj (X2.z rfl (cl ?_));unfold NM;simp only [↓aa,ad,simprocAttr];refine bQ (lF C 1) ?_;simp only [im,↓aa,ad,simprocAttr];refine jE (.bool (cJ 2 ws)) (fun ax=>by simp only [ax,↓aa,ad,simprocAttr];exact lF C 2) ?_;simp only [im,↓aa,ad,simprocAttr];refine jE (.bool (cJ 3 ws)) (fun ax=>by simp only [ax,↓aa,ad,simprocAttr];exact lF C 3) ?_;simp only [im,↓aa,ad,simprocAttr];refine jE (.bool (cJ 4 ws)) (fun ax=>by simp only [ax,↓aa,ad,simprocAttr];exact lF C 4) ?_;simp only [im,↓aa,ad,simprocAttr];refine jE (.bool (bb e9 ws)) (fun ax=>by simp only [ax,↓aa,ad,simprocAttr];exact fi C e9) ?_;simp only [im,↓aa,ad,simprocAttr];refine jE (.bool (bb pj ws)) (fun ax=>by simp only [ax,↓aa,ad,simprocAttr];exact fi C pj) ?_;simp only [im,↓aa,ad,simprocAttr];refine jE (.bool (bb h3 ws)) (fun ax=>by simp only [ax,↓aa,ad,simprocAttr];exact fi C h3) ?_;simp only [im,↓aa,ad,simprocAttr];refine jE (.bool (bb iE ws)) (fun ax=>by simp only [ax,↓aa,ad,simprocAttr];exact fi C iE) ?_;have di:(cJ 1 ws||cJ 2 ws||cJ 3 ws||cJ 4 ws||bb e9 ws||bb pj ws||bb h3 ws||bb iE ws)=n1 ws:=by simp only [n1,r6,List.any_cons,List.any_nil,Bool.or_false];ac_rfl
 simp only [im,di,↓aa,ad,simprocAttr]
theorem Wq {h:ah} {aA:V} (C:dw W ab ak h aA (.ok ws) d):e' Tryz.prog 155 [.ptr (an ak) 0] h (.bool (ya ws)) h:=by
 refine jj (Xw.z rfl (cl ?_));unfold Nl;simp only [↓aa,ad,simprocAttr];refine bQ (lF C 3) ?_;simp only [im,↓aa,ad,simprocAttr];refine jE (.bool (cJ 1 ws)) (fun ax=>by simp only [ax,↓aa,ad,simprocAttr];exact lF C 1) ?_;simp only [im,↓aa,ad,simprocAttr];refine jE (.bool (cJ 4 ws)) (fun ax=>by simp only [ax,↓aa,ad,simprocAttr];exact lF C 4) ?_;simp only [im,↓aa,ad,simprocAttr];refine jE (.bool (bb iW ws)) (fun ax=>by simp only [ax,↓aa,ad,simprocAttr];exact fi C iW) ?_;simp only [im,↓aa,ad,simprocAttr];refine jE (.bool (bb hN ws)) (fun ax=>by simp only [ax,↓aa,ad,simprocAttr];exact fi C hN) ?_;simp only [im,↓aa,ad,simprocAttr];refine jE (.bool (bb e9 ws)) (fun ax=>by simp only [ax,↓aa,ad,simprocAttr];exact fi C e9) ?_;simp only [im,↓aa,ad,simprocAttr];refine jE (.bool (bb h3 ws)) (fun ax=>by simp only [ax,↓aa,ad,simprocAttr];exact fi C h3) ?_;simp only [im,↓aa,ad,simprocAttr];refine jE (.bool (bb iE ws)) (fun ax=>by simp only [ax,↓aa,ad,simprocAttr];exact fi C iE) ?_;have di:(cJ 3 ws||cJ 1 ws||cJ 4 ws||bb iW ws||bb hN ws||bb e9 ws||bb h3 ws||bb iE ws)=ya ws:=by simp only [ya,r6,List.any_cons,List.any_nil,Bool.or_false];ac_rfl
 simp only [im,di,↓aa,ad,simprocAttr]
theorem DE {h:ah} {aA:V} (k:Int) (C:dw W ab ak h aA (.ok ws) d) (hw:ws≠[]):dW Tryz.prog 189 [.ptr (an ak) 0,.int .i64 k] h (Out W ab ak h aA d (.ok (.mk k (if bb h3 ws=true then 1 else 0) (bG ab ws) [] [],ws.tail))):=by
 refine XH.z rfl (cl ?_);unfold Nv;have ee:=cE.start C;obtain ⟨ae,ao,b2⟩:=ee.new b8;simp only [ao,↓aa,ad,simprocAttr];refine bQ (sA b2.C) ?_;have L4:=b2.leaf k 0 (bG ab ws) (s:=[]) (api _);simp only [↓aa,ad,simprocAttr];refine aX (gh k (bG ab ws) [] L4.bj.c7) ?_;rintro x ag ⟨rfl,bu⟩;have bL:=L4.ext bu;obtain ⟨ar,aC,bl⟩:=bL.st b8 [.int .i64 k,.int .i64 0,.int .i64 (bG ab ws),.str [],.cS];simp only [aC,vcs,bR,↓aa,ad,simprocAttr];refine bQ (fi bl.C h3) ?_;cases b_:bb h3 ws with
 | true=>
   rw [ape rfl];have a7:=bl.dt [.int .i64 k,.int .i64 1,.int .i64 (bG ab ws),.str [],.cS];generalize bs:ar.set _ _=aT at a7;obtain ⟨i5,bC,iF,uP,ca,m5,bV⟩:=a7.C.iK hw;have bO:=a7.call m5 bV;have gV:=bO.leaf k 1 (bG ab ws) (s:=[]) (api _);have o:=gV.bj.one;have bd:=gV.drop.dt (vcs (.mk k 1 (bG ab ws) [] []) .cS);simp only [bd.a'.g,o.1,o.2.1,o.2.2,aY,vcs,bR,bl.a'.g,bs,iF.g,uP,ca,gV.a'.g,gV.bW.g,↓aa,ad,simprocAttr];exact bd.fin rfl
 | false=>
   rw [ao_ apu];obtain ⟨i4,aT,eF,qe,bs,m4,cf⟩:=bl.C.iK hw;have a7:=bl.call m4 cf;have o:=a7.bj.one;have bd:=a7.drop.dt (vcs (aN.mk k 0 (bG ab ws) [] []) .cS);simp only [bd.a'.g,o.1,o.2.1,o.2.2,aY,vcs,bR,eF.g,qe,bs,a7.a'.g,a7.bW.g,↓aa,ad,simprocAttr];exact bd.fin rfl
theorem Wi (I:jB W ab ak n) (d:Nat) (ws:List aq):e6 W ab ak 234 [] d ((aU ab (n+1)).atom d) (.ok ws):=by
 refine lp fun h aA res C U a8=>X1.z rfl (cl ?_);replace U:tr ab (aU ab n) d ws=res:=U;unfold tr at U;unfold NL;have ee:=cE.start C;dsimp only at U;obtain ⟨ae,ao,b2⟩:=ee.new b8;simp only [ao,↓aa,ad,simprocAttr];refine bQ (sA b2.C) ?_;simp only [↓aa,ad,simprocAttr];refine bQ (lF b2.C 1) ?_;cases b_:cJ 1 ws with
 | true=>
   simp only [b_,apd] at U;simp only [↓aa,ad,simprocAttr];refine aX (qb b2.C b_) ?_;rintro x ag ⟨m2,aQ,bY,rfl,e8,bx⟩;rw [bY] at U
   try replace U:=hp U
   try dsimp only at U
   have bL:=b2.call m2 bx;obtain ⟨ar,aC,bl⟩:=bL.st [.int .i64 0,.int .i64 0,.int .i64 0,.str []] [.int .i64 aQ.kind,.int .i64 aQ.num,.int .i64 aQ.pos,.str aQ.text];have gV:=bl.leaf 20 aQ.num (bG ab ws) (s:=[]) (api _);have o:=gV.bj.one;have bd:=gV.drop.dt (vcs (.mk 20 aQ.num (bG ab ws) [] []) .cS);simp only [bd.a'.g,o.1,o.2.1,o.2.2,aY,vcs,bR,aq.enc,aC,bl.a'.g,gV.a'.g,gV.bW.g,↓aa,ad,simprocAttr];exact bd.fin U.symm
 | false=>
   simp only [b_,ao2,apa] at U;simp only [↓aa,ad,simprocAttr];refine bQ (lF b2.C 2) ?_;cases dC:cJ 2 ws with
   | true=>
     simp only [dC,apd] at U;simp only [↓aa,ad,simprocAttr];refine aX (qb b2.C dC) ?_;rintro x ag ⟨m2,aQ,bY,rfl,e8,bx⟩;rw [bY] at U
     try replace U:=hp U
     try dsimp only at U
     have bL:=b2.call m2 bx;obtain ⟨ar,aC,bl⟩:=bL.st [.int .i64 0,.int .i64 0,.int .i64 0,.str []] [.int .i64 aQ.kind,.int .i64 aQ.num,.int .i64 aQ.pos,.str aQ.text];have gB:=bl.leaf 21 0 (bG ab ws) (s:=aQ.text) (iJ.fj bl.C e8);simp only [aq.enc,aC,bl.a'.g,↓aa,ad,simprocAttr];refine aX (gh 21 (bG ab ws) aQ.text gB.bj.c7) ?_;rintro x aT ⟨rfl,cN⟩;have a7:=gB.ext cN;have o:=a7.bj.one;have bd:=a7.drop.dt (vcs (aN.mk 21 0 (bG ab ws) aQ.text []) .cS);simp only [bd.a'.g,o.1,o.2.1,o.2.2,aY,vcs,bR,a7.a'.g,a7.bW.g,↓aa,ad,simprocAttr];exact bd.fin U.symm
   | false=>
     simp only [dC,ao2,apa] at U;simp only [↓aa,ad,simprocAttr];refine bQ (lF b2.C 3) ?_;cases eP:cJ 3 ws with
     | true=>
       simp only [eP,apd] at U;simp only [↓aa,ad,simprocAttr];refine aX (qb b2.C eP) ?_;rintro x ag ⟨m2,aQ,bY,rfl,e8,bx⟩;rw [bY] at U
       try replace U:=hp U
       try dsimp only at U
       have bL:=b2.call m2 bx;obtain ⟨ar,aC,bl⟩:=bL.st [.int .i64 0,.int .i64 0,.int .i64 0,.str []] [.int .i64 aQ.kind,.int .i64 aQ.num,.int .i64 aQ.pos,.str aQ.text];have gB:=bl.leaf 24 0 (bG ab ws) (s:=aQ.text) (iJ.fj bl.C e8);simp only [aq.enc,aC,bl.a'.g,↓aa,ad,simprocAttr];refine aX (gh 24 (bG ab ws) aQ.text gB.bj.c7) ?_;rintro x aT ⟨rfl,cN⟩;have a7:=gB.ext cN;have o:=a7.bj.one;have bd:=a7.drop.dt (vcs (aN.mk 24 0 (bG ab ws) aQ.text []) .cS);simp only [bd.a'.g,o.1,o.2.1,o.2.2,aY,vcs,bR,a7.a'.g,a7.bW.g,↓aa,ad,simprocAttr];exact bd.fin U.symm
     | false=>
       simp only [eP,ao2,apa] at U;simp only [↓aa,ad,simprocAttr];refine bQ (lF b2.C 4) ?_;cases ju:cJ 4 ws with
       | true=>
         simp only [ju,apd] at U;simp only [↓aa,ad,simprocAttr];refine aX (qb b2.C ju) ?_;rintro x ag ⟨m2,aQ,bY,rfl,e8,bx⟩;rw [bY] at U
         try replace U:=hp U
         try dsimp only at U
         have bL:=b2.call m2 bx;obtain ⟨ar,aC,bl⟩:=bL.st [.int .i64 0,.int .i64 0,.int .i64 0,.str []] [.int .i64 aQ.kind,.int .i64 aQ.num,.int .i64 aQ.pos,.str aQ.text];have gB:=bl.leaf 25 0 (bG ab ws) (s:=aQ.text) (iJ.fj bl.C e8);simp only [aq.enc,aC,bl.a'.g,↓aa,ad,simprocAttr];refine aX (gh 25 (bG ab ws) aQ.text gB.bj.c7) ?_;rintro x aT ⟨rfl,cN⟩;have a7:=gB.ext cN;have o:=a7.bj.one;have bd:=a7.drop.dt (vcs (aN.mk 25 0 (bG ab ws) aQ.text []) .cS);simp only [bd.a'.g,o.1,o.2.1,o.2.2,aY,vcs,bR,a7.a'.g,a7.bW.g,↓aa,ad,simprocAttr];exact bd.fin U.symm
       | false=>
         simp only [ju,ao2,apa] at U;simp only [↓aa,ad,simprocAttr];refine bQ (fi b2.C h3) ?_;cases kO:bb h3 ws with
         | true=>
           simp only [kO,apd] at U;simp only [↓aa,ad,simprocAttr];refine aX (DE 23 b2.C (gS kO)) ?_;rintro x ag ⟨c,ev,bf,bY,rfl,gJ,m2,bx⟩;rw [ape kO] at bY;have bL:=b2.eO m2 bx gJ;have o:=bL.bj.one;have bd:=bL.dt (vcs c ev);simp only [bd.a'.g,o.1,o.2.1,o.2.2,aY,vcs,bR,bL.a'.g,↓aa,ad,simprocAttr];exact bd.fin (U.symm.trans bY)
         | false=>
           simp only [kO,ao2,apa] at U;simp only [↓aa,ad,simprocAttr];refine bQ (fi b2.C iE) ?_;cases kP:bb iE ws with
           | true=>
             simp only [kP,apd] at U;simp only [↓aa,ad,simprocAttr];refine aX (DE 23 b2.C (gS kP)) ?_;rintro x ag ⟨c,ev,bf,bY,rfl,gJ,m2,bx⟩;rw [ao_ (by rw [kO];exact apu)] at bY;have bL:=b2.eO m2 bx gJ;have o:=bL.bj.one;have bd:=bL.dt (vcs c ev);simp only [bd.a'.g,o.1,o.2.1,o.2.2,aY,vcs,bR,bL.a'.g,↓aa,ad,simprocAttr];exact bd.fin (U.symm.trans bY)
           | false=>
             simp only [kP,ao2,apa] at U;simp only [↓aa,ad,simprocAttr];refine bQ (fi b2.C pj) ?_;cases pX:bb pj ws with
             | true=>
               simp only [pX,apd] at U;obtain ⟨i2,ag,ft,ml,av,m2,bx⟩:=b2.C.iK (gS pX);have bL:=b2.call m2 bx;simp only [ft.g,ml,av,↓aa,ad,simprocAttr];refine aX (I.seq d _ ag aA bL.C (fC (r:=(.ok ws.tail)) U a8)) ?_;rintro x ar ⟨a,b5,bU,fT,rfl,gC,m3,cq⟩;replace U:=e_ (r:=(.ok ws.tail)) U fT
               try dsimp only at U
               have bl:=bL.eO m3 cq gC;have c2:=bl.bj.one;obtain ⟨aT,bs,a7⟩:=bl.st b8 (vcs a b5);simp only [c2.1,c2.2.1,c2.2.2,bs,↓aa,ad,simprocAttr];refine aX (iB a7.C EX) ?_;rintro x bC ⟨m5,b4,eY,bV⟩;replace U:=i_ (r:=bU) U eY
               try dsimp only at U
               have bO:=a7.call m5 bV;have o:=bO.bj.one;have bd:=bO.drop.dt (vcs a b5);simp only [bd.a'.g,o.1,o.2.1,o.2.2,aY,vcs,bR,bO.a'.g,bO.bW.g,↓aa,ad,simprocAttr];exact bd.fin (jo U)
             | false=>
               simp only [pX,ao2,apa] at U;simp only [↓aa,ad,simprocAttr];refine aX (iB b2.C e9) ?_;rintro x ag ⟨m2,bf,bY,bx⟩;replace U:=i_ (r:=(.ok ws)) U bY
               try dsimp only at U
               have bL:=b2.call m2 bx;simp only [↓aa,ad,simprocAttr];refine bQ (jO bL.C) ?_;cases bf with
               | error e=>
                 replace U:=k4 U;replace U:(Except.error e >>= fun ws=>(aU ab n).seq d ws >>= fun q=>ec ab ej q.2 >>= fun w=>.ok (q.1,w))=res:=U.symm;simp only [kr,↓aa,ad,simprocAttr];refine aX (I.seq d _ ag aA bL.C (fC (r:=(.error e)) U a8)) ?_;rintro x ar ⟨a,b5,bU,fT,rfl,gC,m3,cq⟩;replace U:=e_ (r:=(.error e)) U fT
                 try dsimp only at U
                 have bl:=bL.eO m3 cq gC;have c2:=bl.bj.one;obtain ⟨aT,bs,a7⟩:=bl.st b8 (vcs a b5);simp only [c2.1,c2.2.1,c2.2.2,bs,↓aa,ad,simprocAttr];refine aX (iB a7.C ej) ?_;rintro x bC ⟨m5,b4,eY,bV⟩;replace U:=i_ (r:=bU) U eY
                 try dsimp only at U
                 have bO:=a7.call m5 bV;have o:=bO.bj.one;have bd:=bO.drop.dt (vcs a b5);simp only [bd.a'.g,o.1,o.2.1,o.2.2,aY,vcs,bR,bO.a'.g,bO.bW.g,↓aa,ad,simprocAttr];exact bd.fin (jo U)
               | ok yo=>
                 replace U:=hp U
                 try dsimp only at U
                 simp only [j6,↓aa,ad,simprocAttr];refine bQ (fi bL.C ej) ?_;cases pY:bb ej yo with
                 | true=>
                   simp only [pY,apd] at U;obtain ⟨i3,ar,fl,yk,aC,m3,cq⟩:=bL.C.iK (gS pY);have bl:=bL.call m3 cq;have gB:=bl.leaf 22 0 (bG ab ws) (s:=[]) (api _);simp only [fl.g,yk,aC,↓aa,ad,simprocAttr];refine aX (gh 22 (bG ab ws) [] gB.bj.c7) ?_;rintro x aT ⟨rfl,cN⟩;have a7:=gB.ext cN;have o:=a7.bj.one;have bd:=a7.dt (vcs (aN.mk 22 0 (bG ab ws) [] []) .cS);simp only [bd.a'.g,o.1,o.2.1,o.2.2,aY,vcs,bR,a7.a'.g,↓aa,ad,simprocAttr];exact bd.fin U.symm
                 | false=>
                   simp only [pY,ao2,apa] at U;simp only [↓aa,ad,simprocAttr];refine aX (I.seq d _ ag aA bL.C (fC (r:=(.ok yo)) U a8)) ?_;rintro x ar ⟨a,b5,bU,fT,rfl,gC,m3,cq⟩;replace U:=e_ (r:=(.ok yo)) U fT
                   try dsimp only at U
                   have bl:=bL.eO m3 cq gC;have c2:=bl.bj.one;obtain ⟨aT,bs,a7⟩:=bl.st b8 (vcs a b5);simp only [c2.1,c2.2.1,c2.2.2,bs,↓aa,ad,simprocAttr];refine aX (iB a7.C ej) ?_;rintro x bC ⟨m5,b4,eY,bV⟩;replace U:=i_ (r:=bU) U eY
                   try dsimp only at U
                   have bO:=a7.call m5 bV;have o:=bO.bj.one;have bd:=bO.drop.dt (vcs a b5);simp only [bd.a'.g,o.1,o.2.1,o.2.2,aY,vcs,bR,bO.a'.g,bO.bW.g,↓aa,ad,simprocAttr];exact bd.fin (jo U)
end
section
variable {W:List aq} {ab ak n d:Nat} {ws:List aq} {r:bH (List aq)}
theorem aj_ (I:jB W ab ak n) (d:Nat) (ws:List aq):e6 W ab ak 230 [] d ((aU ab (n+1)).pre d) (.ok ws):=by
 refine lp fun h aA res C U a8=>XX.z rfl (cl ?_);replace U:((Except.ok ws:bH (List aq)) >>= fun ws=>jb ab d ws (if bb hN ws then ((aU ab n).pre (d+1) ws.tail).map fun q=>(.mk 39 0 (bG ab ws) [] [q.1],q.2) else if bb x9 ws then ((aU ab n).pre (d+1) ws.tail).map fun q=>(.mk 36 0 (bG ab ws) [] [q.1],q.2) else (aU ab n).app (d+1) ws))=res:=U;unfold NH;have ee:=cE.start C;obtain ⟨ae,ao,b2⟩:=ee.new b8;simp only [ao,↓aa,ad,simprocAttr];refine aX (D0 b2.C) ?_;rintro x ag ⟨m2,⟨rfl,Aw,ad',a_,bx⟩ | ⟨rfl,e,bx,eh⟩⟩
 rotate_left
 . replace U:=(eh _).symm.trans U;have bL:=(b2.call m2 bx).leaf 0 0 0 (s:=[]) (api _);have bd:=bL.dt b8;simp only [bL.a'.g,bd.a'.g,aY,↓aa,ad,simprocAttr];exact bd.fin (r:=.error e) U.symm
 cases ad';replace U:=hp U;unfold jb at U;rw [ao_ (by omega)] at U
 try dsimp only at U
 have bL:=b2.call m2 bx;simp only [↓aa,ad,simprocAttr];refine bQ (sA bL.C) ?_;obtain ⟨ar,aC,bl⟩:=bL.new b8;simp only [aC,↓aa,ad,simprocAttr];refine bQ (fi bl.C hN) ?_;cases b_:bb hN ws with
 | true=>
   simp only [b_,apd] at U;obtain ⟨i4,aT,eF,qe,bs,m4,cf⟩:=bl.C.iK (gS b_);have a7:=bl.call m4 cf;simp only [eF.g,qe,bs,↓aa,ad,simprocAttr];refine aX (I.pre (d+1) _ aT aA a7.C (Hv U a8 rfl)) ?_;rintro x bC ⟨b,eM,b4,eY,rfl,jn,m5,bV⟩;have bO:=a7.eO m5 bV jn;have eQ:=bO.bj.one;obtain ⟨bA,cD,cg⟩:=bO.st b8 (vcs b eM);have fc:=cg.bj.one;obtain ⟨cd,dy,dI,cV⟩:=cg.vC cg.bj 39 (bG ab ws) (s:=[]) (api _);simp only [eQ.1,eQ.2.1,eQ.2.2,cD,cg.a'.g,fc.1,fc.2.1,fc.2.2,dy,↓aa,ad,simprocAttr];refine aX (gh 39 (bG ab ws) [] cV.bj.c7) ?_;rintro x et ⟨rfl,ga⟩;have dJ:=cV.ext ga;have hX:=dJ.bj.one;have er:=dJ.vQ [.int .i64 39,.int .i64 0,.int .i64 (bG ab ws),.str [],(.slice (an bA.next) 0 1 1)];generalize mg:et.set _ _=fD at er;simp only [vcs,bR,dJ.bW.g,mg,hX.1,hX.2.1,hX.2.2,↓aa,ad,simprocAttr];refine aX (vB er.C) ?_;rintro x iN ⟨m10,iZ⟩;have fp:=er.call m10 iZ;have o:=fp.bj.one;have bd:=fp.drop.drop.dt (vcs (aN.mk 39 0 (bG ab ws) [] [b]) (.slice (an bA.next) 0 1 1));simp only [bd.a'.g,o.1,o.2.1,o.2.2,aY,vcs,bR,fp.a'.g,fp.bW.g,fp.df.g,hX.1,hX.2.1,hX.2.2,↓aa,ad,simprocAttr];exact bd.fin (Bg U eY fun _=>rfl)
 | false=>
   simp only [b_,ao2,apa] at U;simp only [↓aa,ad,simprocAttr];refine bQ (fi bl.C x9) ?_;cases dC:bb x9 ws with
   | true=>
     simp only [dC,apd] at U;obtain ⟨i4,aT,eF,qe,bs,m4,cf⟩:=bl.C.iK (gS dC);have a7:=bl.call m4 cf;simp only [eF.g,qe,bs,↓aa,ad,simprocAttr];refine aX (I.pre (d+1) _ aT aA a7.C (Hv U a8 rfl)) ?_;rintro x bC ⟨b,eM,b4,eY,rfl,jn,m5,bV⟩;have bO:=a7.eO m5 bV jn;have eQ:=bO.bj.one;obtain ⟨bA,cD,cg⟩:=bO.st b8 (vcs b eM);have fc:=cg.bj.one;obtain ⟨cd,dy,dI,cV⟩:=cg.vC cg.bj 36 (bG ab ws) (s:=[]) (api _);simp only [eQ.1,eQ.2.1,eQ.2.2,cD,cg.a'.g,fc.1,fc.2.1,fc.2.2,dy,↓aa,ad,simprocAttr];refine aX (gh 36 (bG ab ws) [] cV.bj.c7) ?_;rintro x et ⟨rfl,ga⟩;have dJ:=cV.ext ga;have hX:=dJ.bj.one;have er:=dJ.vQ [.int .i64 36,.int .i64 0,.int .i64 (bG ab ws),.str [],(.slice (an bA.next) 0 1 1)];generalize mg:et.set _ _=fD at er;simp only [vcs,bR,dJ.bW.g,mg,hX.1,hX.2.1,hX.2.2,↓aa,ad,simprocAttr];refine aX (vB er.C) ?_;rintro x iN ⟨m10,iZ⟩;have fp:=er.call m10 iZ;have o:=fp.bj.one;have bd:=fp.drop.drop.dt (vcs (aN.mk 36 0 (bG ab ws) [] [b]) (.slice (an bA.next) 0 1 1));simp only [bd.a'.g,o.1,o.2.1,o.2.2,aY,vcs,bR,fp.a'.g,fp.bW.g,fp.df.g,hX.1,hX.2.1,hX.2.2,↓aa,ad,simprocAttr];exact bd.fin (Bg U eY fun _=>rfl)
   | false=>
     simp only [dC,ao2,apa] at U;simp only [↓aa,ad,simprocAttr];refine aX (I.app (d+1) ws ar aA bl.C (fun w e q=>by cases e;rw [q] at U;exact a8 U.symm)) ?_;rintro x aT ⟨c,ev,cU,j4,rfl,sb,m4,cf⟩;have a7:=bl.eO m4 cf sb;have hX:=a7.bj.one;have bO:=a7.dt (vcs c ev);generalize ca:aT.set _ _=bC at bO;simp only [a7.a'.g,ca,hX.1,hX.2.1,hX.2.2,↓aa,ad,simprocAttr];refine aX (vB bO.C) ?_;rintro x bA ⟨m6,cv⟩;have cg:=bO.call m6 cv;have o:=cg.bj.one;have bd:=cg.drop.dt (vcs c ev);simp only [bd.a'.g,o.1,o.2.1,o.2.2,aY,vcs,bR,cg.a'.g,cg.bW.g,hX.1,hX.2.1,hX.2.2,↓aa,ad,simprocAttr];exact bd.fin (U.symm.trans j4)
theorem V0 (J:∀m,m<=n->jB W ab ak m) (d:Nat) (ws:List aq):e6 W ab ak 233 [] d ((aU ab (n+1)).app d) (.ok ws):=by
 have I:=J n (ao1 n);refine lp fun h aA res C U a8=>X0.z rfl (cl ?_);replace U:sc ab (aU ab n) d ws=res:=U;unfold sc at U;unfold NK;have ee:=cE.start C;dsimp only at U;obtain ⟨ae,ao,b2⟩:=ee.new b8;simp only [ao,↓aa,ad,simprocAttr];refine bQ (sA b2.C) ?_;simp only [↓aa,ad,simprocAttr];refine bQ (fi b2.C zD) ?_;cases b_:bb zD ws with
 | true=>
   simp only [b_,apd] at U;obtain ⟨i2,ag,ft,ml,av,m2,bx⟩:=b2.C.iK (gS b_);have bL:=b2.call m2 bx;simp only [ft.g,ml,av,↓aa,ad,simprocAttr];refine aX (I.atom d _ ag aA bL.C (Hv U a8 rfl)) ?_;rintro x ar ⟨a,b5,bU,fT,rfl,gC,m3,cq⟩;have bl:=bL.eO m3 cq gC;have c2:=bl.bj.one;obtain ⟨aT,bs,a7⟩:=bl.st b8 (vcs a b5);have xY:=a7.bj.one;obtain ⟨bC,ca,e7,bO⟩:=a7.vC a7.bj 34 (bG ab ws) (s:=[]) (api _);simp only [c2.1,c2.2.1,c2.2.2,bs,a7.a'.g,xY.1,xY.2.1,xY.2.2,ca,↓aa,ad,simprocAttr];refine aX (gh 34 (bG ab ws) [] bO.bj.c7) ?_;rintro x bA ⟨rfl,eS⟩;have cg:=bO.ext eS;have o:=cg.bj.one;have bd:=cg.drop.dt (vcs (aN.mk 34 0 (bG ab ws) [] [a]) (.slice (an aT.next) 0 1 1));simp only [bd.a'.g,o.1,o.2.1,o.2.2,aY,vcs,bR,cg.a'.g,cg.bW.g,↓aa,ad,simprocAttr];exact bd.fin (Bg U fT fun _=>rfl)
 | false=>
   simp only [b_,ao2,apa] at U;simp only [↓aa,ad,simprocAttr];refine bQ (lF b2.C 4) ?_;cases dC:cJ 4 ws with
   | true=>
     simp only [dC,apd] at U;simp only [↓aa,ad,simprocAttr];refine aX (qb b2.C dC) ?_;rintro x ag ⟨m2,aQ,bY,rfl,e8,bx⟩;rw [bY] at U
     try replace U:=hp U
     try dsimp only at U
     have bL:=b2.call m2 bx;obtain ⟨ar,aC,bl⟩:=bL.st [.int .i64 0,.int .i64 0,.int .i64 0,.str []] [.int .i64 aQ.kind,.int .i64 aQ.num,.int .i64 aQ.pos,.str aQ.text];simp only [aq.enc,aC,↓aa,ad,simprocAttr];refine bQ (Tl bl.C) ?_;cases eP:n1 ws.tail with
     | true=>
       simp only [eP,apd] at U;simp only [bl.a'.g,↓aa,ad,simprocAttr];refine aX (I.atom d _ ar aA bl.C (fC (r:=(.ok ws.tail)) U a8)) ?_;rintro x aT ⟨a,b5,cU,j4,rfl,sb,m4,cf⟩;replace U:=e_ (r:=(.ok ws.tail)) U j4
       try dsimp only at U
       have a7:=bl.eO m4 cf sb;have gX:=a7.bj.one;obtain ⟨bC,ca,bO⟩:=a7.st b8 (vcs a b5);have ov:=bO.bj.one;obtain ⟨bA,cD,eS,cg⟩:=bO.vC bO.bj 25 (bG ab ws) (s:=aQ.text) (iJ.fj bO.C e8);simp only [gX.1,gX.2.1,gX.2.2,ca,bO.a'.g,bO.bW.g,ov.1,ov.2.1,ov.2.2,cD,↓aa,ad,simprocAttr];refine aX (gh 25 (bG ab ws) aQ.text cg.bj.c7) ?_;rintro x cd ⟨rfl,dI⟩;have cV:=cg.ext dI;have o:=cV.bj.one;have bd:=cV.drop.drop.dt (vcs (aN.mk 25 0 (bG ab ws) aQ.text [a]) (.slice (an bC.next) 0 1 1));simp only [bd.a'.g,o.1,o.2.1,o.2.2,aY,vcs,bR,cV.a'.g,cV.bW.g,cV.df.g,↓aa,ad,simprocAttr];exact bd.fin (jo U)
     | false=>
       simp only [eP,ao2,apa] at U;have gB:=bl.leaf 25 0 (bG ab ws) (s:=aQ.text) (iJ.fj bl.C e8);simp only [bl.a'.g,↓aa,ad,simprocAttr];refine aX (gh 25 (bG ab ws) aQ.text gB.bj.c7) ?_;rintro x aT ⟨rfl,cN⟩;have a7:=gB.ext cN;have o:=a7.bj.one;have bd:=a7.drop.dt (vcs (aN.mk 25 0 (bG ab ws) aQ.text []) .cS);simp only [bd.a'.g,o.1,o.2.1,o.2.2,aY,vcs,bR,a7.a'.g,a7.bW.g,↓aa,ad,simprocAttr];exact bd.fin U.symm
   | false=>
     simp only [dC,ao2,apa] at U;simp only [↓aa,ad,simprocAttr];refine aX (I.atom d _ ae aA b2.C (fC (r:=(.ok ws)) U a8)) ?_;rintro x ag ⟨a0,yf,bf,bY,rfl,gJ,m2,bx⟩;replace U:=e_ (r:=(.ok ws)) U bY
     try dsimp only at U
     have bL:=b2.eO m2 bx gJ;have dx:=bL.bj.one;obtain ⟨ar,aC,bl⟩:=bL.st b8 (vcs a0 yf);simp only [dx.1,dx.2.1,dx.2.2,aC,↓aa,ad,simprocAttr];refine gf (fun r g=>r 0=.ptr (an ak) 0/\r 2=.ptr (an h.next) 0/\r 7=.ptr (an ag.next) 0/\∃m a b5 rg,m<=n/\cE W ab ak h g aA rg d [(ag.next,vcs a b5),(h.next,b8)] [(a,b5)]/\(rg >>= fun ws=>(aU ab m).args d a ws)=res) (fun _ g=>mI W ak g) ?_ ?_
     . exact ⟨by simp only [↓aa,cQ,simprocAttr],by simp only [↓aa,cQ,simprocAttr],by simp only [↓aa,cQ,simprocAttr],n,_,_,_,ao1 _,bl.only,U⟩
     rintro r aT ⟨aW,bf,e3,m,a,b5,rg,hm,a7,U⟩;have c9:=a7.CP;simp only [aW,bf,e3,c9.1,c9.2.1,c9.2.2,↓aa,ad,simprocAttr];refine bQ (jO a7.C) ?_;cases rg with
     | error e=>
       replace U:=k4 U;have o:=a7.bj.one;have bd:=a7.drop.dt (vcs a b5);simp only [bd.a'.g,o.1,o.2.1,o.2.2,aY,vcs,bR,kr,a7.a'.g,a7.bW.g,aW,bf,e3,c9.1,c9.2.1,c9.2.2,↓aa,ad,simprocAttr];exact bd.fin U
     | ok dj=>
       replace U:=hp U
       try dsimp only at U
       cases m with
       | zero=>exact (a8 U.symm).elim
       | succ m=>
         replace U:tm (aU ab m) d a dj=res:=U;unfold tm at U;have I:=J m (by omega);simp only [j6,aW,bf,e3,c9.1,c9.2.1,c9.2.2,↓aa,ad,simprocAttr];refine bQ (Tl a7.C) ?_;cases eP:n1 dj with
         | true=>
           simp only [eP,apd] at U;simp only [aW,bf,e3,c9.1,c9.2.1,c9.2.2,↓aa,ad,simprocAttr];refine aX (I.atom d _ aT aA a7.C (fC (r:=(.ok dj)) U a8)) ?_;rintro x bC ⟨b,eM,b4,eY,rfl,jn,m5,bV⟩;replace U:=e_ (r:=(.ok dj)) U eY
           try dsimp only at U
           have bO:=a7.eO m5 bV jn;have eQ:=bO.bj.one;obtain ⟨bA,cD,cg⟩:=bO.st b8 (vcs b eM);have fc:=cg.ck.one;have mc:=cg.bj.one;obtain ⟨cd,dy,dI,cV⟩:=cg.qQ cg.ck cg.bj 28 a.a (s:=[]) (api _);simp only [vcs,apm,apx] at dy;simp only [eQ.1,eQ.2.1,eQ.2.2,cD,cg.bW.g,cg.a'.g,fc.1,fc.2.1,fc.2.2,mc.1,mc.2.1,mc.2.2,dy,aW,bf,e3,c9.1,c9.2.1,c9.2.2,↓aa,ad,simprocAttr];refine aX (gh 28 a.a [] cV.bj.c7) ?_;rintro x et ⟨rfl,ga⟩;have dJ:=cV.ext ga;have ow:=dJ.bj.one;have er:=dJ.vQ [.int .i64 28,.int .i64 0,.int .i64 a.a,.str [],(.slice (an bA.next) 0 2 2)];generalize mg:et.set _ _=fD at er;simp only [ow.1,ow.2.1,ow.2.2,vcs,bR,dJ.bW.g,mg,aW,bf,e3,c9.1,c9.2.1,c9.2.2,↓aa,ad,simprocAttr];exact ⟨⟨m,(aN.mk 28 0 a.a [] [a,b]),(.slice (an bA.next) 0 2 2),_,by omega,er.drop.only,by exact U⟩,sS a7.C er.C (shr ((shorter ab m).atom d _ (.inl trivial)) eY (ao1 _))⟩
         | false=>
           simp only [eP,ao2,apa] at U;have o:=a7.bj.one;have bd:=a7.drop.dt (vcs a b5);simp only [bd.a'.g,o.1,o.2.1,o.2.2,aY,vcs,bR,a7.a'.g,a7.bW.g,aW,bf,e3,c9.1,c9.2.1,c9.2.2,↓aa,ad,simprocAttr];exact bd.fin U.symm
theorem ahB {a:aN} {w:aq} (aD:cJ 3 ws=true) (E:fg ab 3 ws=.ok (w,ws.tail)):jT a ws=jT (.mk 2 0 a.a w.text [a]) ws.tail:=by
 cases ws with
 | nil=>cases aD
 | cons v t=>
   simp only [cJ,apf] at aD;simp only [fg,ape aD,Except.ok.injEq,apX] at E;obtain ⟨rfl,_⟩:=E;rw [jT,ape aD];rfl
theorem ahA {a:aN} (aD:cJ 3 ws=false):jT a ws=(a,ws):=by
 cases ws with
 | nil=>rfl
 | cons v t=>
   simp only [cJ,apV] at aD;simp only [jT,ao_ aD]
theorem yc (hw:ws≠[]):ws.tail.length<ws.length:=by cases ws with | nil=>exact absurd rfl hw | cons w t=>simp
theorem ahx (I:jB W ab ak n) (d:Nat) (ws:List aq):e6 W ab ak 188 [] d ((aU ab (n+1)).named d) (.ok ws):=by
 refine lp fun h aA res C U a8=>XG.z rfl (cl ?_);replace U:CI (aU ab n) d ws=res:=U;unfold CI at U;unfold Nu;have ee:=cE.start C;obtain ⟨ae,ao,b2⟩:=ee.new b8;simp only [ao,↓aa,ad,simprocAttr];refine aX (I.jk d _ ae aA b2.C (fC (r:=(.ok ws)) U a8)) ?_;rintro x ag ⟨a0,yf,bf,bY,rfl,gJ,m2,bx⟩;replace U:=e_ (r:=(.ok ws)) U bY
 try dsimp only at U
 have bL:=b2.eO m2 bx gJ;have dx:=bL.bj.one;obtain ⟨ar,aC,bl⟩:=bL.st b8 (vcs a0 yf);simp only [dx.1,dx.2.1,dx.2.2,aC,↓aa,ad,simprocAttr];refine gf (fun r g=>r 0=.ptr (an ak) 0/\r 2=.ptr (an h.next) 0/\r 3=.ptr (an ag.next) 0/\∃a b5 rg,cE W ab ak h g aA rg d [(ag.next,vcs a b5),(h.next,b8)] [(a,b5)]/\(rg >>= fun ws=>.ok (jT a ws))=res) (fun _ g=>mI W ak g) ?_ ?_
 . exact ⟨by simp only [↓aa,cQ,simprocAttr],by simp only [↓aa,cQ,simprocAttr],by simp only [↓aa,cQ,simprocAttr],_,_,_,bl.only,U⟩
 rintro r aT ⟨aW,bf,bU,a,b5,rg,a7,U⟩;have c9:=a7.CP;simp only [aW,bf,bU,c9.1,c9.2.1,c9.2.2,↓aa,ad,simprocAttr];refine bQ (jO a7.C) ?_;cases rg with
 | error e=>
   replace U:=k4 U;have o:=a7.bj.one;have bd:=a7.drop.dt (vcs a b5);simp only [bd.a'.g,o.1,o.2.1,o.2.2,aY,vcs,bR,kr,a7.a'.g,a7.bW.g,aW,bf,bU,c9.1,c9.2.1,c9.2.2,↓aa,ad,simprocAttr];exact bd.fin U
 | ok dj=>
   replace U:=hp U
   try dsimp only at U
   simp only [j6,aW,bf,bU,c9.1,c9.2.1,c9.2.2,↓aa,ad,simprocAttr];refine bQ (lF a7.C 3) ?_;cases b_:cJ 3 dj with
   | true=>
     simp only [aW,bf,bU,c9.1,c9.2.1,c9.2.2,↓aa,ad,simprocAttr];refine aX (qb a7.C b_) ?_;rintro x bC ⟨m5,r9,eY,rfl,ad6,bV⟩;rw [ahB b_ eY] at U;have bO:=a7.call m5 bV;obtain ⟨bA,cD,cg⟩:=bO.st [.int .i64 0,.int .i64 0,.int .i64 0,.str []] [.int .i64 r9.kind,.int .i64 r9.num,.int .i64 r9.pos,.str r9.text];have fc:=cg.bj.one;obtain ⟨cd,dy,dI,cV⟩:=cg.vC cg.bj 2 a.a (s:=r9.text) (iJ.fj cg.C ad6);simp only [aq.enc,cD,cg.bW.g,cg.a'.g,fc.1,fc.2.1,fc.2.2,dy,aW,bf,bU,c9.1,c9.2.1,c9.2.2,↓aa,ad,simprocAttr];refine aX (gh 2 a.a r9.text cV.bj.c7) ?_;rintro x et ⟨rfl,ga⟩;have dJ:=cV.ext ga;have ow:=dJ.bj.one;have er:=dJ.vQ [.int .i64 2,.int .i64 0,.int .i64 a.a,.str r9.text,(.slice (an bA.next) 0 1 1)];generalize mg:et.set _ _=fD at er;simp only [ow.1,ow.2.1,ow.2.2,vcs,bR,dJ.bW.g,mg,aW,bf,bU,c9.1,c9.2.1,c9.2.2,↓aa,ad,simprocAttr];exact ⟨⟨(aN.mk 2 0 a.a r9.text [a]),(.slice (an bA.next) 0 1 1),_,er.drop.only,by exact U⟩,sS a7.C er.C (fun w' e=>by cases e;exact yc (agu b_))⟩
   | false=>
     rw [ahA b_] at U;have o:=a7.bj.one;have bd:=a7.drop.dt (vcs a b5);simp only [bd.a'.g,o.1,o.2.1,o.2.2,aY,vcs,bR,a7.a'.g,a7.bW.g,aW,bf,bU,c9.1,c9.2.1,c9.2.2,↓aa,ad,simprocAttr];exact bd.fin U.symm
theorem ajN (I:jB W ab ak n) (d:Nat) (ws:List aq):e6 W ab ak 123 [] d ((aU ab (n+1)).iU d) (.ok ws):=by
 refine lp fun h aA res C U a8=>Xe.z rfl (cl ?_);replace U:ox ab (aU ab n) d ws=res:=U;unfold ox at U;unfold M6;have ee:=cE.start C;obtain ⟨ae,ao,b2⟩:=ee.new b8;simp only [ao,↓aa,ad,simprocAttr];refine bQ (lF b2.C 4) ?_;cases b_:cJ 4 ws with
 | true=>
   simp only [b_,apd] at U;simp only [↓aa,ad,simprocAttr];refine aX (qb b2.C b_) ?_;rintro x ag ⟨m2,aQ,bY,rfl,e8,bx⟩;rw [bY] at U
   try replace U:=hp U
   try dsimp only at U
   have bL:=b2.call m2 bx;obtain ⟨ar,aC,bl⟩:=bL.st [.int .i64 0,.int .i64 0,.int .i64 0,.str []] [.int .i64 aQ.kind,.int .i64 aQ.num,.int .i64 aQ.pos,.str aQ.text];simp only [aq.enc,aC,↓aa,ad,simprocAttr];refine bQ (Wq bl.C) ?_;cases dC:ya ws.tail with
   | true=>
     simp only [dC,apd] at U;simp only [↓aa,ad,simprocAttr];refine aX (I.gP d _ ar aA bl.C (fC (r:=(.ok ws.tail)) U a8)) ?_;rintro x aT ⟨a,b5,cU,j4,rfl,sb,m4,cf⟩;replace U:=e_ (r:=(.ok ws.tail)) U j4
     try dsimp only at U
     have a7:=bl.eO m4 cf sb;have gX:=a7.bj.one;obtain ⟨bC,ca,bO⟩:=a7.st b8 (vcs a b5);have ov:=bO.bj.one;obtain ⟨bA,cD,eS,cg⟩:=bO.vC bO.bj 16 aQ.pos (s:=aQ.text) (iJ.fj bO.C e8);simp only [gX.1,gX.2.1,gX.2.2,ca,bO.a'.g,bO.bW.g,ov.1,ov.2.1,ov.2.2,cD,↓aa,ad,simprocAttr];refine aX (gh 16 aQ.pos aQ.text cg.bj.c7) ?_;rintro x cd ⟨rfl,dI⟩;have cV:=cg.ext dI;have o:=cV.bj.one;have bd:=cV.drop.drop.dt (vcs (aN.mk 16 0 aQ.pos aQ.text [a]) (.slice (an bC.next) 0 1 1));simp only [bd.a'.g,o.1,o.2.1,o.2.2,aY,vcs,bR,cV.a'.g,cV.bW.g,cV.df.g,↓aa,ad,simprocAttr];exact bd.fin (jo U)
   | false=>
     simp only [dC,ao2,apa] at U;have gB:=bl.leaf 16 0 aQ.pos (s:=aQ.text) (iJ.fj bl.C e8);simp only [bl.a'.g,↓aa,ad,simprocAttr];refine aX (gh 16 aQ.pos aQ.text gB.bj.c7) ?_;rintro x aT ⟨rfl,cN⟩;have a7:=gB.ext cN;have o:=a7.bj.one;have bd:=a7.drop.dt (vcs (aN.mk 16 0 aQ.pos aQ.text []) .cS);simp only [bd.a'.g,o.1,o.2.1,o.2.2,aY,vcs,bR,a7.a'.g,a7.bW.g,↓aa,ad,simprocAttr];exact bd.fin U.symm
 | false=>
   simp only [b_,ao2,apa] at U;simp only [↓aa,ad,simprocAttr];refine aX (I.gP d ws ae aA b2.C (fun w e q=>by cases e;rw [q] at U;exact a8 U.symm)) ?_;rintro x ag ⟨c,ev,bf,bY,rfl,gJ,m2,bx⟩;have bL:=b2.eO m2 bx gJ;have o:=bL.bj.one;have bd:=bL.dt (vcs c ev);simp only [bd.a'.g,o.1,o.2.1,o.2.2,aY,vcs,bR,bL.a'.g,↓aa,ad,simprocAttr];exact bd.fin (U.symm.trans bY)
theorem ajP (I:jB W ab ak n) (d:Nat) (ws:List aq):e6 W ab ak 154 [] d ((aU ab (n+1)).gP d) (.ok ws):=by
 refine lp fun h aA res C U a8=>Xv.z rfl (cl ?_);replace U:p_ ab (aU ab n) d ws=res:=U;unfold p_ at U;unfold Nk;have ee:=cE.start C;dsimp only at U;obtain ⟨ae,ao,b2⟩:=ee.new b8;simp only [ao,↓aa,ad,simprocAttr];refine bQ (sA b2.C) ?_;simp only [↓aa,ad,simprocAttr];refine bQ (fi b2.C iW) ?_;cases b_:bb iW ws with
 | true=>
   simp only [b_,apd] at U;obtain ⟨i2,ag,ft,ml,av,m2,bx⟩:=b2.C.iK (gS b_);have bL:=b2.call m2 bx;have AR:=bL.leaf 10 0 (bG ab ws) (s:=[]) (api _);simp only [ft.g,ml,av,↓aa,ad,simprocAttr];refine aX (gh 10 (bG ab ws) [] AR.bj.c7) ?_;rintro x ar ⟨rfl,cT⟩;have bl:=AR.ext cT;have o:=bl.bj.one;have bd:=bl.dt (vcs (aN.mk 10 0 (bG ab ws) [] []) .cS);simp only [bd.a'.g,o.1,o.2.1,o.2.2,aY,vcs,bR,bl.a'.g,↓aa,ad,simprocAttr];exact bd.fin U.symm
 | false=>
   simp only [b_,ao2,apa] at U;simp only [↓aa,ad,simprocAttr];refine bQ (lF b2.C 3) ?_;cases dC:cJ 3 ws with
   | true=>
     simp only [dC,apd] at U;simp only [↓aa,ad,simprocAttr];refine aX (qb b2.C dC) ?_;rintro x ag ⟨m2,aQ,bY,rfl,e8,bx⟩;rw [bY] at U
     try replace U:=hp U
     try dsimp only at U
     have bL:=b2.call m2 bx;obtain ⟨ar,aC,bl⟩:=bL.st [.int .i64 0,.int .i64 0,.int .i64 0,.str []] [.int .i64 aQ.kind,.int .i64 aQ.num,.int .i64 aQ.pos,.str aQ.text];have gB:=bl.leaf 11 0 (bG ab ws) (s:=aQ.text) (iJ.fj bl.C e8);simp only [aq.enc,aC,bl.a'.g,↓aa,ad,simprocAttr];refine aX (gh 11 (bG ab ws) aQ.text gB.bj.c7) ?_;rintro x aT ⟨rfl,cN⟩;have a7:=gB.ext cN;have o:=a7.bj.one;have bd:=a7.drop.dt (vcs (aN.mk 11 0 (bG ab ws) aQ.text []) .cS);simp only [bd.a'.g,o.1,o.2.1,o.2.2,aY,vcs,bR,a7.a'.g,a7.bW.g,↓aa,ad,simprocAttr];exact bd.fin U.symm
   | false=>
     simp only [dC,ao2,apa] at U;simp only [↓aa,ad,simprocAttr];refine bQ (lF b2.C 4) ?_;cases eP:cJ 4 ws with
     | true=>
       simp only [eP,apd] at U;simp only [↓aa,ad,simprocAttr];refine aX (qb b2.C eP) ?_;rintro x ag ⟨m2,aQ,bY,rfl,e8,bx⟩;rw [bY] at U
       try replace U:=hp U
       try dsimp only at U
       have bL:=b2.call m2 bx;obtain ⟨ar,aC,bl⟩:=bL.st [.int .i64 0,.int .i64 0,.int .i64 0,.str []] [.int .i64 aQ.kind,.int .i64 aQ.num,.int .i64 aQ.pos,.str aQ.text];have gB:=bl.leaf 16 0 (bG ab ws) (s:=aQ.text) (iJ.fj bl.C e8);simp only [aq.enc,aC,bl.a'.g,↓aa,ad,simprocAttr];refine aX (gh 16 (bG ab ws) aQ.text gB.bj.c7) ?_;rintro x aT ⟨rfl,cN⟩;have a7:=gB.ext cN;have o:=a7.bj.one;have bd:=a7.drop.dt (vcs (aN.mk 16 0 (bG ab ws) aQ.text []) .cS);simp only [bd.a'.g,o.1,o.2.1,o.2.2,aY,vcs,bR,a7.a'.g,a7.bW.g,↓aa,ad,simprocAttr];exact bd.fin U.symm
     | false=>
       simp only [eP,ao2,apa] at U;simp only [↓aa,ad,simprocAttr];refine bQ (lF b2.C 1) ?_;cases ju:cJ 1 ws with
       | true=>
         simp only [ju,apd] at U;simp only [↓aa,ad,simprocAttr];refine aX (qb b2.C ju) ?_;rintro x ag ⟨m2,aQ,bY,rfl,e8,bx⟩;rw [bY] at U
         try replace U:=hp U
         try dsimp only at U
         have bL:=b2.call m2 bx;obtain ⟨ar,aC,bl⟩:=bL.st [.int .i64 0,.int .i64 0,.int .i64 0,.str []] [.int .i64 aQ.kind,.int .i64 aQ.num,.int .i64 aQ.pos,.str aQ.text];have gV:=bl.leaf 12 aQ.num (bG ab ws) (s:=[]) (api _);have o:=gV.bj.one;have bd:=gV.drop.dt (vcs (.mk 12 aQ.num (bG ab ws) [] []) .cS);simp only [bd.a'.g,o.1,o.2.1,o.2.2,aY,vcs,bR,aq.enc,aC,bl.a'.g,gV.a'.g,gV.bW.g,↓aa,ad,simprocAttr];exact bd.fin U.symm
       | false=>
         simp only [ju,ao2,apa] at U;simp only [↓aa,ad,simprocAttr];refine bQ (fi b2.C hN) ?_;cases kO:bb hN ws with
         | true=>
           simp only [kO,apd] at U;obtain ⟨i2,ag,ft,ml,av,m2,bx⟩:=b2.C.iK (gS kO);have bL:=b2.call m2 bx;simp only [ft.g,ml,av,↓aa,ad,simprocAttr];refine aX (yd bL.C 1) ?_;rintro x ar ⟨m3,eI,bU,fT,rfl,pZ,cq⟩;have bl:=bL.call m3 cq;obtain ⟨aT,bs,a7⟩:=bl.st [.int .i64 0,.int .i64 0,.int .i64 0,.str []] [.int .i64 eI.kind,.int .i64 eI.num,.int .i64 eI.pos,.str eI.text];obtain ⟨jS,fZ⟩:=iJ.ahW a7.C pZ;have wn:IntKind.i64.wrap (0-eI.num)=-eI.num:=by rw [wrap_i64 (by omega) (by omega)];omega
           by_cases aF:eI.num=-1073741824
           ·
            have g0:(1073741823 < -eI.num)=True:=apk (by omega);have g1:sU eI.num=-1073741824:=by unfold sU;rw [ape aF,aF]
            have gV:=a7.leaf 12 (sU eI.num) (bG ab ws) (s:=[]) (api _);rw [g1] at gV;have o:=gV.bj.one;have bd:=gV.drop.dt (vcs (.mk 12 (-1073741824) (bG ab ws) [] []) .cS);simp only [bd.a'.g,o.1,o.2.1,o.2.2,aY,vcs,bR,aq.enc,bs,wn,g0,a7.a'.g,gV.a'.g,gV.bW.g,↓aa,ad,simprocAttr];exact bd.fin (Bg U fT fun _=>by rw [g1])
           ·
            have g0:(1073741823 < -eI.num)=False:=apl (by omega);have g1:sU eI.num=-eI.num:=by unfold sU;rw [ao_ aF]
            have gV:=a7.leaf 12 (sU eI.num) (bG ab ws) (s:=[]) (api _);rw [g1] at gV;have o:=gV.bj.one;have bd:=gV.drop.dt (vcs (.mk 12 (-eI.num) (bG ab ws) [] []) .cS);simp only [bd.a'.g,o.1,o.2.1,o.2.2,aY,vcs,bR,aq.enc,bs,wn,g0,a7.a'.g,gV.a'.g,gV.bW.g,↓aa,ad,simprocAttr];exact bd.fin (Bg U fT fun _=>by rw [g1])
         | false=>
           simp only [kO,ao2,apa] at U;simp only [↓aa,ad,simprocAttr];refine bQ (fi b2.C h3) ?_;cases kP:bb h3 ws with
           | true=>
             simp only [kP,apd] at U;simp only [↓aa,ad,simprocAttr];refine aX (DE 14 b2.C (gS kP)) ?_;rintro x ag ⟨c,ev,bf,bY,rfl,gJ,m2,bx⟩;rw [ape kP] at bY;have bL:=b2.eO m2 bx gJ;have o:=bL.bj.one;have bd:=bL.dt (vcs c ev);simp only [bd.a'.g,o.1,o.2.1,o.2.2,aY,vcs,bR,bL.a'.g,↓aa,ad,simprocAttr];exact bd.fin (U.symm.trans bY)
           | false=>
             simp only [kP,ao2,apa] at U;simp only [↓aa,ad,simprocAttr];refine bQ (fi b2.C iE) ?_;cases pX:bb iE ws with
             | true=>
               simp only [pX,apd] at U;simp only [↓aa,ad,simprocAttr];refine aX (DE 14 b2.C (gS pX)) ?_;rintro x ag ⟨c,ev,bf,bY,rfl,gJ,m2,bx⟩;rw [ao_ (by rw [kP];exact apu)] at bY;have bL:=b2.eO m2 bx gJ;have o:=bL.bj.one;have bd:=bL.dt (vcs c ev);simp only [bd.a'.g,o.1,o.2.1,o.2.2,aY,vcs,bR,bL.a'.g,↓aa,ad,simprocAttr];exact bd.fin (U.symm.trans bY)
             | false=>
               simp only [pX,ao2,apa] at U;simp only [↓aa,ad,simprocAttr];refine aX (iB b2.C e9) ?_;rintro x ag ⟨m2,bf,bY,bx⟩;replace U:=i_ (r:=(.ok ws)) U bY
               try dsimp only at U
               have bL:=b2.call m2 bx;simp only [↓aa,ad,simprocAttr];refine bQ (jO bL.C) ?_;cases bf with
               | error e=>
                 replace U:=k4 U;replace U:(Except.error e >>= fun ws=>(aU ab n).pat d ws >>= fun q=>ec ab ej q.2 >>= fun w=>.ok (q.1,w))=res:=U.symm;simp only [kr,↓aa,ad,simprocAttr];refine aX (I.pat d _ ag aA bL.C (fC (r:=(.error e)) U a8)) ?_;rintro x ar ⟨a,b5,bU,fT,rfl,gC,m3,cq⟩;replace U:=e_ (r:=(.error e)) U fT
                 try dsimp only at U
                 have bl:=bL.eO m3 cq gC;have c2:=bl.bj.one;obtain ⟨aT,bs,a7⟩:=bl.st b8 (vcs a b5);simp only [c2.1,c2.2.1,c2.2.2,bs,↓aa,ad,simprocAttr];refine aX (iB a7.C ej) ?_;rintro x bC ⟨m5,b4,eY,bV⟩;replace U:=i_ (r:=bU) U eY
                 try dsimp only at U
                 have bO:=a7.call m5 bV;have o:=bO.bj.one;have bd:=bO.drop.dt (vcs a b5);simp only [bd.a'.g,o.1,o.2.1,o.2.2,aY,vcs,bR,bO.a'.g,bO.bW.g,↓aa,ad,simprocAttr];exact bd.fin (jo U)
               | ok yo=>
                 replace U:=hp U
                 try dsimp only at U
                 simp only [j6,↓aa,ad,simprocAttr];refine bQ (fi bL.C ej) ?_;cases pY:bb ej yo with
                 | true=>
                   simp only [pY,apd] at U;obtain ⟨i3,ar,fl,yk,aC,m3,cq⟩:=bL.C.iK (gS pY);have bl:=bL.call m3 cq;have gB:=bl.leaf 13 0 (bG ab ws) (s:=[]) (api _);simp only [fl.g,yk,aC,↓aa,ad,simprocAttr];refine aX (gh 13 (bG ab ws) [] gB.bj.c7) ?_;rintro x aT ⟨rfl,cN⟩;have a7:=gB.ext cN;have o:=a7.bj.one;have bd:=a7.dt (vcs (aN.mk 13 0 (bG ab ws) [] []) .cS);simp only [bd.a'.g,o.1,o.2.1,o.2.2,aY,vcs,bR,a7.a'.g,↓aa,ad,simprocAttr];exact bd.fin U.symm
                 | false=>
                   simp only [pY,ao2,apa] at U;simp only [↓aa,ad,simprocAttr];refine aX (I.pat d _ ag aA bL.C (fC (r:=(.ok yo)) U a8)) ?_;rintro x ar ⟨a,b5,bU,fT,rfl,gC,m3,cq⟩;replace U:=e_ (r:=(.ok yo)) U fT
                   try dsimp only at U
                   have bl:=bL.eO m3 cq gC;have c2:=bl.bj.one;obtain ⟨aT,bs,a7⟩:=bl.st b8 (vcs a b5);simp only [c2.1,c2.2.1,c2.2.2,bs,↓aa,ad,simprocAttr];refine aX (iB a7.C ej) ?_;rintro x bC ⟨m5,b4,eY,bV⟩;replace U:=i_ (r:=bU) U eY
                   try dsimp only at U
                   have bO:=a7.call m5 bV;have o:=bO.bj.one;have bd:=bO.drop.dt (vcs a b5);simp only [bd.a'.g,o.1,o.2.1,o.2.2,aY,vcs,bR,bO.a'.g,bO.bW.g,↓aa,ad,simprocAttr];exact bd.fin (jo U)
end
section
variable {W:List aq} {ab ak n d:Nat} {ws:List aq} {r:bH (List aq)}
theorem Tb {s t:List UInt8} (al:bb s ws=true) (h:s≠t):bb t ws=false:=by
 cases ws with
 | nil=>rfl
 | cons w r=>
   simp only [bb,ao7,apf] at al;simp only [bb,al.2,aqy h,aqC]
theorem PL {JA aR:List aq->bH (aN × List aq)} (d:Nat) (UE:∀r,e6 W ab ak 73 [] d JA r) (UF:∀r,e6 W ab ak 74 [] d aR r) (r:bH (List aq)):e6 W ab ak 121 [] d (fun ws=>ec ab mH ws >>= fun b9=>JA b9 >>= fun q=>ec ab jY q.2 >>= fun aQ=>aR aQ >>= fun z=>.ok (.mk 27 0 (bG ab ws) [] [q.1,z.1],z.2)) r:=by
 refine lp fun h aA res C U a8=>Xc.z rfl (cl ?_);unfold M4;have ee:=cE.start C;obtain ⟨ae,ao,b2⟩:=ee.new b8;simp only [ao,↓aa,ad,simprocAttr];obtain ⟨a0,Uz,zc⟩:=acM b2.C;refine bQ Uz ?_;replace U:(r >>= fun ws=>ec ab mH ws >>= fun b9=>JA b9 >>= fun q=>ec ab jY q.2 >>= fun aQ=>aR aQ >>= fun z=>.ok (.mk 27 0 (a0:Int) [] [q.1,z.1],z.2))=res:=by
  rw [<-U];cases r with
  | error e=>rfl
  | ok ws=>rw [zc ws rfl];rfl
 simp only [↓aa,ad,simprocAttr];refine aX (iB b2.C mH) ?_;rintro x ag ⟨m2,bf,bY,bx⟩;replace U:=i_ (r:=r) U bY
 try dsimp only at U
 have bL:=b2.call m2 bx;simp only [↓aa,ad,simprocAttr];refine aX (UE _ ag aA bL.C (fC (r:=bf) U a8)) ?_;rintro x ar ⟨a,b5,bU,fT,rfl,gC,m3,cq⟩;replace U:=e_ (r:=bf) U fT
 try dsimp only at U
 have bl:=bL.eO m3 cq gC;have c2:=bl.bj.one;obtain ⟨aT,bs,a7⟩:=bl.st b8 (vcs a b5);simp only [c2.1,c2.2.1,c2.2.2,bs,↓aa,ad,simprocAttr];refine aX (iB a7.C jY) ?_;rintro x bC ⟨m5,b4,eY,bV⟩;replace U:=i_ (r:=bU) U eY
 try dsimp only at U
 have bO:=a7.call m5 bV;simp only [↓aa,ad,simprocAttr];refine aX (UF _ bC aA bO.C (fC (r:=b4) U a8)) ?_;rintro x bA ⟨b,eM,ea,i',rfl,k2,m6,cv⟩;replace U:=e_ (r:=b4) U i'
 try dsimp only at U
 have cg:=bO.eO m6 cv k2;have gn:=cg.bj.one;obtain ⟨cd,dy,cV⟩:=cg.st b8 (vcs b eM);have kA:=cV.ck.one;have kB:=cV.bj.one;obtain ⟨et,dH,ga,dJ⟩:=cV.qQ cV.ck cV.bj 27 a0 (s:=[]) (api _);simp only [vcs,apm,apx] at dH;simp only [gn.1,gn.2.1,gn.2.2,dy,cV.bW.g,cV.a'.g,kA.1,kA.2.1,kA.2.2,kB.1,kB.2.1,kB.2.2,dH,↓aa,ad,simprocAttr];refine aX (gh 27 a0 [] dJ.bj.c7) ?_;rintro x fD ⟨rfl,jD⟩;have er:=dJ.ext jD;have o:=er.bj.one;have bd:=er.drop.drop.dt (vcs (aN.mk 27 0 a0 [] [a,b]) (.slice (an cd.next) 0 2 2));simp only [bd.a'.g,o.1,o.2.1,o.2.2,aY,vcs,bR,er.a'.g,er.bW.g,er.df.g,↓aa,ad,simprocAttr];exact bd.fin (jo U)
theorem Ju (I:jB W ab ak n) (d:Nat) (r:bH (List aq)):e6 W ab ak 158 [] d ((aU ab n).one d) r:=by
 refine lp fun h aA res C U a8=>Xz.z rfl (cl ?_);unfold Np;have ee:=cE.start C;obtain ⟨ae,ao,b2⟩:=ee.new b8;simp only [ao,↓aa,ad,simprocAttr];refine bQ (jO b2.C) ?_;cases r with
 | error e=>
   replace U:=k4 U;have gV:=b2.leaf 0 0 0 (s:=[]) (api _);have o:=gV.bj.one;have bd:=gV.dt (vcs (.mk 0 0 0 [] []) .cS);simp only [bd.a'.g,o.1,o.2.1,o.2.2,aY,vcs,bR,kr,gV.a'.g,↓aa,ad,simprocAttr];exact bd.fin (r:=.error e) U
 | ok ba=>
   replace U:=hp U
   try dsimp only at U
   simp only [j6,↓aa,ad,simprocAttr];refine aX (I.one d _ ae aA b2.C (fun w e q=>by cases e;rw [q] at U;exact a8 U.symm)) ?_;rintro x ag ⟨c,ev,bf,bY,rfl,gJ,m2,bx⟩;have bL:=b2.eO m2 bx gJ;have o:=bL.bj.one;have bd:=bL.dt (vcs c ev);simp only [bd.a'.g,o.1,o.2.1,o.2.2,aY,vcs,bR,bL.a'.g,↓aa,ad,simprocAttr];exact bd.fin (U.symm.trans bY)
theorem aii (I:jB W ab ak n) (d:Nat) (ws:List aq):e6 W ab ak 125 [] d ((aU ab (n+1)).one d) (.ok ws):=by
 refine lp fun h aA res C U a8=>Xg.z rfl (cl ?_);replace U:uq ab (aU ab n) d ws=res:=U;unfold uq at U;unfold M8;have ee:=cE.start C;dsimp only at U;obtain ⟨ae,ao,b2⟩:=ee.new b8;simp only [ao,↓aa,ad,simprocAttr];refine bQ (fi b2.C pk) ?_;cases b_:bb pk ws with
 | true=>
   simp only [b_,apd] at U;have hJ:(fun ws=>(aU ab n).lt d (bG ab ws) ws.tail) ws=(aU ab n).lt d (bG ab ws) ws.tail:=rfl;simp only [↓aa,ad,simprocAttr];refine aX (I.lt d ws (gS b_) ae aA b2.C (fun w e q=>by cases e;rw [hJ] at q;rw [q] at U;exact a8 U.symm)) ?_;rintro x ag ⟨c,ev,bf,bY,rfl,gJ,m2,bx⟩;replace bY:=hJ.symm.trans bY;have bL:=b2.eO m2 bx gJ;have o:=bL.bj.one;have bd:=bL.dt (vcs c ev);simp only [bd.a'.g,o.1,o.2.1,o.2.2,aY,vcs,bR,bL.a'.g,↓aa,ad,simprocAttr];exact bd.fin (U.symm.trans bY)
 | false=>
   simp only [b_,ao2,apa] at U;simp only [↓aa,ad,simprocAttr];refine bQ (fi b2.C mH) ?_;cases dC:bb mH ws with
   | true=>
     simp only [dC,apd] at U;have hJ:(fun ws=>ec ab mH ws >>= fun b9=>(aU ab n).fn d (bG ab ws) b9) ws=(aU ab n).fn d (bG ab ws) ws.tail:=by show (ec ab mH ws >>= _)=_;unfold ec;rw [ape dC];rfl
     simp only [↓aa,ad,simprocAttr];refine aX (I.fn d (.ok ws) ae aA b2.C (fun w e q=>by cases e;rw [hJ] at q;rw [q] at U;exact a8 U.symm)) ?_;rintro x ag ⟨c,ev,bf,bY,rfl,gJ,m2,bx⟩;replace bY:=hJ.symm.trans bY;have bL:=b2.eO m2 bx gJ;have o:=bL.bj.one;have bd:=bL.dt (vcs c ev);simp only [bd.a'.g,o.1,o.2.1,o.2.2,aY,vcs,bR,bL.a'.g,↓aa,ad,simprocAttr];exact bd.fin (U.symm.trans bY)
   | false=>
     simp only [dC,ao2,apa] at U;simp only [↓aa,ad,simprocAttr];refine bQ (fi b2.C zC) ?_;cases eP:bb zC ws with
     | true=>
       simp only [eP,apd] at U;rw [Tb eP (t:=vz) (by decide),ao_ apu] at U;have hJ:(fun ws=>(aU ab n).hq d 32 (bG ab ws) ws.tail) ws=(aU ab n).hq d 32 (bG ab ws) ws.tail:=rfl;simp only [↓aa,ad,simprocAttr];refine aX (I.hq d 32 ws (gS eP) ae aA b2.C (fun w e q=>by cases e;rw [hJ] at q;rw [q] at U;exact a8 U.symm)) ?_;rintro x ag ⟨c,ev,bf,bY,rfl,gJ,m2,bx⟩;replace bY:=hJ.symm.trans bY;have bL:=b2.eO m2 bx gJ;have o:=bL.bj.one;have bd:=bL.dt (vcs c ev);simp only [bd.a'.g,o.1,o.2.1,o.2.2,aY,vcs,bR,bL.a'.g,↓aa,ad,simprocAttr];exact bd.fin (U.symm.trans bY)
     | false=>
       simp only [eP,ao2,apa] at U;simp only [↓aa,ad,simprocAttr];refine bQ (fi b2.C zE) ?_;cases ju:bb zE ws with
       | true=>
         simp only [ju,apd] at U;rw [Tb ju (t:=vz) (by decide),ao_ apu] at U;have hJ:(fun ws=>(aU ab n).hq d 33 (bG ab ws) ws.tail) ws=(aU ab n).hq d 33 (bG ab ws) ws.tail:=rfl;simp only [↓aa,ad,simprocAttr];refine aX (I.hq d 33 ws (gS ju) ae aA b2.C (fun w e q=>by cases e;rw [hJ] at q;rw [q] at U;exact a8 U.symm)) ?_;rintro x ag ⟨c,ev,bf,bY,rfl,gJ,m2,bx⟩;replace bY:=hJ.symm.trans bY;have bL:=b2.eO m2 bx gJ;have o:=bL.bj.one;have bd:=bL.dt (vcs c ev);simp only [bd.a'.g,o.1,o.2.1,o.2.2,aY,vcs,bR,bL.a'.g,↓aa,ad,simprocAttr];exact bd.fin (U.symm.trans bY)
       | false=>
         simp only [ju,ao2,apa] at U;simp only [↓aa,ad,simprocAttr];refine bQ (fi b2.C vz) ?_;cases kO:bb vz ws with
         | true=>
           simp only [kO,apd] at U;simp only [↓aa,ad,simprocAttr];refine bQ (sA b2.C) ?_;obtain ⟨i2,ag,ft,ml,av,m2,bx⟩:=b2.C.iK (gS kO);have bL:=b2.call m2 bx;simp only [ft.g,ml,av,↓aa,ad,simprocAttr];refine aX (I.seq d _ ag aA bL.C (fC (r:=(.ok ws.tail)) U a8)) ?_;rintro x ar ⟨a,b5,bU,fT,rfl,gC,m3,cq⟩;replace U:=e_ (r:=(.ok ws.tail)) U fT
           try dsimp only at U
           have bl:=bL.eO m3 cq gC;have c2:=bl.bj.one;obtain ⟨aT,bs,a7⟩:=bl.st b8 (vcs a b5);simp only [c2.1,c2.2.1,c2.2.2,bs,↓aa,ad,simprocAttr];refine aX (iB a7.C EY) ?_;rintro x bC ⟨m5,b4,eY,bV⟩;replace U:=i_ (r:=bU) U eY
           try dsimp only at U
           have bO:=a7.call m5 bV;simp only [↓aa,ad,simprocAttr];refine aX (Ju I d _ bC aA bO.C (fC (r:=b4) U a8)) ?_;rintro x bA ⟨b,eM,ea,i',rfl,k2,m6,cv⟩;replace U:=e_ (r:=b4) U i'
           try dsimp only at U
           have cg:=bO.eO m6 cv k2;have gn:=cg.bj.one;obtain ⟨cd,dy,cV⟩:=cg.st b8 (vcs b eM);simp only [gn.1,gn.2.1,gn.2.2,dy,↓aa,ad,simprocAttr];refine aX (iB cV.C EW) ?_;rintro x et ⟨m8,hd,Gr,gj⟩;replace U:=i_ (r:=ea) U Gr
           try dsimp only at U
           have dJ:=cV.call m8 gj;simp only [↓aa,ad,simprocAttr];refine aX (Ju I d _ et aA dJ.C (fC (r:=hd) U a8)) ?_;rintro x fD ⟨c,ev,py,Gs,rfl,yD,m9,fS⟩;replace U:=e_ (r:=hd) U Gs
           try dsimp only at U
           have er:=dJ.eO m9 fS yD;have xQ:=er.bj.one;obtain ⟨iN,mf,fp⟩:=er.st b8 (vcs c ev);have xT:=fp.c0.one;have xU:=fp.ck.one;have xV:=fp.bj.one;obtain ⟨ly,px,DW,lW⟩:=fp.Rt fp.c0 fp.ck fp.bj 31 (bG ab ws) (s:=[]) (api _);simp only [vcs,apm,apx] at px;simp only [xQ.1,xQ.2.1,xQ.2.2,mf,fp.df.g,fp.bW.g,fp.a'.g,xT.1,xT.2.1,xT.2.2,xU.1,xU.2.1,xU.2.2,xV.1,xV.2.1,xV.2.2,px,↓aa,ad,simprocAttr];refine aX (gh 31 (bG ab ws) [] lW.bj.c7) ?_;rintro x BE ⟨rfl,tz⟩;have nA:=lW.ext tz;have o:=nA.bj.one;have bd:=nA.drop.drop.drop.dt (vcs (aN.mk 31 0 (bG ab ws) [] [a,b,c]) (.slice (an iN.next) 0 3 3));simp only [bd.a'.g,o.1,o.2.1,o.2.2,aY,vcs,bR,nA.a'.g,nA.bW.g,nA.df.g,nA.ic.g,↓aa,ad,simprocAttr];exact bd.fin (jo U)
         | false=>
           simp only [kO,ao2,apa] at U;simp only [↓aa,ad,simprocAttr];refine aX (I.pair d _ ae aA b2.C (fC (r:=(.ok ws)) U a8)) ?_;rintro x ag ⟨a,b5,bf,bY,rfl,gJ,m2,bx⟩;replace U:=e_ (r:=(.ok ws)) U bY
           try dsimp only at U
           have bL:=b2.eO m2 bx gJ;have dx:=bL.bj.one;obtain ⟨ar,aC,bl⟩:=bL.st b8 (vcs a b5);simp only [dx.1,dx.2.1,dx.2.2,aC,↓aa,ad,simprocAttr];refine bQ (jO bl.C) ?_;cases bf with
           | error e=>
             replace U:=k4 U;have o:=bl.bj.one;have bd:=bl.drop.dt (vcs a b5);simp only [bd.a'.g,o.1,o.2.1,o.2.2,aY,vcs,bR,kr,bl.a'.g,bl.bW.g,↓aa,ad,simprocAttr];exact bd.fin U
           | ok db=>
             replace U:=hp U
             try dsimp only at U
             simp only [j6,↓aa,ad,simprocAttr];refine bQ (fi bl.C Aj) ?_;cases kP:bb Aj db with
             | true=>
               simp only [kP,apd] at U;obtain ⟨i4,aT,eF,qe,bs,m4,cf⟩:=bl.C.iK (gS kP);have a7:=bl.call m4 cf;simp only [eF.g,qe,bs,↓aa,ad,simprocAttr];refine aX (Ju I d _ aT aA a7.C (fC (r:=(.ok db.tail)) U a8)) ?_;rintro x bC ⟨b,eM,b4,eY,rfl,jn,m5,bV⟩;replace U:=e_ (r:=(.ok db.tail)) U eY
               try dsimp only at U
               have bO:=a7.eO m5 bV jn;have eQ:=bO.bj.one;obtain ⟨bA,cD,cg⟩:=bO.st b8 (vcs b eM);have fc:=cg.ck.one;have mc:=cg.bj.one;obtain ⟨cd,dy,dI,cV⟩:=cg.qQ cg.ck cg.bj 37 a.a (s:=[]) (api _);simp only [vcs,apm,apx] at dy;simp only [eQ.1,eQ.2.1,eQ.2.2,cD,cg.bW.g,cg.a'.g,fc.1,fc.2.1,fc.2.2,mc.1,mc.2.1,mc.2.2,dy,↓aa,ad,simprocAttr];refine aX (gh 37 a.a [] cV.bj.c7) ?_;rintro x et ⟨rfl,ga⟩;have dJ:=cV.ext ga;have o:=dJ.bj.one;have bd:=dJ.drop.drop.dt (vcs (aN.mk 37 0 a.a [] [a,b]) (.slice (an bA.next) 0 2 2));simp only [bd.a'.g,o.1,o.2.1,o.2.2,aY,vcs,bR,dJ.a'.g,dJ.bW.g,dJ.df.g,↓aa,ad,simprocAttr];exact bd.fin (jo U)
             | false=>
               simp only [kP,ao2,apa] at U;have o:=bl.bj.one;have bd:=bl.drop.dt (vcs a b5);simp only [bd.a'.g,o.1,o.2.1,o.2.2,aY,vcs,bR,bl.a'.g,bl.bW.g,↓aa,ad,simprocAttr];exact bd.fin U.symm
theorem OM (I:jB W ab ak n) (d:Nat) (a_:d=0) (k:Int) (r:bH (List aq)):e6 W ab ak 70 [.int .i64 k] d (ko ab (aU ab n) k) r:=by
 refine lp fun h aA res C U a8=>YF.z rfl (cl ?_);unfold Og;unfold ko at U;rw [show (aU ab n).ty 0=(aU ab n).ty d from by rw [a_]] at U;have ee:=cE.start C;obtain ⟨ae,ao,b2⟩:=ee.new b8;simp only [ao,↓aa,ad,simprocAttr];refine aX (yd b2.C 4) ?_;rintro x ag ⟨m2,aQ,bf,bY,rfl,e8,bx⟩;replace U:=e_ (r:=r) U bY
 try dsimp only at U
 have bL:=b2.call m2 bx;obtain ⟨ar,aC,bl⟩:=bL.st [.int .i64 0,.int .i64 0,.int .i64 0,.str []] [.int .i64 aQ.kind,.int .i64 aQ.num,.int .i64 aQ.pos,.str aQ.text];simp only [aq.enc,aC,↓aa,ad,simprocAttr];refine bQ (jO bl.C) ?_;cases bf with
 | error e=>
   replace U:=k4 U;have gB:=bl.leaf k 0 aQ.pos (s:=aQ.text) (iJ.fj bl.C e8);simp only [kr,bl.a'.g,↓aa,ad,simprocAttr];refine aX (gh k aQ.pos aQ.text gB.bj.c7) ?_;rintro x aT ⟨rfl,cN⟩;have a7:=gB.ext cN;have o:=a7.bj.one;have bd:=a7.drop.dt (vcs (aN.mk k 0 aQ.pos aQ.text []) .cS);simp only [bd.a'.g,o.1,o.2.1,o.2.2,aY,vcs,bR,a7.a'.g,a7.bW.g,↓aa,ad,simprocAttr];exact bd.fin U
 | ok db=>
   replace U:=hp U
   try dsimp only at U
   simp only [j6,↓aa,ad,simprocAttr];refine bQ (fi bl.C qM) ?_;cases b_:bb qM db with
   | true=>
     simp only [b_,apd] at U;obtain ⟨i4,aT,eF,qe,bs,m4,cf⟩:=bl.C.iK (gS b_);have a7:=bl.call m4 cf;simp only [eF.g,qe,bs,↓aa,ad,simprocAttr];refine aX (I.ty d _ aT aA a7.C (fC (r:=(.ok db.tail)) U a8)) ?_;rintro x bC ⟨a,b5,b4,eY,rfl,jn,m5,bV⟩;replace U:=e_ (r:=(.ok db.tail)) U eY
     try dsimp only at U
     have bO:=a7.eO m5 bV jn;have eQ:=bO.bj.one;obtain ⟨bA,cD,cg⟩:=bO.st b8 (vcs a b5);have fc:=cg.bj.one;obtain ⟨cd,dy,dI,cV⟩:=cg.vC cg.bj k aQ.pos (s:=aQ.text) (iJ.fj cg.C e8);simp only [eQ.1,eQ.2.1,eQ.2.2,cD,cg.a'.g,cg.bW.g,fc.1,fc.2.1,fc.2.2,dy,↓aa,ad,simprocAttr];refine aX (gh k aQ.pos aQ.text cV.bj.c7) ?_;rintro x et ⟨rfl,ga⟩;have dJ:=cV.ext ga;have o:=dJ.bj.one;have bd:=dJ.drop.drop.dt (vcs (aN.mk k 0 aQ.pos aQ.text [a]) (.slice (an bA.next) 0 1 1));simp only [bd.a'.g,o.1,o.2.1,o.2.2,aY,vcs,bR,dJ.a'.g,dJ.bW.g,dJ.df.g,↓aa,ad,simprocAttr];exact bd.fin (jo U)
   | false=>
     simp only [b_,ao2,apa] at U;have gB:=bl.leaf k 0 aQ.pos (s:=aQ.text) (iJ.fj bl.C e8);simp only [bl.a'.g,↓aa,ad,simprocAttr];refine aX (gh k aQ.pos aQ.text gB.bj.c7) ?_;rintro x aT ⟨rfl,cN⟩;have a7:=gB.ext cN;have o:=a7.bj.one;have bd:=a7.drop.dt (vcs (aN.mk k 0 aQ.pos aQ.text []) .cS);simp only [bd.a'.g,o.1,o.2.1,o.2.2,aY,vcs,bR,a7.a'.g,a7.bW.g,↓aa,ad,simprocAttr];exact bd.fin U.symm
end
section
variable {W:List aq} {ab ak n:Nat}
theorem V1 (J:∀m,m<=n->iI W ab ak m) (d:Nat) (ws:List aq):gD W ab ak 229 [] d ws ((aU ab (n+1)).app d ws):=by
 have I:=J n (ao1 n);intro h aA i C a8;generalize U:(aU ab (n+1)).app d ws=res at a8 ⊢;replace U:sc ab (aU ab n) d ws=res:=U;unfold sc at U;dsimp only at U;refine XU.x rfl (cl ?_);unfold NF;have bX:=C.at_.lt;obtain ⟨ae,ao,aP,bz⟩:=fU h b8;have m1:Mod (b3 ak) h ae:=aP.mod _;have cw:=m1;have cy:=C.ext aP;simp only [ao,↓aa,ad,simprocAttr];refine bQ (q2 cy) ?_;simp only [↓aa,ad,simprocAttr];refine aX (hs cy zD) ?_;rintro x ag ⟨rfl,m2,i2,bx⟩;have M2:=cw.trans m2;cases b_:bb zD ws with
 | true=>
   simp only [b_,apd,ao2,apa,bB] at U bx;simp only [↓aa,ad,simprocAttr];have g3:(aU ab n).atom d ws.tail≠.error b7:=fun q=>by rw [q] at U;exact a8 U.symm
   refine cH (I.atom d ws.tail ag aA i2 bx g3) ?_ ?_
   rotate_left
   . rintro x ar ⟨e,he,rfl,m,bo⟩;simp only [cF,aY,↓aa,ad,simprocAttr];exact ⟨e,by rw [he] at U;exact U.symm,rfl,(M2.trans m),bo⟩
   rintro x ar ⟨a,db,b5,i3,bU,rfl,aO,m3,cq⟩;rw [bU] at U
   try simp only [bB] at U
   have cu:=M2.trans m3;have J6:=aO.one;obtain ⟨aT,bs,cN,qm⟩:=sR (F:=Fr ag.next) (h:=ar) (size:=5) rfl aO.cs (ry m3.next);have m4:Mod (b3 ak) ar aT:=cN.mod _;have cX:=cu.trans m4;have cf:=cq.ext cN;have ef:=oy (l:=[a]) 34 0 (bG ab ws) [] qm rfl (api _);have kZ:=bz.mod (m2.trans (m3.trans m4)) (bT bX);have o:=ef.one;simp only [o.1,o.2.1,o.2.2,aY,vcs,bR,J6.1,J6.2.1,J6.2.2,bs,kZ.g,↓aa,ad,simprocAttr];exact ⟨_,_,_,_,U.symm,rfl,(ef.box (by have:=m2.next;have:=bz.lt;omega) _).cO (by have:=(m1.trans m2).next;omega),cX.set (fun o=>absurd o (dh (ao1 _))) _,C.box cf (ao1 _) _⟩
 | false=>
   simp only [b_,apd,ao2,apa,bB] at U bx;simp only [↓aa,ad,simprocAttr];refine bQ (kb bx 4) ?_;cases dC:cJ 4 ws with
   | true=>
     simp only [dC,apd,ao2,apa,bB] at U;simp only [↓aa,ad,simprocAttr];refine cH (mQ bx 4) ?_ ?_
     rotate_left
     . rintro x ar ⟨e,he,rfl,m,bo⟩;simp only [cF,aY,↓aa,ad,simprocAttr];exact ⟨e,by rw [he] at U;exact U.symm,rfl,(M2.trans m),bo⟩
     rintro x ar ⟨⟨eI,db⟩,bU,rfl,⟨pZ,pa⟩,m3,i3,cq⟩;rw [bU] at U
     try simp only [bB] at U
     have cu:=M2.trans m3;obtain ⟨aT,bs,cN,eF⟩:=fq ar b8 [.int .i64 25,.int .i64 0,.int .i64 (bG ab ws),.str eI.text,.cS];have m4:Mod (b3 ak) ar aT:=cN.mod _;have cX:=cu.trans m4;have cf:=cq.ext cN;simp only [aq.enc,bs,↓aa,ad,simprocAttr];refine aX (Mt cf) ?_;rintro x bC ⟨rfl,e7⟩;have m5:Mod (b3 ak) aT bC:=e7.mod _;have cR:=cX.trans m5;have bV:=cf.ext e7;cases eP:n1 db with
     | true=>
       simp only [eP,apd,ao2,apa,bB] at U;simp only [↓aa,ad,simprocAttr];have g6:(aU ab n).atom d db≠.error b7:=fun q=>by rw [q] at U;exact a8 U.symm
       refine cH (I.atom d db bC aA i3 bV g6) ?_ ?_
       rotate_left
       . rintro x bA ⟨e,he,rfl,m,bo⟩;simp only [cF,aY,↓aa,ad,simprocAttr];exact ⟨e,by rw [he] at U;exact U.symm,rfl,(cR.trans m),bo⟩
       rintro x bA ⟨a,jz,b5,i6,ea,rfl,aO,m6,cv⟩;rw [ea] at U
       try simp only [bB] at U
       have de:=cR.trans m6;have fc:=aO.one;obtain ⟨cd,dy,dI,rf⟩:=sR (F:=Fr bC.next) (h:=bA) (size:=5) rfl aO.cs (ry m6.next);have m7:Mod (b3 ak) bA cd:=dI.mod _;have ew:=de.trans m7;have eR:=cv.ext dI;have ef:=oy (l:=[a]) 25 0 (bG ab ws) eI.text rf rfl (le_top (C.fj eI pZ));have k0:=eF.mod (m5.trans (m6.trans m7)) (bT (by have:=cu.next;omega));obtain ⟨et,dH⟩:∃g,cd.set (an ar.next) (.bc [.int .i64 25,.int .i64 0,.int .i64 (bG ab ws),.str eI.text,(.slice (an bA.next) 0 1 1)] 0 false)=g:=⟨_,rfl⟩;have pD:=k0.put [.int .i64 25,.int .i64 0,.int .i64 (bG ab ws),.str eI.text,(.slice (an bA.next) 0 1 1)];rw [dH] at pD;have gj:=C.box eR (n:=ar.next) cu.next (.bc [.int .i64 25,.int .i64 0,.int .i64 (bG ab ws),.str eI.text,(.slice (an bA.next) 0 1 1)] 0 false)
       rw [dH] at gj;have g':Mod (b3 ak) h et:=by rw [<-dH];exact ew.set (fun o=>absurd o (dh cu.next)) _
       have qn:=aO.mod m7 (by have:=cR.next;omega);have wx:=qn.box (n:=ar.next) (by have:=m5.next;have:=eF.lt;omega) (.bc [.int .i64 25,.int .i64 0,.int .i64 (bG ab ws),.str eI.text,(.slice (an bA.next) 0 1 1)] 0 false);rw [dH] at wx;have oR:=ef.box (n:=ar.next) (by have:=m5.next;have:=eF.lt;omega) (.bc [.int .i64 25,.int .i64 0,.int .i64 (bG ab ws),.str eI.text,(.slice (an bA.next) 0 1 1)] 0 false);rw [dH] at oR;have hH:=bz.mod (m2.trans (m3.trans (m4.trans (m5.trans (m6.trans m7))))) (bT bX);have qh:=hH.set (m:=ar.next) (by have:=bz.lt;have:=(m2.trans m3).next;omega) (.bc [.int .i64 25,.int .i64 0,.int .i64 (bG ab ws),.str eI.text,(.slice (an bA.next) 0 1 1)] 0 false);rw [dH] at qh;have m8:Mod (fun b=>b=an ar.next) cd et:=by rw [<-dH];exact (Mod.refl (fun b=>b=an ar.next) _).set (fun _=>rfl) _
       have o:=oR.one;simp only [o.1,o.2.1,o.2.2,aY,vcs,bR,fc.1,fc.2.1,fc.2.2,dy,k0.g,dH,pD.g,qh.g,↓aa,ad,simprocAttr];exact ⟨_,_,_,_,U.symm,rfl,(oR.box (by have:=(m2.trans (m3.trans (m4.trans m5))).next;have:=bz.lt;omega) _).cO (by have:=(m1.trans (m2.trans (m3.trans (m4.trans m5)))).next;omega),g'.set (fun o=>absurd o (dh (ao1 _))) _,C.box gj (ao1 _) _⟩
     | false=>
       simp only [eP,apd,ao2,apa,bB] at U;have hk:=eF.mod m5 (bT (by have:=cu.next;omega));have hY:=bz.mod (m2.trans (m3.trans (m4.trans m5))) (bT bX);simp only [aY,vcs,bR,hk.g,hY.g,↓aa,ad,simprocAttr];exact ⟨_,_,_,_,U.symm,rfl,iV _ _ _ _ _ (le_top (C.fj eI pZ)),cR.set (fun o=>absurd o (dh (ao1 _))) _,C.box bV (ao1 _) _⟩
   | false=>
     simp only [dC,apd,ao2,apa,bB] at U;simp only [↓aa,ad,simprocAttr];have g3:(aU ab n).atom d ws≠.error b7:=fun q=>by rw [q] at U;exact a8 U.symm
     refine cH (I.atom d ws ag aA i2 bx g3) ?_ ?_
     rotate_left
     . rintro x ar ⟨e,he,rfl,m,bo⟩;simp only [cF,aY,↓aa,ad,simprocAttr];exact ⟨e,by rw [he] at U;exact U.symm,rfl,(M2.trans m),bo⟩
     rintro x ar ⟨a,db,b5,i3,bU,rfl,aO,m3,cq⟩;rw [bU] at U
     try simp only [bB] at U
     have cu:=M2.trans m3;have c2:=aO.one;obtain ⟨aT,bs,cN,eF⟩:=fq ar b8 (vcs a b5);have m4:Mod (b3 ak) ar aT:=cN.mod _;have cX:=cu.trans m4;have cf:=cq.ext cN;have kZ:=bz.mod (m2.trans (m3.trans m4)) (bT bX);have tb:=aO.BD cN;have ou:ag.next<=ar.next:=m3.next
     simp only [c2.1,c2.2.1,c2.2.2,bs,eF.g,kZ.g,↓aa,ad,simprocAttr];refine gf (fun r g=>r 0=.ptr (an ak) 0/\r 2=.ptr (an h.next) 0/\r 5=.ptr (an ar.next) 0/\Has g h.next b8/\Mod (b3 ak) h g/\∃m a b5 dm jd,m<=n/\Has g ar.next (vcs a b5)/\dq (lv ag.next ar.next) g a b5/\ed W ab ak g d dm aA jd/\(aU ab m).args d a dm=res) (fun _ g=>qS W ak g) ?_ ?_
     . exact ⟨by simp only [↓aa,cQ,simprocAttr],by simp only [↓aa,cQ,simprocAttr],by simp only [↓aa,cQ,simprocAttr],kZ,cX,n,_,_,_,_,ao1 _,eF,tb,cf,U⟩
     rintro r bC ⟨aW,bf,b4,R,cR,m,a,b5,dm,jd,hm,A,P,bV,U⟩;cases m with
     | zero=>exact (a8 U.symm).elim
     | succ m=>
       replace U:tm (aU ab m) d a dm=res:=U;unfold tm at U;have I:=J m (by omega);have jf:=A.lt;simp only [aW,bf,b4,↓aa,ad,simprocAttr];refine aX (Mt bV) ?_;rintro x bA ⟨rfl,eS⟩;have m6:Mod (b3 ak) bC bA:=eS.mod _;have de:=cR.trans m6;have cv:=bV.ext eS;cases ju:n1 dm with
       | true=>
         simp only [ju,apd,ao2,apa,bB] at U;have jM:=A.mod m6 (bT (by have:=cu.next;omega));simp only [jM.g,aW,bf,b4,↓aa,ad,simprocAttr];have g7:(aU ab m).atom d dm≠.error b7:=fun q=>by rw [q] at U;exact a8 U.symm
         refine cH (I.atom d dm bA aA jd cv g7) ?_ ?_
         rotate_left
         . rintro x cd ⟨e,he,rfl,m,bo⟩;simp only [cF,aY,jM.g,aW,bf,b4,kY,↓aa,ad,simprocAttr];exact ⟨rfl,e,by rw [he] at U;exact U.symm,rfl,(de.trans m),bo⟩
         rintro x cd ⟨b,mS,eM,i7,e3,rfl,fO,m7,eR⟩;rw [e3] at U
         try simp only [bB] at U
         have ew:=de.trans m7;have k0:=jM.mod m7 (bT (by have:=cu.next;omega));simp only [aW,bf,b4,jM.g,k0.g,↓aa,ad,simprocAttr];have Vb:=P.xL (m6.trans m7) (by have:=M2.next;omega);refine aX (uI 28 Vb (fO.HZ (ia:=ag.next) (n:=ar.next) (by have:=cR.next;have:=m6.next;have:=jf;have:=ou;omega) (by have:=m6.next;have:=jf;have:=ou;omega))) ?_;rintro x et ⟨ev,rfl,k3,ga⟩;have ef:=H0 k3 (by have:=cR.next;have:=(m6.trans m7).next;have:=jf;have:=ou;omega) (by have:=(m6.trans m7).next;have:=jf;have:=ou;omega);have m8:Mod (b3 ak) cd et:=ga.mod _;have g':=ew.trans m8;have gj:=eR.ext ga;have o:=ef.one;have wg:=k0.mod m8 (bT (by have:=cu.next;omega));have Gg:=R.mod (m6.trans (m7.trans m8)) (bT bX);simp only [o.1,o.2.1,o.2.2,vcs,bR,aW,bf,b4,wg.g,jM.g,k0.g,↓aa,ad,simprocAttr];have fo:=C.box gj (n:=ar.next) cu.next (.bc (vcs (two 28 a b) ev) 0 false)
         exact ⟨⟨Gg.set (by have:=bz.lt;have:=(m2.trans m3).next;omega) _,g'.set (fun o=>absurd o (dh cu.next)) _,m,(two 28 a b),ev,_,_,by omega,wg.put _,ef.set (fun q=>q.2 rfl) _,fo,U⟩,by rw [lH bV,lH fo];have:=vg ((shorter ab m).atom d dm (.inl trivial)) e3;omega⟩
       | false=>
         simp only [ju,apd,ao2,apa,bB] at U;have yE:=P.xL m6 (by have:=M2.next;omega);have jl:=R.mod m6 (bT bX);have jM:=A.mod m6 (bT (by have:=cu.next;omega));have o:=yE.one;simp only [o.1,o.2.1,o.2.2,aY,vcs,bR,aW,bf,b4,jl.g,jM.g,↓aa,ad,simprocAttr];exact ⟨_,_,_,_,U.symm,rfl,yE.Df (by have:=bz.lt;have:=m2.next;omega) (by have:=(m1.trans m2).next;omega) _,de.set (fun o=>absurd o (dh (ao1 _))) _,C.box cv (ao1 _) _⟩
end
section
variable {B ia hl ak:Nat} {G F:aO->Prop} {h af:ah} {size:Nat} {es:List (List D)} {v da:V} {l:List aN} {p:aN} {W:List aq} {ab d i:Nat} {ws bS:List aq} {aA:V}
theorem Se (H:dz B G h size es v) (cj:ia<=B):dz ia G h size es v:=by obtain ⟨us,a,b,c,d⟩:=H.ex;exact ⟨us,a.mono cj,b,c,d⟩
theorem Sd (H:dz B (Fr B) h size es v) (cj:ia<=B):dz ia (Fr ia) h size es v:=Se (H.eW fun b q=>ao6 cj q) cj
theorem ZU {u:List V} (H:eJ F h p.enc u):∃v,u=vcs p v/\dq F h p v:=by rw [Fv] at H;obtain ⟨_,rfl,ch⟩:=H.int;obtain ⟨_,rfl,c8⟩:=ch.int;obtain ⟨_,rfl,c3⟩:=c8.int;obtain ⟨_,rfl,al,g_⟩:=c3.str;obtain ⟨v,_,rfl,q,c5⟩:=g_.c7;obtain rfl:=c5.no;exact ⟨v,rfl,q,al⟩
theorem uv (O:dz B (Fr B) h 5 (l.map aN.enc) da) (aH:l.length<=3000000):fw (Fr B) h 5 (l.map aN.enc) da:=
 O.c7 (by rw [apD];unfold top;omega) (fun b q=>q) fun b q=>q
theorem rX (O:dz B (Fr B) h 5 (l.map aN.enc) da) (aH:l.length<=3000000) (k n a:Int) {s:List UInt8} (al:s.length<=top):dq (Fr B) h (.mk k n a s l) da:=⟨uv O aH,al⟩
theorem ai5 {t:List aN} (O:dz B (Fr B) h 5 ((p::t).map aN.enc) da) (aH:(p::t).length<=3000000):∃b off v,mG 5 da (.int .i64 0)=some (.ptr b off)/\rT 5 (h.get b) off=some (.agg (vcs p v))/\dq (Fr B) h p v:=by obtain ⟨b,off,u,aP,bu,cT,cN,_⟩:=(uv O aH).at (k:=.i64) (i:=0) (by simp);simp only [aqA,List.getElem_cons_zero] at bu;obtain ⟨v,rfl,q⟩:=ZU bu;exact ⟨b,off+0 * 5,v,aP,cN h (Ext.refl h),q⟩
theorem z8 (P:dq (Fr B) h p v) (cj:B<=h.next):∃g,h.new (.bc (vcs p v) 0 false)=g/\Ext h g/\dz B (Fr B) g 5 ([p].map aN.enc) (.slice (an h.next) 0 1 1):=by obtain ⟨g,ao,av,aC⟩:=ai7 (cs:=vcs p v) (size:=5) rfl P.cs;exact ⟨g,ao,av,Se (aC.eW fun b q=>q.1) cj⟩
theorem pt (O:dz B (Fr B) h 5 (l.map aN.enc) da) (P:dq (Fr hl) h p v) (b0:∀b,da.bn b->dP b<hl) (cj:B<=hl) (wY:hl<=h.next) (aH:l.length<=3000000):
 ∃ez af,l0 5 da (.slice (an h.next) 0 1 1) (h.new (.bc (vcs p v) 0 false))=.val ez af/\dz B (Fr B) af 5 ((l++[p]).map aN.enc) ez/\Mod (fun b=>B<=dP b/\dP b<hl) h af/\Mod da.bn h af/\∀b,ez.bn b->da.bn b\/h.next<dP b:=by
 obtain ⟨ez,af,ao,av,aC,_,ca⟩:=O.add (ds:=p.enc) (cs:=vcs p v) (P.cs.eW fun b q=>⟨ao6 cj q,fun z=>by have:=b0 b z;unfold Fr at q;omega⟩) (by decide) (ao6 cj wY) (by rw [apD];unfold top;omega) rfl;refine ⟨ez,af,ao,by rw [aqH];exact av,⟨aC.next,fun b o q=>aC.get b o fun z=>q ⟨O.base z,b0 b z⟩⟩,aC,ca⟩
theorem ai4 {eD:List aN} {w:V} (O:dz B (Fr B) h 5 (l.map aN.enc) da) (L:dz hl (Fr hl) h 5 (eD.map aN.enc) w) (b0:∀b,da.bn b->dP b<hl) (cj:B<=hl) (wY:hl<=h.next) (aH:l.length<=3000000) (j7:eD.length<=3000000):
 ∃ez af,l0 5 da w h=.val ez af/\dz B (Fr B) af 5 ((l++eD).map aN.enc) ez/\Mod (fun b=>B<=dP b/\dP b<hl) h af:=by
 obtain ⟨ez,af,ao,av,aC,_⟩:=ai3 O (uv L j7) (fun b q=>⟨ao6 cj q,fun z=>by have:=b0 b z;unfold Fr at q;omega⟩) (by decide) (ao6 cj wY) (by rw [apD,apD];unfold top;omega);refine ⟨ez,af,ao,by rw [aqH];exact av,aC.next,fun b o q=>aC.get b o fun z=>q ⟨O.base z,b0 b z⟩⟩
theorem lk (O:dz B G h size es v) {n:Nat} (aF:h.next<=n):∀b,v.bn b->dP b<n:=fun b q=>by have:=O.R1 q;unfold Old at this;omega
abbrev yu (B hl:Nat):aO->Prop:=fun b=>B<=dP b/\dP b<hl
theorem n_ {n:Nat} {c:List V} (A:Has h n c) (m:Mod (yu B hl) h af) (aF:n<B\/hl<=n):Has af n c:=A.mod m fun z=>by unfold yu at z;rw [dk] at z;omega
theorem dq.l1 (A:dq (Fr ia) h p v) (m:Mod (yu B hl) h af) (aF:hl<=ia):dq (Fr ia) af p v:=⟨A.c7.mod m fun b q _=>⟨fun z=>by unfold yu at z;unfold Fr at q;omega,q⟩,A.str⟩
theorem ed.l1 {dE:Nat} {bS:List aq} {fX:Nat} {H km:ah} (c:ed W ab ak h d ws aA i) (eX:ed W ab ak H dE bS aA fX) (m:Mod (yu B hl) H km) (cj:h.next<=B):ed W ab ak km dE bS aA fX:=c.own eX m fun b q=>ao6 cj q.1
theorem ot {M:aO->Prop} {aL:ah} (a:Mod M aL h) (m:Mod (yu B hl) h af) (cj:aL.next<=B):Mod M aL af:=aht a m fun b q=>ao6 cj q.1
theorem zS {s:List UInt8} (e:ec ab s ws=.ok bS):bS.length<ws.length:=by
 unfold ec at e
 split at e
 . cases e;exact fx (by assumption)
 . cases e
theorem Tv {k:Int} {w:aq} (e:fg ab k ws=.ok (w,bS)):bS.length<ws.length:=by have:=kF (ab:=ab) (ws:=ws) (k:=k) (E:=fun _=>True) (fun _ _=>trivial);rw [e] at this;exact this
theorem ed.qf (c:ed W ab ak h d ws aA i):ws.length<=1000000:=by rw [c.eq,apr];have:=c.nF;omega
theorem Fp (O:dz B (Fr B) h size es v) {n:Nat} (aF:n<B) (k:c'):dz B (Fr B) (h.set (an n) k) size es v:=
 O.mod (M:=fun b=>b=an n) ((Mod.refl (fun b=>b=an n) h).set (fun _=>rfl) k) (fun b q z=>by have:=O.base q;rw [show b=an n from z,dk] at this;omega) fun b q _ _ z=>by unfold Fr at q;rw [show b=an n from z,dk] at q;omega
theorem ai8 (H:dz B G h size es v):dz B (fun b=>G b/\Old h b) h size es v:=by obtain ⟨us,a,b,c,d⟩:=H.ex;exact ⟨us,a,b,c,fun i e u ao av=>((d i e u ao av).cr).eW fun b q=>⟨⟨q.1.1,q.2⟩,q.1.2⟩⟩
theorem Sf (H:dz B (Fr B) h size es v) {n:Nat} (aF:h.next<=n):dz B (lv B n) h size es v:=(ai8 H).eW fun b q=>⟨q.1,fun z=>by rw [z] at q;exact dh aF q.2⟩
theorem z7 {n:Nat} (O:dz B (lv B n) h size es v) (m:Mod (b3 ak) h af) (ae:ak<B):dz B (lv B n) af size es v:=
 O.mod m (fun b q z=>by have:=O.base q;rw [show b=an ak from z,dk] at this;omega) fun b q _ _ z=>by have:=q.1;rw [show b=an ak from z,dk] at this;omega
theorem Ki {n:Nat} (O:dz B (lv B n) h 5 (l.map aN.enc) da) (P:dq (Fr hl) h p v) (b0:∀b,da.bn b->dP b<hl) (aF:n<hl) (cj:B<=hl) (wY:hl<=h.next) (aH:l.length<=3000000):
 ∃ez af,l0 5 da (.slice (an h.next) 0 1 1) (h.new (.bc (vcs p v) 0 false))=.val ez af/\dz B (lv B n) af 5 ((l++[p]).map aN.enc) ez/\Mod (fun b=>B<=dP b/\dP b<hl) h af/\Mod da.bn h af/\∀b,ez.bn b->da.bn b\/h.next<dP b:=by
 obtain ⟨ez,af,ao,av,aC,_,ca⟩:=O.add (ds:=p.enc) (cs:=vcs p v) (P.cs.eW fun b q=>⟨⟨ao6 cj q,fun z=>by unfold Fr at q;rw [z,dk] at q;omega⟩,fun z=>by have:=b0 b z;unfold Fr at q;omega⟩) (by decide) (ao6 cj wY) (by rw [apD];unfold top;omega) rfl;refine ⟨ez,af,ao,by rw [aqH];exact av,⟨aC.next,fun b o q=>aC.get b o fun z=>q ⟨O.base z,b0 b z⟩⟩,aC,ca⟩
theorem ai9 {n:Nat} (O:dz B (lv B n) h 5 (l.map aN.enc) da) (ap:¬da.bn (an n)) (yN:c') (aH:l.length<=3000000) (k m a:Int) {s:List UInt8} (al:s.length<=top):dq (Fr B) (h.set (an n) yN) (.mk k m a s l) da:=
 ⟨(O.mod (M:=fun b=>b=an n) ((Mod.refl (fun b=>b=an n) h).set (fun _=>rfl) yN) (fun b q z=>ap (by rw [<-show b=an n from z];exact q)) (fun b q _ _ z=>q.2 z)).c7 (by rw [apD];unfold top;omega) (fun b q=>q.1) fun b q=>q,al⟩
end
end
end Go.Proofs.YtahfljfikfkpnaaGreatDoor
