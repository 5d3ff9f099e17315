/- The chapter's functions, walked by the abstract machine: plain lemmas, no condition. Printed by a program from longer texts: names made short. -/
import Derived.Test.YtgmhjhgoamjeeaaGreatDoorM18
import Derived.Test.YtgmhjhgoamjeeaaGreatDoorM19
import Derived.Test.YtgmhjhgoamjeeaaGreatDoorM8
import Derived.Test.YtgmhjhgoamjeeaaGreatDoorM15
import Derived.Test.YtgmhjhgoamjeeaaGreatDoorM6
import Derived.Test.YtgmhjhgoamjeeaaGreatDoorM4
set_option linter.unusedSectionVars false
set_option linter.unusedSimpArgs false
set_option linter.unusedVariables false
set_option maxHeartbeats 64000000
noncomputable section
namespace Go.Proofs.YtgmhjhgoamjeeaaGreatDoor
section
open Go aZ
theorem Vb (l:List aM) (aW:cj l<=1000000000) (v:V) (h:ae) (L:bN Any h 5 (l.map aM.enc) v):cv Tryz.prog 91 [v] h fun x aa=>bN Any aa 5 ((hQ l).map aM.enc) x/\Ext h aa:=by
 have ar:=L.len;have hle:=L.le;rw [apv] at ar hle;refine ZH.z rfl (cr ?_);unfold Pf;simp +contextual only [↓ag,al,simprocAttr];refine eO (fun r g=>r 0=v/\Ext h g/\∃(i:Nat) (fP:V),r 4=.int .i64 i/\i<=l.length/\r 3=fP/\dY h.next (Old h) g 5 ((hQ (l.take i)).map aM.enc) fP) (fun r g=>l.length - (r 4).toN) ?_ ?_
 . exact ⟨by simp only [↓ag,bz,simprocAttr],Ext.refl h,0,_,by simp only [↓ag,bz,simprocAttr]<;>rfl,by omega,by simp only [↓ag,bz,simprocAttr]<;>rfl,dY.nil _ _ _ _⟩
 rintro r g ⟨a1,c',i,fP,eg,ax,b3,j8⟩;unfold Pg;by_cases aL:i<l.length
 . have g0:((i:Int) < (l.length:Int))=True:=apD (by omega);obtain ⟨b,off,ca,bW,X,dK,ld,_,_,_⟩:=aM.ki L (k:=.i64) aL;have d5:=ld g c';have ol:=dK.one;have db:=fW aL (by unfold top at hle;omega);simp +contextual only [a1,b3,eg,ar,g0,bW,d5,ol.1,ol.2.1,↓ag,al,simprocAttr];refine bS (alJ l[i] _ g (X.ext c')) ?_;rintro x g2 ⟨rfl,aK⟩;have Ac:=j8.ext aK;have d2:=ld g2 (c'.trans aK);have fi:=(c'.trans aK).next
   cases hw:r2 l[i] with
   | true=>
     simp +contextual only [a1,b3,eg,db,↓ag,al,simprocAttr];refine ⟨⟨c'.trans aK,i+1,fP,rfl,aL,rfl,?_⟩,by omega⟩;rw [take_one aL,Gt,apB hw];exact Ac
   | false=>
     obtain ⟨L4,g3,bJ,a2,a3,a4,a5⟩:=Ac.add (ds:=l[i].enc) (cs:=cd l[i] ca) ((X.rK.ext c').ext aK |>.eQ fun b q=>⟨q,fun z=>by have:=j8.base z;unfold Old at q;omega⟩) (by omega) fi (by have U:(hQ (l.take i)).length<=(l.take i).length:=arl _ _;rw [apv,apU] at *;have:=mI l;unfold top at *;omega) rfl;simp +contextual only [a1,b3,eg,ol.1,ol.2.1,bW,d2,bJ,db,↓ag,al,simprocAttr];refine ⟨⟨(c'.trans aK).iq a3 fun b z=>j8.base z,i+1,L4,rfl,aL,rfl,?_⟩,by omega⟩;rw [take_one aL,Gt,apu (by rw [hw];simp),aqM];exact a2
 . have g0:((i:Int) < (l.length:Int))=False:=apx (by omega);rw [apZ (by omega)] at j8;simp +contextual only [a1,b3,eg,ar,g0,↓ag,al,simprocAttr];refine ⟨j8.d' ?_ (fun _ _=>trivial) fun _ _=>trivial,c'⟩;have U:(hQ l).length<=l.length:=arl _ _;rw [apv];omega
theorem alj (l:List aM) (s:List UInt8) (v:V) (h:ae) (L:bN Any h 5 (l.map aM.enc) v):cv Tryz.prog 94 [v,.str s] h fun x aa=>x=.bool (l.any fun q=>decide (q.s=s))/\h=aa:=by
 have ar:=L.len;have hle:=L.le;rw [apv] at ar hle;refine ZK.z rfl (cr ?_);unfold Pl;simp +contextual only [↓ag,al,simprocAttr];refine eO (fun r g=>r 0=v/\r 1=.str s/\h=g/\∃i:Nat,r 5=.int .i64 i/\i<=l.length/\l.any (fun q=>decide (q.s=s))=(l.drop i).any fun q=>decide (q.s=s)) (fun r g=>l.length - (r 5).toN) ?_ ?_
 . exact ⟨by simp only [↓ag,bz,simprocAttr],by simp only [↓ag,bz,simprocAttr],rfl,0,by simp only [↓ag,bz,simprocAttr]<;>rfl,by omega,rfl⟩
 rintro r g ⟨a1,a',e,i,bL,ax,aA⟩;subst e;unfold Pm;by_cases aL:i<l.length
 . have g0:((i:Int) < (l.length:Int))=True:=apD (by omega);obtain ⟨b,off,ca,bW,X,dK,ld,_,pb,_⟩:=aM.ki L (k:=.i64) aL;have d3:=pb h (Ext.refl h);have db:=fW aL (by unfold top at hle;omega);rw [apW aL,List.any_cons] at aA;by_cases c:l[i].s=s
   . simp +contextual only [a1,a',bL,ar,g0,bW,d3,apD c,↓ag,al,simprocAttr];rw [aA,ap7 c,Bool.true_or]
   . simp +contextual only [a1,a',bL,ar,g0,bW,d3,apx c,db,↓ag,al,simprocAttr];refine ⟨⟨i+1,rfl,aL,?_⟩,by omega⟩;rw [aA,ap_ c,ars]
 . have g0:((i:Int) < (l.length:Int))=False:=apx (by omega);rw [aqf (by omega)] at aA;simp +contextual only [a1,a',bL,ar,g0,↓ag,al,simprocAttr];rw [aA];rfl
def GJ (cs:List bY) (s:List UInt8) (x:V):Prop:=∃(l_ k':List UInt8) (mc nQ:Int) (fc:V),x=.tuple [.agg [.str l_,.str k',.int .i64 mc,.int .i64 nQ,fc],.bool (eD s cs).isSome]/\k'=nA cs s/\fc.one=true/\fc.cells=[fc]/\(∃n:Nat,hK fc=some (.int .i64 n))/\
 (∀c,eD s cs=some c->k'=c.ty/\mc=c.tag/\hK fc=some (.int .i64 c.arg.length))/\(eD s cs=none->mc=0)
theorem aap {cs:List bY} {s:List UInt8} (h:eD s cs=none):GJ cs s (.tuple [.agg ku,.bool false]):=
 ⟨[],[],0,0,.bu,by rw [h];rfl,by simp [nA,h],rfl,rfl,⟨0,rfl⟩,fun c q=>(by rw [h] at q;cases q),fun _=>rfl⟩
theorem aaq {cs:List bY} {s:List UInt8} {c:bY} (h:eD s cs=some c) {cU:V} {a7:ae} (L:bN Any a7 4 c.arg cU):GJ cs s (.tuple [.agg (mV c cU),.bool true]):=
 ⟨c.name,c.ty,c.tag,c.par,cU,by rw [h];rfl,by simp [nA,h],L.one.1,L.one.2.1,⟨_,L.len⟩,fun gL q=>(by rw [h] at q;cases q;exact ⟨rfl,rfl,L.len⟩),fun q=>(by rw [h] at q;cases q)⟩
theorem UT (cs:List bY) (s:List UInt8) (v:V) (h:ae) (L:bN Any h 5 (cs.map bY.enc) v):cv Tryz.prog 93 [v,.str s] h fun x aa=>GJ cs s x/\Ext h aa:=by
 have ar:=L.len;have hle:=L.le;rw [apv] at ar hle;refine ZJ.z rfl (cr ?_);unfold Pj;obtain ⟨U,aj,av,mO⟩:=fE h ku;simp +contextual only [aj,↓ag,al,simprocAttr];refine eO (fun r g=>r 0=v/\r 1=.str s/\r 4=.ptr (aC h.next) 0/\U=g/\∃i:Nat,r 6=.int .i64 i/\i<=cs.length/\eD s cs=eD s (cs.drop i)) (fun r g=>cs.length - (r 6).toN) ?_ ?_
 . exact ⟨by simp only [↓ag,bz,simprocAttr],by simp only [↓ag,bz,simprocAttr],by simp only [↓ag,bz,simprocAttr],rfl,0,by simp only [↓ag,bz,simprocAttr]<;>rfl,by omega,rfl⟩
 rintro r g ⟨a1,a',eg,e,i,dI,ax,aA⟩;subst e;unfold Pk;by_cases aL:i<cs.length
 . have g0:((i:Int) < (cs.length:Int))=True:=apD (by omega);obtain ⟨b,off,cU,bW,X,mM,uJ,jg,_,_,_⟩:=bY.lV L (k:=.i64) aL;have d5:=uJ U av;have d0:=jg U av;have jh:=mM.one;have db:=fW aL (by unfold top at hle;omega);rw [aan aL] at aA;by_cases c:cs[i].name=s
   . rw [apB c] at aA;simp +contextual only [a1,a',eg,dI,ar,g0,bW,d5,d0,apD c,jh.1,jh.2.1,mO.g,↓ag,al,simprocAttr];exact ⟨aaq aA mM,av.set (aps _) _⟩
   . rw [apu c] at aA;simp +contextual only [a1,a',eg,dI,ar,g0,bW,d5,d0,apx c,db,↓ag,al,simprocAttr];exact ⟨⟨i+1,rfl,aL,aA⟩,by omega⟩
 . have g0:((i:Int) < (cs.length:Int))=False:=apx (by omega);rw [aqf (by omega)] at aA;simp +contextual only [a1,a',eg,dI,ar,g0,mO.g,↓ag,al,simprocAttr];exact ⟨aap aA,av.set (aps _) _⟩
def jC (bl:List aM) (i:Nat):List aM:=bl.filterMap fun q=>q.l[i]?
def kn (bl:List aM) (s:List UInt8):List aM:=(bl.filter fun q=>decide (q.s=s)&&decide (q.l.length=1)).filterMap fun q=>q.l[0]?
theorem VN (cs:List bY) (n:Nat):d_ cs n []=true:=by
 cases n with
 | zero=>rfl
 | succ n=>simp only [d_,hQ,List.filter_nil]
section
variable {cs:List bY} {n:Nat} {l bl:List aM} {p:aM} {s:List aM}
theorem L1 (kg:hQ l=p::s):d_ cs (n+1) l=((p::s).all (gB cs p)&&(p::s).all fun q=>(List.range q.l.length).all fun i=>d_ cs n (h8 (p::s) (eY q) i)):=by simp only [d_,kg]
theorem amp (kg:hQ l=p::s) {q:aM} (aq:q ∈ p::s) (h:gB cs p q=false):d_ cs (n+1) l=false:=by
 rw [L1 kg];have:(p::s).all (gB cs p)=false:=by rw [aq6];exact ⟨q,aq,by rw [h];simp⟩
 rw [this,aqd]
theorem amo (kg:hQ l=p::s) (ai:∀q ∈ p::s,fj q=true/\q.size<=1000000000) (aA:p.k≠16) (dx:∀q ∈ p::s,q.k=p.k):
 d_ cs (n+1) l=(d_ cs n (if p.k=15 then jC (p::s) 0 else [])&&d_ cs n (if p.k=15 then jC (p::s) 1 else [])):=by
 rw [L1 kg];have rl:(p::s).all (gB cs p)=true:=by rw [apP];intro q aq;simp [gB,dx q aq,aA]
 rw [rl,aqm];by_cases nW:p.k=15
 . rw [apB nW,apB nW];have aH:∀q ∈ p::s,eY q=(15,0,[],2)/\q.l.length=2:=fun q aq=>by
    have uu:=(dx q aq).trans nW;obtain ⟨_,_,a,_⟩:=te (ai q aq).2 (ai q aq).1;obtain ⟨b,c,d⟩:=a uu;exact ⟨by simp [eY,uu,b,c,d],b⟩
   have dj:∀i,h8 (p::s) (15,0,[],2) i=jC (p::s) i:=fun i=>by unfold h8 jC;congr 1;rw [List.filter_eq_self];intro q aq;rw [(aH q aq).1];simp
   have key:∀q ∈ p::s,((List.range q.l.length).all fun i=>d_ cs n (h8 (p::s) (eY q) i))=(d_ cs n (jC (p::s) 0)&&d_ cs n (jC (p::s) 1)):=fun q aq=>by rw [(aH q aq).1,(aH q aq).2,show List.range 2=[0,1] from rfl];simp only [aqT,List.all_nil,aqn,dj]
   cases bA:(d_ cs n (jC (p::s) 0)&&d_ cs n (jC (p::s) 1)) with
   | true=>
     rw [apP];intro q aq;rw [key q aq,bA]
   | false=>
     rw [aq6];exact ⟨p,aqo,by rw [key p aqo,bA];simp⟩
 . rw [apu nW,apu nW,VN,aqn,apP];intro q aq;have uu:=dx q aq;obtain ⟨_,_,_,_,a,_⟩:=te (ai q aq).2 (ai q aq).1;rw [a (by rw [uu];exact nW) (by rw [uu];exact aA)];rfl
theorem amm (kg:hQ l=p::s) (ai:∀q ∈ p::s,fj q=true/\q.size<=1000000000) (aA:p.k=16):
 d_ cs (n+1) l=((p::s).all (gB cs p)&&(p::s).all fun q=>d_ cs n (kn (p::s) q.s)):=by
 rw [L1 kg];cases rl:(p::s).all (gB cs p) with
 | false=>rfl
 | true=>
   rw [aqm,aqm];rw [apP] at rl;have IC:∀q ∈ p::s,q.k=16/\q.n=0/\q.l.length<=1/\∃c,eD q.s cs=some c/\c.arg.length=q.l.length:=fun q aq=>by
    have:=rl q aq;simp only [gB,aA,apn,apE,ne_eq,not_true_eq_false,aq2,ars] at this;obtain ⟨U,ab⟩:=this;obtain ⟨_,_,_,a,_⟩:=te (ai q aq).2 (ai q aq).1;obtain ⟨b,c⟩:=a U;cases au:eD q.s cs with
    | none=>rw [au] at ab;cases ab
    | some d=>
      rw [au] at ab;simp only [apn,apE] at ab;exact ⟨U,c,b,d,rfl,ab.2⟩
   have same:∀q ∈ p::s,∀x ∈ p::s,(eY x=eY q↔x.s=q.s):=fun q aq x ao=>by
    obtain ⟨bJ,a2,a3,c,a4,a5⟩:=IC q aq;obtain ⟨bR,b7,eL,d,ic,jt⟩:=IC x ao;refine ⟨fun e=>(by simp only [eY,aqw] at e;exact e.2.2.1),fun e=>?_⟩;rw [e,a4,apq] at ic;have:x.l.length=q.l.length:=by rw [<-jt,<-a5,ic]
    simp only [eY,bJ,a2,bR,b7,e,this]
   have key:∀q ∈ p::s,((List.range q.l.length).all fun i=>d_ cs n (h8 (p::s) (eY q) i))=d_ cs n (kn (p::s) q.s):=fun q aq=>by
    obtain ⟨bJ,a2,a3,c,a4,a5⟩:=IC q aq;by_cases U:q.l.length=1
    . rw [U,show List.range 1=[0] from rfl];simp only [aqT,List.all_nil,aqn];congr 1;unfold h8 kn;congr 1;refine List.filter_congr fun x ao=>?_;rw [aqg];simp only [apn,apE,same q aq x ao];refine ⟨fun e=>⟨e,?_⟩,fun e=>e.1⟩;have aI:=(same q aq x ao).2 e;simp only [eY,aqw] at aI;omega
    . have aY:q.l.length=0:=by omega
      have:kn (p::s) q.s=[]:=by unfold kn;rw [List.filterMap_eq_nil_iff];intro x ao;rw [aq7,apn,apE,apE] at ao;have aI:=(same q aq x ao.1).2 ao.2.1;simp only [eY,aqw] at aI;omega
      rw [aY,this,VN];rfl
   rw [aqg,apP,apP];exact ⟨fun h q aq=>by rw [<-key q aq];exact h q aq,fun h q aq=>by rw [key q aq];exact h q aq⟩
theorem TP (bl:List aM) (q:aM) (i:Nat):jC (bl++[q]) i=jC bl i++(match q.l[i]? with
 | some x=>[x]
 | none=>[]):=by
 unfold jC;rw [List.filterMap_append];congr 1;cases h:q.l[i]? <;>simp [h]
theorem Lc (bl:List aM) (q:aM) (s:List UInt8):kn (bl++[q]) s=kn bl s++(if q.s=s/\q.l.length=1 then (match q.l[0]? with
 | some x=>[x]
 | none=>[]) else []):=by
 unfold kn;rw [List.filter_append,List.filterMap_append];congr 1;by_cases c:q.s=s/\q.l.length=1
 . rw [apB c];simp only [arf,c.1,c.2,aq8,Bool.and_self,ap0,List.filter_nil];cases h:q.l[0]? <;>simp [h]
 . rw [apu c];have:(decide (q.s=s)&&decide (q.l.length=1))=false:=by
    rw [aqW];by_cases d:q.s=s
    . exact .inr (ap_ fun e=>c ⟨d,e⟩)
    . exact .inl (ap_ d)
   simp [arf,this]
theorem KY (bl:List aM) (i:Nat):(jC bl i).length<=bl.length:=List.length_filterMap_le _ _
theorem Uk (bl:List aM) (s:List UInt8):(kn bl s).length<=bl.length:=aqc (List.length_filterMap_le _ _) (arl _ _)
theorem TQ {i:Nat} {x:aM} (h:x ∈ jC bl i):∃q ∈ bl,x ∈ q.l:=by unfold jC at h;rw [List.mem_filterMap] at h;obtain ⟨q,aq,e⟩:=h;exact ⟨q,aq,apR e⟩
theorem akt {s:List UInt8} {x:aM} (h:x ∈ kn bl s):∃q ∈ bl,x ∈ q.l:=by unfold kn at h;rw [List.mem_filterMap] at h;obtain ⟨q,aq,e⟩:=h;exact ⟨q,(aq7.1 aq).1,apR e⟩
end
theorem Lh (f:aM->Option aM) (aB:∀q x,f q=some x->x ∈ q.l):∀bl:List aM,cj (bl.filterMap f)<=cj bl/\(bl≠[]->cj (bl.filterMap f)<cj bl)
 | []=>⟨aps _,fun h=>absurd rfl h⟩
 | q::bl=>by
   have bh:=(Lh f aB bl).1;have ai:=oi q;have key:cj ((q::bl).filterMap f)<cj (q::bl):=by
    rw [List.filterMap_cons,cj];cases h:f q with
    | none=>simp only;omega
    | some x=>
      have:=uY (aB q x h);simp only [cj];omega
   exact ⟨Nat.le_of_lt key,fun _=>key⟩
theorem TR (bl:List aM) (i:Nat) (h:bl≠[]):cj (jC bl i)<cj bl:=(Lh _ (fun q x e=>apR e) bl).2 h
theorem Qw (f:aM->Bool):∀bl:List aM,cj (bl.filter f)<=cj bl
 | []=>aps _
 | q::bl=>by
   have:=Qw f bl;rw [arf,cj]
   split
   . rw [cj];omega
   . omega
theorem aku (bl:List aM) (s:List UInt8) (h:bl≠[]):cj (kn bl s)<cj bl:=by
 unfold kn;have U:=Qw (fun q=>decide (q.s=s)&&decide (q.l.length=1)) bl;by_cases e:bl.filter (fun q=>decide (q.s=s)&&decide (q.l.length=1))=[]
 . rw [e,List.filterMap_nil,cj];cases bl with
   | nil=>exact absurd rfl h
   | cons q bl=>rw [cj];have:=oi q;omega
 . have:=(Lh (fun q=>q.l[0]?) (fun q x e=>apR e) _).2 e;omega
def Ae (cs:List bY) (n:Nat):Prop:=∀(l:List aM),cj l<=n->(∀p ∈ l,fj p=true)->∀(cA v:V) (h:ae),bN Any h 5 (cs.map bY.enc) cA->bN Any h 5 (l.map aM.enc) v->
 cv Tryz.prog 52 [cA,v] h fun x aa=>x=.bool (d_ cs n l)/\Ext h aa
theorem als {cs:List bY} {n:Nat} (R:Ae cs n) (a b:List aM) (bw:cj a<=n) (ah:cj b<=n) (akm:∀p ∈ a,fj p=true) (Le:∀p ∈ b,fj p=true) (cA cU lB:V) (h:ae) (C:bN Any h 5 (cs.map bY.enc) cA) (A:bN Any h 5 (a.map aM.enc) cU) (B:bN Any h 5 (b.map aM.enc) lB):
 cv Tryz.prog 92 [cA,cU,lB] h fun x aa=>x=.bool (d_ cs n a&&d_ cs n b)/\Ext h aa:=by
 refine ZI.z rfl (cr ?_);unfold Ph;simp +contextual only [↓ag,al,simprocAttr];refine bS (R a bw akm cA cU h C A) ?_;rintro x U ⟨rfl,av⟩;cases aW:d_ cs n a with
 | false=>
   simp +contextual only [↓ag,al,simprocAttr];exact av
 | true=>
   simp +contextual only [↓ag,al,simprocAttr];refine bS (R b ah Le cA lB U (C.ext av) (B.ext av)) ?_;rintro x ab ⟨rfl,aK⟩;simp +contextual only [↓ag,al,simprocAttr];exact av.trans aK
theorem Kt {F:aO->Prop} [Lay] {h:ae} {l:List aM} {v:V} (L:bN F h 5 (l.map aM.enc) v) {i:Nat} (ax:i<l.length):∃b off w,f' 5 v (.int .i64 i)=some (.ptr b off)/\b6 F h l[i].enc (cd l[i] w)/\w.one=true/\w.cells=[w]/\∀aa,Ext h aa->lX 5 (aa.get b) off=some (.agg (cd l[i] w)):=by obtain ⟨b,off,w,av,aK,bF,bZ,_⟩:=aM.ki L (k:=.i64) ax;exact ⟨b,_,w,av,aK,bF.one.1,bF.one.2.1,bZ⟩
theorem alv {cs:List bY} {n:Nat} (aV:n+1<=1000000000) (R:Ae cs n):Ae cs (n+1):=by
 intro l aW RX cA v h C L;refine OE.z rfl (cr ?_);unfold HW;simp +contextual only [↓ag,al,simprocAttr];refine bS (Vb l (by omega) v h L) ?_;rintro fP U ⟨S,av⟩;have gj:=S.len;have R7:=S.le;rw [apv] at gj R7;have cn:=LY l;cases kg:hQ l with
 | nil=>
   rw [kg] at gj;have g0:(((([]:List aM).length:Nat):Int)=0)=True:=apD rfl;have bA:d_ cs (n+1) l=true:=by simp only [d_,kg]
   simp +contextual only [gj,g0,bA,↓ag,al,simprocAttr];exact av
 | cons p s=>
 have ml:∀q ∈ p::s,fj q=true/\q.size<=1000000000:=fun q aq=>by rw [<-kg] at aq;have n5:=(aq7.1 aq).1;have:=rM n5;exact ⟨RX q n5,by omega⟩
 have Jv:∀q ∈ p::s,∀x ∈ q.l,fj x=true:=fun q aq x ao=>by obtain ⟨_,_,_,_,_,a⟩:=te (ml q aq).2 (ml q aq).1;exact a x ao
 have EU:∀q ∈ p::s,gB cs p q=false->d_ cs (n+1) l=false:=fun q aq z=>amp kg aq z;have yv:=amo (cs:=cs) (n:=n) kg ml;have Rn:=amm (cs:=cs) (n:=n) kg ml;rw [kg] at S gj R7 cn;have cT:p::s≠[]:=by simp
 have dj:=mI (p::s);have g0:((((p::s).length:Nat):Int)=0)=False:=apx (by simp only [apz];omega);have Mw:=C.ext av;generalize EC:p::s=bl at *;have acG:0<bl.length:=by rw [<-EC];simp
 have acH:bl[0]=p:=by subst EC;rfl
 obtain ⟨mT,h4,az,i0,Dg,_,lr,aiC,Tp,_⟩:=aM.ki S (k:=.i64) (i:=0) acG;have PW:=aiC U (Ext.refl U);simp only [arE,aqH,apX,acH] at i0 PW Tp;have Sn:f' 5 fP (.int .i64 0)=some (.ptr mT h4):=i0;simp +contextual only [gj,g0,Sn,PW,↓ag,al,simprocAttr]
 refine eO (fun r g=>r 0=cA/\r 1=fP/\r 5=.int .i64 p.k/\Ext U g/\∃(i:Nat) (cU lB:V),r 8=.int .i64 i/\i<=bl.length/\r 6=cU/\r 7=lB/\(∀q ∈ bl.take i,q.k=p.k)/\
  dY U.next (Old U) g 5 ((if p.k=15 then jC (bl.take i) 0 else []).map aM.enc) cU/\dY U.next (Old U) g 5 ((if p.k=15 then jC (bl.take i) 1 else []).map aM.enc) lB/\∀b,cU.aS b->¬lB.aS b) (fun r g=>bl.length - (r 8).toN) ?_ ?_
 . refine ⟨by simp only [↓ag,bz,simprocAttr],by simp only [↓ag,bz,simprocAttr],by simp only [↓ag,bz,simprocAttr],Ext.refl U,0,.bu,.bu,by simp only [↓ag,bz,simprocAttr]<;>rfl,by omega,by simp only [↓ag,bz,simprocAttr],by simp only [↓ag,bz,simprocAttr],fun q aq=>by simp at aq,?_,?_,fun b q=>q.elim⟩
   . simpa [jC] using dY.nil U.next (Old U) U 5
   . simpa [jC] using dY.nil U.next (Old U) U 5
 rintro r g ⟨a1,a',bL,c',i,cU,lB,dk,ax,dI,dN,dx,qV,pz,EA⟩;unfold OF;by_cases aL:i<bl.length
 . have g1:((i:Int) < (bl.length:Int))=True:=apD (by omega);obtain ⟨b,off,ca,bW,X,dK,ld,jg,pb,uI⟩:=aM.ki S (k:=.i64) aL;have d0:=jg g c';have d4:=uI g c';have db:=fW aL (by omega);have aq:bl[i] ∈ bl:=apV aL;by_cases aA:bl[i].k=p.k
   . have fU:=apD aA;have Rf:∀q ∈ bl.take (i+1),q.k=p.k:=fun q aq=>by
      rw [take_one aL] at aq;rcases aqv.1 aq with aq | aq
      . exact dx q aq
      . rw [aqa] at aq;rw [aq];exact aA
     by_cases nW:p.k=15
     . have IM:=apD nW;obtain ⟨_,_,f2,_⟩:=te (ml _ aq).2 (ml _ aq).1;have hW:=(f2 (aA.trans nW)).1;rw [apB nW] at qV pz;obtain ⟨bR,c8,bP,s0,Hq,eR,Mm,bU⟩:=Kt dK (i:=0) (by omega);obtain ⟨b7,cy,bH,s3,Xs,hc,anG,z2⟩:=Kt dK (i:=1) (by omega);have Km:f' 5 ca (.int .i64 0)=some (.ptr bR c8):=s0;have afD:f' 5 ca (.int .i64 1)=some (.ptr b7 cy):=s3;have cL:=c'.next
       have p9:=KY (bl.take i);have jU:(bl.take i).length<=1000000000:=by rw [apU];omega
       have FD:∀{x:aM} {q5:List V},b6 Any U x.enc q5->∀{c_:ae} (cU:V),Ext U c_->(∀b,cU.aS b->U.next<=b0 b)->b6 (fun b=>Old U b/\¬cU.aS b) c_ x.enc q5:=by intro x q5 X c_ cU e ah;exact (X.rK.ext e).eQ fun b q=>⟨q,fun z=>by have:=ah b z;unfold Old at q;omega⟩
       obtain ⟨xf,g2,bJ,a2,a3,a4,a5⟩:=qV.add (FD Hq cU c' fun b z=>qV.base z) (by omega) cL (by rw [apv];have:=p9 0;unfold top;omega) rfl;have DV:Ext U g2:=c'.iq a3 fun b z=>qV.base z;have W3:=pz.mod a3 (fun b z y=>EA b y z) fun b z _ _ y=>by have:=qV.base y;unfold Old at z;omega
       obtain ⟨am5,g3,Yd,Du,eL,ic,jt⟩:=W3.add (FD Xs lB DV fun b z=>pz.base z) (by omega) (by omega) (by rw [apv];have:=p9 1;unfold top;omega) rfl;have PV:∀b,xf.aS b->¬lB.aS b:=fun b z y=>by
        rcases a5 b z with q | q
        . exact EA b q y
        . have:=pz.kX y;unfold Old at this;omega
       have W2:=a2.mod eL PV fun b z _ _ y=>by have:=pz.base y;unfold Old at z;omega
       have Ik:=bU g c';have abc:=z2 g2 DV;have d42:=uI g2 DV;simp +contextual only [a1,a',bL,dI,dN,dk,gj,g1,bW,d0,d4,d42,fU,IM,Km,afD,Ik,abc,eR,Mm,hc,anG,bJ,Yd,db,↓ag,al,simprocAttr];refine ⟨⟨DV.iq eL fun b z=>pz.base z,i+1,xf,am5,rfl,aL,rfl,rfl,Rf,?_,?_,fun b z y=>?_⟩,by omega⟩
       . rw [take_one aL,TP,apo (by omega),aqM];exact W2
       . rw [take_one aL,TP,apo (by omega),aqM];exact Du
       . rcases jt b y with q | q
         . exact PV b z q
         . have:=a2.kX z;unfold Old at this;omega
     . have IM:=apx nW;simp +contextual only [a1,a',bL,dI,dN,dk,gj,g1,bW,d0,fU,IM,db,↓ag,al,simprocAttr];refine ⟨⟨c',i+1,cU,lB,rfl,aL,rfl,rfl,Rf,?_,?_,EA⟩,by omega⟩
       . rw [apu nW] at qV;exact qV
       . rw [apu nW] at pz;exact pz
   . have fU:=apx aA;have ah:=EU _ aq (by simp [gB,aA]);simp +contextual only [a1,a',bL,dI,dN,dk,gj,g1,bW,d0,fU,↓ag,al,simprocAttr];rw [ah];exact ⟨rfl,av.trans c'⟩
 . have g1:((i:Int) < (bl.length:Int))=False:=apx (by omega);rw [apZ (by omega)] at dx qV pz;by_cases mg:p.k=16
   . have rf:=apD mg;have DU:=av.trans c';have ls:=Tp g c';simp +contextual only [a1,a',bL,dI,dN,dk,gj,g1,rf,Sn,ls,↓ag,al,simprocAttr];refine bS (UT cs p.s cA g (C.ext DU)) ?_;rintro x g2 ⟨⟨er,IA,QM,QN,v8,rfl,f1,f2,f3,_,_,_⟩,aK⟩;obtain ⟨g3,aJ,bF,WB⟩:=hA g2 ku [.str er,.str IA,.int .i64 QM,.int .i64 QN,v8];have xW:=(c'.trans aK).trans bF;simp +contextual only [a1,a',f2,f3,aJ,↓ag,al,simprocAttr];refine eO (fun r G=>r 0=cA/\r 1=fP/\r 9=.ptr (aC g2.next) 0/\Ext U G/\Has G g2.next [.str er,.str IA,.int .i64 QM,.int .i64 QN,v8]/\∃i:Nat,r 11=.int .i64 i/\i<=bl.length/\∀q ∈ bl.take i,gB cs p q=true/\d_ cs n (kn bl q.s)=true) (fun r G=>bl.length - (r 11).toN) ?_ ?_
     . exact ⟨by simp only [a1,↓ag,bz,simprocAttr],by simp only [a',↓ag,bz,simprocAttr],by simp only [↓ag,bz,simprocAttr],xW,WB,0,by simp only [↓ag,bz,simprocAttr]<;>rfl,by omega,fun q aq=>by simp at aq⟩
     clear a1 a' bL dI dN dk qV pz EA g1 ls;rintro r G ⟨a1,a',dT,vV,zR,i,gH,ax,je⟩;unfold OH;by_cases aL:i<bl.length
     . have g1:((i:Int) < (bl.length:Int))=True:=apD (by omega);obtain ⟨b,off,ca,bW,X,dK,ld,jg,pb,uI⟩:=aM.ki S (k:=.i64) aL;have d3:=pb G vV;have db:=fW aL (by omega);have aq:bl[i] ∈ bl:=apV aL;have aA:bl[i].k=p.k:=dx _ aq;have wC:=dK.len;rw [apv] at wC;simp +contextual only [a1,a',dT,gH,gj,g1,bW,d3,↓ag,al,simprocAttr];refine bS (UT cs bl[i].s cA G (Mw.ext vV)) ?_;rintro x GL ⟨⟨l_,k',mc,nQ,fc,rfl,bQ,b2,c3,⟨pK,gr⟩,c5,_⟩,bM⟩;obtain ⟨oz,Dc,gl,r3⟩:=hA GL ku [.str l_,.str k',.int .i64 mc,.int .i64 nQ,fc];have xp:=(zR.ext bM).ext gl;have pN:=(vV.trans bM).trans gl;have d43:=uI oz pN;have d33:=pb oz pN;cases au:eD bl[i].s cs with
       | none=>
         have ah:=EU _ aq (by simp [gB,aA,mg,au]);simp +contextual only [a1,a',dT,gH,b2,c3,gr,Dc,xp.g,r3.g,bW,d43,wC,Option.isSome_none,↓ag,al,simprocAttr];rw [ah];exact ⟨rfl,av.trans pN⟩
       | some c=>
       obtain ⟨rfl,rfl,HV⟩:=c5 c au;by_cases mw:c.ty=IA
       . by_cases hk:(c.arg.length:Int)=(bl[i].l.length:Int)
         . have uo:gB cs p bl[i]=true:=by
            have:c.arg.length=bl[i].l.length:=by omega
            rw [f1] at mw;simp [gB,aA,au,mw,this]
           obtain ⟨ana,t1,T⟩:=bN.take (S.ext pN) (k:=.i64) (i:=i) (by rw [apv];omega);rw [<-List.map_take] at T;simp +contextual only [a1,a',dT,gH,b2,c3,HV,Dc,xp.g,r3.g,bW,d43,d33,wC,apD mw,apD hk,t1,aq3,↓ag,al,simprocAttr];refine bS (alj (bl.take i) bl[i].s ana oz T) ?_;rintro x GM ⟨rfl,e⟩;subst e;cases iQ:(bl.take i).any fun q=>decide (q.s=bl[i].s) with
           | true=>
             simp +contextual only [a1,a',dT,gH,db,d33,↓ag,al,simprocAttr];refine ⟨⟨pN,xp,i+1,rfl,aL,fun q ij=>?_⟩,by omega⟩;rw [take_one aL] at ij;rcases aqv.1 ij with ij | ij
             . exact je q ij
             . rw [aqa] at ij;subst ij;rw [List.any_eq_true] at iQ;obtain ⟨fk,fv,Q5⟩:=iQ;rw [apE] at Q5;exact ⟨uo,Q5 ▸ (je fk fv).2⟩
           | false=>
             simp +contextual only [a1,a',dT,gH,db,d33,↓ag,al,simprocAttr];have n3:=pN.next
             refine eO (fun r g=>r 0=cA/\r 1=fP/\r 9=.ptr (aC g2.next) 0/\r 11=.int .i64 i/\Ext oz g/\∃(j:Nat) (zE:V),r 15=.int .i64 j/\j<=bl.length/\r 14=zE/\dY oz.next (Old oz) g 5 ((kn (bl.take j) bl[i].s).map aM.enc) zE) (fun r g=>bl.length - (r 15).toN) ?_ ?_
             . refine ⟨by simp only [a1,↓ag,bz,simprocAttr],by simp only [a',↓ag,bz,simprocAttr],by simp only [dT,↓ag,bz,simprocAttr],by simp only [gH,↓ag,bz,simprocAttr],Ext.refl _,0,.bu,by simp only [↓ag,bz,simprocAttr]<;>rfl,by omega,by simp only [↓ag,bz,simprocAttr],?_⟩;simpa [kn] using dY.nil oz.next (Old oz) oz 5
             clear a1 a' dT gH;rintro r g ⟨a1,a',dT,gH,t',j,zE,pn,bC,FP,vw⟩;unfold OG;by_cases iO:j<bl.length
             . have AQ:((j:Int) < (bl.length:Int))=True:=apD (by omega);obtain ⟨bO,jE,am',kP,Ho,Dh,aoE,SY,aib,aic⟩:=aM.ki S (k:=.i64) iO;have df:=pN.trans t';have H9:=aib g df;have H_:=aic g df;have H':=pb g df;have zG:=fW iO (by omega);have EM:=Dh.len;rw [apv] at EM;by_cases Bu:bl[j].s=bl[i].s
               . by_cases jS:(bl[j].l.length:Int)=1
                 . have ad3:bl[j].l.length=1:=by omega
                   obtain ⟨bR,c8,bP,s0,Hq,eR,Mm,bU⟩:=Kt Dh (i:=0) (by omega);have Km:f' 5 am' (.int .i64 0)=some (.ptr bR c8):=s0;have Ik:=bU g df;have Fm:=t'.next
                   have aem:=Uk (bl.take j) bl[i].s;have o6:(bl.take j).length<=1000000000:=by rw [apU];omega
                   obtain ⟨am_,g6,bJ,a2,a3,a4,a5⟩:=vw.add (ds:=bl[j].l[0].enc) (cs:=cd bl[j].l[0] bP) (((Hq.ext pN).rK.ext t').eQ fun b q=>⟨q,fun z=>by have:=vw.base z;unfold Old at q;omega⟩) (by omega) Fm (by rw [apv];unfold top;omega) rfl;simp +contextual only [a1,a',dT,gH,FP,pn,gj,AQ,bW,kP,H9,H_,H',EM,apD Bu,apD jS,Km,Ik,eR,Mm,bJ,zG,↓ag,al,simprocAttr];refine ⟨⟨t'.iq a3 fun b z=>vw.base z,j+1,am_,rfl,iO,rfl,?_⟩,by omega⟩;rw [take_one iO,Lc,apB ⟨Bu,ad3⟩,apo (by omega),aqM];exact a2
                 . simp +contextual only [a1,a',dT,gH,FP,pn,gj,AQ,bW,kP,H9,H_,H',EM,apD Bu,apx jS,zG,↓ag,al,simprocAttr];refine ⟨⟨t',j+1,zE,rfl,iO,rfl,?_⟩,by omega⟩;rw [take_one iO,Lc,apu (fun z=>jS (by omega)),aqB];exact vw
               . simp +contextual only [a1,a',dT,gH,FP,pn,gj,AQ,bW,kP,H9,H_,H',EM,apx Bu,zG,↓ag,al,simprocAttr];refine ⟨⟨t',j+1,zE,rfl,iO,rfl,?_⟩,by omega⟩;rw [take_one iO,Lc,apu (fun z=>Bu z.1),aqB];exact vw
             . have AQ:((j:Int) < (bl.length:Int))=False:=apx (by omega);rw [apZ (by omega)] at vw;have aox:=aku bl bl[i].s cT;have aem:=Uk bl bl[i].s;have df:=pN.trans t';simp +contextual only [a1,a',dT,gH,FP,pn,gj,AQ,↓ag,al,simprocAttr];refine bS (R (kn bl bl[i].s) (by omega) (fun x ao=>by obtain ⟨q,aq,ao⟩:=akt ao;exact Jv q aq x ao) cA zE g (Mw.ext df) (vw.d' (by rw [apv];omega) (fun _ _=>trivial) fun _ _=>trivial)) ?_;rintro x g6 ⟨rfl,hg⟩;cases ng:d_ cs n (kn bl bl[i].s) with
               | true=>
                 simp +contextual only [a1,a',dT,gH,db,↓ag,al,simprocAttr];refine ⟨⟨df.trans hg,(xp.ext t').ext hg,i+1,rfl,aL,fun q ij=>?_⟩,by omega⟩;rw [take_one aL] at ij;rcases aqv.1 ij with ij | ij
                 . exact je q ij
                 . rw [aqa] at ij;subst ij;exact ⟨uo,ng⟩
               | false=>
                 have ah:d_ cs (n+1) l=false:=by
                  rw [Rn mg];have:(bl.all fun q=>d_ cs n (kn bl q.s))=false:=by rw [aq6];exact ⟨bl[i],aq,by rw [ng];simp⟩
                  rw [this,aqG]
                 simp +contextual only [a1,a',↓ag,al,simprocAttr];rw [ah];exact ⟨rfl,(av.trans df).trans hg⟩
         . have ah:=EU _ aq (by
            have:¬c.arg.length=bl[i].l.length:=by omega
            simp [gB,aA,mg,au,this])
           simp +contextual only [a1,a',dT,gH,b2,c3,HV,Dc,xp.g,r3.g,bW,d43,wC,apD mw,apx hk,aq3,↓ag,al,simprocAttr];rw [ah];exact ⟨rfl,av.trans pN⟩
       . have ah:=EU _ aq (by rw [f1] at mw;simp [gB,aA,mg,au,mw]);simp +contextual only [a1,a',dT,gH,b2,c3,HV,Dc,xp.g,r3.g,bW,d43,wC,apx mw,aq3,↓ag,al,simprocAttr];rw [ah];exact ⟨rfl,av.trans pN⟩
     . have g1:((i:Int) < (bl.length:Int))=False:=apx (by omega);rw [apZ (by omega)] at je;have bA:d_ cs (n+1) l=true:=by
        rw [Rn mg,apP.2 fun q aq=>(je q aq).1,apP.2 fun q aq=>(je q aq).2];rfl
       simp +contextual only [a1,a',dT,gH,gj,g1,↓ag,al,simprocAttr];rw [bA];exact ⟨rfl,av.trans vV⟩
   . have rf:=apx mg;simp +contextual only [a1,a',bL,dI,dN,dk,gj,g1,rf,↓ag,al,simprocAttr];have Sg:=TR bl 0 cT;have aoC:=TR bl 1 cT;have jR:=KY bl 0;have jS:=KY bl 1;have DU:=av.trans c';refine bS (als R (if p.k=15 then jC bl 0 else []) (if p.k=15 then jC bl 1 else []) ?_ ?_ ?_ ?_ cA cU lB g (C.ext DU) (qV.d' ?_ (fun _ _=>trivial) fun _ _=>trivial) (pz.d' ?_ (fun _ _=>trivial) fun _ _=>trivial)) ?_
     . split
       . omega
       . simp [cj]
     . split
       . omega
       . simp [cj]
     . intro x ao
       split at ao
       . obtain ⟨q,aq,ao⟩:=TQ ao;exact Jv q aq x ao
       . cases ao
     . intro x ao
       split at ao
       . obtain ⟨q,aq,ao⟩:=TQ ao;exact Jv q aq x ao
       . cases ao
     . rw [apv];split
       . omega
       . simp
     . rw [apv];split
       . omega
       . simp
     rintro x c_ ⟨rfl,c6⟩;simp +contextual only [↓ag,al,simprocAttr];rw [yv mg dx];exact ⟨rfl,DU.trans c6⟩
theorem alu (cs:List bY):Ae cs 0:=by
 intro l aW RX cA v h C L;have bm:l=[]:=by
  cases l with
  | nil=>rfl
  | cons p l=>have:=oi p;simp only [cj] at aW;omega
 subst bm;refine OE.z rfl (cr ?_);unfold HW;simp +contextual only [↓ag,al,simprocAttr];refine bS (Vb [] (by simp [cj]) v h L) ?_;rintro fP U ⟨S,av⟩;have gj:=S.len;have g0:((((hQ []).map aM.enc).length:Int)=0)=True:=apD rfl;simp +contextual only [gj,g0,↓ag,al,simprocAttr];exact ⟨rfl,av⟩
theorem Vc (cs:List bY):∀n,n<=1000000000->Ae cs n
 | 0,_=>alu cs
 | n+1,h=>alv h (Vc cs n (by omega))
theorem ajE {pre:List bY} {c d:bY} (aH:d ∈ pre) (h:d.name=c.name\/d.ty=c.ty/\d.tag=c.tag):rJ pre c=false:=by
 unfold rJ;rcases h with h | h
 . have:pre.any (fun d=>decide (d.name=c.name))=true:=by rw [List.any_eq_true];exact ⟨d,aH,ap7 h⟩
   rw [this];simp
 . have:pre.any (fun d=>decide (d.ty=c.ty/\d.tag=c.tag))=true:=by rw [List.any_eq_true];exact ⟨d,aH,ap7 h⟩
   rw [this];simp
theorem ajF {pre:List bY} {c:bY} (h:∀d ∈ pre,¬(d.name=c.name\/d.ty=c.ty/\d.tag=c.tag)) (U:c.arg.length<=1) (ab:dh 4 c.name=true):rJ pre c=true:=by
 unfold rJ;have a:pre.any (fun d=>decide (d.name=c.name))=false:=by rw [List.any_eq_false];intro d aH;rw [apE];exact fun z=>h d aH (.inl z)
 have b:pre.any (fun d=>decide (d.ty=c.ty/\d.tag=c.tag))=false:=by rw [List.any_eq_false];intro d aH;rw [apE];exact fun z=>h d aH (.inr z)
 rw [a,b,ap7 U,ab];rfl
theorem ak9 (cs:List bY) (l:List aM) (aW:cj l+2<=1000000000) (cA v:V) (h:ae) (ja:bN Any h 5 (cs.map bY.enc) cA) (L:bN Any h 5 (l.map aM.enc) v):
 cv Tryz.prog 21 [cA,v] h fun x aa=>x=.int .i64 (jO cs l)/\Ext h aa:=by
 have ar:=L.len;have hle:=L.le;rw [apv] at ar hle;have au:=ja.len;have I6:=ja.le;rw [apv] at au I6;refine Y7.z rfl (cr ?_);unfold c21;simp +contextual only [↓ag,al,simprocAttr];refine eO (fun r g=>r 0=cA/\r 1=v/\Ext h g/\∃i:Nat,r 5=.int .i64 i/\i<=cs.length/\h2 [] cs=h2 (cs.take i) (cs.drop i)) (fun r g=>cs.length - (r 5).toN) ?_ ?_
 . exact ⟨by simp only [↓ag,bz,simprocAttr],by simp only [↓ag,bz,simprocAttr],Ext.refl h,0,by simp only [↓ag,bz,simprocAttr]<;>rfl,by omega,rfl⟩
 rintro r g ⟨a1,a',c',i,bL,ax,aA⟩;unfold Oe;by_cases aL:i<cs.length
 . have g0:((i:Int) < (cs.length:Int))=True:=apD (by omega);obtain ⟨b,off,cU,bW,X,mM,uJ,jg,dS,qn,uI⟩:=bY.lV ja (k:=.i64) aL;have d0:=jg g c';have jh:=mM.one;have rC:=mM.len;have db:=fW aL (by unfold top at I6;omega);have rv:cs[i].name.length<=top:=by obtain ⟨_,_,z,_⟩:=X.str;exact z
   rw [apW aL,h2] at aA;simp +contextual only [a1,a',bL,au,g0,bW,d0,↓ag,al,simprocAttr];refine bS (qz 4 cs[i].name rv (by simp) g) ?_;rintro x g1 ⟨rfl,av⟩;have d4:=uI g1 (c'.trans av);have la:=c'.trans av;cases iQ:dh 4 cs[i].name with
   | false=>
     have ah:h2 [] cs=false:=by rw [aA];unfold rJ;rw [iQ];simp
     simp +contextual only [a1,a',bL,bW,d4,rC,↓ag,al,simprocAttr];rw [x3 ah];exact ⟨rfl,la⟩
   | true=>
   by_cases U:(cs[i].arg.length:Int)>1
   . have ah:h2 [] cs=false:=by
      have:¬cs[i].arg.length<=1:=by omega
      rw [aA];unfold rJ;rw [ap_ this];simp
     simp +contextual only [a1,a',bL,bW,d4,rC,apD U,↓ag,al,simprocAttr];rw [x3 ah];exact ⟨rfl,la⟩
   . simp +contextual only [a1,a',bL,bW,d4,rC,apx U,↓ag,al,simprocAttr];refine eO (fun r g=>r 0=cA/\r 1=v/\r 5=.int .i64 i/\g1=g/\∃k:Nat,r 6=.int .i64 k/\k<=i/\∀d ∈ cs.take k,¬(d.name=cs[i].name\/d.ty=cs[i].ty/\d.tag=cs[i].tag)) (fun r g=>i - (r 6).toN) ?_ ?_
     . exact ⟨by simp only [a1,↓ag,bz,simprocAttr],by simp only [a',↓ag,bz,simprocAttr],by simp only [bL,↓ag,bz,simprocAttr],rfl,0,by simp only [↓ag,bz,simprocAttr]<;>rfl,by omega,fun q aq=>by simp at aq⟩
     clear a1 a' bL;rintro r c_ ⟨a1,a',bL,e,k,dI,gv,je⟩;subst e;unfold Od;by_cases ke:k<i
     . have g2:((k:Int) < (i:Int))=True:=apD (by omega);have iC:k<cs.length:=by omega
       obtain ⟨bO,jE,xf,kP,_,_,_,SY,ah_,aia,_⟩:=bY.lV ja (k:=.i64) iC;have DL:=jg g1 la;have DN:=dS g1 la;have DP:=qn g1 la;have DM:=SY g1 la;have DO:=ah_ g1 la;have DQ:=aia g1 la;have Gz:=fW ke (by unfold top at I6;omega);have Be:cs[k] ∈ cs.take i:=by rw [List.mem_take_iff_getElem];exact ⟨k,by omega,rfl⟩
       have bad:(cs[k].name=cs[i].name\/cs[k].ty=cs[i].ty/\cs[k].tag=cs[i].tag)->h2 [] cs=false:=fun z=>by rw [aA,ajE Be z];rfl
       have fu:¬(cs[k].name=cs[i].name\/cs[k].ty=cs[i].ty/\cs[k].tag=cs[i].tag)->∀d ∈ cs.take (k+1),¬(d.name=cs[i].name\/d.ty=cs[i].ty/\d.tag=cs[i].tag):=fun z d aH=>by
        rw [aqh iC] at aH;rcases aqv.1 aH with aH | aH
        . exact je d aH
        . rw [aqa] at aH;rw [aH];exact z
       by_cases cL:cs[k].name=cs[i].name
       . simp +contextual only [a1,a',bL,dI,g2,bW,kP,DL,DN,DP,DM,DO,DQ,apD cL,↓ag,al,simprocAttr];rw [x3 (bad (.inl cL))];exact ⟨rfl,la⟩
       . by_cases fi:cs[k].ty=cs[i].ty
         . by_cases n3:cs[k].tag=cs[i].tag
           . simp +contextual only [a1,a',bL,dI,g2,bW,kP,DL,DN,DP,DM,DO,DQ,apx cL,apD fi,apD n3,↓ag,al,simprocAttr];rw [x3 (bad (.inr ⟨fi,n3⟩))];exact ⟨rfl,la⟩
           . simp +contextual only [a1,a',bL,dI,g2,bW,kP,DL,DN,DP,DM,DO,DQ,apx cL,apD fi,apx n3,Gz,↓ag,al,simprocAttr];exact ⟨⟨k+1,rfl,ke,fu (fun z=>z.elim cL fun z=>n3 z.2)⟩,by omega⟩
         . simp +contextual only [a1,a',bL,dI,g2,bW,kP,DL,DN,DP,DM,DO,DQ,apx cL,apx fi,Gz,↓ag,al,simprocAttr];exact ⟨⟨k+1,rfl,ke,fu (fun z=>z.elim cL fun z=>fi z.1)⟩,by omega⟩
     . have g2:((k:Int) < (i:Int))=False:=apx (by omega);have adX:k=i:=by omega
       subst adX;simp +contextual only [a1,a',bL,dI,g2,db,↓ag,al,simprocAttr];refine ⟨⟨la,k+1,rfl,aL,?_⟩,by omega⟩;rw [aA,ajF je (by omega) iQ,aqm,aqh aL]
 . have g0:((i:Int) < (cs.length:Int))=False:=apx (by omega);rw [aqf (by omega),h2] at aA;simp +contextual only [a1,a',bL,au,g0,↓ag,al,simprocAttr];refine eO (fun r g=>r 0=cA/\r 1=v/\Ext h g/\∃i:Nat,r 7=.int .i64 i/\i<=l.length/\∀p ∈ l.take i,fj p=true) (fun r g=>l.length - (r 7).toN) ?_ ?_
   . exact ⟨by simp only [a1,↓ag,bz,simprocAttr],by simp only [a',↓ag,bz,simprocAttr],c',0,by simp only [↓ag,bz,simprocAttr]<;>rfl,by omega,fun q aq=>by simp at aq⟩
   clear a1 a' bL c';rintro r g ⟨a1,a',c',i,dN,ax,je⟩;unfold Of;by_cases aL:i<l.length
   . have g0:((i:Int) < (l.length:Int))=True:=apD (by omega);obtain ⟨b,off,ca,bW,X,dK,ld,jg,_,_⟩:=aM.ki L (k:=.i64) aL;have d5:=ld g c';have d0:=jg g c';have ol:=dK.one;have db:=fW aL (by unfold top at hle;omega);have ai:l[i] ∈ l:=apV aL;have cn:=rM ai;by_cases cm:l[i].k<10
     . have ah:=D4 (cs:=cs) ai (by
        have:¬10<=l[i].k:=by omega
        simp [fj,this])
       simp +contextual only [a1,a',dN,ar,g0,bW,d0,apD cm,↓ag,al,simprocAttr];rw [ah];exact ⟨rfl,c'⟩
     . by_cases cz:l[i].k>16
       . have ah:=D4 (cs:=cs) ai (by
          have:¬l[i].k<=16:=by omega
          simp [fj,this])
         simp +contextual only [a1,a',dN,ar,g0,bW,d0,apx cm,apD cz,↓ag,al,simprocAttr];rw [ah];exact ⟨rfl,c'⟩
       . simp +contextual only [a1,a',dN,ar,g0,bW,d0,d5,apx cm,apx cz,↓ag,al,simprocAttr];refine bS (F7 l[i].size l[i] (aps _) (by omega) _ g (X.ext c')) ?_;rintro x g2 ⟨rfl,aK⟩;rw [uO (named:=dh) l[i].size l[i] (aps _) (by omega)];have iS:fj l[i]=l[i].may dh:=by
          have a:10<=l[i].k:=by omega
          have b:l[i].k<=16:=by omega
          simp [fj,a,b]
         cases hm:l[i].may dh with
         | false=>
           rw [hm] at iS;simp +contextual only [↓ag,al,simprocAttr];rw [D4 (cs:=cs) ai iS];exact ⟨rfl,c'.trans aK⟩
         | true=>
           rw [hm] at iS;simp +contextual only [a1,a',dN,db,↓ag,al,simprocAttr];refine ⟨⟨c'.trans aK,i+1,rfl,aL,fun q aq=>?_⟩,by omega⟩;rw [take_one aL] at aq;rcases aqv.1 aq with aq | aq
           . exact je q aq
           . rw [aqa] at aq;subst aq;exact iS
   . have g0:((i:Int) < (l.length:Int))=False:=apx (by omega);rw [apZ (by omega)] at je;simp +contextual only [a1,a',dN,ar,g0,↓ag,al,simprocAttr];refine bS (Vc cs (cj l) (by omega) l (aps _) je cA v g (ja.ext c') (L.ext c')) ?_;rintro x g2 ⟨rfl,aK⟩;have he:=Qn aA je;cases ng:d_ cs (cj l) l with
     | true=>
       rw [ng] at he;simp +contextual only [he,ap0,↓ag,al,simprocAttr];exact c'.trans aK
     | false=>
       rw [ng] at he;simp +contextual only [he,apG,ap2,↓ag,al,simprocAttr];exact c'.trans aK
def ot (cs:List bY) (s:List UInt8):Int:=match eD s cs with
 | some c=>c.tag
 | none=>0
abbrev gW:=List Int × Bool × Int
def jd (cs:List bY) (k n:Int) (s:List UInt8) (path:List Int):List gW:=
 if k=12 then [(path,true,n)] else if k=14 then [(path,false,n)] else if k=16 then [(path,false,ot cs s)] else []
mutual
def ou (cs:List bY):aM->List Int->List gW
 | .mk k n _ s l,path=>jd cs k n s path++lW cs l path 0
def lW (cs:List bY):List aM->List Int->Nat->List gW
 | [],_,_=>[]
 | t::l,path,i=>ou cs t (path++[(i:Int)])++lW cs l path (i+1)
end
abbrev Nm:=List UInt8 × List Int
def nb (k:Int) (s:List UInt8) (path:List Int):List Nm:=if k=11 then [(s,path)] else []
mutual
def od:aM->List Int->List Nm
 | .mk k _ _ s l,path=>nb k s path++lq l path 0
def lq:List aM->List Int->Nat->List Nm
 | [],_,_=>[]
 | t::l,path,i=>od t (path++[(i:Int)])++lq l path (i+1)
end
theorem Gv (cs:List bY) (p:aM) (path:List Int):ou cs p path=jd cs p.k p.n p.s path++lW cs p.l path 0:=by cases p;rfl
theorem KP (p:aM) (path:List Int):od p path=nb p.k p.s path++lq p.l path 0:=by cases p;rfl
theorem SP (cs:List bY):∀(l m:List aM) (path:List Int) (i:Nat),lW cs (l++m) path i=lW cs l path i++lW cs m path (i+l.length)
 | [],m,path,i=>rfl
 | t::l,m,path,i=>by simp only [ap3,lW,SP cs l m path (i+1),ap8,apz];rw [show i+1+l.length=i + (l.length+1) by omega]
theorem SN:∀(l m:List aM) (path:List Int) (i:Nat),lq (l++m) path i=lq l path i++lq m path (i+l.length)
 | [],m,path,i=>rfl
 | t::l,m,path,i=>by simp only [ap3,lq,SN l m path (i+1),ap8,apz];rw [show i+1+l.length=i + (l.length+1) by omega]
theorem SQ (cs:List bY) (l:List aM) (path:List Int) {i:Nat} (ax:i<l.length):lW cs (l.take (i+1)) path 0=lW cs (l.take i) path 0++ou cs l[i] (path++[(i:Int)]):=by rw [take_one ax,SP,apU,Nat.min_eq_left (by omega),apX];simp only [lW,aqB]
theorem SO (l:List aM) (path:List Int) {i:Nat} (ax:i<l.length):lq (l.take (i+1)) path 0=lq (l.take i) path 0++od l[i] (path++[(i:Int)]):=by rw [take_one ax,SN,apU,Nat.min_eq_left (by omega),apX];simp only [lq,aqB]
theorem Jb (cs:List bY) (k n:Int) (s:List UInt8) (path:List Int):(jd cs k n s path).length<=1:=by
 unfold jd
 repeat' split
 all_goals simp
theorem Rr (k:Int) (s:List UInt8) (path:List Int):(nb k s path).length<=1:=by
 unfold nb
 split<;>simp
mutual
theorem L9 (cs:List bY):∀(p:aM) (path:List Int),(ou cs p path).length<=p.size
 | .mk k n a s l,path=>by have U:=Jb cs k n s path;have ab:=E_ cs l path 0;simp only [ou,apC,aM.size];omega
theorem E_ (cs:List bY):∀(l:List aM) (path:List Int) (i:Nat),(lW cs l path i).length<=cj l
 | [],_,_=>aps _
 | t::l,path,i=>by have U:=L9 cs t (path++[(i:Int)]);have ab:=E_ cs l path (i+1);simp only [lW,apC,cj];omega
end
mutual
theorem KQ:∀(p:aM) (path:List Int),(od p path).length<=p.size
 | .mk k n a s l,path=>by have U:=Rr k s path;have ab:=E' l path 0;simp only [od,apC,aM.size];omega
theorem E':∀(l:List aM) (path:List Int) (i:Nat),(lq l path i).length<=cj l
 | [],_,_=>aps _
 | t::l,path,i=>by have U:=KQ t (path++[(i:Int)]);have ab:=E' l path (i+1);simp only [lq,apC,cj];omega
end
def nS (t:gW):List D:=[.l 1 (t.1.map gA),.b t.2.1,.i .i64 t.2.2]
def oP (t:Nm):List D:=[.s t.1,.l 1 (t.2.map gA)]
section
variable [Lay] {B:Nat} {h aa:ae} {v:V}
theorem Gl {F:aO->Prop} {l:List Int} (H:dc B h 1 v l.length (gw l)) (ar:l.length<=top) (eX:∀b,v.aS b->F b):bN F h 1 (l.map gA) v:=
 ⟨H.room,by rw [apv];exact ar,⟨l.map fun i=>[V.int .i64 i],by rw [apv,Ec];exact H.v,by simp,fun u hu=>by
   obtain ⟨i,_,rfl⟩:=List.mem_map.1 hu;rfl,fun i e u aj an=>by
   rw [aqb] at aj an;cases ax:l[i]? with
   | none=>rw [ax] at aj;cases aj
   | some y=>
     rw [ax] at aj an;simp only [aqO,apq] at aj an;subst aj an;exact .i .nil⟩,eX⟩
theorem Vx {l:List Int} {w:V} {G:aO->Prop} (L:bN G h 1 (l.map gA) w) (ar:l.length<=1000000000):∃b1 aa,jM 1 .bu w h=.val b1 aa/\dc h.next aa 1 b1 l.length (gw l)/\Ext h aa:=by obtain ⟨b1,aa,a,b,c,d⟩:=Go.Proofs.YtgmhjhgoamjeeaaGreatDoor.aZ.vG (B:=h.next) (s:=.bu) (n:=0) (us:=[]) (by omega) ⟨by simp,rfl⟩ L.ints (aps _) (by unfold top;omega) (y_ l);rw [apX,aql] at b;exact ⟨b1,aa,a,b,(Ext.refl h).iq c fun b z=>z.elim⟩
def pJ (u:V) (t:gW):List V:=[u,.bool t.2.1,.int .i64 t.2.2]
structure hz (B:Nat) (h:ae) (bx:List gW) (v:V):Prop where
 ex:∃us:List V,dc B h 3 v bx.length (List.zipWith pJ us bx).flatten/\us.length=bx.length/\(∀(i:Nat) (u:V) (t:gW),us[i]? =some u->bx[i]? =some t->t.1.length<=1000000000/\dc B h 1 u t.1.length (gw t.1)/\∀b,u.aS b->¬v.aS b)/\
  ∀(i j:Nat) (u e7:V),i<j->us[i]? =some u->us[j]? =some e7->∀b,u.aS b->¬e7.aS b
theorem hz.nil (B:Nat) (h:ae):hz B h [] .bu:=⟨[],⟨by simp,rfl⟩,rfl,fun i u t q=>(by simp at q),fun i j u e7 _ q=>(by simp at q)⟩
theorem hz.mod {M:aO->Prop} {bx:List gW} (H:hz B h bx v) (m:Mod M h aa) (cJ:∀b,M b->¬B<=b0 b):hz B aa bx v:=by obtain ⟨us,a,b,c,d⟩:=H.ex;refine ⟨us,a.mod m fun p q z=>cJ p z (a.base q),b,fun i u t aj an=>?_,d⟩;obtain ⟨bQ,b2,c3⟩:=c i u t aj an;exact ⟨bQ,b2.mod m fun p q z=>cJ p z (b2.base q),c3⟩
theorem hz.ext {bx:List gW} (H:hz B h bx v) (e:Ext h aa):hz B aa bx v:=by obtain ⟨us,a,b,c,d⟩:=H.ex;refine ⟨us,a.ext e,b,fun i u t aj an=>?_,d⟩;obtain ⟨bQ,b2,c3⟩:=c i u t aj an;exact ⟨bQ,b2.ext e,c3⟩
theorem hz.base {bx:List gW} (H:hz B h bx v) {b:aO} (ah:v.aS b):B<=b0 b:=by obtain ⟨us,a,_⟩:=H.ex;exact a.base ah
theorem hz.kX {bx:List gW} (H:hz B h bx v) {b:aO} (ah:v.aS b):Old h b:=by obtain ⟨us,a,_⟩:=H.ex;exact a.v.bG ah
theorem hz.one {bx:List gW} (H:hz B h bx v):v.one=true/\v.cells=[v]/\v.fu=true:=by obtain ⟨us,a,_⟩:=H.ex;exact a.v.one
theorem hz.d' {F:aO->Prop} {bx:List gW} (H:hz B h bx v) (ar:bx.length<=1000000000) (eX:∀b,B<=b0 b->F b):bN F h 3 (bx.map nS) v:=by
 obtain ⟨us,a,b,c,d⟩:=H.ex;refine ⟨a.room,by rw [apv];unfold top;omega,⟨List.zipWith pJ us bx,by rw [apv];exact a.v,by simp [b],fun u hu=>?_,fun i e u aj an=>?_⟩,fun p q=>eX p (a.base q)⟩
 . obtain ⟨i,ax,e⟩:=arC hu;rw [List.getElem_zipWith] at e;rw [<-e];rfl
 . rw [aqb] at aj;cases aE:bx[i]? with
   | none=>rw [aE] at aj;cases aj
   | some t=>
     rw [aE,aqO,apq] at aj;subst aj;rw [List.getElem?_zipWith] at an;rw [aE] at an;cases hu:us[i]? with
     | none=>rw [hu] at an;cases an
     | some w=>
       rw [hu] at an;simp only [apq] at an;subst an;obtain ⟨bQ,b2,c3⟩:=c i w t hu aE;exact (Gl b2 (by unfold top;omega) fun p q=>eX p (b2.base q)).cons (.b (.i .nil))
theorem hz.add {aY:ae} {bx:List gW} (H:hz B aY bx v) (e:Ext aY h) {g_:V} {t:gW} (P:dc aY.next h 1 g_ t.1.length (gw t.1)) (cC:B<=aY.next) (ar:bx.length+1<=1000000000) (aE:t.1.length<=1000000000):
 ∃b1 aa,jM 3 v (.slice (aC h.next) 0 1 1) (h.new (.bT (pJ g_ t) 0 false))=.val b1 aa/\hz B aa (bx++[t]) b1/\Mod v.aS h aa/\h.next+1<=aa.next/\∀b,b1.aS b->v.aS b\/h.next<b0 b:=by
 have T4:∀b,v.aS b->b0 b<aY.next:=fun b z=>by have:=H.kX z;unfold Old at this;exact this
 obtain ⟨us,a,b,c,d⟩:=H.ex;have dG:=e.next
 obtain ⟨b1,aa,aj,an,aJ,bE,cO⟩:=Go.Proofs.YtgmhjhgoamjeeaaGreatDoor.aZ.tT (by omega) (a.ext e) (by omega) (by unfold top;omega) (cs:=pJ g_ t) rfl (by have:=P.v.one;simp only [pJ,e5];rw [this.1];rfl);have akD:∀b,g_.aS b->b0 b<h.next:=fun b z=>by have:=P.v.bG z;unfold Old at this;exact this
 refine ⟨b1,aa,aj,⟨us++[g_],?_,by simp [b],fun i u oq bP bH=>?_,fun i j u e7 o2 bP bH p bU z2=>?_⟩,aJ,bE,cO⟩
 . rw [List.zipWith_append (by rw [b]),List.flatten_append,apC];simpa using an
 . rcases AS bP with ⟨ax,bP⟩ | ⟨ax,rfl⟩
   . rw [apM (by omega)] at bH;obtain ⟨bQ,b2,c3⟩:=c i u oq bP bH;have co:∀p,u.aS p->b0 p<aY.next:=fun p z=>by have:=b2.v.bG z;unfold Old at this;exact this
     exact ⟨bQ,(b2.ext e).mod aJ c3,fun p z y=>by
      rcases cO p y with y | y
      . exact c3 p z y
      . have:=co p z;omega⟩
   . rw [ax,b,apN (aps _),aq5] at bH;simp only [apH,apq] at bH;subst bH
     exact ⟨aE,(P.mod aJ fun p z y=>by have:=P.base z;have:=T4 p y;omega).mono (by omega),fun p z y=>by
      rcases cO p y with y | y
      . have:=P.base z;have:=T4 p y;omega
      . have:=akD p z;omega⟩
 . rcases AS bH with ⟨bC,bH⟩ | ⟨bC,rfl⟩
   . rw [apM (by omega)] at bP;exact d i j u e7 o2 bP bH p bU z2
   . rw [apM (by omega)] at bP;have ax:i<bx.length:=by omega
     obtain ⟨bQ,b2,c3⟩:=c i u bx[i] bP (apo ax);have:=b2.v.bG bU;unfold Old at this;have:=P.base z2;omega
end
def abX:List aM->Option aM
 | []=>none
 | p::_=>if r2 p=true then none else some p
def QL (rows:List (List aM)):List aM:=rows.filterMap abX
def aiV (rows:List (List aM)) (aH:dD):Bool:=(QL rows).any fun p=>decide (eY p=aH)
section
variable [Lay] {B:Nat} {F G:aO->Prop} {h aa:ae} {size:Nat} {es fF:List (List D)} {v w:V}
end
structure anT (k:Nat) (rows:List (List aM)):Prop where
 len:∀r ∈ rows,r.length=k
 lV:∀r ∈ rows,∀p ∈ r,p.l.length<=1000000000
 num:rows.length<=1000000000
 sm:k<=1000000000
structure anR (rows:List (List aM)) (h:ae) (dP:Nat):Prop where
 ex:∃aR,hT kb h (aC dP) aR/\(∀aH,eu aH aR=if aiV rows aH=true then some (.bool true) else none)/\(aR=[]↔QL rows=[])
def pT (p:aM):Prop:=fj p=true/\p.size<=1000000000
theorem El {p q:aM} (h:pT p) (aq:q ∈ p.l):pT q:=by obtain ⟨_,_,_,_,_,a⟩:=te h.2 h.1;exact ⟨a q aq,by have:=yO aq;have:=h.2;omega⟩
structure anU (rows:List (List aM)) (q:List aM):Prop where
 len:∀r ∈ rows,r.length=q.length
 rg:∀r ∈ rows,∀p ∈ r,pT p
 aoY:∀p ∈ q,pT p
 num:rows.length<=1000000000
section
variable {rows:List (List aM)} {q:List aM} {p:aM} {aH:dD}
end
section
variable [Lay]
end
theorem Qp {cs:List bY} {l:List aM} (h:jO cs l=0):(∀p ∈ l,fj p=true)/\d_ cs (cj l) l=true:=by
 unfold jO at h
 split at h
 . rename_i c;simp only [apn,apP] at c;exact ⟨c.1.2,c.2⟩
 . cases h
theorem Qo (cs:List bY) (l:List aM):jO cs l=0\/jO cs l=2:=by
 unfold jO
 split
 . exact .inl rfl
 . exact .inr rfl
section
variable [Lay] {F:aO->Prop} {h aa:ae} {w:V} {l:List Int}
structure l9 (F:aO->Prop) (h:ae) (l:List Int) (w:V):Prop where
 d':bN F h 1 (l.map gA) w
 form:w=.bu\/∃b,w=.dW b 0 l.length 0
theorem l9.ext (P:l9 F h l w) (e:Ext h aa):l9 F aa l w:=⟨P.d'.ext e,P.form⟩
theorem l9.nil (F:aO->Prop) (h:ae):l9 F h [] .bu:=⟨bN.nil _ _ _,.inl rfl⟩
theorem l9.mod {M dA:aO->Prop} (P:l9 F h l w) (m:Mod M h aa) (cJ:∀b,F b->Old h b->¬M b/\dA b):l9 dA aa l w:=⟨P.d'.mod m cJ,P.form⟩
theorem ajT (h:ae) (x:Int):e2 (h.new (.bT [.int .i64 x] 0 false)) 1 (.slice (aC h.next) 0 1 1) 1 [.int .i64 x]:=
 ⟨rfl,rfl,h5 (by rw [ga];omega),[.int .i64 x],.inr ⟨0,false,by rw [nU]⟩,by simp,by simp⟩
theorem amf (P:l9 F h l w) (ar:l.length<=1000000000) (x:Int):∃bH,hP 1 w none (some (.int .i64 l.length)) (some (.int .i64 l.length))=some bH/\
 ∃b1 aa,jM 1 bH (.slice (aC h.next) 0 1 1) (h.new (.bT [.int .i64 x] 0 false))=.val b1 aa/\(∃b,b1=.dW b 0 (l.length+1) 0)/\dc h.next aa 1 b1 (l++[x]).length (gw (l++[x]))/\Ext h aa:=by
 have ao:Ext h (h.new (.bT [.int .i64 x] 0 false)):=(Ext.refl h).new _;have bA:=ajT h x;have TS:h.next<=(h.new (.bT [.int .i64 x] 0 false)).next:=ao.next
 have hj:(gw (l++[x])).length=(l.length+1) * 1:=by rw [Sz,apC];simp
 rw [show (l++[x]).length=l.length+1 by simp];rcases P.form with rfl | ⟨b,rfl⟩
 . have bm:l.length=0:=by
    have:=P.d'.len;rw [apv] at this;have e:hK (.bu)=some (.int .i64 (0:Int)):=rfl;rw [e] at this;simp only [apq,V.int.injEq,ari] at this;omega
   obtain rfl:l=[]:=aqx bm;refine ⟨.bu,rfl,?_⟩;rw [Hy bA (by unfold top;omega)];simp only [vF,ap5];rw [show Nat.beq 1 0=false from rfl];simp only [apA];rw [B2 (by simp [top]) (by omega)];exact ⟨_,_,rfl,⟨_,rfl⟩,dc.grown hj TS,ao.new _⟩
 . obtain ⟨_,q⟩:=P.d'.ints;have rh:h' h b 0 (gw l):=q.2;refine ⟨.slice b 0 l.length l.length,?_,?_⟩
   . simp only [hP,rT,vM (aps l.length),tW];cases l.length<;>rfl
   . rw [Hy bA (by unfold top;omega)];simp only [vE];rw [show Nat.ble (l.length+1) l.length=false from by rw [<-ap1,apF];omega];rw [show (Nat.ble (l.length+1) top&&Nat.ble l.length top)=true from by simp only [apn,apF];unfold top;omega];simp only [apA,apt];rw [zx (rh.ext ao) (by rw [Sz,aru])];simp only;rw [show gw l++[V.int .i64 x]=gw (l++[x]) from by rw [BG];rfl];rw [B2 (by rw [hj];unfold top;omega) (by omega)];exact ⟨_,_,rfl,⟨_,rfl⟩,dc.grown hj TS,ao.new _⟩
end
theorem VH (l:List Int) (ar:l.length<=1000000000) (x:Int) (F:aO->Prop) (w:V) (h:ae) (P:l9 F h l w):cv Tryz.prog 39 [w,.int .i64 x] h fun y aa=>l9 (hU h) aa (l++[x]) y/\Ext h aa:=by have hk:=P.d'.len;rw [apv] at hk;obtain ⟨bH,aj,b1,aa,an,⟨b,aJ⟩,bE,e⟩:=amf P ar x;refine Ze.z rfl (cr ?_);unfold Oq;simp +contextual only [hk,aj,an,↓ag,al,simprocAttr];exact ⟨⟨Gl bE (by rw [apC];unfold top;simp;omega) fun b z=>bE.base z,.inr ⟨b,by rw [aJ];simp⟩⟩,e⟩
theorem Va (l:List Int) (ar:l.length<=1000000000) (x:Int) (w:V) (h:ae) (P:bN Any h 1 (l.map gA) w):cv Tryz.prog 64 [w,.int .i64 x] h fun y aa=>bN (hU h) aa 1 ((l++[x]).map gA) y/\Ext h aa:=by
 obtain ⟨U,o1,av,sb⟩:=qo h 1 0 [] rfl (by unfold top;omega);obtain ⟨v2,ab,bJ,a2,a3,a4⟩:=Go.Proofs.YtgmhjhgoamjeeaaGreatDoor.aZ.vG (by omega) sb (P.ext av).ints av.next (by unfold top;omega) (y_ l)
 rw [apX,aql] at a2;have aK:Ext h ab:=av.iq a3 fun b z=>sb.base z;obtain ⟨v3,aI,bR,b7,eL,ic,jt⟩:=Go.Proofs.YtgmhjhgoamjeeaaGreatDoor.aZ.tT (by omega) a2 aK.next (by unfold top;omega) (cs:=[.int .i64 x]) rfl rfl
 refine Zq.z rfl (cr ?_);unfold OR;simp +contextual only [o1,bJ,bR,↓ag,al,simprocAttr];have Du:dc h.next aI 1 v3 (l++[x]).length (gw (l++[x])):=by rw [BG,apC];exact b7
 exact ⟨Gl Du (by rw [apC];unfold top;simp;omega) fun b z=>Du.base z,aK.iq eL fun b z=>a2.base z⟩
theorem ak4 (cs:List bY) (s:List UInt8) (v:V) (h:ae) (L:bN Any h 5 (cs.map bY.enc) v):cv Tryz.prog 63 [v,.str s] h fun x aa=>(∃(a b:List UInt8) (y:Int) (w:V),x=.agg [.str a,.str b,.int .i64 (ot cs s),.int .i64 y,w])/\Ext h aa:=by
 have ar:=L.len;have hle:=L.le;rw [apv] at ar hle;refine Zp.z rfl (cr ?_);unfold OP;obtain ⟨U,aj,av,b9⟩:=fE h ku;simp +contextual only [aj,↓ag,al,simprocAttr];refine eO (fun r g=>r 0=v/\r 1=.str s/\r 4=.ptr (aC h.next) 0/\U=g/\∃i:Nat,r 5=.int .i64 i/\i<=cs.length/\eD s cs=eD s (cs.drop i)) (fun r g=>cs.length - (r 5).toN) ?_ ?_
 . exact ⟨by simp only [↓ag,bz,simprocAttr],by simp only [↓ag,bz,simprocAttr],by simp only [↓ag,bz,simprocAttr],rfl,0,by simp only [↓ag,bz,simprocAttr]<;>rfl,by omega,rfl⟩
 rintro r g ⟨a1,a',eg,e,i,bL,ax,aA⟩;subst e;unfold OQ;by_cases aL:i<cs.length
 . have g0:((i:Int) < (cs.length:Int))=True:=apD (by omega);obtain ⟨b,off,cU,bW,X,mM,uJ,dS,_,_,_⟩:=bY.lV L (k:=.i64) aL;have d5:=uJ U av;have d1:=dS U av;have jh:=mM.one;have db:=fW aL (by unfold top at hle;omega);rw [apW aL,eD] at aA;by_cases c:cs[i].name=s
   . rw [apB c] at aA;have aE:ot cs s=cs[i].tag:=by unfold ot;rw [aA]
     have dt:=b9.put (mV cs[i] cU);simp only [mV] at d5 dt;simp +contextual only [a1,a',eg,bL,ar,g0,bW,d1,d5,jh.1,jh.2.1,b9.g,dt.g,apD c,aE,↓ag,al,simprocAttr];exact ⟨⟨_,_,_,_,rfl⟩,av.set (aps _) _⟩
   . rw [apu c] at aA;simp +contextual only [a1,a',eg,bL,ar,g0,bW,d1,apx c,db,↓ag,al,simprocAttr];exact ⟨⟨i+1,rfl,aL,aA⟩,by omega⟩
 . have g0:((i:Int) < (cs.length:Int))=False:=apx (by omega);rw [aqf (by omega),eD] at aA;have aE:ot cs s=0:=by unfold ot;rw [aA]
   have dt:=b9.put ku;simp +contextual only [a1,a',eg,bL,ar,g0,b9.g,dt.g,aE,↓ag,al,simprocAttr];exact ⟨⟨_,_,_,_,rfl⟩,av.set (aps _) _⟩
structure oG (cs:List bY) (h:ae) (dP:aO):Prop where
 ex:∃aR:List (List UInt8 × V),j7 (fun v=>v) h dP aR/\(aR.map Prod.fst).Nodup/\∀s,match eD s cs with
  | some c=>∃cU,kj s aR=some (.agg (mV c cU))/\hK cU=some (.int .i64 c.arg.length)/\cU.one=true/\cU.cells=[cU]/\cU.fu=true
  | none=>kj s aR=none
theorem oG.ext {cs:List bY} {h aa:ae} {dP:aO} (H:oG cs h dP) (e:Ext h aa):oG cs aa dP:=by obtain ⟨aR,a,b⟩:=H.ex;exact ⟨aR,a.ext e,b⟩
theorem oG.mod {cs:List bY} {M:aO->Prop} {h aa:ae} {dP:aO} (H:oG cs h dP) (m:Mod M h aa) (ah:¬M dP):oG cs aa dP:=by obtain ⟨aR,a,b⟩:=H.ex;exact ⟨aR,a.mod m ah,b⟩
theorem oG.look {cs:List bY} {h:ae} {dP:aO} (H:oG cs h dP) (s:List UInt8):∃(a b:List UInt8) (y:Int) (w:V),g' jL.str.eq (.agg [.str [],.str [],.int .i64 0,.int .i64 0,.bu]) false h (.map dP) (.str s)=some (.agg [.str a,.str b,.int .i64 (ot cs s),.int .i64 y,w]):=by
 obtain ⟨aR,a,_,b⟩:=H.ex;have U:=a.look s (.agg ku) false;have ab:=b s;unfold ot;cases au:eD s cs with
 | none=>
   rw [au] at ab;refine ⟨[],[],0,.bu,?_⟩;show g' jN _ _ _ _ _=_;rw [U,show kj s aR=none from ab];rfl
 | some c=>
   rw [au] at ab;obtain ⟨cU,f,_⟩:=ab;refine ⟨c.name,c.ty,c.par,cU,?_⟩;show g' jN _ _ _ _ _=_;rw [U,f];rfl
theorem aao {pre:List bY} {s:List UInt8} (h:pre.any (fun d=>decide (d.name=s))=false):eD s pre=none:=by
 induction pre with
 | nil=>rfl
 | cons c pre bh=>
   simp only [List.any_cons,aro,aqz] at h;rw [eD,apu h.1];exact bh h.2
theorem PD (s:List UInt8) (c:bY):∀pre:List bY,eD s (pre++[c])=(match eD s pre with
 | some d=>some d
 | none=>if c.name=s then some c else none)
 | []=>rfl
 | d::pre=>by
   simp only [ap3,eD];by_cases h:d.name=s
   . rw [apB h,apB h]
   . rw [apu h,apu h,PD s c pre]
theorem S7:∀(cs pre:List bY),h2 pre cs=true->∀(i:Nat) (ax:i<cs.length),eD cs[i].name (pre++cs.take i)=none
 | [],pre,h,i,ax=>by simp at ax
 | c::cs,pre,h,i,ax=>by
   simp only [h2,apn] at h;cases i with
   | zero=>
     have:=h.1;simp only [rJ,apn,aqs] at this;simpa using aao this.1.1.1
   | succ i=>
     have:=S7 cs (pre++[c]) h.2 i (by simpa using ax);simpa using this
theorem amu (cs:List bY) (rq:h2 [] cs=true) (v:V) (h:ae) (L:bN Any h 5 (cs.map bY.enc) v):cv Tryz.prog 35 [v] h fun x aa=>x=.map (aC h.next)/\oG cs aa (aC h.next)/\Ext h aa:=by
 have ar:=L.len;have hle:=L.le;rw [apv] at ar hle;refine Y_.z rfl (cr ?_);unfold Oi;obtain ⟨U,aj,av,b9⟩:∃H,h.new (.mp [] 0)=H/\Ext h H/\j7 (fun v:V=>v) H (aC h.next) []:=⟨_,rfl,(Ext.refl h).new _,j7.new _ h⟩;simp +contextual only [aj,ar,rG,s8,aU.opt,↓ag,al,simprocAttr];refine eO (fun r g=>r 3=.map (aC h.next)/\r 7=v/\r 8=.int .i64 cs.length/\Ext h g/\∃i:Nat,r 9=.int .i64 i/\i<=cs.length/\oG (cs.take i) g (aC h.next)) (fun r g=>cs.length - (r 9).toN) ?_ ?_
 . exact ⟨by simp only [↓ag,bz,simprocAttr],by simp only [↓ag,bz,simprocAttr],by simp only [↓ag,bz,simprocAttr],av,0,by simp only [↓ag,bz,simprocAttr]<;>rfl,by omega,⟨[],b9,List.nodup_nil,fun s=>rfl⟩⟩
 rintro r g ⟨b3,dN,dk,c',i,dT,ax,T⟩;unfold Oj;by_cases aL:i<cs.length
 . have g0:((i:Int) < (cs.length:Int))=True:=apD (by omega);obtain ⟨b,off,cU,bW,X,mM,uJ,_,_,_,_⟩:=bY.lV L (k:=.i64) aL;have d5:=uJ g c';have jh:=mM.one;have db:=fW aL (by unfold top at hle;omega);have n9:cs.take (i+1)=cs.take i++[cs[i]]:=aqh aL;have Rw:=S7 cs [] rq i aL;rw [aql] at Rw;obtain ⟨g1,an,aK,jJ⟩:=hA g ku (mV cs[i] cU);obtain ⟨aR,Xf,M0,Xg⟩:=(T.ext aK).ex;obtain ⟨g2,Gx,amT,amU,ao'⟩:=Xf.pt cs[i].name (.agg (mV cs[i] cU));simp only [mV] at d5 an Gx jJ;simp +contextual only [b3,dN,dk,dT,g0,bW,d5,jh.1,jh.2.1,an,jJ.g,show j2 jL.str.eq g1 (.map (aC h.next)) (.str cs[i].name) _=some g2 from Gx,db,↓ag,al,simprocAttr];refine ⟨⟨(c'.trans aK).iq amU fun b z=>by rw [z,cV];exact aps _,i+1,rfl,aL,⟨_,amT,?_,fun s=>?_⟩⟩,by omega⟩
   . rw [SL]
     split
     . exact M0
     . rename_i aV;exact arB.2 ⟨M0,by simp,fun a bw b ah=>by rw [aqa] at ah;subst ah;exact fun z=>aV (z ▸ bw)⟩
   rw [n9,PD,KC];have ab:=Xg s;by_cases c:s=cs[i].name
   . subst c;rw [Rw];simp only [ap0];exact ⟨cU,rfl,mM.len,jh.1,jh.2.1,jh.2.2⟩
   . rw [apu c];cases au:eD s (cs.take i) with
     | none=>
       rw [au] at ab;simp only [apu (Ne.symm c:¬cs[i].name=s)];exact ab
     | some d=>
       rw [au] at ab;exact ab
 . have g0:((i:Int) < (cs.length:Int))=False:=apx (by omega);rw [apZ (by omega)] at T;simp +contextual only [b3,dN,dk,dT,g0,↓ag,al,simprocAttr];exact ⟨T,c'⟩
def ON:aX:=
 aX.seq (aX.ak [⟨(some 12),.er 0 (.t 5),none,[5]⟩,
  ⟨(some 13),.dS (.t 12),none,[12]⟩])
  (aX.block 0 (aX.seq (aX.ak [⟨(some 15),.bin (.int .eql) (.t 13) (.c (.int .i64 12)),none,[13]⟩,
    ⟨(some 14),.cq (.t 15),none,[15]⟩])
   (aX.cond (.t 14)
    (aX.ak [⟨(some 16),.dS (.t 2),none,[2]⟩,
      ⟨(some 17),.cq (.t 7),none,[7]⟩,
      ⟨(some 18),.er 1 (.t 5),none,[5]⟩,
      ⟨(some 19),.dS (.t 18),none,[18]⟩,
      ⟨(some 20),.build [.bu,(.bool false),(.int .i64 0)] [(0,1,(.t 17)),(1,1,(.c (.bool true))),(2,1,(.t 19))],none,[17,19]⟩,
      ⟨(some 21),.gq 1 3 [.bu,(.bool false),(.int .i64 0)] [(0,3,(.t 20))],none,[20]⟩,
      ⟨(some 22),.app 3 (.t 16) (.t 21),none,[16,21]⟩,
      ⟨none,.st 1 (.t 2) (.t 22),none,[2,22]⟩])
    (aX.seq (aX.ak [⟨(some 24),.bin (.int .eql) (.t 13) (.c (.int .i64 14)),none,[13]⟩,
      ⟨(some 23),.cq (.t 24),none,[24]⟩])
     (aX.cond (.t 23)
      (aX.ak [⟨(some 25),.dS (.t 2),none,[2]⟩,
        ⟨(some 26),.cq (.t 7),none,[7]⟩,
        ⟨(some 27),.er 1 (.t 5),none,[5]⟩,
        ⟨(some 28),.dS (.t 27),none,[27]⟩,
        ⟨(some 29),.build [.bu,(.bool false),(.int .i64 0)] [(0,1,(.t 26)),(2,1,(.t 28))],none,[26,28]⟩,
        ⟨(some 30),.gq 1 3 [.bu,(.bool false),(.int .i64 0)] [(0,3,(.t 29))],none,[29]⟩,
        ⟨(some 31),.app 3 (.t 25) (.t 30),none,[25,30]⟩,
        ⟨none,.st 1 (.t 2) (.t 31),none,[2,31]⟩])
      (aX.seq (aX.ak [⟨(some 33),.bin (.int .eql) (.t 13) (.c (.int .i64 16)),none,[13]⟩,
        ⟨(some 32),.cq (.t 33),none,[33]⟩])
       (aX.cond (.t 32)
        (aX.ak [⟨(some 34),.dS (.t 2),none,[2]⟩,
          ⟨(some 35),.cq (.t 7),none,[7]⟩,
          ⟨(some 36),.dS (.t 3),none,[3]⟩,
          ⟨(some 37),.er 3 (.t 5),none,[5]⟩,
          ⟨(some 38),.dS (.t 37),none,[37]⟩,
          ⟨(some 39),.look .str (.agg [(.str []),(.str []),(.int .i64 0),(.int .i64 0),.bu]) false (.t 36) (.t 38),none,[36,38]⟩,
          ⟨(some 40),.oW 2 (.t 39),none,[39]⟩,
          ⟨(some 41),.build [.bu,(.bool false),(.int .i64 0)] [(0,1,(.t 35)),(2,1,(.t 40))],none,[35,40]⟩,
          ⟨(some 42),.gq 1 3 [.bu,(.bool false),(.int .i64 0)] [(0,3,(.t 41))],none,[41]⟩,
          ⟨(some 43),.app 3 (.t 34) (.t 42),none,[34,42]⟩,
          ⟨none,.st 1 (.t 2) (.t 43),none,[2,43]⟩])
        (aX.skip))))))))
def OO:aX:=
 aX.seq (aX.ak [⟨(some 44),.er 4 (.t 5),none,[5]⟩,
  ⟨(some 45),.dS (.t 44),none,[44]⟩,
  ⟨(some 46),.len .slice (.t 45),none,[45]⟩,
  ⟨(some 47),.cq (.c (.int .i64 0)),none,[]⟩])
 (aX.block 1 (aX.loop HX))
theorem Zo:OM=(aX.seq (aX.ak [⟨(some 5),.box (.t 0),none,[0]⟩])
 (aX.seq (aX.ak [⟨(some 10),.cq (.t 1),none,[1]⟩,
   ⟨(some 11),.app 1 (.c .bu) (.t 10),none,[10]⟩,
   ⟨(some 7),.cq (.t 11),none,[11]⟩])
 (aX.seq (ON)
 (OO)))):=rfl
theorem kT {M z7:aO->Prop} {h g c_:ae} (a:Mod M h g) (b:Mod z7 g c_) (w:∀p,Old h p->z7 p->M p):Mod M h c_:=
 ⟨aqc a.next b.next,fun p o n=>(b.get p (a.bG o) fun z=>n (w p o z)).trans (a.get p o n)⟩
def ya (cM ix eA:Nat):V:=.func 62 [.ptr (aC cM) 0,.ptr (aC ix) 0,.ptr (aC eA) 0]
structure oE (cs:List bY) (B cM ix eA:Nat) (dP:aO) (h:ae) (bx:List gW) (v:V):Prop where
 out:Has h cM [v]
 own:hz B h bx v
 HQ:Has h ix [.map dP]
 go:Has h eA [ya cM ix eA]
 tag:oG cs h dP
 kV:cM<B
 HI:ix<B
 v':eA<B
 KJ:b0 dP<B
 HJ:ix≠cM
 wa:eA≠cM
 KL:dP≠aC cM
 le:B<=h.next
theorem oE.ext {cs:List bY} {B cM ix eA:Nat} {dP:aO} {h aa:ae} {bx:List gW} {v:V} (R:oE cs B cM ix eA dP h bx v) (e:Ext h aa):oE cs B cM ix eA dP aa bx v:=
 ⟨R.out.ext e,R.own.ext e,R.HQ.ext e,R.go.ext e,R.tag.ext e,R.kV,R.HI,R.v',R.KJ,R.HJ,R.wa,R.KL,aqc R.le e.next⟩
def j6 (cM:Nat) (v:V) (b:aO):Prop:=b=aC cM\/v.aS b
theorem oE.add {cs:List bY} {B cM ix eA:Nat} {dP:aO} {aY h:ae} {bx:List gW} {v:V} (R:oE cs B cM ix eA dP aY bx v) (e:Ext aY h) {g_:V} {t:gW} (P:dc aY.next h 1 g_ t.1.length (gw t.1)) (ar:bx.length+1<=1000000000) (aE:t.1.length<=1000000000):
 ∃b1 aa,jM 3 v (.slice (aC h.next) 0 1 1) (h.new (.bT (pJ g_ t) 0 false))=.val b1 aa/\b1.one=true/\b1.cells=[b1]/\aa.get (aC cM)=.bT [v] 0 false/\oE cs B cM ix eA dP (aa.set (aC cM) (.bT [b1] 0 false)) (bx++[t]) b1/\Mod (j6 cM v) aY (aa.set (aC cM) (.bT [b1] 0 false))/\(∀b,b1.aS b->v.aS b\/aY.next<=b0 b):=by
 obtain ⟨b1,aa,bJ,a2,a3,a4,a5⟩:=R.own.add e P R.le ar aE;have cW:∀n,n<B->¬v.aS (aC n):=fun n aV z=>by have:=R.own.base z;rw [cV] at this;omega
 have dG:=e.next
 have mO:=R.ext e;have c8:=mO.out.mod a3 (cW _ R.kV);have cy:=mO.HQ.mod a3 (cW _ R.HI);have og:=mO.go.mod a3 (cW _ R.v');have s':=mO.tag.mod a3 fun z=>by have:=R.own.base z;have:=R.KJ;omega
 have ms:Mod (fun b=>b=aC cM) aa (aa.set (aC cM) (.bT [b1] 0 false)):=(Mod.refl (fun b=>b=aC cM) aa).set (fun _=>rfl) _;have one:=a2.one;refine ⟨b1,aa,bJ,one.1,one.2.1,c8.g,⟨c8.put _,a2.mod ms fun b z y=>by rw [z,cV] at y;have:=R.kV;omega,cy.set R.HJ _,og.set R.wa _,s'.mod ms R.KL,R.kV,R.HI,R.v',R.KJ,R.HJ,R.wa,R.KL,by have:=R.le;rw [nq];omega⟩,?_,?_⟩
 . exact kT (kT (e.mod _) a3 fun p _ z=>.inr z) ms fun p _ z=>.inl z
 . intro b z;rcases a5 b z with z | z
   . exact .inl z
   . exact .inr (by omega)
theorem hz.mono [Lay] {B tC:Nat} {h:ae} {bx:List gW} {v:V} (H:hz B h bx v) (ah:tC<=B):hz tC h bx v:=by obtain ⟨us,a,b,c,d⟩:=H.ex;refine ⟨us,a.mono ah,b,fun i u t aj an=>?_,d⟩;obtain ⟨bQ,b2,c3⟩:=c i u t aj an;exact ⟨bQ,b2.mono ah,c3⟩
def GN (cs:List bY) (n:Nat):Prop:=∀(p:aM),p.size<=n->pT p->∀(B cM ix eA:Nat) (dP:aO) (path:List Int) (w du:V) (bx:List gW) (v:V) (F:aO->Prop) (h:ae),
 p.size+bx.length<=1000000000->p.size+path.length<=1000000000->b6 F h p.enc (cd p du)->l9 F h path w->(∀b,F b->Old h b/\¬j6 cM v b)->oE cs B cM ix eA dP h bx v->
 cv Tryz.prog 62 [.agg (cd p du),w,.ptr (aC cM) 0,.ptr (aC ix) 0,.ptr (aC eA) 0] h fun _ aa=>∃b1,oE cs B cM ix eA dP aa (bx++ou cs p path) b1/\Mod (j6 cM v) h aa/\∀b,b1.aS b->v.aS b\/h.next<=b0 b
theorem acg {cs:List bY} {n:Nat} (vj:GN cs n):GN cs (n+1):=by
 intro p jz aG B cM ix eA dP path w du bx v F h bR b7 X P eX R;have aA:∃(l_:List V),cd p du=l_:=⟨_,rfl⟩;obtain ⟨ca,e,dK,gj⟩:=aM.open X;obtain rfl:du=ca:=by simp only [cd,List.cons.injEq] at e;exact e.2.2.2.2.1
 have ol:=dK.one;have hk:=dK.len;rw [apv] at hk;have cn:=size_eq p;obtain ⟨U,aj,av,b9⟩:=fE h (cd p du);have cL:U.next=h.next+1:=by rw [<-aj];exact ga _ _
 obtain ⟨g_,ab,an,eI,aK⟩:=Vx (P.d'.ext av) (by omega:path.length<=1000000000);have Il:=av.trans aK;have dz:=b9.ext aK;have mO:=R.ext av;have oC:=mO.ext aK;have cJ:∀b,j6 cM v b->¬h.next<=b0 b:=fun b z y=>by
  rcases z with z | z
  . rw [z,cV] at y;have:=R.kV;have:=R.le;omega
  . have:=R.own.kX z;unfold Old at this;omega
 refine Zn.z rfl (cr ?_);rw [Zo];simp only [cd] at aj b9 dz;simp only [cd];simp +contextual only [aj,an,ol.1,ol.2.1,ol.2.2,dz.g,↓ag,al,simprocAttr];refine Mk (fun r G=>r 1=w/\r 4=.ptr (aC eA) 0/\r 5=.ptr (aC h.next) 0/\∃v0,oE cs B cM ix eA dP G (bx++jd cs p.k p.n p.s path) v0/\Mod (j6 cM v) h G/\Has G h.next [.int .i64 p.k,.int .i64 p.n,.int .i64 p.a,.str p.s,du]/\∀b,v0.aS b->v.aS b\/h.next<=b0 b) rfl (cr ?_) ?_
 . unfold ON;have add:∀(f:Bool) (m:Int),∃b1 aa,jM 3 v (.slice (aC ab.next) 0 1 1) (ab.new (.bT [g_,.bool f,.int .i64 m] 0 false))=.val b1 aa/\b1.one=true/\b1.cells=[b1]/\aa.get (aC cM)=.bT [v] 0 false/\(∃G,aa.set (aC cM) (.bT [b1] 0 false)=G/\oE cs B cM ix eA dP G (bx++[(path,f,m)]) b1/\Mod (j6 cM v) h G/\Has G h.next [.int .i64 p.k,.int .i64 p.n,.int .i64 p.a,.str p.s,du]/\(∀b,b1.aS b->v.aS b\/h.next<=b0 b)):=fun f m=>by
    obtain ⟨b1,aa,bJ,a2,a3,a4,a5,gX,pE⟩:=mO.add aK (t:=(path,f,m)) eI (by omega) (by show path.length<=_;omega);refine ⟨b1,aa,bJ,a2,a3,a4,_,rfl,a5,kT (av.mod _) gX fun _ _ z=>z,b9.mod gX fun z=>cJ _ z (by rw [cV];exact aps _),fun b z=>?_⟩;rcases pE b z with z | z
    . exact .inl z
    . exact .inr (by omega)
   have cm:∀m:Int,(p.k=m)=True\/(p.k=m)=False:=fun m=>by by_cases q:p.k=m<;>simp [q]
   by_cases lK:p.k=12
   . have g2:(p.k=12)=True:=apD lK;have a7:jd cs p.k p.n p.s path=[(path,true,p.n)]:=by unfold jd;rw [apB lK]
     rw [a7];obtain ⟨b1,aa,bJ,a2,a3,a4,G,a5,gX,pE,Ak,a9⟩:=add true p.n;have cy:=oC.out;simp +contextual only [dz.g,g2,cy.g,eI.v.one.1,eI.v.one.2.1,eI.v.one.2.2,bJ,a2,a3,a4,a5,↓ag,al,simprocAttr];exact ⟨b1,gX,pE,Ak,a9⟩
   . have g2:(p.k=12)=False:=apx lK;by_cases mU:p.k=14
     . have g3:(p.k=14)=True:=apD mU;have a7:jd cs p.k p.n p.s path=[(path,false,p.n)]:=by unfold jd;rw [apu lK,apB mU]
       rw [a7];obtain ⟨b1,aa,bJ,a2,a3,a4,G,a5,gX,pE,Ak,a9⟩:=add false p.n;have cy:=oC.out;simp +contextual only [dz.g,g2,g3,cy.g,eI.v.one.1,eI.v.one.2.1,eI.v.one.2.2,bJ,a2,a3,a4,a5,↓ag,al,simprocAttr];exact ⟨b1,gX,pE,Ak,a9⟩
     . have g3:(p.k=14)=False:=apx mU;by_cases sv:p.k=16
       . have g4:(p.k=16)=True:=apD sv;have a7:jd cs p.k p.n p.s path=[(path,false,ot cs p.s)]:=by unfold jd;rw [apu lK,apu mU,apB sv]
         rw [a7];obtain ⟨b1,aa,bJ,a2,a3,a4,G,a5,gX,pE,Ak,a9⟩:=add false (ot cs p.s);have cy:=oC.out;have og:=oC.HQ;obtain ⟨VP,Cy,ty,amS,nz⟩:=oC.tag.look p.s;simp +contextual only [dz.g,g2,g3,g4,cy.g,og.g,nz,eI.v.one.1,eI.v.one.2.1,eI.v.one.2.2,bJ,a2,a3,a4,a5,↓ag,al,simprocAttr];exact ⟨b1,gX,pE,Ak,a9⟩
       . have g4:(p.k=16)=False:=apx sv;have a7:jd cs p.k p.n p.s path=[]:=by unfold jd;rw [apu lK,apu mU,apu sv]
         rw [a7,aqB];simp +contextual only [dz.g,g2,g3,g4,↓ag,al,simprocAttr];exact ⟨v,oC,Il.mod _,dz,fun b z=>.inl z⟩
 . rintro r G ⟨a',eg,bL,v0,Hl,z8,GD,Aa⟩;unfold OO;have dj:=mI p.l;simp +contextual only [a',eg,bL,GD.g,hk,↓ag,al,simprocAttr];refine eO (fun r g=>r 1=w/\r 4=.ptr (aC eA) 0/\r 45=du/\r 46=.int .i64 p.l.length/\∃(i:Nat) (iw:V),r 47=.int .i64 i/\i<=p.l.length/\oE cs B cM ix eA dP g (bx++jd cs p.k p.n p.s path++lW cs (p.l.take i) path 0) iw/\Mod (j6 cM v) h g/\∀b,iw.aS b->v.aS b\/h.next<=b0 b) (fun r g=>p.l.length - (r 47).toN) ?_ ?_
   . refine ⟨by simp only [a',↓ag,bz,simprocAttr],by simp only [eg,↓ag,bz,simprocAttr],by simp only [↓ag,bz,simprocAttr],by simp only [↓ag,bz,simprocAttr],0,v0,by simp only [↓ag,bz,simprocAttr]<;>rfl,by omega,?_,z8,Aa⟩;simpa [lW] using Hl
   clear a' eg bL;rintro r g ⟨a',eg,Ls,Lt,i,iw,Lu,ax,pB,gn,jr⟩;unfold HX;by_cases aL:i<p.l.length
   . have g0:((i:Int) < (p.l.length:Int))=True:=apD (by omega);have ec:∀b,F b->Old h b->¬j6 cM v b/\(F b/\Old g b):=fun b z o=>⟨(eX b z).2,z,gn.bG o⟩;have sj:=dK.mod gn ec;have vy:=P.mod gn ec;obtain ⟨b,off,qI,bW,pC,pD,ld,_,_,_⟩:=aM.ki sj (k:=.i64) aL;have d5:=ld g (Ext.refl g);have ok:=pD.one;have db:=fW aL (by omega);have eb:p.l[i] ∈ p.l:=apV aL;have n0:=yO eb;have n9:=FN aL;have o6:=Co p.l (i+1);have p3:=El aG eb;have iP:=SQ cs p.l path aL;have ke:=E_ cs (p.l.take i) path 0;have RA:=Jb cs p.k p.n p.s path;generalize p.l[i]=q at pC pD ld bW d5 eb n0 n9 p3 iP;obtain ⟨g1,aJ,bF,fa⟩:=hA g z5 (cd q qI);have n3:g1.next=g.next+1:=by rw [<-aJ];rfl
     have Af:=pB.ext bF;have s':=Af.go;simp only [ya] at s';simp only [cd] at d5 aJ fa;simp +contextual only [a',eg,Ls,Lt,Lu,g0,bW,d5,ok.1,ok.2.1,aJ,fa.g,s'.g,↓ag,al,simprocAttr];refine bS (VH path (by omega) i _ w g1 (vy.ext bF)) ?_;rintro y g2 ⟨se,bZ⟩;have fJ:=fa.ext bZ;have Ag:=Af.ext bZ;have s_:=Ag.go;simp only [ya] at s_;have Hf:=kT gn ((bF.trans bZ).mod (fun _=>False)) fun _ _ z=>z.elim;simp +contextual only [↓ag,al,simprocAttr];have ne:h.next<=g.next:=gn.next
     have cf:=vj q (by omega) p3 B cM ix eA dP (path++[(i:Int)]) y qI _ iw (fun b=>(F b/\Old g b)\/(hU g1 b/\Old g2 b)) g2 (by simp only [apC];omega) (by simp only [apC,apz,ap5];omega)
      (((pC.ext bF).ext bZ).eQ fun b z=>.inl z) ⟨se.d'.mod (Mod.refl (fun _=>False) g2) (fun b z o=>⟨fun x=>x,.inr ⟨z,o⟩⟩),se.form⟩ (fun b z=>by
       rcases z with ⟨bU,z2⟩ | ⟨bU,z2⟩
       . refine ⟨(bF.trans bZ).bG z2,fun y=>?_⟩;obtain ⟨f1,f2⟩:=eX b bU;rcases y with y | y
         . exact f2 (.inl y)
         . rcases jr b y with y | y
           . exact f2 (.inr y)
           . unfold Old at f1;omega
       . refine ⟨z2,fun y=>?_⟩;unfold hU at bU;rcases y with y | y
         . rw [y,cV] at bU;have:=R.kV;have:=R.le;omega
         . have:=pB.own.kX y;unfold Old at this;omega) Ag
     simp only [cd] at cf;refine bS cf ?_;rintro x g3 ⟨Md,Ah,nK,vv⟩;have jI:=fJ.mod nK fun z=>by
      rcases z with z | z
      . rw [pg] at z;have:=R.kV;have:=R.le;omega
      . have:=pB.own.kX z;unfold Old at this;rw [cV] at this;omega
     have B6:=Ah.go;simp only [ya] at B6;simp +contextual only [a',eg,Ls,Lt,Lu,fa.g,fJ.g,jI.g,s'.g,s_.g,B6.g,ok.1,ok.2.1,db,↓ag,al,simprocAttr];refine ⟨⟨i+1,Md,rfl,aL,?_,kT Hf nK fun b o z=>?_,fun b z=>?_⟩,by omega⟩
     . rw [iP,<-ap8];exact Ah
     . rcases z with z | z
       . exact .inl z
       . rcases jr b z with z | z
         . exact .inr z
         . unfold Old at o;omega
     . rcases vv b z with z | z
       . exact jr b z
       . have:=(bF.trans bZ).next;exact .inr (by omega)
   . have g0:((i:Int) < (p.l.length:Int))=False:=apx (by omega);rw [apZ (by omega),ap8,<-Gv] at pB;simp +contextual only [a',eg,Ls,Lt,Lu,g0,↓ag,al,simprocAttr];exact ⟨iw,pB,gn,jr⟩
theorem QX (cs:List bY):∀n,GN cs n
 | 0=>fun p jz=>by have:=oi p;omega
 | n+1=>acg (QX cs n)
theorem X2 (cs:List bY) (p:aM) (aG:pT p) (aW:p.size<=500000000) (dP:aO) (du:V) (h:ae) (T:oG cs h dP) (aT:Old h dP) (X:b6 (Old h) h p.enc (cd p du)):
 cv Tryz.prog 34 [.map dP,.agg (cd p du)] h fun x aa=>hz h.next aa (ou cs p []) x/\Ext h aa:=by
 obtain ⟨ca,e,dK,gj⟩:=aM.open X;obtain rfl:du=ca:=by simp only [cd,List.cons.injEq] at e;exact e.2.2.2.2.1
 have ol:=dK.one;obtain ⟨U,aj,av,b9⟩:=fE h [.map dP];have cL:U.next=h.next+1:=by rw [<-aj];exact ga _ _
 obtain ⟨ab,an,aK,dz⟩:=fE U (cd p du);have fi:ab.next=U.next+1:=by rw [<-an];exact ga _ _
 obtain ⟨aI,aJ,bF,fa⟩:=fE ab [.bu];have n3:aI.next=ab.next+1:=by rw [<-aJ];exact ga _ _
 obtain ⟨bq,bE,bZ,fJ⟩:=hA aI [.jB] [ya ab.next h.next aI.next];have n4:bq.next=aI.next+1:=by rw [<-bE];rfl
 have E:=((av.trans aK).trans bF).trans bZ;obtain ⟨Em,Cr,abd,GF⟩:=fE aI [.jB];have R:oE cs bq.next ab.next h.next aI.next dP bq [] .bu:=
  ⟨fa.ext bZ,hz.nil _ _,((b9.ext aK).ext bF).ext bZ,fJ,T.ext E,by omega,by omega,by omega,by unfold Old at aT;omega,by omega,by omega,fun z=>by rw [z] at aT;unfold Old at aT;rw [cV] at aT;omega,aps _⟩
 have jJ:=(dz.ext bF).ext bZ
 have cf:=QX cs p.size p (aps _) aG bq.next ab.next h.next aI.next dP [] .bu du [] .bu (Old h) bq (by simp;omega) (by simp;omega) (X.ext E) (l9.nil _ _) (fun b z=>⟨E.bG z,fun y=>by
  rcases y with y | y
  . rw [y] at z;unfold Old at z;rw [cV] at z;omega
  . exact y⟩) R
 refine Y'.z rfl (cr ?_);unfold c34;simp only [cd,ya] at an bE fJ jJ cf;simp only [cd];rw [Cr] at bE;simp +contextual only [aj,an,aJ,Cr,bE,GF.g,fJ.g,jJ.g,ol.1,ol.2.1,ol.2.2,↓ag,al,simprocAttr];refine bS cf ?_;rintro x cF ⟨b1,vA,z',W0⟩;have s_:=vA.out;rw [aql] at vA;simp +contextual only [s_.g,↓ag,al,simprocAttr]
 exact ⟨vA.own.mono (by omega),E.iq z' fun b z=>by
  rcases z with z | z
  . rw [z,cV];omega
  . exact z.elim⟩
def Ol:aX:=
 aX.seq (aX.ak [⟨(some 10),.er 0 (.t 5),none,[5]⟩,
  ⟨(some 11),.dS (.t 10),none,[10]⟩])
  (aX.block 0 (aX.seq (aX.ak [⟨(some 13),.bin (.int .eql) (.t 11) (.c (.int .i64 12)),none,[11]⟩,
    ⟨(some 12),.cq (.t 13),none,[13]⟩])
   (aX.cond (.t 12)
    (aX.seq (aX.ak [⟨(some 14),.cq (.t 3),none,[3]⟩,
      ⟨(some 15),.cq (.t 2),none,[2]⟩,
      ⟨(some 16),.er 1 (.t 5),none,[5]⟩,
      ⟨(some 17),.dS (.t 16),none,[16]⟩,
      ⟨(some 18),.build [.bu,(.bool false),(.int .i64 0)] [(0,1,(.t 15)),(1,1,(.c (.bool true))),(2,1,(.t 17))],none,[15,17]⟩,
      ⟨(some 19),.gq 1 3 [.bu,(.bool false),(.int .i64 0)] [(0,3,(.t 18))],none,[18]⟩,
      ⟨(some 20),.app 3 (.t 14) (.t 19),none,[14,19]⟩,
      ⟨(some 8),.cq (.t 20),none,[20]⟩])
     (aX.ret))
    (aX.seq (aX.ak [⟨(some 22),.bin (.int .eql) (.t 11) (.c (.int .i64 14)),none,[11]⟩,
      ⟨(some 21),.cq (.t 22),none,[22]⟩])
     (aX.cond (.t 21)
      (aX.seq (aX.ak [⟨(some 23),.cq (.t 3),none,[3]⟩,
        ⟨(some 24),.cq (.t 2),none,[2]⟩,
        ⟨(some 25),.er 1 (.t 5),none,[5]⟩,
        ⟨(some 26),.dS (.t 25),none,[25]⟩,
        ⟨(some 27),.build [.bu,(.bool false),(.int .i64 0)] [(0,1,(.t 24)),(2,1,(.t 26))],none,[24,26]⟩,
        ⟨(some 28),.gq 1 3 [.bu,(.bool false),(.int .i64 0)] [(0,3,(.t 27))],none,[27]⟩,
        ⟨(some 29),.app 3 (.t 23) (.t 28),none,[23,28]⟩,
        ⟨(some 8),.cq (.t 29),none,[29]⟩])
       (aX.ret))
      (aX.seq (aX.ak [⟨(some 31),.bin (.int .eql) (.t 11) (.c (.int .i64 16)),none,[11]⟩,
        ⟨(some 30),.cq (.t 31),none,[31]⟩])
       (aX.cond (.t 30)
        (aX.ak [⟨(some 32),.cq (.t 3),none,[3]⟩,
          ⟨(some 33),.cq (.t 2),none,[2]⟩,
          ⟨(some 34),.cq (.t 0),none,[0]⟩,
          ⟨(some 35),.er 3 (.t 5),none,[5]⟩,
          ⟨(some 36),.dS (.t 35),none,[35]⟩,
          ⟨(some 37),.call 63 [(.t 34),(.t 36)],none,[34,36]⟩,
          ⟨(some 38),.oW 2 (.t 37),none,[37]⟩,
          ⟨(some 39),.build [.bu,(.bool false),(.int .i64 0)] [(0,1,(.t 33)),(2,1,(.t 38))],none,[33,38]⟩,
          ⟨(some 40),.gq 1 3 [.bu,(.bool false),(.int .i64 0)] [(0,3,(.t 39))],none,[39]⟩,
          ⟨(some 41),.app 3 (.t 32) (.t 40),none,[32,40]⟩,
          ⟨(some 3),.cq (.t 41),none,[41]⟩])
        (aX.skip))))))))
def Om:aX:=
 aX.seq (aX.seq (aX.ak [⟨(some 9),.cq (.c (.int .i64 0)),none,[]⟩])
  (aX.block 1 (aX.loop HT)))
 (aX.seq (aX.ak [⟨(some 60),.cq (.t 3),none,[3]⟩,
   ⟨(some 8),.cq (.t 60),none,[60]⟩])
 (aX.ret))
theorem Zb:Ok=(aX.seq (aX.ak [⟨(some 5),.box (.t 1),none,[1]⟩,
 ⟨(some 8),.cq (.c .bu),none,[]⟩])
 (aX.seq (Ol)
 (Om))):=rfl
theorem Sq {n:Nat} {v i:V} {b:aO} {o:Nat} (h:f' n v i=some (.ptr b o)):v.aS b:=by
 cases v<;>cases i<;>simp only [f',uD,V.ew] at h<;>try (cases h)
 all_goals
  simp only [V.aS];generalize sW _ _=q at h;cases q
  . cases h
  . simp only [apt,apq,V.ptr.injEq] at h;exact h.1.symm
def ib (B:Nat) (b:aO):Prop:=B<=b0 b
theorem QU {M:aO->Prop} {h aa:ae} (m:Mod M h aa) {b:aO} (o:Old h b) (n:¬M b):aa.get b=h.get b:=m.get b o n
def Hm (cs:List bY) (n:Nat):Prop:=∀(p:aM),p.size<=n->pT p->∀(B:Nat) (path:List Int) (cA w du:V) (bx:List gW) (v:V) (F:aO->Prop) (h:ae),
 p.size+bx.length<=1000000000->p.size+path.length<=1000000000->bN F h 5 (cs.map bY.enc) cA->b6 F h p.enc (cd p du)->bN (fun b=>F b/\ib B b) h 1 (path.map gA) w->(∀b,F b->Old h b/\¬v.aS b)->dY B (ib B) h 3 (bx.map nS) v->B<=h.next->
 cv Tryz.prog 36 [cA,.agg (cd p du),w,v] h fun x aa=>dY B (ib B) aa 3 ((bx++ou cs p path).map nS) x/\Mod v.aS h aa/\∀b,x.aS b->v.aS b\/h.next<=b0 b
theorem alx {cs:List bY} {n:Nat} (vj:Hm cs n):Hm cs (n+1):=by
 intro p jz aG B path cA w du bx v F h bR b7 ja X P eX O cC;obtain ⟨ca,e,dK,gj⟩:=aM.open X;obtain rfl:du=ca:=by simp only [cd,List.cons.injEq] at e;exact e.2.2.2.2.1
 have ol:=dK.one;have op:=P.one;have hk:=dK.len;rw [apv] at hk;have cn:=size_eq p;have dj:=mI p.l;obtain ⟨_,_,_,_,Bg,_⟩:=te aG.2 aG.1;obtain ⟨U,aj,av,b9⟩:=fE h (cd p du);have cL:U.next=h.next+1:=by rw [<-aj];exact ga _ _
 have sb:=O.ext av;have CE:∀b,v.aS b->b0 b<h.next:=fun b z=>by have:=O.kX z;unfold Old at this;exact this
 refine Za.z rfl (cr ?_);rw [Zb];simp only [cd] at aj b9;simp only [cd];simp +contextual only [aj,ol.1,ol.2.1,ol.2.2,b9.g,↓ag,al,simprocAttr];have add:∀(f:Bool) (m:Int),∃b1 G,jM 3 v (.slice (aC U.next) 0 1 1) (U.new (.bT [w,.bool f,.int .i64 m] 0 false))=.val b1 G/\dY B (ib B) G 3 ((bx++[(path,f,m)]).map nS) b1/\Mod v.aS h G/\Has G h.next [.int .i64 p.k,.int .i64 p.n,.int .i64 p.a,.str p.s,du]/\(∀b,b1.aS b->v.aS b\/h.next<b0 b):=fun f m=>by
  have ve:b6 (fun b=>ib B b/\¬v.aS b) U (nS (path,f,m)) [w,.bool f,.int .i64 m]:=((P.ext av).eQ fun b z=>(⟨z.2,(eX b z.1).2⟩:ib B b/\¬v.aS b)).cons (.b (.i .nil));obtain ⟨b1,G,bJ,a2,a3,a4,a5⟩:=sb.add ve (by omega) (by omega) (by rw [apv];unfold top;omega) rfl;refine ⟨b1,G,bJ,?_,kT (av.mod _) a3 fun _ _ z=>z,b9.mod a3 fun z=>?_,fun b z=>?_⟩
  . rw [aqM];exact a2
  . have:=CE _ z;rw [cV] at this;omega
  . rcases a5 b z with z | z
    . exact .inl z
    . exact .inr (by omega)
 refine Mk (fun r G=>r 0=cA/\r 2=w/\r 5=.ptr (aC h.next) 0/\∃v0,r 3=v0/\dY B (ib B) G 3 ((bx++jd cs p.k p.n p.s path).map nS) v0/\Mod v.aS h G/\Has G h.next [.int .i64 p.k,.int .i64 p.n,.int .i64 p.a,.str p.s,du]/\∀b,v0.aS b->v.aS b\/h.next<b0 b) rfl (cr ?_) ?_
 . unfold Ol;by_cases lK:p.k=12
   . have g2:(p.k=12)=True:=apD lK;have a7:ou cs p path=[(path,true,p.n)]:=by rw [Gv,Bg (by omega) (by omega)];unfold jd;rw [apB lK];rfl
     rw [a7];obtain ⟨b1,G,bJ,a2,a3,a4,a5⟩:=add true p.n;simp +contextual only [b9.g,g2,op.1,op.2.1,op.2.2,bJ,sq,↓ag,al,simprocAttr];exact ⟨a2,a3,fun b z=>(a5 b z).imp_right fun y=>by omega⟩
   . have g2:(p.k=12)=False:=apx lK;by_cases mU:p.k=14
     . have g3:(p.k=14)=True:=apD mU;have a7:ou cs p path=[(path,false,p.n)]:=by rw [Gv,Bg (by omega) (by omega)];unfold jd;rw [apu lK,apB mU];rfl
       rw [a7];obtain ⟨b1,G,bJ,a2,a3,a4,a5⟩:=add false p.n;simp +contextual only [b9.g,g2,g3,op.1,op.2.1,op.2.2,bJ,sq,↓ag,al,simprocAttr];exact ⟨a2,a3,fun b z=>(a5 b z).imp_right fun y=>by omega⟩
     . have g3:(p.k=14)=False:=apx mU;by_cases sv:p.k=16
       . have g4:(p.k=16)=True:=apD sv;have a7:jd cs p.k p.n p.s path=[(path,false,ot cs p.s)]:=by unfold jd;rw [apu lK,apu mU,apB sv]
         rw [a7];simp +contextual only [b9.g,g2,g3,g4,op.1,op.2.1,op.2.2,↓ag,al,simprocAttr];refine bS (ak4 cs p.s cA U ((ja.ext av).eQ fun _ _=>trivial)) ?_;rintro x ab ⟨⟨VP,Cy,ty,amS,rfl⟩,aK⟩;have ve:b6 (fun b=>ib B b/\¬v.aS b) ab (nS (path,false,ot cs p.s)) [w,.bool false,.int .i64 (ot cs p.s)]:=(((P.ext av).ext aK).eQ fun b z=>(⟨z.2,(eX b z.1).2⟩:ib B b/\¬v.aS b)).cons (.b (.i .nil));have fi:=aK.next
         obtain ⟨b1,G,bJ,a2,a3,a4,a5⟩:=(sb.ext aK).add ve (by omega) (by omega) (by rw [apv];unfold top;omega) rfl;have dz:=b9.ext aK;simp +contextual only [dz.g,op.1,op.2.1,op.2.2,bJ,lI,↓ag,al,simprocAttr];refine ⟨?_,kT ((av.trans aK).mod _) a3 fun _ _ z=>z,dz.mod a3 fun z=>?_,fun b z=>?_⟩
         . rw [aqM];exact a2
         . have:=CE _ z;rw [cV] at this;omega
         . rcases a5 b z with z | z
           . exact .inl z
           . exact .inr (by omega)
       . have g4:(p.k=16)=False:=apx sv;have a7:jd cs p.k p.n p.s path=[]:=by unfold jd;rw [apu lK,apu mU,apu sv]
         rw [a7,aqB];simp +contextual only [b9.g,g2,g3,g4,lI,↓ag,al,simprocAttr];exact ⟨sb,av.mod _,b9,fun b z=>by simp [z]⟩
 . rintro r G ⟨a1,cG,bL,v0,b3,W1,z8,GD,Aa⟩;unfold Om;simp +contextual only [a1,cG,bL,b3,↓ag,al,simprocAttr];refine eO (fun r g=>r 0=cA/\r 2=w/\r 5=.ptr (aC h.next) 0/\∃(i:Nat) (iw:V),r 9=.int .i64 i/\i<=p.l.length/\r 3=iw/\dY B (ib B) g 3 ((bx++jd cs p.k p.n p.s path++lW cs (p.l.take i) path 0).map nS) iw/\Mod v.aS h g/\Has g h.next [.int .i64 p.k,.int .i64 p.n,.int .i64 p.a,.str p.s,du]/\∀b,iw.aS b->v.aS b\/h.next<b0 b) (fun r g=>p.l.length - (r 9).toN) ?_ ?_
   . refine ⟨by simp only [a1,↓ag,bz,simprocAttr],by simp only [cG,↓ag,bz,simprocAttr],by simp only [bL,↓ag,bz,simprocAttr],0,v0,by simp only [↓ag,bz,simprocAttr]<;>rfl,by omega,by simp only [b3,↓ag,bz,simprocAttr],?_,z8,GD,Aa⟩;simpa [lW] using W1
   clear a1 cG bL b3;rintro r g ⟨a1,cG,bL,i,iw,dT,ax,b3,sd,gn,pw,jr⟩;unfold HT;by_cases aL:i<p.l.length
   . have g0:((i:Int) < (p.l.length:Int))=True:=apD (by omega);have ec:∀b,F b->Old h b->¬v.aS b/\(F b/\Old g b):=fun b z o=>⟨(eX b z).2,z,gn.bG o⟩;have sj:=dK.mod gn ec;have vy:=P.mod (dA:=Any) gn fun b z o=>⟨(eX b z.1).2,trivial⟩;have Ha:=ja.mod gn ec;obtain ⟨b,off,qI,bW,pC,pD,ld,_,_,_⟩:=aM.ki sj (k:=.i64) aL;have d5:=ld g (Ext.refl g);have As:=sj.uc b (Sq bW);have ok:=pD.one;have db:=fW aL (by omega);have eb:p.l[i] ∈ p.l:=apV aL;have n0:=yO eb;have n9:=FN aL;have o6:=Co p.l (i+1);have p3:=El aG eb;have iP:=SQ cs p.l path aL;have ke:=E_ cs (p.l.take i) path 0;have RA:=Jb cs p.k p.n p.s path;generalize p.l[i]=q at pC pD ld bW d5 eb n0 n9 p3 iP;have Fs:=gn.next
     have CD:∀b,F b->Old h b->¬iw.aS b:=fun b z o y=>by
      rcases jr b y with y | y
      . exact (eX b z).2 y
      . unfold Old at o;omega
     simp +contextual only [a1,cG,bL,b3,dT,pw.g,hk,g0,bW,d5,ok.1,ok.2.1,↓ag,al,simprocAttr];refine bS (Va path (by omega) i w g vy) ?_;rintro y g2 ⟨se,bZ⟩;have fJ:=pw.ext bZ;have d6:=ld g2 bZ;simp +contextual only [a1,cG,bL,b3,dT,↓ag,al,simprocAttr];have cf:=vj q (by omega) p3 B (path++[(i:Int)]) cA y qI _ iw (fun b=>(F b/\Old h b)\/(hU g b/\Old g2 b)) g2 (by simp only [apC];omega) (by simp only [apC,apz,ap5];omega)
      ((Ha.ext bZ).eQ fun b z=>.inl ⟨z.1,(eX b z.1).1⟩) ((pC.ext bZ).eQ fun b z=>.inl ⟨z.1,(eX b z.1).1⟩) (se.mod (Mod.refl (fun _=>False) g2) fun b z o=>⟨fun x=>x,.inr ⟨z,o⟩,by unfold hU at z;unfold ib;omega⟩) (fun b z=>by
       rcases z with ⟨bU,z2⟩ | ⟨bU,z2⟩
       . exact ⟨bZ.bG (gn.bG z2),CD b bU z2⟩
       . refine ⟨z2,fun y=>?_⟩
         have:=sd.kX y;unfold Old at this;unfold hU at bU;omega) (sd.ext bZ) (by have:=bZ.next;omega)
     simp only [cd] at cf;refine bS cf ?_;rintro x g3 ⟨Hh,nK,vv⟩;have jI:=fJ.mod nK fun z=>by
      rcases jr _ z with z | z
      . have:=CE _ z;rw [cV] at this;omega
      . rw [cV] at z;omega
     have Bj:Old h b:=(eX b As.1).1;have d7:lX 5 (g3.get b) (off+i * 5)=some (.agg (cd q qI)):=by rw [QU nK (bZ.bG (gn.bG Bj)) (CD b As.1 Bj)];exact ld g2 bZ
     simp only [cd] at d7;simp +contextual only [a1,cG,bL,b3,dT,fJ.g,jI.g,pw.g,d5,d6,d7,ok.1,ok.2.1,bW,db,↓ag,al,simprocAttr];refine ⟨⟨i+1,_,rfl,aL,rfl,?_,kT (kT gn (bZ.mod (fun _=>False)) fun _ _ z=>z.elim) nK fun b o z=>?_,jI,fun b z=>?_⟩,by omega⟩
     . rw [iP,<-ap8];exact Hh
     . rcases jr b z with z | z
       . exact z
       . unfold Old at o;omega
     . rcases vv b z with z | z
       . exact jr b z
       . have:=bZ.next;have:=pw.lt;exact .inr (by omega)
   . have g0:((i:Int) < (p.l.length:Int))=False:=apx (by omega);rw [apZ (by omega),ap8,<-Gv] at sd;simp +contextual only [a1,cG,bL,b3,dT,pw.g,hk,g0,lI,sq,↓ag,al,simprocAttr];exact ⟨sd,gn,fun b z=>(jr b z).imp_right fun y=>by omega⟩
theorem Vd (cs:List bY):∀n,Hm cs n
 | 0=>fun p jz=>by have:=oi p;omega
 | n+1=>alx (Vd cs n)
def Hg (n:Nat):Prop:=∀(p:aM),p.size<=n->pT p->∀(B:Nat) (path:List Int) (w du:V) (bx:List Nm) (v:V) (F:aO->Prop) (h:ae),
 p.size+bx.length<=1000000000->p.size+path.length<=1000000000->b6 F h p.enc (cd p du)->bN (fun b=>F b/\ib B b) h 1 (path.map gA) w->(∀b,F b->Old h b/\¬v.aS b)->dY B (ib B) h 2 (bx.map oP) v->B<=h.next->
 cv Tryz.prog 41 [.agg (cd p du),w,v] h fun x aa=>dY B (ib B) aa 2 ((bx++od p path).map oP) x/\Mod v.aS h aa/\∀b,x.aS b->v.aS b\/h.next<=b0 b
theorem alm {n:Nat} (vj:Hg n):Hg (n+1):=by
 intro p jz aG B path w du bx v F h bR b7 X P eX O cC;obtain ⟨ca,e,dK,gj⟩:=aM.open X;obtain rfl:du=ca:=by simp only [cd,List.cons.injEq] at e;exact e.2.2.2.2.1
 have ol:=dK.one;have op:=P.one;have hk:=dK.len;rw [apv] at hk;have cn:=size_eq p;have dj:=mI p.l;obtain ⟨_,_,_,_,Bg,_⟩:=te aG.2 aG.1;obtain ⟨U,aj,av,b9⟩:=fE h (cd p du);have cL:U.next=h.next+1:=by rw [<-aj];exact ga _ _
 have sb:=O.ext av;have CE:∀b,v.aS b->b0 b<h.next:=fun b z=>by have:=O.kX z;unfold Old at this;exact this
 refine Zh.z rfl (cr ?_);unfold Ox;simp only [cd] at aj b9;simp only [cd];by_cases oL:p.k=11
 . have g2:(p.k=11)=True:=apD oL;have a7:od p path=[(p.s,path)]:=by rw [KP,Bg (by omega) (by omega)];unfold nb;rw [apB oL];rfl
   rw [a7];have ve:b6 (fun b=>ib B b/\¬v.aS b) U (oP (p.s,path)) [.str p.s,w]:=.s gj (((P.ext av).eQ fun b z=>(⟨z.2,(eX b z.1).2⟩:ib B b/\¬v.aS b)).cons .nil);obtain ⟨b1,G,bJ,a2,a3,a4,a5⟩:=sb.add ve (by omega) (by omega) (by rw [apv];unfold top;omega) rfl;simp +contextual only [aj,ol.1,ol.2.1,ol.2.2,b9.g,g2,op.1,op.2.1,op.2.2,bJ,↓ag,al,simprocAttr];refine ⟨?_,kT (av.mod _) a3 fun _ _ z=>z,fun b z=>?_⟩
   . rw [aqM];exact a2
   . rcases a5 b z with z | z
     . exact .inl z
     . exact .inr (by omega)
 . have g2:(p.k=11)=False:=apx oL;have a7:nb p.k p.s path=[]:=by unfold nb;rw [apu oL]
   simp +contextual only [aj,ol.1,ol.2.1,ol.2.2,b9.g,g2,↓ag,al,simprocAttr];refine eO (fun r g=>r 1=w/\r 3=.ptr (aC h.next) 0/\∃(i:Nat) (iw:V),r 7=.int .i64 i/\i<=p.l.length/\r 2=iw/\dY B (ib B) g 2 ((bx++lq (p.l.take i) path 0).map oP) iw/\Mod v.aS h g/\Has g h.next [.int .i64 p.k,.int .i64 p.n,.int .i64 p.a,.str p.s,du]/\∀b,iw.aS b->v.aS b\/h.next<b0 b) (fun r g=>p.l.length - (r 7).toN) ?_ ?_
   . refine ⟨by simp only [↓ag,bz,simprocAttr],by simp only [↓ag,bz,simprocAttr],0,v,by simp only [↓ag,bz,simprocAttr]<;>rfl,by omega,by simp only [↓ag,bz,simprocAttr],?_,av.mod _,b9,fun b z=>.inl z⟩;simpa [lq] using sb
   rintro r g ⟨a',b3,i,iw,dN,ax,cG,sd,gn,pw,jr⟩;unfold Oy;by_cases aL:i<p.l.length
   . have g0:((i:Int) < (p.l.length:Int))=True:=apD (by omega);have ec:∀b,F b->Old h b->¬v.aS b/\(F b/\Old g b):=fun b z o=>⟨(eX b z).2,z,gn.bG o⟩;have sj:=dK.mod gn ec;have vy:=P.mod (dA:=Any) gn fun b z o=>⟨(eX b z.1).2,trivial⟩;obtain ⟨b,off,qI,bW,pC,pD,ld,_,_,_⟩:=aM.ki sj (k:=.i64) aL;have d5:=ld g (Ext.refl g);have As:=sj.uc b (Sq bW);have ok:=pD.one;have db:=fW aL (by omega);have eb:p.l[i] ∈ p.l:=apV aL;have n0:=yO eb;have n9:=FN aL;have o6:=Co p.l (i+1);have p3:=El aG eb;have iP:=SO p.l path aL;have ke:=E' (p.l.take i) path 0;generalize p.l[i]=q at pC pD ld bW d5 eb n0 n9 p3 iP;have Fs:=gn.next
     have CD:∀b,F b->Old h b->¬iw.aS b:=fun b z o y=>by
      rcases jr b y with y | y
      . exact (eX b z).2 y
      . unfold Old at o;omega
     simp +contextual only [a',cG,b3,dN,pw.g,hk,g0,bW,d5,ok.1,ok.2.1,↓ag,al,simprocAttr];refine bS (Va path (by omega) i w g vy) ?_;rintro y g2 ⟨se,bZ⟩;have fJ:=pw.ext bZ;have d6:=ld g2 bZ;simp +contextual only [a',cG,b3,dN,↓ag,al,simprocAttr];have cf:=vj q (by omega) p3 B (path++[(i:Int)]) y qI _ iw (fun b=>(F b/\Old h b)\/(hU g b/\Old g2 b)) g2 (by simp only [apC];omega) (by simp only [apC,apz,ap5];omega)
      ((pC.ext bZ).eQ fun b z=>.inl ⟨z.1,(eX b z.1).1⟩) (se.mod (Mod.refl (fun _=>False) g2) fun b z o=>⟨fun x=>x,.inr ⟨z,o⟩,by unfold hU at z;unfold ib;omega⟩) (fun b z=>by
       rcases z with ⟨bU,z2⟩ | ⟨bU,z2⟩
       . exact ⟨bZ.bG (gn.bG z2),CD b bU z2⟩
       . refine ⟨z2,fun y=>?_⟩
         have:=sd.kX y;unfold Old at this;unfold hU at bU;omega) (sd.ext bZ) (by have:=bZ.next;omega)
     simp only [cd] at cf;refine bS cf ?_;rintro x g3 ⟨Hh,nK,vv⟩;have jI:=fJ.mod nK fun z=>by
      rcases jr _ z with z | z
      . have:=CE _ z;rw [cV] at this;omega
      . rw [cV] at z;omega
     have Bj:Old h b:=(eX b As.1).1;have d7:lX 5 (g3.get b) (off+i * 5)=some (.agg (cd q qI)):=by rw [QU nK (bZ.bG (gn.bG Bj)) (CD b As.1 Bj)];exact ld g2 bZ
     simp only [cd] at d7;simp +contextual only [a',cG,b3,dN,fJ.g,jI.g,pw.g,d5,d6,d7,ok.1,ok.2.1,bW,db,↓ag,al,simprocAttr];refine ⟨⟨i+1,_,rfl,aL,rfl,?_,kT (kT gn (bZ.mod (fun _=>False)) fun _ _ z=>z.elim) nK fun b o z=>?_,jI,fun b z=>?_⟩,by omega⟩
     . rw [iP,<-ap8];exact Hh
     . rcases jr b z with z | z
       . exact z
       . unfold Old at o;omega
     . rcases vv b z with z | z
       . exact jr b z
       . have:=bZ.next;have:=pw.lt;exact .inr (by omega)
   . have g0:((i:Int) < (p.l.length:Int))=False:=apx (by omega);rw [apZ (by omega)] at sd;have aV:od p path=lq p.l path 0:=by rw [KP,a7,aql]
     simp +contextual only [a',cG,b3,dN,pw.g,hk,g0,aV,↓ag,al,simprocAttr];exact ⟨sd,gn,fun b z=>(jr b z).imp_right fun y=>by omega⟩
theorem U':∀n,Hg n
 | 0=>fun p jz=>by have:=oi p;omega
 | n+1=>alm (U' n)
def y1 (cM eA:Nat):V:=.func 38 [.ptr (aC cM) 0,.ptr (aC eA) 0]
structure qX (B cM eA:Nat) (h:ae) (bx:List Nm) (v:V):Prop where
 out:Has h cM [v]
 own:dY B (ib B) h 2 (bx.map oP) v
 go:Has h eA [y1 cM eA]
 kV:cM<B
 v':eA<B
 wa:eA≠cM
 le:B<=h.next
theorem qX.ext {B cM eA:Nat} {h aa:ae} {bx:List Nm} {v:V} (R:qX B cM eA h bx v) (e:Ext h aa):qX B cM eA aa bx v:=
 ⟨R.out.ext e,R.own.ext e,R.go.ext e,R.kV,R.v',R.wa,aqc R.le e.next⟩
def GO (n:Nat):Prop:=∀(p:aM),p.size<=n->pT p->∀(B cM eA:Nat) (path:List Int) (w du:V) (bx:List Nm) (v:V) (F:aO->Prop) (h:ae),
 p.size+bx.length<=1000000000->p.size+path.length<=1000000000->b6 F h p.enc (cd p du)->l9 F h path w->(∀b,F b->Old h b/\¬j6 cM v b)->qX B cM eA h bx v->
 cv Tryz.prog 38 [.agg (cd p du),w,.ptr (aC cM) 0,.ptr (aC eA) 0] h fun _ aa=>∃b1,qX B cM eA aa (bx++od p path) b1/\Mod (j6 cM v) h aa/\∀b,b1.aS b->v.aS b\/h.next<=b0 b
theorem ai_ {n:Nat} (vj:GO n):GO (n+1):=by
 intro p jz aG B cM eA path w du bx v F h bR b7 X P eX R;obtain ⟨ca,e,dK,gj⟩:=aM.open X;obtain rfl:du=ca:=by simp only [cd,List.cons.injEq] at e;exact e.2.2.2.2.1
 have ol:=dK.one;have hk:=dK.len;rw [apv] at hk;have cn:=size_eq p;have dj:=mI p.l;obtain ⟨_,_,_,_,Bg,_⟩:=te aG.2 aG.1;obtain ⟨U,aj,av,b9⟩:=fE h (cd p du);have cL:U.next=h.next+1:=by rw [<-aj];exact ga _ _
 have mO:=R.ext av;have cW:∀n,n<B->¬v.aS (aC n):=fun n aV z=>by have:=R.own.base z;rw [cV] at this;omega
 have cJ:∀b,j6 cM v b->¬h.next<=b0 b:=fun b z y=>by
  rcases z with z | z
  . rw [z,cV] at y;have:=R.kV;have:=R.le;omega
  . have:=R.own.kX z;unfold Old at this;omega
 have c8:=mO.out;refine Zd.z rfl (cr ?_);unfold Oo;simp only [cd] at aj b9;simp only [cd];have loop:∀(r:bd) (v0:V) (G:ae) (Q:cP->bd->ae->Prop),r 1=w->r 3=.ptr (aC eA) 0->r 20=du->r 21=.int .i64 p.l.length->r 22=.int .i64 (0:Int)->qX B cM eA G (bx++nb p.k p.s path) v0->Mod (j6 cM v) h G->(∀b,v0.aS b->v.aS b\/h.next<=b0 b)->
  (∀(r:bd) (g:ae) (b1:V),qX B cM eA g (bx++od p path) b1->Mod (j6 cM v) h g->(∀b,b1.aS b->v.aS b\/h.next<=b0 b)->Q .normal r g)->BX Tryz.prog HU [hS.aS 0] r G Q:=by
  intro r v0 G Q a' b3 zf zg qy Hl z8 Aa cw;refine eO (fun r g=>r 1=w/\r 3=.ptr (aC eA) 0/\r 20=du/\r 21=.int .i64 p.l.length/\∃(i:Nat) (iw:V),r 22=.int .i64 i/\i<=p.l.length/\qX B cM eA g (bx++nb p.k p.s path++lq (p.l.take i) path 0) iw/\Mod (j6 cM v) h g/\∀b,iw.aS b->v.aS b\/h.next<=b0 b) (fun r g=>p.l.length - (r 22).toN) ?_ ?_
  . refine ⟨a',b3,zf,zg,0,v0,qy,by omega,?_,z8,Aa⟩;simpa [lq] using Hl
  clear a' b3 zf zg qy;rintro r g ⟨a',b3,zf,zg,i,iw,qy,ax,pB,gn,jr⟩;unfold HU;by_cases aL:i<p.l.length
  . have g0:((i:Int) < (p.l.length:Int))=True:=apD (by omega);have ec:∀b,F b->Old h b->¬j6 cM v b/\(F b/\Old g b):=fun b z o=>⟨(eX b z).2,z,gn.bG o⟩;have sj:=dK.mod gn ec;have vy:=P.mod gn ec;obtain ⟨b,off,qI,bW,pC,pD,ld,_,_,_⟩:=aM.ki sj (k:=.i64) aL;have d5:=ld g (Ext.refl g);have ok:=pD.one;have db:=fW aL (by omega);have eb:p.l[i] ∈ p.l:=apV aL;have n0:=yO eb;have n9:=FN aL;have o6:=Co p.l (i+1);have p3:=El aG eb;have iP:=SO p.l path aL;have ke:=E' (p.l.take i) path 0;have RA:=Rr p.k p.s path;generalize p.l[i]=q at pC pD ld bW d5 eb n0 n9 p3 iP;obtain ⟨g1,aJ,bF,fa⟩:=hA g z5 (cd q qI);have n3:g1.next=g.next+1:=by rw [<-aJ];rfl
    have Af:=pB.ext bF;have s':=Af.go;simp only [y1] at s';simp only [cd] at aJ fa;simp +contextual only [a',b3,zf,zg,qy,g0,bW,d5,ok.1,ok.2.1,aJ,fa.g,s'.g,↓ag,al,simprocAttr];refine bS (VH path (by omega) i _ w g1 (vy.ext bF)) ?_;rintro y g2 ⟨se,bZ⟩;have fJ:=fa.ext bZ;have Ag:=Af.ext bZ;have s_:=Ag.go;simp only [y1] at s_;have Hf:=kT gn ((bF.trans bZ).mod (fun _=>False)) fun _ _ z=>z.elim;simp +contextual only [↓ag,al,simprocAttr];have ne:h.next<=g.next:=gn.next
    have cf:=vj q (by omega) p3 B cM eA (path++[(i:Int)]) y qI _ iw (fun b=>(F b/\Old g b)\/(hU g1 b/\Old g2 b)) g2 (by simp only [apC];omega) (by simp only [apC,apz,ap5];omega)
     (((pC.ext bF).ext bZ).eQ fun b z=>.inl z) ⟨se.d'.mod (Mod.refl (fun _=>False) g2) (fun b z o=>⟨fun x=>x,.inr ⟨z,o⟩⟩),se.form⟩ (fun b z=>by
      rcases z with ⟨bU,z2⟩ | ⟨bU,z2⟩
      . refine ⟨(bF.trans bZ).bG z2,fun y=>?_⟩;obtain ⟨f1,f2⟩:=eX b bU;rcases y with y | y
        . exact f2 (.inl y)
        . rcases jr b y with y | y
          . exact f2 (.inr y)
          . unfold Old at f1;omega
      . refine ⟨z2,fun y=>?_⟩;unfold hU at bU;rcases y with y | y
        . rw [y,cV] at bU;have:=R.kV;have:=R.le;omega
        . have:=pB.own.kX y;unfold Old at this;omega) Ag
    simp only [cd] at cf;refine bS cf ?_;rintro x g3 ⟨Md,Ah,nK,vv⟩;have jI:=fJ.mod nK fun z=>by
     rcases z with z | z
     . rw [pg] at z;have:=R.kV;have:=R.le;omega
     . have:=pB.own.kX z;unfold Old at this;rw [cV] at this;omega
    have B6:=Ah.go;simp only [y1] at B6;simp +contextual only [a',b3,zf,zg,qy,fa.g,fJ.g,jI.g,s'.g,s_.g,B6.g,ok.1,ok.2.1,db,↓ag,al,simprocAttr];refine ⟨⟨i+1,Md,rfl,aL,?_,kT Hf nK fun b o z=>?_,fun b z=>?_⟩,by omega⟩
    . rw [iP,<-ap8];exact Ah
    . rcases z with z | z
      . exact .inl z
      . rcases jr b z with z | z
        . exact .inr z
        . unfold Old at o;omega
    . rcases vv b z with z | z
      . exact jr b z
      . have:=(bF.trans bZ).next;exact .inr (by omega)
  . have g0:((i:Int) < (p.l.length:Int))=False:=apx (by omega);rw [apZ (by omega),ap8,<-KP] at pB;simp +contextual only [a',b3,zf,zg,qy,g0,↓ag,al,simprocAttr];exact cw _ _ iw pB gn jr
 by_cases oL:p.k=11
 . have g2:(p.k=11)=True:=apD oL;have a7:nb p.k p.s path=[(p.s,path)]:=by unfold nb;rw [apB oL]
   obtain ⟨g_,ab,an,eI,aK⟩:=Vx (P.d'.ext av) (by omega:path.length<=1000000000);have dz:=b9.ext aK;have oC:=mO.ext aK;have cy:=oC.out;have ve:b6 (fun b=>ib B b/\¬v.aS b) ab (oP (p.s,path)) [.str p.s,g_]:=.s gj ((Gl eI (by unfold top;omega) fun b z=>by have:=eI.base z;refine ⟨by have:=R.le;unfold ib;omega,fun y=>?_⟩;have:=R.own.kX y;unfold Old at this;omega).cons .nil);have fi:=aK.next
   obtain ⟨b1,aI,bJ,a2,a3,a4,a5⟩:=oC.own.add ve (by omega) oC.le (by rw [apv];unfold top;omega) rfl;have fa:=dz.mod a3 fun z=>cJ _ (.inr z) (by rw [cV];exact aps _);have og:=oC.out.mod a3 (cW _ R.kV);have ajC:=oC.go.mod a3 (cW _ R.v');obtain ⟨G,eB⟩:∃G,aI.set (aC cM) (.bT [b1] 0 false)=G:=⟨_,rfl⟩;have ms:Mod (fun b=>b=aC cM) aI G:=by rw [<-eB];exact (Mod.refl (fun b=>b=aC cM) aI).set (fun _=>rfl) _
   have one:=a2.one;have W_:qX B cM eA G (bx++nb p.k p.s path) b1:=by rw [a7];refine ⟨by rw [<-eB];exact og.put _,?_,by rw [<-eB];exact ajC.set R.wa _,R.kV,R.v',R.wa,by have:=R.le;have:=ms.next;omega⟩;rw [aqM];exact a2.mod ms (fun b z y=>by have:=a2.base z;rw [y,cV] at this;have:=R.kV;omega) fun b z _ _ y=>by unfold ib at z;rw [y,cV] at z;have:=R.kV;omega
   have r_:Mod (j6 cM v) h G:=kT (kT ((av.trans aK).mod _) a3 fun _ _ z=>.inr z) ms fun _ _ z=>.inl z;have fJ:=fa.mod ms fun z=>by rw [pg] at z;have:=R.kV;have:=R.le;omega
   have bB:(ab.next=cM)=False:=apx (by have:=R.kV;have:=R.le;omega);have eH:(ab.next=h.next)=False:=apx (by omega);simp +contextual only [aj,an,ol.1,ol.2.1,ol.2.2,b9.g,dz.g,fa.g,fJ.g,g2,c8.g,cy.g,og.g,eI.v.one.1,eI.v.one.2.1,eI.v.one.2.2,bJ,one.1,one.2.1,eB,hk,bB,eH,↓ag,al,simprocAttr];exact loop _ b1 G _ (by simp only [↓ag,bz,simprocAttr]) (by simp only [↓ag,bz,simprocAttr]) (by simp only [↓ag,bz,simprocAttr]) (by simp only [↓ag,bz,simprocAttr]) (by simp only [↓ag,bz,simprocAttr]) W_ r_ (fun b z=>(a5 b z).imp_right fun y=>by omega) fun r g v2 x y z=>⟨trivial,v2,x,y,z⟩
 . have g2:(p.k=11)=False:=apx oL;have a7:nb p.k p.s path=[]:=by unfold nb;rw [apu oL]
   simp +contextual only [aj,ol.1,ol.2.1,ol.2.2,b9.g,g2,hk,↓ag,al,simprocAttr];exact loop _ v U _ (by simp only [↓ag,bz,simprocAttr]) (by simp only [↓ag,bz,simprocAttr]) (by simp only [↓ag,bz,simprocAttr]) (by simp only [↓ag,bz,simprocAttr]) (by simp only [↓ag,bz,simprocAttr]) (by rw [a7,aqB];exact mO) (av.mod _) (fun b z=>.inl z) fun r g v2 x y z=>⟨trivial,v2,x,y,z⟩
theorem TG:∀n,GO n
 | 0=>fun p jz=>by have:=oi p;omega
 | n+1=>ai_ (TG n)
def l3 (p:aM):List Nm:=if fj p=true then od p [] else []
theorem TH (p:aM) (aW:p.size+2<=500000000) (du:V) (h:ae) (X:b6 (Old h) h p.enc (cd p du)):
 cv Tryz.prog 11 [.agg (cd p du)] h fun x aa=>bN (hU h) aa 2 ((l3 p).map oP) x/\Ext h aa:=by
 obtain ⟨ca,e,dK,gj⟩:=aM.open X;obtain rfl:du=ca:=by simp only [cd,List.cons.injEq] at e;exact e.2.2.2.2.1
 have ol:=dK.one;obtain ⟨U,aj,av,b9⟩:=fE h (cd p du);have cL:U.next=h.next+1:=by rw [<-aj];exact ga _ _
 refine YR.z rfl (cr ?_);unfold oL;simp only [cd] at aj b9;simp only [cd];simp +contextual only [aj,b9.g,ol.1,ol.2.1,ol.2.2,↓ag,al,simprocAttr];refine bS (Lj p (by omega) _ U ((X.ext av).eQ fun _ _=>trivial)) ?_;rintro x ab ⟨rfl,aK⟩;have dz:=b9.ext aK;have bM:=av.trans aK;cases ai:fj p with
 | false=>
   have a7:l3 p=[]:=by unfold l3;rw [apu (by rw [ai];simp)]
   rw [a7];simp +contextual only [↓ag,al,simprocAttr];exact ⟨bN.nil _ _ _,bM⟩
 | true=>
   have a7:l3 p=od p []:=by unfold l3;rw [apB ai]
   rw [a7];obtain ⟨aI,aJ,bF,fa⟩:=fE ab [.bu];have n3:aI.next=ab.next+1:=by rw [<-aJ];exact ga _ _
   obtain ⟨bq,bE,bZ,fJ⟩:=hA aI [.jB] [y1 ab.next aI.next];have n4:bq.next=aI.next+1:=by rw [<-bE];rfl
   obtain ⟨Em,Cr,abd,GF⟩:=fE aI [.jB];have E:=(bM.trans bF).trans bZ;have fi:=bM.next
   have R:qX bq.next ab.next aI.next bq [] .bu:=⟨fa.ext bZ,dY.nil _ _ _ _,fJ,by omega,by omega,by omega,aps _⟩
   have jJ:=(dz.ext bF).ext bZ
   have cf:=TG p.size p (aps _) ⟨ai,by omega⟩ bq.next ab.next aI.next [] .bu du [] .bu (Old h) bq (by simp;omega) (by simp;omega) (X.ext E) (l9.nil _ _) (fun b z=>⟨E.bG z,fun y=>by
    rcases y with y | y
    . rw [y] at z;unfold Old at z;rw [cV] at z;omega
    . exact y⟩) R
   simp only [cd,y1] at bE fJ jJ cf;rw [Cr] at bE;simp +contextual only [aJ,Cr,bE,GF.g,fJ.g,jJ.g,ol.1,ol.2.1,ol.2.2,↓ag,al,simprocAttr];refine bS cf ?_;rintro x cF ⟨b1,vA,z',W0⟩;have s_:=vA.out;rw [aql] at vA;have hle:=KQ p [];simp +contextual only [s_.g,↓ag,al,simprocAttr]
   exact ⟨vA.own.d' (by rw [apv];unfold top;omega) (fun b z=>by unfold ib at z;unfold hU;omega) fun b z=>by unfold hU;omega,E.iq z' fun b z=>by
    rcases z with z | z
    . rw [z,cV];omega
    . exact z.elim⟩
inductive e3 where
 | mk (k n:Int) (l:List e3)
namespace e3
def k:e3->Int | mk k _ _=>k
def n:e3->Int | mk _ n _=>n
def l:e3->List e3 | mk _ _ l=>l
end e3
mutual
def e3.size:e3->Nat
 | .mk _ _ l=>1+Gj l
def Gj:List e3->Nat
 | []=>0
 | t::l=>t.size+Gj l
end
theorem Vw {t:e3}:∀{l:List e3},t ∈ l->t.size<=Gj l
 | [],h=>by cases h
 | u::l,h=>by
   simp only [Gj];rcases apI.1 h with rfl | h
   . omega
   . have:=Vw h;omega
theorem al2 {t u:e3} (h:u ∈ t.l):u.size<t.size:=by
 cases t with
 | mk k n l=>have:=Vw h;simp only [e3.size];simp only [e3.l] at this;omega
mutual
def e3.enc:e3->List D
 | .mk k n l=>[.i .i64 k,.i .i64 n,.l 3 (DX l)]
def DX:List e3->List (List D)
 | []=>[]
 | t::l=>t.enc::DX l
end
theorem Qc:∀l:List e3,DX l=l.map e3.enc
 | []=>rfl
 | t::l=>by rw [DX,Qc l,aqt]
theorem Qb (t:e3):t.enc=[.i .i64 t.k,.i .i64 t.n,.l 3 (t.l.map e3.enc)]:=by
 cases t with
 | mk k n l=>simp only [e3.enc,Qc,e3.k,e3.n,e3.l]
structure anL where
 kind:Int
 row:Int
 path:List Int
 num:Bool
 n:Int
 yes:Int
 no:Int
section
variable {F:aO->Prop} {h:ae}
theorem e3.open {t:e3} {af:List V} (H:b6 F h t.enc af):∃ca,af=[.int .i64 t.k,.int .i64 t.n,ca]/\bN F h 3 (t.l.map e3.enc) ca:=by rw [Qb] at H;obtain ⟨_,rfl,H1⟩:=H.int;obtain ⟨_,rfl,cE⟩:=H1.int;obtain ⟨ca,_,rfl,L,vh⟩:=cE.d';obtain rfl:=vh.no;exact ⟨ca,rfl,L⟩
theorem e3.lV {l:List e3} {v:V} (H:bN F h 3 (l.map e3.enc) v) {k:IntKind} {i:Nat} (ax:i<l.length):
 ∃b off ca,f' 3 v (.int k i)=some (.ptr b (off+i * 3))/\b6 F h l[i].enc [.int .i64 l[i].k,.int .i64 l[i].n,ca]/\bN F h 3 (l[i].l.map e3.enc) ca/\∀aa,Ext h aa->lX 3 (aa.get b) (off+i * 3)=some (.agg [.int .i64 l[i].k,.int .i64 l[i].n,ca]):=by
 obtain ⟨b,off,u,av,aK,bF,bZ,_⟩:=H.at (k:=k) (i:=i) (by rw [apv];exact ax);rw [aqZ] at aK;obtain ⟨ca,rfl,L⟩:=e3.open aK;exact ⟨b,off,ca,av,aK,L,bZ⟩
end
def Wn:e3:=.mk 0 0 []
theorem anI (F:aO->Prop) (h:ae):b6 F h Wn.enc [.int .i64 0,.int .i64 0,.bu]:=by rw [Qb];exact .i (.i ((bN.nil F h 3).cons .nil))
theorem VT:∀(N:Nat) (t:e3),t.size<=N->∀(m:Int) (af:List V) (h:ae),b6 Any h t.enc af->cv Tryz.prog 61 [.agg af,.int .i64 m] h fun x aa=>(∃n:Int,x=.int .i64 n)/\Ext h aa
 | 0,t,aW,_,_,_,_=>by cases t;simp only [e3.size] at aW;omega
 | N+1,t,aW,m,af,h,H=>by
   obtain ⟨ca,rfl,L⟩:=e3.open H;have ol:=L.one;have ar:=L.len;have hle:=L.le;rw [List.length_map] at ar hle;refine Zm.z rfl (cr ?_);unfold OK;obtain ⟨U,aj,av,b9⟩:=fE h [.int .i64 t.k,.int .i64 t.n,ca];simp +contextual only [ol.1,ol.2.1,aj,↓ag,al,simprocAttr];refine eO (fun r g=>r 1=.int .i64 m/\r 2=.ptr (aC h.next) 0/\∃(i:Nat) (n:Int),r 5=.int .i64 n/\r 6=.int .i64 i/\i<=t.l.length/\Ext U g) (fun r g=>t.l.length - (r 6).toN) ?_ ?_
   . exact ⟨by simp only [↓ag,bz,simprocAttr],by simp only [↓ag,bz,simprocAttr],0,1,by simp only [↓ag,bz,simprocAttr],by simp only [↓ag,bz,simprocAttr]<;>rfl,by omega,Ext.refl U⟩
   rintro r g ⟨a',cG,i,n,bL,dI,ax,E⟩;unfold OL;have A:=b9.ext E;have nJ:=L.ext (av.trans E);by_cases aL:i<t.l.length
   . have g0:((i:Int) < (t.l.length:Int))=True:=apD (by omega);by_cases aV:n<=m
     . have rr:=apD aV;obtain ⟨b,off,wl,bW,X,dK,ld⟩:=e3.lV nJ (k:=.i64) aL;have jg:=ld g (Ext.refl g);have db:=fW aL (by unfold top at hle;omega);have cn:=al2 (t:=t) (apV aL);simp +contextual only [a',cG,bL,dI,g0,rr,A.g,ar,bW,jg,↓ag,al,simprocAttr];refine bS (VT N t.l[i] (by omega) _ _ g X) ?_;rintro x g2 ⟨⟨k,rfl⟩,aK⟩;simp +contextual only [a',cG,bL,dI,db,↓ag,al,simprocAttr];exact ⟨⟨i+1,_,rfl,rfl,aL,E.trans aK⟩,by omega⟩
     . have rr:=apx aV;simp +contextual only [a',cG,bL,dI,g0,rr,A.g,ar,↓ag,al,simprocAttr];exact ⟨⟨_,rfl⟩,av.trans E⟩
   . have g0:((i:Int) < (t.l.length:Int))=False:=apx (by omega);simp +contextual only [a',cG,bL,dI,g0,A.g,ar,↓ag,al,simprocAttr];exact ⟨⟨_,rfl⟩,av.trans E⟩
theorem ahW (t:e3) (m:Int) (af:List V) (h:ae) (H:b6 Any h t.enc af):cv Tryz.prog 33 [.agg af,.int .i64 m] h fun x aa=>(∃b,x=.bool b)/\Ext h aa:=by obtain ⟨ca,rfl,L⟩:=e3.open H;have ol:=L.one;refine Y9.z rfl (cr ?_);unfold Oh;obtain ⟨U,aj,av,b9⟩:=fE h [.int .i64 t.k,.int .i64 t.n,ca];simp +contextual only [ol.1,ol.2.1,aj,b9.g,↓ag,al,simprocAttr];refine bS (VT t.size t (aps _) m _ U (H.ext av)) ?_;rintro x g2 ⟨⟨k,rfl⟩,aK⟩;simp +contextual only [↓ag,al,simprocAttr];exact ⟨⟨_,rfl⟩,av.trans aK⟩
theorem yM {F:aO->Prop} {h:ae} {l:List Int} {v:V} (H:bN F h 1 (l.map gA) v) {i:Nat} (ax:i<l.length):
 ∃b off,f' 1 v (.int .i64 i)=some (.ptr b off)/\∀aa,Ext h aa->fy (aa.get b) off=some (.int .i64 l[i]):=by
 obtain ⟨b,off,u,av,aK,bF,bZ,df⟩:=H.at (k:=.i64) (i:=i) (by rw [apv];exact ax);rw [aqZ,gA] at aK;obtain ⟨_,rfl,f⟩:=aK.int;obtain rfl:=f.no;exact ⟨b,_,av,fun aa e=>by simpa using df aa e 0 (by omega)⟩
theorem Vl (l:List Int) (v w:V) (h:ae) (L:bN Any h 1 (l.map gA) v) (tL:bN Any h 1 (l.map gA) w):cv Tryz.prog 42 [v,w] h fun x aa=>x=.bool true/\h=aa:=by
 have ar:=L.len;have hW:=tL.len;have hle:=L.le;rw [apv] at ar hW hle;refine Zi.z rfl (cr ?_);unfold Oz;simp +contextual only [ar,hW,↓ag,al,simprocAttr];refine eO (fun r g=>r 0=v/\r 1=w/\h=g/\∃i:Nat,r 5=.int .i64 i/\i<=l.length) (fun r g=>l.length - (r 5).toN) ?_ ?_
 . exact ⟨by simp only [↓ag,bz,simprocAttr],by simp only [↓ag,bz,simprocAttr],rfl,0,by simp only [↓ag,bz,simprocAttr]<;>rfl,by omega⟩
 rintro r g ⟨a1,a',e,i,bL,ax⟩;subst e;unfold OA;by_cases aL:i<l.length
 . have g0:((i:Int) < (l.length:Int))=True:=apD (by omega);obtain ⟨b,off,bW,ld⟩:=yM L aL;obtain ⟨b7,B8,mz,qn⟩:=yM tL aL;have d1:=ld h (Ext.refl h);have d2:=qn h (Ext.refl h);have db:=fW aL (by unfold top at hle;omega);simp +contextual only [a1,a',bL,ar,g0,bW,mz,d1,d2,db,↓ag,al,simprocAttr];exact ⟨⟨i+1,rfl,aL⟩,by omega⟩
 . have g0:((i:Int) < (l.length:Int))=False:=apx (by omega);simp +contextual only [a1,a',bL,ar,g0,↓ag,al,simprocAttr]
theorem L8 {F:aO->Prop} {h:ae} {l:List gW} {v:V} (H:bN F h 3 (l.map nS) v) {i:Nat} (ax:i<l.length):
 ∃b off w,f' 3 v (.int .i64 i)=some (.ptr b off)/\bN F h 1 (l[i].1.map gA) w/\∀aa,Ext h aa->fy (aa.get b) off=some w/\fy (aa.get b) (off+1)=some (.bool l[i].2.1)/\fy (aa.get b) (off+2)=some (.int .i64 l[i].2.2):=by
 obtain ⟨b,off,u,av,aK,bF,bZ,df⟩:=H.at (k:=.i64) (i:=i) (by rw [apv];exact ax);rw [aqZ,nS] at aK;obtain ⟨w,us,rfl,S,f⟩:=aK.d';obtain ⟨_,rfl,f2⟩:=f.bool;obtain ⟨_,rfl,f3⟩:=f2.int;obtain rfl:=f3.no;exact ⟨b,_,w,av,S,fun aa e=>⟨by simpa using df aa e 0 (by omega),by simpa using df aa e 1 (by omega),by simpa using df aa e 2 (by omega)⟩⟩
theorem Vn (l:List gW) (v w:V) (h:ae) (L:bN Any h 3 (l.map nS) v) (tL:bN Any h 3 (l.map nS) w):cv Tryz.prog 13 [v,w] h fun x aa=>x=.bool true/\h=aa:=by
 have ar:=L.len;have hW:=tL.len;have hle:=L.le;rw [apv] at ar hW hle;refine Y4.z rfl (cr ?_);unfold N7;simp +contextual only [ar,hW,↓ag,al,simprocAttr];refine eO (fun r g=>r 0=v/\r 1=w/\h=g/\∃i:Nat,r 5=.int .i64 i/\i<=l.length) (fun r g=>l.length - (r 5).toN) ?_ ?_
 . exact ⟨by simp only [↓ag,bz,simprocAttr],by simp only [↓ag,bz,simprocAttr],rfl,0,by simp only [↓ag,bz,simprocAttr]<;>rfl,by omega⟩
 rintro r g ⟨a1,a',e,i,bL,ax⟩;subst e;unfold Oa;by_cases aL:i<l.length
 . have g0:((i:Int) < (l.length:Int))=True:=apD (by omega);obtain ⟨b,off,cg,bW,vB,ld⟩:=L8 L aL;obtain ⟨b7,B8,ck,mz,eI,qn⟩:=L8 tL aL;obtain ⟨d1,d2,d3⟩:=ld h (Ext.refl h);obtain ⟨f1,f2,f3⟩:=qn h (Ext.refl h);have db:=fW aL (by unfold top at hle;omega);generalize l[i]=t at vB eI d1 d2 d3 f1 f2 f3;have ix:(t.2.1 == t.2.1)=true:=by simp
   simp +contextual only [a1,a',bL,ar,g0,bW,mz,d1,d2,d3,f1,f2,f3,ix,↓ag,al,simprocAttr];refine bS (Vl t.1 cg ck h vB eI) ?_;rintro x g2 ⟨rfl,e⟩;subst e;simp +contextual only [a1,a',bL,d1,d2,d3,f1,f2,f3,db,↓ag,al,simprocAttr];exact ⟨⟨i+1,rfl,aL⟩,by omega⟩
 . have g0:((i:Int) < (l.length:Int))=False:=apx (by omega);simp +contextual only [a1,a',bL,ar,g0,↓ag,al,simprocAttr]
theorem TF {F:aO->Prop} {h:ae} {l:List Nm} {v:V} (H:bN F h 2 (l.map oP) v) {i:Nat} (ax:i<l.length):
 ∃b off w,f' 2 v (.int .i64 i)=some (.ptr b off)/\bN F h 1 (l[i].2.map gA) w/\∀aa,Ext h aa->fy (aa.get b) off=some (.str l[i].1)/\fy (aa.get b) (off+1)=some w:=by
 obtain ⟨b,off,u,av,aK,bF,bZ,df⟩:=H.at (k:=.i64) (i:=i) (by rw [apv];exact ax);rw [aqZ,oP] at aK;obtain ⟨_,rfl,_,f⟩:=aK.str;obtain ⟨w,us,rfl,S,f2⟩:=f.d';obtain rfl:=f2.no;exact ⟨b,_,w,av,S,fun aa e=>⟨by simpa using df aa e 0 (by omega),by simpa using df aa e 1 (by omega)⟩⟩
theorem Vm (l:List Nm) (v w:V) (h:ae) (L:bN Any h 2 (l.map oP) v) (tL:bN Any h 2 (l.map oP) w):cv Tryz.prog 14 [v,w] h fun x aa=>x=.bool true/\h=aa:=by
 have ar:=L.len;have hW:=tL.len;have hle:=L.le;rw [apv] at ar hW hle;refine Y5.z rfl (cr ?_);unfold mU;simp +contextual only [ar,hW,↓ag,al,simprocAttr];refine eO (fun r g=>r 0=v/\r 1=w/\h=g/\∃i:Nat,r 5=.int .i64 i/\i<=l.length) (fun r g=>l.length - (r 5).toN) ?_ ?_
 . exact ⟨by simp only [↓ag,bz,simprocAttr],by simp only [↓ag,bz,simprocAttr],rfl,0,by simp only [↓ag,bz,simprocAttr]<;>rfl,by omega⟩
 rintro r g ⟨a1,a',e,i,bL,ax⟩;subst e;unfold Ob;by_cases aL:i<l.length
 . have g0:((i:Int) < (l.length:Int))=True:=apD (by omega);obtain ⟨b,off,cg,bW,vB,ld⟩:=TF L aL;obtain ⟨b7,B8,ck,mz,eI,qn⟩:=TF tL aL;obtain ⟨d1,d2⟩:=ld h (Ext.refl h);obtain ⟨f1,f2⟩:=qn h (Ext.refl h);have db:=fW aL (by unfold top at hle;omega);generalize l[i]=t at vB eI d1 d2 f1 f2;simp +contextual only [a1,a',bL,ar,g0,bW,mz,d1,d2,f1,f2,↓ag,al,simprocAttr];refine bS (Vl t.2 cg ck h vB eI) ?_;rintro x g2 ⟨rfl,e⟩;subst e;simp +contextual only [a1,a',bL,d1,d2,f1,f2,db,↓ag,al,simprocAttr];exact ⟨⟨i+1,rfl,aL⟩,by omega⟩
 . have g0:((i:Int) < (l.length:Int))=False:=apx (by omega);simp +contextual only [a1,a',bL,ar,g0,↓ag,al,simprocAttr]
theorem Yl (cs:List bY) (l:List aM) (t:e3) (cA v:V) (af:List V) (h:ae) (ja:bN Any h 5 (cs.map bY.enc) cA) (L:bN Any h 5 (l.map aM.enc) v) (H:b6 Any h t.enc af):cv Tryz.prog 7 [cA,v,.agg af] h fun x aa=>(∃b,x=.bool b)/\Ext h aa:=by
 have ar:=L.len;have au:=ja.len;rw [apv] at ar au;obtain ⟨ca,rfl,Xh⟩:=e3.open H;have ol:=Xh.one;obtain ⟨U,aj,av,b9⟩:=fE h [.int .i64 t.k,.int .i64 t.n,ca];refine ZC.z rfl (cr ?_);unfold AB;by_cases bQ:12<cs.length
 . have g1:((cs.length:Int)>12)=True:=apD (by omega);simp +contextual only [au,ar,g1,aj,b9.g,ol.1,ol.2.1,ol.2.2,↓ag,al,simprocAttr];exact ⟨⟨_,rfl⟩,av⟩
 . have g1:((cs.length:Int)>12)=False:=apx (by omega);by_cases b2:10<l.length
   . have g2:((l.length:Int)>10)=True:=apD (by omega);simp +contextual only [au,ar,g1,g2,aj,b9.g,ol.1,ol.2.1,ol.2.2,↓ag,al,simprocAttr];exact ⟨⟨_,rfl⟩,av⟩
   . have g2:((l.length:Int)>10)=False:=apx (by omega);simp +contextual only [au,ar,g1,g2,aj,b9.g,ol.1,ol.2.1,ol.2.2,↓ag,al,simprocAttr];refine bS (ahV l 60 v U (L.ext av)) ?_;rintro x ab ⟨⟨b,rfl⟩,rfl⟩;cases b with
     | true=>
       simp +contextual only [↓ag,al,simprocAttr];exact ⟨⟨_,rfl⟩,av⟩
     | false=>
       simp +contextual only [b9.g,ol.1,ol.2.1,ol.2.2,↓ag,al,simprocAttr];refine bS (ahW t 60 _ ab (H.ext av)) ?_;rintro x aI ⟨⟨b,rfl⟩,bF⟩;simp +contextual only [↓ag,al,simprocAttr];exact ⟨⟨_,rfl⟩,av.trans bF⟩
def rY (cs:List bY) (p:aM):List gW:=if jO cs [p]=0 then ou cs p [] else []
theorem amA (cs:List bY) (p:aM):(rY cs p).length<=p.size:=by
 unfold rY
 split
 . exact L9 cs p []
 . exact aqL _
theorem abp {cs:List bY} {l:List aM} (h:jO cs l=0):h2 [] cs=true:=by
 unfold jO at h
 split at h
 . rename_i c;simp only [apn] at c;exact c.1.1
 . cases h
theorem UB (cs:List bY) (p:aM) (aW:p.size+2<=500000000) (cA du:V) (h:ae) (ja:bN Any h 5 (cs.map bY.enc) cA) (X:b6 (Old h) h p.enc (cd p du)):
 cv Tryz.prog 9 [cA,.agg (cd p du)] h fun x aa=>∃v,x=.tuple [v,.int .i64 (jO cs [p])]/\hz h.next aa (rY cs p) v/\Ext h aa:=by
 obtain ⟨ca,e,dK,gj⟩:=aM.open X;obtain rfl:du=ca:=by simp only [cd,List.cons.injEq] at e;exact e.2.2.2.2.1
 have ol:=dK.one;obtain ⟨U,aj,av,b9⟩:=fE h (cd p du);obtain ⟨ab,an,aK,eI⟩:=Fh (F:=Any) (size:=5) (h:=U) (ds:=p.enc) (cs:=cd p du) rfl ((X.ext av).eQ fun _ _=>trivial) trivial;have dz:=b9.ext aK;have bM:=av.trans aK;refine ZP.z rfl (cr ?_);unfold Pd;simp only [cd] at aj an b9 dz;simp only [cd];simp +contextual only [aj,an,b9.g,ol.1,ol.2.1,ol.2.2,↓ag,al,simprocAttr];refine bS (aky cs [p] (by simp only [cj];omega) cA _ ab (ja.ext bM) eI) ?_;rintro x aI ⟨rfl,bF⟩;have fa:=dz.ext bF;have gl:=bM.trans bF;rcases Qo cs [p] with z | z
 . have a7:rY cs p=ou cs p []:=apB z;rw [z,a7];have aG:pT p:=⟨(Qp z).1 p (by simp),by omega⟩;simp +contextual only [fa.g,ol.1,ol.2.1,ol.2.2,↓ag,al,simprocAttr];refine bS (amu cs (abp z) cA aI (ja.ext gl)) ?_;rintro x bq ⟨rfl,T,bZ⟩;have fJ:=fa.ext bZ;have jK:=gl.trans bZ;simp +contextual only [fa.g,fJ.g,ol.1,ol.2.1,ol.2.2,↓ag,al,simprocAttr];have aT:Old bq (aC aI.next):=by obtain ⟨aR,q,_⟩:=T.ex;exact q.bG
   have cf:=X2 cs p aG (by omega) (aC aI.next) du bq T aT ((X.ext jK).eQ fun b z=>jK.bG z);simp only [cd] at cf;refine bS cf ?_;rintro v cF ⟨De,df⟩;have jI:=fJ.ext df;simp +contextual only [fa.g,fJ.g,jI.g,ol.1,ol.2.1,ol.2.2,↓ag,al,simprocAttr];exact ⟨v,rfl,De.mono jK.next,jK.trans df⟩
 . have a7:rY cs p=[]:=apu (by rw [z];decide);rw [z,a7];simp +contextual only [↓ag,al,simprocAttr];exact ⟨_,rfl,hz.nil _ _,gl⟩
theorem alw (cs:List bY) (p:aM) (aW:p.size+2<=500000000) (cA du:V) (h:ae) (ja:bN Any h 5 (cs.map bY.enc) cA) (X:b6 (Old h) h p.enc (cd p du)):
 cv Tryz.prog 10 [cA,.agg (cd p du)] h fun x aa=>∃v,x=.tuple [v,.int .i64 (jO cs [p])]/\bN (hU h) aa 3 ((rY cs p).map nS) v/\Ext h aa:=by
 obtain ⟨ca,e,dK,gj⟩:=aM.open X;obtain rfl:du=ca:=by simp only [cd,List.cons.injEq] at e;exact e.2.2.2.2.1
 have ol:=dK.one;obtain ⟨U,aj,av,b9⟩:=fE h (cd p du);obtain ⟨ab,an,aK,eI⟩:=Fh (F:=Any) (size:=5) (h:=U) (ds:=p.enc) (cs:=cd p du) rfl ((X.ext av).eQ fun _ _=>trivial) trivial;have dz:=b9.ext aK;have bM:=av.trans aK;refine YJ.z rfl (cr ?_);unfold NA;simp only [cd] at aj an b9 dz;simp only [cd];simp +contextual only [aj,an,b9.g,ol.1,ol.2.1,ol.2.2,↓ag,al,simprocAttr];refine bS (ak9 cs [p] (by simp only [cj];omega) cA _ ab (ja.ext bM) eI) ?_;rintro x aI ⟨rfl,bF⟩;have fa:=dz.ext bF;have gl:=bM.trans bF;rcases Qo cs [p] with z | z
 . have a7:rY cs p=ou cs p []:=apB z;rw [z,a7];have aG:pT p:=⟨(Qp z).1 p (by simp),by omega⟩;simp +contextual only [fa.g,ol.1,ol.2.1,ol.2.2,↓ag,al,simprocAttr];have cf:=Vd cs p.size p (aps _) aG aI.next [] cA .bu du [] .bu (Old h) aI (by simp;omega) (by simp;omega) ((ja.rK).ext gl) (X.ext gl) (bN.nil _ _ _) (fun b z=>⟨gl.bG z,fun y=>y⟩) (dY.nil _ _ _ _) (aps _)
   simp only [cd] at cf;refine bS cf ?_;rintro v bq ⟨Ab,r',WZ⟩;have hle:=L9 cs p [];rw [aql] at Ab;simp +contextual only [↓ag,al,simprocAttr];have n3:=gl.next
   exact ⟨v,rfl,Ab.d' (by rw [apv];unfold top;omega) (fun b z=>by unfold ib at z;unfold hU;omega) (fun b z=>by unfold hU;omega),gl.iq r' fun b z=>z.elim⟩
 . have a7:rY cs p=[]:=apu (by rw [z];decide);rw [z,a7];simp +contextual only [↓ag,al,simprocAttr];exact ⟨_,rfl,bN.nil _ _ _,gl⟩
theorem alk (p:aM) (aW:p.size+2<=500000000) (du:V) (h:ae) (X:b6 (Old h) h p.enc (cd p du)):
 cv Tryz.prog 12 [.agg (cd p du)] h fun x aa=>bN (hU h) aa 2 ((l3 p).map oP) x/\Ext h aa:=by
 obtain ⟨ca,e,dK,gj⟩:=aM.open X;obtain rfl:du=ca:=by simp only [cd,List.cons.injEq] at e;exact e.2.2.2.2.1
 have ol:=dK.one;obtain ⟨U,aj,av,b9⟩:=fE h (cd p du);have aD:=uO (named:=dh) p.size p (aps _) (by omega);refine Y0.z rfl (cr ?_);unfold lK;simp only [cd] at aj b9;simp only [cd];by_cases bQ:p.k<10
 . have g1:(p.k<10)=True:=apD bQ;have a7:l3 p=[]:=by unfold l3;rw [apu];simp [fj];omega
   rw [a7];simp +contextual only [aj,b9.g,ol.1,ol.2.1,ol.2.2,g1,↓ag,al,simprocAttr];exact ⟨bN.nil _ _ _,av⟩
 . have g1:(p.k<10)=False:=apx bQ;by_cases b2:p.k>16
   . have g2:(p.k>16)=True:=apD b2;have a7:l3 p=[]:=by unfold l3;rw [apu];simp [fj];omega
     rw [a7];simp +contextual only [aj,b9.g,ol.1,ol.2.1,ol.2.2,g1,g2,↓ag,al,simprocAttr];exact ⟨bN.nil _ _ _,av⟩
   . have g2:(p.k>16)=False:=apx b2;simp +contextual only [aj,b9.g,ol.1,ol.2.1,ol.2.2,g1,g2,↓ag,al,simprocAttr];refine bS (F7 p.size p (aps _) (by omega) _ U ((X.ext av).eQ fun _ _=>trivial)) ?_;rintro x ab ⟨rfl,aK⟩;have dz:=b9.ext aK;have bM:=av.trans aK;rw [aD];cases hm:p.may dh with
     | false=>
       have a7:l3 p=[]:=by unfold l3;rw [apu];simp [fj,hm]
       rw [a7];simp +contextual only [↓ag,al,simprocAttr];exact ⟨bN.nil _ _ _,bM⟩
     | true=>
       have ai:fj p=true:=by simp [fj,hm];omega
       have a7:l3 p=od p []:=by unfold l3;rw [apB ai]
       rw [a7];simp +contextual only [dz.g,ol.1,ol.2.1,ol.2.2,↓ag,al,simprocAttr];have cf:=U' p.size p (aps _) ⟨ai,by omega⟩ ab.next [] .bu du [] .bu (Old h) ab (by simp;omega) (by simp;omega) (X.ext bM) (bN.nil _ _ _) (fun b z=>⟨bM.bG z,fun y=>y⟩) (dY.nil _ _ _ _) (aps _)
       simp only [cd] at cf;refine bS cf ?_;rintro v bq ⟨Ab,r',WZ⟩;have hle:=KQ p [];rw [aql] at Ab;simp +contextual only [↓ag,al,simprocAttr];have n3:=bM.next
       exact ⟨Ab.d' (by rw [apv];unfold top;omega) (fun b z=>by unfold ib at z;unfold hU;omega) (fun b z=>by unfold hU;omega),bM.iq r' fun b z=>z.elim⟩
theorem akv [Lay] {h:ae} {n:Nat} {cU:V} {us:List V} {bx:List gW} (H:e2 h 3 cU n (List.zipWith pJ us bx).flatten) (hu:us.length=n) (aE:bx.length=n) {i:Nat} (ax:i<n) {u:V} (e:us[i]? =some u):
 ∃b off,f' 3 cU (.int .i64 i)=some (.ptr b off)/\fy (h.get b) off=some u:=by
 obtain ⟨b,off,av,aK⟩:=H.bW (k:=.i64) ax;have bm:(List.zipWith pJ us bx)[i]? =some (pJ u (bx[i]'(by omega))):=by rw [List.getElem?_zipWith,e,apo (by omega)]
 have ar:∀x ∈ List.zipWith pJ us bx,x.length=3:=fun x ao=>by obtain ⟨j,bC,q⟩:=arC ao;rw [List.getElem_zipWith] at q;rw [<-q];rfl
 have aB:=Ea _ i _ ar bm;have hlen:=AP _ ar;refine ⟨b,_,av,?_⟩;have:=h'.cell aK (i:=i * 3) (n:=3) (j:=0) aB (by rw [hlen,arv];omega) (by omega);simpa [pJ] using this
def Ad (B N:Nat) (cU:V) (b:aO):Prop:=B<=b0 b/\b0 b<N/\¬cU.aS b
def MV (B:Nat) (g:ae) (us:List V) (bx:List gW) (i:Nat):Prop:=∀(j:Nat) (u:V) (t:gW),i<=j->us[j]? =some u->bx[j]? =some t->dc B g 1 u t.1.length (gw t.1)
end
section
open Go aZ Go.RowKit
end
section
open Go aZ
theorem Z_ {F:aO->Prop} {h:ae} {p:aM} {pL:List V} (X:b6 F h p.enc pL):∃w,pL=cd p w/\w.one=true/\w.cells=[w]/\w.fu=true:=by obtain ⟨ca,rfl,dK,_⟩:=aM.open X;exact ⟨ca,rfl,dK.one⟩
end
section
open Go aZ Go.RowKit
set_option maxRecDepth 100000 in
theorem Yb:Mb ctx 100000 8 []=true:=by kernel_rfl
theorem Ya (h:ae):eZ Tryz.prog 8 [] h (.bool true) h:=
 aah (by kernel_rfl) (fun E x q=>by subst q;simp [Rel]) ⟨_,Tryz.func8,by kernel_rfl⟩ (fun w hw=>amQ (C:=ctx) follows y2 hw Ln (by kernel_rfl) (by kernel_rfl) Yb) h
theorem Nj (h:ae):cv Tryz.prog 8 [] h fun x aa=>x=.bool true/\aa=h:=⟨_,_,Ya h,rfl,rfl⟩
end
section
open Go aZ
theorem X3 (cs:List bY) (p:aM) (aW:p.size<=100000000) (cA:V) (pL:List V) (h:ae) (C7:bN Any h 5 (cs.map bY.enc) cA) (Dg:b6 Any h p.enc pL):cv Tryz.prog 3 [cA,.agg pL] h fun x aa=>x=.bool true:=by
 obtain ⟨w,rfl,ol⟩:=Z_ Dg;have X:=Dg.rK;have ja:=C7.rK;refine Zf.z rfl (cr ?_);unfold c3;obtain ⟨U,aj,av,b9⟩:=fE h (cd p w);have cL:U.next=h.next+1:=by rw [<-aj];exact ga _ _
 obtain ⟨ab,an,aK,eI⟩:=Fh (F:=Any) (size:=5) (h:=U) (ds:=p.enc) (cs:=cd p w) rfl ((Dg.ext av)) trivial;have dz:=b9.ext aK;have bM:=av.trans aK;simp only [cd] at aj an b9 dz;simp only [cd];simp +contextual only [aj,an,b9.g,ol.1,ol.2.1,ol.2.2,↓ag,al,simprocAttr];refine bS (Yl cs [p] Wn cA _ _ ab (C7.ext bM) eI (anI _ _)) ?_;rintro x aI ⟨⟨b,rfl⟩,bF⟩;have gl:=bM.trans bF;have fa:=dz.ext bF;cases b with
 | true=>
   simp +contextual only [↓ag,al,simprocAttr];refine bS (Nj _) ?_;rintro x bq ⟨rfl,rfl⟩;simp +contextual only [↓ag,al,simprocAttr]
 | false=>
 simp +contextual only [fa.g,ol.1,ol.2.1,ol.2.2,↓ag,al,simprocAttr];have call9:=UB cs p (by omega) cA w aI (C7.ext gl) ((X.ext gl).eQ fun b z=>gl.bG z);simp only [cd] at call9;refine bS call9 ?_;rintro x bq ⟨cU,rfl,De,bZ⟩;have jK:=gl.trans bZ;have fJ:=fa.ext bZ;simp +contextual only [fJ.g,ol.1,ol.2.1,ol.2.2,↓ag,al,simprocAttr];have call10:=alw cs p (by omega) cA w bq (C7.ext jK) ((X.ext jK).eQ fun b z=>jK.bG z);simp only [cd] at call10;refine bS call10 ?_;rintro x cF ⟨lB,rfl,Xl,df⟩;have lF:=jK.trans df;have jI:=fJ.ext df;simp +contextual only [jI.g,ol.1,ol.2.1,ol.2.2,↓ag,al,simprocAttr];have call11:=TH p (by omega) w cF ((X.ext lF).eQ fun b z=>lF.bG z);simp only [cd] at call11;refine bS call11 ?_;rintro CC gu ⟨Xn,hg⟩;have r5:=lF.trans hg;have GG:=jI.ext hg;simp +contextual only [jI.g,GG.g,ol.1,ol.2.1,ol.2.2,↓ag,al,simprocAttr];have call12:=alk p (by omega) w gu ((X.ext r5).eQ fun b z=>r5.bG z);simp only [cd] at call12;refine bS call12 ?_;rintro Gy gN ⟨M1,jv⟩;have CR:=r5.trans jv;have Ms:=GG.ext jv;simp +contextual only [jI.g,GG.g,Ms.g,ol.1,ol.2.1,ol.2.2,↓ag,al,simprocAttr];have o6:=amA cs p;have Xi:=((De.ext df).ext hg).ext jv;have Df:=(Xl.ext hg).ext jv;refine bS (Vn (rY cs p) cU lB gN (Xi.d' (by omega) fun _ _=>trivial) (Df.eQ fun _ _=>trivial)) ?_;rintro x uf ⟨rfl,e⟩;subst e;simp +contextual only [↓ag,al,simprocAttr];refine bS (Vm (l3 p) CC Gy gN ((Xn.ext jv).eQ fun _ _=>trivial) (M1.eQ fun _ _=>trivial)) ?_;rintro x uf ⟨rfl,e⟩;subst e;simp +contextual only [↓ag,al,simprocAttr];obtain ⟨us,a4,ul,gr,d⟩:=De.ex;have P':=(df.trans hg).trans jv;have a:=a4.ext P';have n3:=gl.next
 have n4:=jK.next
 have Fm:=df.next
 have n6:=hg.next
 have n7:=jv.next
 have aoN:=bZ.next
 have n30:h.next<aI.next:=by have:=aK.next;have:=bF.next;omega
 generalize ff:rY cs p=bx at *;have c:∀(i:Nat) (u:V) (t:gW),us[i]? =some u->bx[i]? =some t->t.1.length<=1000000000/\dc aI.next gN 1 u t.1.length (gw t.1)/\∀p,u.aS p->Ad aI.next bq.next cU p:=fun i u t aj an=>by obtain ⟨bB,eH,nC⟩:=gr i u t aj an;exact ⟨bB,eH.ext P',fun p z=>⟨eH.base z,eH.v.bG z,nC p z⟩⟩
 have am6:=Df.len;rw [apv] at am6;have val:=a.v.len;refine eO (fun r g=>r 0=cA/\r 3=.ptr (aC h.next) 0/\r 5=cU/\r 7=lB/\r 10=Gy/\Mod (Ad aI.next bq.next cU) gN g/\∃i:Nat,r 11=.int .i64 i/\i<=bx.length/\MV aI.next g us bx i) (fun r g=>bx.length - (r 11).toN) ?_ ?_
 . exact ⟨by simp only [↓ag,bz,simprocAttr],by simp only [↓ag,bz,simprocAttr],by simp only [↓ag,bz,simprocAttr],by simp only [↓ag,bz,simprocAttr],by simp only [↓ag,bz,simprocAttr],Mod.refl _ _,0,by simp only [↓ag,bz,simprocAttr]<;>rfl,by omega,fun j u t _ aj an=>(c j u t aj an).2.1⟩
 rintro r g ⟨a1,b3,bL,dN,e6,m,i,gH,ax,xG⟩;unfold Ou;by_cases aL:i<bx.length
 . have g0:((i:Int) < (bx.length:Int))=True:=apD (by omega);have db:=fW aL (by omega);have hu:us[i]? =some us[i]:=apo (by omega);have aE:bx[i]? =some bx[i]:=apo aL;generalize us[i]=u at hu;generalize jU:bx[i]=t at aE;have nz:=(c i u t hu aE).1;have Uf:=(c i u t hu aE).2.2;simp +contextual only [a1,b3,bL,dN,e6,gH,val,g0,↓ag,al,simprocAttr];refine eO (fun r c_=>r 0=cA/\r 3=.ptr (aC h.next) 0/\r 5=cU/\r 7=lB/\r 10=Gy/\r 11=.int .i64 i/\Mod (Ad aI.next bq.next cU) gN c_/\MV aI.next c_ us bx (i+1)/\(∃af,dc aI.next c_ 1 u t.1.length af)/\∃k:Nat,r 12=.int .i64 k/\k<=t.1.length) (fun r g=>t.1.length - (r 12).toN) ?_ ?_
   . exact ⟨by simp only [a1,↓ag,bz,simprocAttr],by simp only [b3,↓ag,bz,simprocAttr],by simp only [bL,↓ag,bz,simprocAttr],by simp only [dN,↓ag,bz,simprocAttr],by simp only [e6,↓ag,bz,simprocAttr],by simp only [gH,↓ag,bz,simprocAttr],m,fun j u t bC aj an=>xG j u t (by omega) aj an,⟨_,xG i u t (aps _) hu aE⟩,0,by simp only [↓ag,bz,simprocAttr]<;>rfl,by omega⟩
   clear a1 b3 bL dN e6 gH xG;rintro r c_ ⟨a1,b3,bL,dN,e6,gH,cZ,xG,⟨af,Da⟩,k,nv,aA⟩;unfold Ot;have bk:=a.mod cZ fun b z y=>y.2.2 z;obtain ⟨anX,jh,bW,rC⟩:=akv bk.v ul rfl aL hu;have V1:=Da.v.len;by_cases sM:k<t.1.length
   . have IK:((k:Int) < (t.1.length:Int))=True:=apD (by omega);have Gz:=fW sM (by omega);obtain ⟨bO,jE,g2,f1,f2,f3,f4,f5⟩:=Da.put (i:=k) sM (k:=.i64) (y:=.int .i64 77) rfl rfl;generalize jE+k * 1=o at f1 f3;have abD:ql 1 c_ bO o (.int .i64 77) (c_.get bO)=some g2:=f3;simp +contextual only [a1,b3,bL,dN,e6,gH,nv,bW,rC,V1,IK,f1,abD,Gz,↓ag,al,simprocAttr];refine ⟨⟨kT cZ f5 fun b _ z=>Uf b z,fun j e7 oq bC aj an=>(xG j e7 oq bC aj an).mod f5 fun b z y=>d i j u e7 (by omega) hu aj b y z,⟨_,f4⟩,k+1,rfl,sM⟩,by omega⟩
   . have IK:((k:Int) < (t.1.length:Int))=False:=apx (by omega);obtain ⟨ao_,g3,cg,ck,ek,ir,nt⟩:=Go.Proofs.YtgmhjhgoamjeeaaGreatDoor.aZ.tT (by omega) Da (by have:=(Da.v.one);have:=cZ.next;omega) (by unfold top;omega) (cs:=[.int .i64 78]) rfl rfl;have m3:=kT cZ ek fun b _ z=>Uf b z;obtain ⟨ix,cM,Le,afd,MZ,ah9⟩:=L8 (Df.mod (dA:=Any) m3 fun b z o=>⟨fun y=>by unfold hU at z;have:=y.2.1;omega,trivial⟩) aL;have ah':=(ah9 g3 (Ext.refl g3)).1;rw [jU] at MZ;have Vp:=MZ.len;rw [apv] at Vp;have am7:=ck.v.len;have wl:=fW (show t.1.length<t.1.length+1 by omega) (by omega);simp +contextual only [a1,b3,bL,dN,e6,gH,nv,bW,rC,V1,IK,cg,afd,ah',Vp,am7,wl,db,↓ag,al,simprocAttr];refine ⟨⟨m3,i+1,rfl,aL,fun j e7 oq bC aj an=>(xG j e7 oq bC aj an).mod ek fun b z y=>d i j u e7 (by omega) hu aj b y z⟩,by omega⟩
 . have g0:((i:Int) < (bx.length:Int))=False:=apx (by omega);have ec:∀b,Old h b->¬Ad aI.next bq.next cU b:=fun b z y=>by unfold Old at z;have:=y.1;have:=gl.next;omega
   have ai':∀b,Old h b->Old gN b->¬Ad aI.next bq.next cU b/\Old g b:=fun b z o=>⟨ec b z,m.bG o⟩
   have Ha:=((ja.ext CR).mod (dA:=Any) m fun b z o=>⟨ec b z,trivial⟩);have M3:=(X.ext CR).mod m ai';have Mt:=Ms.mod m fun y=>by have:=y.1;rw [cV] at this;omega
   have ur:aI.next<=g.next:=by have:=m.next;omega
   simp +contextual only [a1,b3,bL,dN,e6,gH,val,g0,Mt.g,ol.1,ol.2.1,ol.2.2,↓ag,al,simprocAttr];have call9:=UB cs p (by omega) cA w g Ha M3;simp only [cd] at call9;rw [ff] at call9;refine bS call9 ?_;rintro x g8 ⟨tv,rfl,Xj,AJ⟩;have Wo:=Mt.ext AJ;simp +contextual only [a1,b3,bL,dN,e6,↓ag,al,simprocAttr];have Xm:=Df.mod (dA:=Any) m fun b z o=>⟨fun y=>by unfold hU at z;have:=y.2.1;omega,trivial⟩;refine bS (Vn bx tv lB g8 (Xj.d' (by omega) fun _ _=>trivial) (Xm.ext AJ)) ?_;rintro x g9 ⟨rfl,e⟩;subst e;simp +contextual only [a1,b3,bL,dN,e6,Wo.g,ol.1,ol.2.1,ol.2.2,↓ag,al,simprocAttr];have call11:=TH p (by omega) w g8 ((M3.ext AJ).eQ fun b z=>AJ.bG z);simp only [cd] at call11;refine bS call11 ?_;rintro anb g9 ⟨Xp,abe⟩;simp +contextual only [a1,b3,bL,dN,e6,↓ag,al,simprocAttr];have Xo:=M1.mod (dA:=Any) m fun b z o=>⟨fun y=>by unfold hU at z;have:=y.2.1;omega,trivial⟩;refine bS (Vm (l3 p) anb Gy g9 (Xp.eQ fun _ _=>trivial) ((Xo.ext AJ).ext abe)) ?_;rintro x g10 ⟨rfl,e⟩;subst e;simp +contextual only [↓ag,al,simprocAttr];refine bS (Nj _) ?_;rintro x g11 ⟨rfl,rfl⟩;simp +contextual only [↓ag,al,simprocAttr]
end
end Go.Proofs.YtgmhjhgoamjeeaaGreatDoor
