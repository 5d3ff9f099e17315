/- The chapter's functions, walked by the abstract machine: plain lemmas, no condition. Printed by a program from longer texts: names made short. -/
import Derived.Test.YtgmhjhgoamjeeaaGreatDoorM18
import Derived.Test.YtgmhjhgoamjeeaaGreatDoorM19
import Derived.Test.YtgmhjhgoamjeeaaGreatDoorM6
import Derived.Test.YtgmhjhgoamjeeaaGreatDoorM4
set_option linter.unusedSectionVars false
set_option linter.unusedSimpArgs false
set_option linter.unusedVariables false
set_option maxHeartbeats 64000000
noncomputable section
namespace Go.Proofs.YtgmhjhgoamjeeaaGreatDoor
section
open Go a7
theorem VZ (l:List aE) (aO:b0 l<=1000000000) (v:V) (h:ag) (L:bB Any h 5 (l.map aE.enc) v):cr Tryz.prog 91 [v] h fun x ab=>bB Any ab 5 ((fj l).map aE.enc) x/\Ext h ab:=by
 have aw:=L.len;have hle:=L.le;rw [ap6] at aw hle;refine aar.z rfl (cm ?_);unfold Qa;simp +contextual only [↓af,an,simprocAttr];refine ek (fun r g=>r 0=v/\Ext h g/\∃(i:Nat) (f':V),r 4=.int .i64 i/\i<=l.length/\r 3=f'/\db h.next (Old h) g 5 ((fj (l.take i)).map aE.enc) f') (fun r g=>l.length - (r 4).toN) ?_ ?_
 . exact ⟨by simp only [↓af,bq,simprocAttr],Ext.refl h,0,_,by simp only [↓af,bq,simprocAttr]<;>rfl,by omega,by simp only [↓af,bq,simprocAttr]<;>rfl,db.nil _ _ _ _⟩
 rintro r g ⟨aU,bK,i,f',d_,aB,bP,kr⟩;unfold Qb;by_cases aN:i<l.length
 . have g0:((i:Int) < (l.length:Int))=True:=aqh (by omega);obtain ⟨b,off,cB,bQ,X,eR,ld,_,_,_⟩:=aE.lX L (k:=.i64) aN;have d5:=ld g bK;have ol:=eR.one;have cv:=fk aN (by unfold top at hle;omega);simp +contextual only [aU,bP,d_,aw,g0,bQ,d5,ol.1,ol.2.1,↓af,an,simprocAttr];refine bF (Aa l[i] _ g (X.ext bK)) ?_;rintro x g2 ⟨rfl,aH⟩;have AT:=kr.ext aH;have d2:=ld g2 (bK.trans aH);have dv:=(bK.trans aH).next
   cases hw:e' l[i] with
   | true=>
     simp +contextual only [aU,bP,d_,cv,↓af,an,simprocAttr];refine ⟨⟨bK.trans aH,i+1,f',rfl,aN,rfl,?_⟩,by omega⟩;rw [take_one aN,G6,aqf hw];exact AT
   | false=>
     obtain ⟨MB,g3,bC,a2,a3,a4,a5⟩:=AT.add (ds:=l[i].enc) (cs:=dS l[i] cB) ((X.kk.ext bK).ext aH |>.e3 fun b q=>⟨q,fun z=>by have:=kr.base z;unfold Old at q;omega⟩) (by omega) dv (by have aa:(fj (l.take i)).length<=(l.take i).length:=arU _ _;rw [ap6,aqw] at *;have:=mG l;unfold top at *;omega) rfl;simp +contextual only [aU,bP,d_,ol.1,ol.2.1,bQ,d2,bC,cv,↓af,an,simprocAttr];refine ⟨⟨(bK.trans aH).fp a3 fun b z=>kr.base z,i+1,MB,rfl,aN,rfl,?_⟩,by omega⟩;rw [take_one aN,G6,aqa (by rw [hw];simp),aqS];exact a2
 . have g0:((i:Int) < (l.length:Int))=False:=ap_ (by omega);rw [aqt (by omega)] at kr;simp +contextual only [aU,bP,d_,aw,g0,↓af,an,simprocAttr];refine ⟨kr.ea ?_ (fun _ _=>trivial) fun _ _=>trivial,bK⟩;have aa:(fj l).length<=l.length:=arU _ _;rw [ap6];omega
theorem al5 (l:List aE) (s:List UInt8) (v:V) (h:ag) (L:bB Any h 5 (l.map aE.enc) v):cr Tryz.prog 94 [v,.str s] h fun x ab=>x=.bool (l.any fun q=>decide (q.s=s))/\h=ab:=by
 have aw:=L.len;have hle:=L.le;rw [ap6] at aw hle;refine aau.z rfl (cm ?_);unfold Qf;simp +contextual only [↓af,an,simprocAttr];refine ek (fun r g=>r 0=v/\r 1=.str s/\h=g/\∃i:Nat,r 5=.int .i64 i/\i<=l.length/\l.any (fun q=>decide (q.s=s))=(l.drop i).any fun q=>decide (q.s=s)) (fun r g=>l.length - (r 5).toN) ?_ ?_
 . exact ⟨by simp only [↓af,bq,simprocAttr],by simp only [↓af,bq,simprocAttr],rfl,0,by simp only [↓af,bq,simprocAttr]<;>rfl,by omega,rfl⟩
 rintro r g ⟨aU,a8,e,i,bS,aB,aA⟩;subst e;unfold Qg;by_cases aN:i<l.length
 . have g0:((i:Int) < (l.length:Int))=True:=aqh (by omega);obtain ⟨b,off,cB,bQ,X,eR,ld,_,oN,_⟩:=aE.lX L (k:=.i64) aN;have d3:=oN h (Ext.refl h);have cv:=fk aN (by unfold top at hle;omega);rw [aqz aN,ar9] at aA;by_cases c:l[i].s=s
   . simp +contextual only [aU,a8,bS,aw,g0,bQ,d3,aqh c,↓af,an,simprocAttr];rw [aA,aqH c,Bool.true_or]
   . simp +contextual only [aU,a8,bS,aw,g0,bQ,d3,ap_ c,cv,↓af,an,simprocAttr];refine ⟨⟨i+1,rfl,aN,?_⟩,by omega⟩;rw [aA,aqJ c,arQ]
 . have g0:((i:Int) < (l.length:Int))=False:=ap_ (by omega);rw [aqR (by omega)] at aA;simp +contextual only [aU,a8,bS,aw,g0,↓af,an,simprocAttr];rw [aA];rfl
def Hf (cs:List b2) (s:List UInt8) (x:V):Prop:=∃(lG ku:List UInt8) (kx lH:Int) (eT:V),x=.tuple [.agg [.str lG,.str ku,.int .i64 kx,.int .i64 lH,eT],.bool (gf s cs).isSome]/\ku=fM cs s/\eT.one=true/\eT.cells=[eT]/\(∃n:Nat,iF eT=some (.int .i64 n))/\
 (∀c,gf s cs=some c->ku=c.ty/\kx=c.tag/\iF eT=some (.int .i64 c.arg.length))/\(gf s cs=none->kx=0)
theorem aa' {cs:List b2} {s:List UInt8} (h:gf s cs=none):Hf cs s (.tuple [.agg l',.bool false]):=
 ⟨[],[],0,0,.bL,by rw [h];rfl,by simp [fM,h],rfl,rfl,⟨0,rfl⟩,fun c q=>(by rw [h] at q;cases q),fun _=>rfl⟩
theorem aa_ {cs:List b2} {s:List UInt8} {c:b2} (h:gf s cs=some c) {en:V} {a_:ag} (L:bB Any a_ 4 c.arg en):Hf cs s (.tuple [.agg (sQ c en),.bool true]):=
 ⟨c.name,c.ty,c.tag,c.par,en,by rw [h];rfl,by simp [fM,h],L.one.1,L.one.2.1,⟨_,L.len⟩,fun fT q=>(by rw [h] at q;cases q;exact ⟨rfl,rfl,L.len⟩),fun q=>(by rw [h] at q;cases q)⟩
theorem LZ (cs:List b2) (s:List UInt8) (v:V) (h:ag) (L:bB Any h 5 (cs.map b2.enc) v):cr Tryz.prog 93 [v,.str s] h fun x ab=>Hf cs s x/\Ext h ab:=by
 have aw:=L.len;have hle:=L.le;rw [ap6] at aw hle;refine aat.z rfl (cm ?_);unfold Qd;obtain ⟨aa,al,ax,DQ⟩:=gb h l';simp +contextual only [al,↓af,an,simprocAttr];refine ek (fun r g=>r 0=v/\r 1=.str s/\r 4=.ptr (aG h.next) 0/\aa=g/\∃i:Nat,r 6=.int .i64 i/\i<=cs.length/\gf s cs=gf s (cs.drop i)) (fun r g=>cs.length - (r 6).toN) ?_ ?_
 . exact ⟨by simp only [↓af,bq,simprocAttr],by simp only [↓af,bq,simprocAttr],by simp only [↓af,bq,simprocAttr],rfl,0,by simp only [↓af,bq,simprocAttr]<;>rfl,by omega,rfl⟩
 rintro r g ⟨aU,a8,d_,e,i,cz,aB,aA⟩;subst e;unfold Qe;by_cases aN:i<cs.length
 . have g0:((i:Int) < (cs.length:Int))=True:=aqh (by omega);obtain ⟨b,off,en,bQ,X,ny,zs,eW,_,_,_⟩:=b2.la L (k:=.i64) aN;have d5:=zs aa ax;have d0:=eW aa ax;have l4:=ny.one;have cv:=fk aN (by unfold top at hle;omega);rw [aa9 aN] at aA;by_cases c:cs[i].name=s
   . rw [aqf c] at aA;simp +contextual only [aU,a8,d_,cz,aw,g0,bQ,d5,d0,aqh c,l4.1,l4.2.1,DQ.g,↓af,an,simprocAttr];exact ⟨aa_ aA ny,ax.set (ap7 _) _⟩
   . rw [aqa c] at aA;simp +contextual only [aU,a8,d_,cz,aw,g0,bQ,d5,d0,ap_ c,cv,↓af,an,simprocAttr];exact ⟨⟨i+1,rfl,aN,aA⟩,by omega⟩
 . have g0:((i:Int) < (cs.length:Int))=False:=ap_ (by omega);rw [aqR (by omega)] at aA;simp +contextual only [aU,a8,d_,cz,aw,g0,DQ.g,↓af,an,simprocAttr];exact ⟨aa' aA,ax.set (ap7 _) _⟩
def j3 (bm:List aE) (i:Nat):List aE:=bm.filterMap fun q=>q.l[i]?
def kK (bm:List aE) (s:List UInt8):List aE:=(bm.filter fun q=>decide (q.s=s)&&decide (q.l.length=1)).filterMap fun q=>q.l[0]?
theorem Wy (cs:List b2) (n:Nat):dw cs n []=true:=by
 cases n with
 | zero=>rfl
 | succ n=>simp only [dw,fj,List.filter_nil]
section
variable {cs:List b2} {n:Nat} {l bm:List aE} {p:aE} {s:List aE}
theorem Mx (kE:fj l=p::s):dw cs (n+1) l=((p::s).all (gh cs p)&&(p::s).all fun q=>(List.range q.l.length).all fun i=>dw cs n (gA (p::s) (ch q) i)):=by simp only [dw,kE]
theorem am6 (kE:fj l=p::s) {q:aE} (ar:q ∈ p::s) (h:gh cs p q=false):dw cs (n+1) l=false:=by
 rw [Mx kE];have:(p::s).all (gh cs p)=false:=by rw [arX];exact ⟨q,ar,by rw [h];simp⟩
 rw [this,aqV]
theorem am5 (kE:fj l=p::s) (ai:∀q ∈ p::s,fB q=true/\q.size<=1000000000) (aA:p.k≠16) (c8:∀q ∈ p::s,q.k=p.k):
 dw cs (n+1) l=(dw cs n (if p.k=15 then j3 (p::s) 0 else [])&&dw cs n (if p.k=15 then j3 (p::s) 1 else [])):=by
 rw [Mx kE];have rN:(p::s).all (gh cs p)=true:=by rw [aqu];intro q ar;simp [gh,c8 q ar,aA]
 rw [rN,aqY];by_cases oC:p.k=15
 . rw [aqf oC,aqf oC];have aq:∀q ∈ p::s,ch q=(15,0,[],2)/\q.l.length=2:=fun q ar=>by
    have mo:=(c8 q ar).trans oC;obtain ⟨_,_,a,_⟩:=tx (ai q ar).2 (ai q ar).1;obtain ⟨b,c,d⟩:=a mo;exact ⟨by simp [ch,mo,b,c,d],b⟩
   have du:∀i,gA (p::s) (15,0,[],2) i=j3 (p::s) i:=fun i=>by unfold gA j3;congr 1;rw [List.filter_eq_self];intro q ar;rw [(aq q ar).1];simp
   have key:∀q ∈ p::s,((List.range q.l.length).all fun i=>dw cs n (gA (p::s) (ch q) i))=(dw cs n (j3 (p::s) 0)&&dw cs n (j3 (p::s) 1)):=fun q ar=>by rw [(aq q ar).1,(aq q ar).2,show List.range 2=[0,1] from rfl];simp only [arz,List.all_nil,aq1,du]
   cases bz:(dw cs n (j3 (p::s) 0)&&dw cs n (j3 (p::s) 1)) with
   | true=>
     rw [aqu];intro q ar;rw [key q ar,bz]
   | false=>
     rw [arX];exact ⟨p,aqy,by rw [key p aqy,bz];simp⟩
 . rw [aqa oC,aqa oC,Wy,aq1,aqu];intro q ar;have mo:=c8 q ar;obtain ⟨_,_,_,_,a,_⟩:=tx (ai q ar).2 (ai q ar).1;rw [a (by rw [mo];exact oC) (by rw [mo];exact aA)];rfl
theorem am3 (kE:fj l=p::s) (ai:∀q ∈ p::s,fB q=true/\q.size<=1000000000) (aA:p.k=16):
 dw cs (n+1) l=((p::s).all (gh cs p)&&(p::s).all fun q=>dw cs n (kK (p::s) q.s)):=by
 rw [Mx kE];cases rN:(p::s).all (gh cs p) with
 | false=>rfl
 | true=>
   rw [aqY,aqY];rw [aqu] at rN;have I0:∀q ∈ p::s,q.k=16/\q.n=0/\q.l.length<=1/\∃c,gf q.s cs=some c/\c.arg.length=q.l.length:=fun q ar=>by
    have:=rN q ar;simp only [gh,aA,ap2,aqg,ne_eq,not_true_eq_false,arN,arQ] at this;obtain ⟨aa,ae⟩:=this;obtain ⟨_,_,_,a,_⟩:=tx (ai q ar).2 (ai q ar).1;obtain ⟨b,c⟩:=a aa;cases av:gf q.s cs with
    | none=>rw [av] at ae;cases ae
    | some d=>
      rw [av] at ae;simp only [ap2,aqg] at ae;exact ⟨aa,c,b,d,rfl,ae.2⟩
   have same:∀q ∈ p::s,∀x ∈ p::s,(ch x=ch q↔x.s=q.s):=fun q ar x ao=>by
    obtain ⟨bC,a2,a3,c,a4,a5⟩:=I0 q ar;obtain ⟨bM,b1,dR,d,gD,jX⟩:=I0 x ao;refine ⟨fun e=>(by simp only [ch,aq9] at e;exact e.2.2.1),fun e=>?_⟩;rw [e,a4,ap3] at gD;have:x.l.length=q.l.length:=by rw [<-jX,<-a5,gD]
    simp only [ch,bC,a2,bM,b1,e,this]
   have key:∀q ∈ p::s,((List.range q.l.length).all fun i=>dw cs n (gA (p::s) (ch q) i))=dw cs n (kK (p::s) q.s):=fun q ar=>by
    obtain ⟨bC,a2,a3,c,a4,a5⟩:=I0 q ar;by_cases aa:q.l.length=1
    . rw [aa,show List.range 1=[0] from rfl];simp only [arz,List.all_nil,aq1];congr 1;unfold gA kK;congr 1;refine List.filter_congr fun x ao=>?_;rw [aqX];simp only [ap2,aqg,same q ar x ao];refine ⟨fun e=>⟨e,?_⟩,fun e=>e.1⟩;have aM:=(same q ar x ao).2 e;simp only [ch,aq9] at aM;omega
    . have a1:q.l.length=0:=by omega
      have:kK (p::s) q.s=[]:=by unfold kK;rw [List.filterMap_eq_nil_iff];intro x ao;rw [arK,ap2,aqg,aqg] at ao;have aM:=(same q ar x ao.1).2 ao.2.1;simp only [ch,aq9] at aM;omega
      rw [a1,this,Wy];rfl
   rw [aqX,aqu,aqu];exact ⟨fun h q ar=>by rw [<-key q ar];exact h q ar,fun h q ar=>by rw [key q ar];exact h q ar⟩
theorem Uy (bm:List aE) (q:aE) (i:Nat):j3 (bm++[q]) i=j3 bm i++(match q.l[i]? with
 | some x=>[x]
 | none=>[]):=by
 unfold j3;rw [arT];congr 1;cases h:q.l[i]? <;>simp [h]
theorem LC (bm:List aE) (q:aE) (s:List UInt8):kK (bm++[q]) s=kK bm s++(if q.s=s/\q.l.length=1 then (match q.l[0]? with
 | some x=>[x]
 | none=>[]) else []):=by
 unfold kK;rw [asg,arT];congr 1;by_cases c:q.s=s/\q.l.length=1
 . rw [aqf c];simp only [arG,c.1,c.2,arP,Bool.and_self,aqB,List.filter_nil];cases h:q.l[0]? <;>simp [h]
 . rw [aqa c];have:(decide (q.s=s)&&decide (q.l.length=1))=false:=by
    rw [arJ];by_cases d:q.s=s
    . exact .inr (aqJ fun e=>c ⟨d,e⟩)
    . exact .inl (aqJ d)
   simp [arG,this]
theorem Lj (bm:List aE) (i:Nat):(j3 bm i).length<=bm.length:=aqO _ _
theorem U4 (bm:List aE) (s:List UInt8):(kK bm s).length<=bm.length:=aqK (aqO _ _) (arU _ _)
theorem Uz {i:Nat} {x:aE} (h:x ∈ j3 bm i):∃q ∈ bm,x ∈ q.l:=by unfold j3 at h;rw [ard] at h;obtain ⟨q,ar,e⟩:=h;exact ⟨q,ar,aqv e⟩
theorem ak' {s:List UInt8} {x:aE} (h:x ∈ kK bm s):∃q ∈ bm,x ∈ q.l:=by unfold kK at h;rw [ard] at h;obtain ⟨q,ar,e⟩:=h;exact ⟨q,(arK.1 ar).1,aqv e⟩
end
theorem LH (f:aE->Option aE) (aF:∀q x,f q=some x->x ∈ q.l):∀bm:List aE,b0 (bm.filterMap f)<=b0 bm/\(bm≠[]->b0 (bm.filterMap f)<b0 bm)
 | []=>⟨ap7 _,fun h=>absurd rfl h⟩
 | q::bm=>by
   have bd:=(LH f aF bm).1;have ai:=qV q;have key:b0 ((q::bm).filterMap f)<b0 (q::bm):=by
    rw [ary,b0];cases h:f q with
    | none=>simp only;omega
    | some x=>
      have:=vf (aF q x h);simp only [b0];omega
   exact ⟨Nat.le_of_lt key,fun _=>key⟩
theorem UA (bm:List aE) (i:Nat) (h:bm≠[]):b0 (j3 bm i)<b0 bm:=(LH _ (fun q x e=>aqv e) bm).2 h
theorem Rp (f:aE->Bool):∀bm:List aE,b0 (bm.filter f)<=b0 bm
 | []=>ap7 _
 | q::bm=>by
   have:=Rp f bm;rw [arG,b0]
   split
   . rw [b0];omega
   . omega
theorem ak_ (bm:List aE) (s:List UInt8) (h:bm≠[]):b0 (kK bm s)<b0 bm:=by
 unfold kK;have aa:=Rp (fun q=>decide (q.s=s)&&decide (q.l.length=1)) bm;by_cases e:bm.filter (fun q=>decide (q.s=s)&&decide (q.l.length=1))=[]
 . rw [e,List.filterMap_nil,b0];cases bm with
   | nil=>exact absurd rfl h
   | cons q bm=>rw [b0];have:=qV q;omega
 . have:=(LH (fun q=>q.l[0]?) (fun q x e=>aqv e) _).2 e;omega
def AU (cs:List b2) (n:Nat):Prop:=∀(l:List aE),b0 l<=n->(∀p ∈ l,fB p=true)->∀(cl v:V) (h:ag),bB Any h 5 (cs.map b2.enc) cl->bB Any h 5 (l.map aE.enc) v->
 cr Tryz.prog 52 [cl,v] h fun x ab=>x=.bool (dw cs n l)/\Ext h ab
theorem amb {cs:List b2} {n:Nat} (R:AU cs n) (a b:List aE) (bp:b0 a<=n) (ak:b0 b<=n) (ak3:∀p ∈ a,fB p=true) (U6:∀p ∈ b,fB p=true) (cl en pZ:V) (h:ag) (C:bB Any h 5 (cs.map b2.enc) cl) (A:bB Any h 5 (a.map aE.enc) en) (B:bB Any h 5 (b.map aE.enc) pZ):
 cr Tryz.prog 92 [cl,en,pZ] h fun x ab=>x=.bool (dw cs n a&&dw cs n b)/\Ext h ab:=by
 refine aas.z rfl (cm ?_);unfold Qc;simp +contextual only [↓af,an,simprocAttr];refine bF (R a bp ak3 cl en h C A) ?_;rintro x aa ⟨rfl,ax⟩;cases aO:dw cs n a with
 | false=>
   simp +contextual only [↓af,an,simprocAttr];exact ax
 | true=>
   simp +contextual only [↓af,an,simprocAttr];refine bF (R b ak U6 cl pZ aa (C.ext ax) (B.ext ax)) ?_;rintro x ae ⟨rfl,aH⟩;simp +contextual only [↓af,an,simprocAttr];exact ax.trans aH
theorem FO {F:aQ->Prop} [Lay] {h:ag} {l:List aE} {v:V} (L:bB F h 5 (l.map aE.enc) v) {i:Nat} (aB:i<l.length):∃b off w,hG 5 v (.int .i64 i)=some (.ptr b off)/\cb F h l[i].enc (dS l[i] w)/\w.one=true/\w.cells=[w]/\∀ab,Ext h ab->nj 5 (ab.get b) off=some (.agg (dS l[i] w)):=by obtain ⟨b,off,w,ax,aH,bA,b5,_⟩:=aE.lX L (k:=.i64) aB;exact ⟨b,_,w,ax,aH,bA.one.1,bA.one.2.1,b5⟩
theorem amd {cs:List b2} {n:Nat} (aW:n+1<=1000000000) (R:AU cs n):AU cs (n+1):=by
 intro l aO SN cl v h C L;refine Pg.z rfl (cm ?_);unfold Il;simp +contextual only [↓af,an,simprocAttr];refine bF (VZ l (by omega) v h L) ?_;rintro f' aa ⟨S,ax⟩;have hj:=S.len;have SY:=S.le;rw [ap6] at hj SY;have cu:=Mu l;cases kE:fj l with
 | nil=>
   rw [kE] at hj;have g0:(((([]:List aE).length:Nat):Int)=0)=True:=aqh rfl;have bz:dw cs (n+1) l=true:=by simp only [dw,kE]
   simp +contextual only [hj,g0,bz,↓af,an,simprocAttr];exact ax
 | cons p s=>
 have h9:∀q ∈ p::s,fB q=true/\q.size<=1000000000:=fun q ar=>by rw [<-kE] at ar;have oI:=(arK.1 ar).1;have:=pS oI;exact ⟨SN q oI,by omega⟩
 have wQ:∀q ∈ p::s,∀x ∈ q.l,fB x=true:=fun q ar x ao=>by obtain ⟨_,_,_,_,_,a⟩:=tx (h9 q ar).2 (h9 q ar).1;exact a x ao
 have Fx:∀q ∈ p::s,gh cs p q=false->dw cs (n+1) l=false:=fun q ar z=>am6 kE ar z;have y8:=am5 (cs:=cs) (n:=n) kE h9;have Si:=am3 (cs:=cs) (n:=n) kE h9;rw [kE] at S hj SY cu;have cK:p::s≠[]:=by simp
 have du:=mG (p::s);have g0:((((p::s).length:Nat):Int)=0)=False:=ap_ (by simp only [aqb];omega);have tR:=C.ext ax;generalize Fc:p::s=bm at *;have adq:0<bm.length:=by rw [<-Fc];simp
 have adr:bm[0]=p:=by subst Fc;rfl
 obtain ⟨jC,gz,aC,i0,hA,_,lY,ajg,Ua,_⟩:=aE.lX S (k:=.i64) (i:=0) adq;have QO:=ajg aa (Ext.refl aa);simp only [asm,aro,aqP,adr] at i0 QO Ua;have Tf:hG 5 f' (.int .i64 0)=some (.ptr jC gz):=i0;simp +contextual only [hj,g0,Tf,QO,↓af,an,simprocAttr]
 refine ek (fun r g=>r 0=cl/\r 1=f'/\r 5=.int .i64 p.k/\Ext aa g/\∃(i:Nat) (en pZ:V),r 8=.int .i64 i/\i<=bm.length/\r 6=en/\r 7=pZ/\(∀q ∈ bm.take i,q.k=p.k)/\
  db aa.next (Old aa) g 5 ((if p.k=15 then j3 (bm.take i) 0 else []).map aE.enc) en/\db aa.next (Old aa) g 5 ((if p.k=15 then j3 (bm.take i) 1 else []).map aE.enc) pZ/\∀b,en.a' b->¬pZ.a' b) (fun r g=>bm.length - (r 8).toN) ?_ ?_
 . refine ⟨by simp only [↓af,bq,simprocAttr],by simp only [↓af,bq,simprocAttr],by simp only [↓af,bq,simprocAttr],Ext.refl aa,0,.bL,.bL,by simp only [↓af,bq,simprocAttr]<;>rfl,by omega,by simp only [↓af,bq,simprocAttr],by simp only [↓af,bq,simprocAttr],fun q ar=>by simp at ar,?_,?_,fun b q=>q.elim⟩
   . simpa [j3] using db.nil aa.next (Old aa) aa 5
   . simpa [j3] using db.nil aa.next (Old aa) aa 5
 rintro r g ⟨aU,a8,bS,bK,i,en,pZ,cZ,aB,cz,dT,c8,ri,p6,E_⟩;unfold Ph;by_cases aN:i<bm.length
 . have g1:((i:Int) < (bm.length:Int))=True:=aqh (by omega);obtain ⟨b,off,cB,bQ,X,eR,ld,eW,oN,oO⟩:=aE.lX S (k:=.i64) aN;have d0:=eW g bK;have d4:=oO g bK;have cv:=fk aN (by omega);have ar:bm[i] ∈ bm:=aqC aN;by_cases aA:bm[i].k=p.k
   . have gj:=aqh aA;have Sa:∀q ∈ bm.take (i+1),q.k=p.k:=fun q ar=>by
      rw [take_one aN] at ar;rcases aq0.1 ar with ar | ar
      . exact c8 q ar
      . rw [aqU] at ar;rw [ar];exact aA
     by_cases oC:p.k=15
     . have Jb:=aqh oC;obtain ⟨_,_,f2,_⟩:=tx (h9 _ ar).2 (h9 _ ar).1;have kf:=(f2 (aA.trans oC)).1;rw [aqf oC] at ri p6;obtain ⟨bM,di,bT,tf,HO,dU,Df,b7⟩:=FO eR (i:=0) (by omega);obtain ⟨b1,cY,bN,tg,X6,gn,aog,z2⟩:=FO eR (i:=1) (by omega);have KK:hG 5 cB (.int .i64 0)=some (.ptr bM di):=tf;have agm:hG 5 cB (.int .i64 1)=some (.ptr b1 cY):=tg;have cg:=bK.next
       have qz:=Lj (bm.take i);have k9:(bm.take i).length<=1000000000:=by rw [aqw];omega
       have Gh:∀{x:aE} {ie:List V},cb Any aa x.enc ie->∀{dI:ag} (en:V),Ext aa dI->(∀b,en.a' b->aa.next<=ck b)->cb (fun b=>Old aa b/\¬en.a' b) dI x.enc ie:=by intro x ie X dI en e ak;exact (X.kk.ext e).e3 fun b q=>⟨q,fun z=>by have:=ak b z;unfold Old at q;omega⟩
       obtain ⟨xK,g2,bC,a2,a3,a4,a5⟩:=ri.add (Gh HO en bK fun b z=>ri.base z) (by omega) cg (by rw [ap6];have:=qz 0;unfold top;omega) rfl;have mh:Ext aa g2:=bK.fp a3 fun b z=>ri.base z;have XM:=p6.mod a3 (fun b z y=>E_ b y z) fun b z _ _ y=>by have:=ri.base y;unfold Old at z;omega
       obtain ⟨anK,g3,YY,YZ,dR,gD,jX⟩:=XM.add (Gh X6 pZ mh fun b z=>p6.base z) (by omega) (by omega) (by rw [ap6];have:=qz 1;unfold top;omega) rfl;have QN:∀b,xK.a' b->¬pZ.a' b:=fun b z y=>by
        rcases a5 b z with q | q
        . exact E_ b q y
        . have:=p6.tu y;unfold Old at this;omega
       have XL:=a2.mod dR QN fun b z _ _ y=>by have:=p6.base y;unfold Old at z;omega
       have IH:=b7 g bK;have ab2:=z2 g2 mh;have d42:=oO g2 mh;simp +contextual only [aU,a8,bS,cz,dT,cZ,hj,g1,bQ,d0,d4,d42,gj,Jb,KK,agm,IH,ab2,dU,Df,gn,aog,bC,YY,cv,↓af,an,simprocAttr];refine ⟨⟨mh.fp dR fun b z=>p6.base z,i+1,xK,anK,rfl,aN,rfl,rfl,Sa,?_,?_,fun b z y=>?_⟩,by omega⟩
       . rw [take_one aN,Uy,ap4 (by omega),aqS];exact XL
       . rw [take_one aN,Uy,ap4 (by omega),aqS];exact YZ
       . rcases jX b y with q | q
         . exact QN b z q
         . have:=a2.tu z;unfold Old at this;omega
     . have Jb:=ap_ oC;simp +contextual only [aU,a8,bS,cz,dT,cZ,hj,g1,bQ,d0,gj,Jb,cv,↓af,an,simprocAttr];refine ⟨⟨bK,i+1,en,pZ,rfl,aN,rfl,rfl,Sa,?_,?_,E_⟩,by omega⟩
       . rw [aqa oC] at ri;exact ri
       . rw [aqa oC] at p6;exact p6
   . have gj:=ap_ aA;have ak:=Fx _ ar (by simp [gh,aA]);simp +contextual only [aU,a8,bS,cz,dT,cZ,hj,g1,bQ,d0,gj,↓af,an,simprocAttr];rw [ak];exact ⟨rfl,ax.trans bK⟩
 . have g1:((i:Int) < (bm.length:Int))=False:=ap_ (by omega);rw [aqt (by omega)] at c8 ri p6;by_cases jF:p.k=16
   . have rI:=aqh jF;have Ew:=ax.trans bK;have ls:=Ua g bK;simp +contextual only [aU,a8,bS,cz,dT,cZ,hj,g1,rI,Tf,ls,↓af,an,simprocAttr];refine bF (LZ cs p.s cl g (C.ext Ew)) ?_;rintro x g2 ⟨⟨fy,IY,RH,RI,wv,rfl,f1,f2,f3,_,_,_⟩,aH⟩;obtain ⟨g3,aJ,bA,Xn⟩:=gE g2 l' [.str fy,.str IY,.int .i64 RH,.int .i64 RI,wv];have nH:=(bK.trans aH).trans bA;simp +contextual only [aU,a8,f2,f3,aJ,↓af,an,simprocAttr];refine ek (fun r G=>r 0=cl/\r 1=f'/\r 9=.ptr (aG g2.next) 0/\Ext aa G/\Has G g2.next [.str fy,.str IY,.int .i64 RH,.int .i64 RI,wv]/\∃i:Nat,r 11=.int .i64 i/\i<=bm.length/\∀q ∈ bm.take i,gh cs p q=true/\dw cs n (kK bm q.s)=true) (fun r G=>bm.length - (r 11).toN) ?_ ?_
     . exact ⟨by simp only [aU,↓af,bq,simprocAttr],by simp only [a8,↓af,bq,simprocAttr],by simp only [↓af,bq,simprocAttr],nH,Xn,0,by simp only [↓af,bq,simprocAttr]<;>rfl,by omega,fun q ar=>by simp at ar⟩
     clear aU a8 bS cz dT cZ ri p6 E_ g1 ls;rintro r G ⟨aU,a8,dV,gu,AB,i,fr,aB,jG⟩;unfold Pk;by_cases aN:i<bm.length
     . have g1:((i:Int) < (bm.length:Int))=True:=aqh (by omega);obtain ⟨b,off,cB,bQ,X,eR,ld,eW,oN,oO⟩:=aE.lX S (k:=.i64) aN;have d3:=oN G gu;have cv:=fk aN (by omega);have ar:bm[i] ∈ bm:=aqC aN;have aA:bm[i].k=p.k:=c8 _ ar;have wU:=eR.len;rw [ap6] at wU;simp +contextual only [aU,a8,dV,fr,hj,g1,bQ,d3,↓af,an,simprocAttr];refine bF (LZ cs bm[i].s cl G (tR.ext gu)) ?_;rintro x o9 ⟨⟨lG,ku,kx,lH,eT,rfl,bW,b6,c3,⟨ph,fU⟩,c5,_⟩,bO⟩;obtain ⟨ma,DP,iP,sr⟩:=gE o9 l' [.str lG,.str ku,.int .i64 kx,.int .i64 lH,eT];have xU:=(AB.ext bO).ext iP;have qe:=(gu.trans bO).trans iP;have d43:=oO ma qe;have d33:=oN ma qe;cases av:gf bm[i].s cs with
       | none=>
         have ak:=Fx _ ar (by simp [gh,aA,jF,av]);simp +contextual only [aU,a8,dV,fr,b6,c3,fU,DP,xU.g,sr.g,bQ,d43,wU,Option.isSome_none,↓af,an,simprocAttr];rw [ak];exact ⟨rfl,ax.trans qe⟩
       | some c=>
       obtain ⟨rfl,rfl,Ik⟩:=c5 c av;by_cases nc:c.ty=IY
       . by_cases rT:(c.arg.length:Int)=(bm[i].l.length:Int)
         . have uK:gh cs p bm[i]=true:=by
            have:c.arg.length=bm[i].l.length:=by omega
            rw [f1] at nc;simp [gh,aA,av,nc,this]
           obtain ⟨q6,t1,T⟩:=bB.take (S.ext qe) (k:=.i64) (i:=i) (by rw [ap6];omega);rw [<-List.map_take] at T;simp +contextual only [aU,a8,dV,fr,b6,c3,Ik,DP,xU.g,sr.g,bQ,d43,d33,wU,aqh nc,aqh rT,t1,arD,↓af,an,simprocAttr];refine bF (al5 (bm.take i) bm[i].s q6 ma T) ?_;rintro x AE ⟨rfl,e⟩;subst e;cases jl:(bm.take i).any fun q=>decide (q.s=bm[i].s) with
           | true=>
             simp +contextual only [aU,a8,dV,fr,cv,d33,↓af,an,simprocAttr];refine ⟨⟨qe,xU,i+1,rfl,aN,fun q hQ=>?_⟩,by omega⟩;rw [take_one aN] at hQ;rcases aq0.1 hQ with hQ | hQ
             . exact jG q hQ
             . rw [aqU] at hQ;subst hQ;rw [List.any_eq_true] at jl;obtain ⟨fi,fF,RZ⟩:=jl;rw [aqg] at RZ;exact ⟨uK,RZ ▸ (jG fi fF).2⟩
           | false=>
             simp +contextual only [aU,a8,dV,fr,cv,d33,↓af,an,simprocAttr];have n3:=qe.next
             refine ek (fun r g=>r 0=cl/\r 1=f'/\r 9=.ptr (aG g2.next) 0/\r 11=.int .i64 i/\Ext ma g/\∃(j:Nat) (An:V),r 15=.int .i64 j/\j<=bm.length/\r 14=An/\db ma.next (Old ma) g 5 ((kK (bm.take j) bm[i].s).map aE.enc) An) (fun r g=>bm.length - (r 15).toN) ?_ ?_
             . refine ⟨by simp only [aU,↓af,bq,simprocAttr],by simp only [a8,↓af,bq,simprocAttr],by simp only [dV,↓af,bq,simprocAttr],by simp only [fr,↓af,bq,simprocAttr],Ext.refl _,0,.bL,by simp only [↓af,bq,simprocAttr]<;>rfl,by omega,by simp only [↓af,bq,simprocAttr],?_⟩;simpa [kK] using db.nil ma.next (Old ma) ma 5
             clear aU a8 dV fr;rintro r g ⟨aU,a8,dV,fr,uw,j,An,pT,bG,iv,vO⟩;unfold Pj;by_cases gi:j<bm.length
             . have Bn:((j:Int) < (bm.length:Int))=True:=aqh (by omega);obtain ⟨bR,kJ,anN,k',HM,DS,ape,TI,aiT,aiU⟩:=aE.lX S (k:=.i64) gi;have cW:=qe.trans uw;have Iw:=aiT g cW;have Iy:=aiU g cW;have Ix:=oN g cW;have sl:=fk gi (by omega);have Fp:=DS.len;rw [ap6] at Fp;by_cases B8:bm[j].s=bm[i].s
               . by_cases hi:(bm[j].l.length:Int)=1
                 . have aeN:bm[j].l.length=1:=by omega
                   obtain ⟨bM,di,bT,tf,HO,dU,Df,b7⟩:=FO DS (i:=0) (by omega);have KK:hG 5 anN (.int .i64 0)=some (.ptr bM di):=tf;have IH:=b7 g cW;have F5:=uw.next
                   have ae8:=U4 (bm.take j) bm[i].s;have w4:(bm.take j).length<=1000000000:=by rw [aqw];omega
                   obtain ⟨anO,g6,bC,a2,a3,a4,a5⟩:=vO.add (ds:=bm[j].l[0].enc) (cs:=dS bm[j].l[0] bT) (((HO.ext qe).kk.ext uw).e3 fun b q=>⟨q,fun z=>by have:=vO.base z;unfold Old at q;omega⟩) (by omega) F5 (by rw [ap6];unfold top;omega) rfl;simp +contextual only [aU,a8,dV,fr,iv,pT,hj,Bn,bQ,k',Iw,Iy,Ix,Fp,aqh B8,aqh hi,KK,IH,dU,Df,bC,sl,↓af,an,simprocAttr];refine ⟨⟨uw.fp a3 fun b z=>vO.base z,j+1,anO,rfl,gi,rfl,?_⟩,by omega⟩;rw [take_one gi,LC,aqf ⟨B8,aeN⟩,ap4 (by omega),aqS];exact a2
                 . simp +contextual only [aU,a8,dV,fr,iv,pT,hj,Bn,bQ,k',Iw,Iy,Ix,Fp,aqh B8,ap_ hi,sl,↓af,an,simprocAttr];refine ⟨⟨uw,j+1,An,rfl,gi,rfl,?_⟩,by omega⟩;rw [take_one gi,LC,aqa (fun z=>hi (by omega)),aq7];exact vO
               . simp +contextual only [aU,a8,dV,fr,iv,pT,hj,Bn,bQ,k',Iw,Iy,Ix,Fp,ap_ B8,sl,↓af,an,simprocAttr];refine ⟨⟨uw,j+1,An,rfl,gi,rfl,?_⟩,by omega⟩;rw [take_one gi,LC,aqa (fun z=>B8 z.1),aq7];exact vO
             . have Bn:((j:Int) < (bm.length:Int))=False:=ap_ (by omega);rw [aqt (by omega)] at vO;have ao9:=ak_ bm bm[i].s cK;have ae8:=U4 bm bm[i].s;have cW:=qe.trans uw;simp +contextual only [aU,a8,dV,fr,iv,pT,hj,Bn,↓af,an,simprocAttr];refine bF (R (kK bm bm[i].s) (by omega) (fun x ao=>by obtain ⟨q,ar,ao⟩:=ak' ao;exact wQ q ar x ao) cl An g (tR.ext cW) (vO.ea (by rw [ap6];omega) (fun _ _=>trivial) fun _ _=>trivial)) ?_;rintro x g6 ⟨rfl,e7⟩;cases nU:dw cs n (kK bm bm[i].s) with
               | true=>
                 simp +contextual only [aU,a8,dV,fr,cv,↓af,an,simprocAttr];refine ⟨⟨cW.trans e7,(xU.ext uw).ext e7,i+1,rfl,aN,fun q hQ=>?_⟩,by omega⟩;rw [take_one aN] at hQ;rcases aq0.1 hQ with hQ | hQ
                 . exact jG q hQ
                 . rw [aqU] at hQ;subst hQ;exact ⟨uK,nU⟩
               | false=>
                 have ak:dw cs (n+1) l=false:=by
                  rw [Si jF];have:(bm.all fun q=>dw cs n (kK bm q.s))=false:=by rw [arX];exact ⟨bm[i],ar,by rw [nU];simp⟩
                  rw [this,art]
                 simp +contextual only [aU,a8,↓af,an,simprocAttr];rw [ak];exact ⟨rfl,(ax.trans cW).trans e7⟩
         . have ak:=Fx _ ar (by
            have:¬c.arg.length=bm[i].l.length:=by omega
            simp [gh,aA,jF,av,this])
           simp +contextual only [aU,a8,dV,fr,b6,c3,Ik,DP,xU.g,sr.g,bQ,d43,wU,aqh nc,ap_ rT,arD,↓af,an,simprocAttr];rw [ak];exact ⟨rfl,ax.trans qe⟩
       . have ak:=Fx _ ar (by rw [f1] at nc;simp [gh,aA,jF,av,nc]);simp +contextual only [aU,a8,dV,fr,b6,c3,Ik,DP,xU.g,sr.g,bQ,d43,wU,ap_ nc,arD,↓af,an,simprocAttr];rw [ak];exact ⟨rfl,ax.trans qe⟩
     . have g1:((i:Int) < (bm.length:Int))=False:=ap_ (by omega);rw [aqt (by omega)] at jG;have bz:dw cs (n+1) l=true:=by
        rw [Si jF,aqu.2 fun q ar=>(jG q ar).1,aqu.2 fun q ar=>(jG q ar).2];rfl
       simp +contextual only [aU,a8,dV,fr,hj,g1,↓af,an,simprocAttr];rw [bz];exact ⟨rfl,ax.trans gu⟩
   . have rI:=ap_ jF;simp +contextual only [aU,a8,bS,cz,dT,cZ,hj,g1,rI,↓af,an,simprocAttr];have S':=UA bm 0 cK;have apb:=UA bm 1 cK;have ke:=Lj bm 0;have hi:=Lj bm 1;have Ew:=ax.trans bK;refine bF (amb R (if p.k=15 then j3 bm 0 else []) (if p.k=15 then j3 bm 1 else []) ?_ ?_ ?_ ?_ cl en pZ g (C.ext Ew) (ri.ea ?_ (fun _ _=>trivial) fun _ _=>trivial) (p6.ea ?_ (fun _ _=>trivial) fun _ _=>trivial)) ?_
     . split
       . omega
       . simp [b0]
     . split
       . omega
       . simp [b0]
     . intro x ao
       split at ao
       . obtain ⟨q,ar,ao⟩:=Uz ao;exact wQ q ar x ao
       . cases ao
     . intro x ao
       split at ao
       . obtain ⟨q,ar,ao⟩:=Uz ao;exact wQ q ar x ao
       . cases ao
     . rw [ap6];split
       . omega
       . simp
     . rw [ap6];split
       . omega
       . simp
     rintro x dI ⟨rfl,c7⟩;simp +contextual only [↓af,an,simprocAttr];rw [y8 jF c8];exact ⟨rfl,Ew.trans c7⟩
theorem amc (cs:List b2):AU cs 0:=by
 intro l aO SN cl v h C L;have bl:l=[]:=by
  cases l with
  | nil=>rfl
  | cons p l=>have:=qV p;simp only [b0] at aO;omega
 subst bl;refine Pg.z rfl (cm ?_);unfold Il;simp +contextual only [↓af,an,simprocAttr];refine bF (VZ [] (by simp [b0]) v h L) ?_;rintro f' aa ⟨S,ax⟩;have hj:=S.len;have g0:((((fj []).map aE.enc).length:Int)=0)=True:=aqh rfl;simp +contextual only [hj,g0,↓af,an,simprocAttr];exact ⟨rfl,ax⟩
theorem V0 (cs:List b2):∀n,n<=1000000000->AU cs n
 | 0,_=>amc cs
 | n+1,h=>amd h (V0 cs n (by omega))
theorem akf {pre:List b2} {c d:b2} (aq:d ∈ pre) (h:d.name=c.name\/d.ty=c.ty/\d.tag=c.tag):tt pre c=false:=by
 unfold tt;rcases h with h | h
 . have:pre.any (fun d=>decide (d.name=c.name))=true:=by rw [List.any_eq_true];exact ⟨d,aq,aqH h⟩
   rw [this];simp
 . have:pre.any (fun d=>decide (d.ty=c.ty/\d.tag=c.tag))=true:=by rw [List.any_eq_true];exact ⟨d,aq,aqH h⟩
   rw [this];simp
theorem akg {pre:List b2} {c:b2} (h:∀d ∈ pre,¬(d.name=c.name\/d.ty=c.ty/\d.tag=c.tag)) (aa:c.arg.length<=1) (ae:dm 4 c.name=true):tt pre c=true:=by
 unfold tt;have a:pre.any (fun d=>decide (d.name=c.name))=false:=by rw [List.any_eq_false];intro d aq;rw [aqg];exact fun z=>h d aq (.inl z)
 have b:pre.any (fun d=>decide (d.ty=c.ty/\d.tag=c.tag))=false:=by rw [List.any_eq_false];intro d aq;rw [aqg];exact fun z=>h d aq (.inr z)
 rw [a,b,aqH aa,ae];rfl
theorem VO (cs:List b2) (l:List aE) (aO:b0 l+2<=1000000000) (cl v:V) (h:ag) (hy:bB Any h 5 (cs.map b2.enc) cl) (L:bB Any h 5 (l.map aE.enc) v):
 cr Tryz.prog 21 [cl,v] h fun x ab=>x=.int .i64 (ky cs l)/\Ext h ab:=by
 have aw:=L.len;have hle:=L.le;rw [ap6] at aw hle;have av:=hy.len;have Js:=hy.le;rw [ap6] at av Js;refine ZQ.z rfl (cm ?_);unfold c21;simp +contextual only [↓af,an,simprocAttr];refine ek (fun r g=>r 0=cl/\r 1=v/\Ext h g/\∃i:Nat,r 5=.int .i64 i/\i<=cs.length/\jI [] cs=jI (cs.take i) (cs.drop i)) (fun r g=>cs.length - (r 5).toN) ?_ ?_
 . exact ⟨by simp only [↓af,bq,simprocAttr],by simp only [↓af,bq,simprocAttr],Ext.refl h,0,by simp only [↓af,bq,simprocAttr]<;>rfl,by omega,rfl⟩
 rintro r g ⟨aU,a8,bK,i,bS,aB,aA⟩;unfold OU;by_cases aN:i<cs.length
 . have g0:((i:Int) < (cs.length:Int))=True:=aqh (by omega);obtain ⟨b,off,en,bQ,X,ny,zs,eW,eD,u0,oO⟩:=b2.la hy (k:=.i64) aN;have d0:=eW g bK;have l4:=ny.one;have oM:=ny.len;have cv:=fk aN (by unfold top at Js;omega);have nS:cs[i].name.length<=top:=by obtain ⟨_,_,z,_⟩:=X.str;exact z
   rw [aqz aN,jI] at aA;simp +contextual only [aU,a8,bS,av,g0,bQ,d0,↓af,an,simprocAttr];refine bF (qX 4 cs[i].name nS (by simp) g) ?_;rintro x g1 ⟨rfl,ax⟩;have d4:=oO g1 (bK.trans ax);have lK:=bK.trans ax;cases jl:dm 4 cs[i].name with
   | false=>
     have ak:jI [] cs=false:=by rw [aA];unfold tt;rw [jl];simp
     simp +contextual only [aU,a8,bS,bQ,d4,oM,↓af,an,simprocAttr];rw [yw ak];exact ⟨rfl,lK⟩
   | true=>
   by_cases aa:(cs[i].arg.length:Int)>1
   . have ak:jI [] cs=false:=by
      have:¬cs[i].arg.length<=1:=by omega
      rw [aA];unfold tt;rw [aqJ this];simp
     simp +contextual only [aU,a8,bS,bQ,d4,oM,aqh aa,↓af,an,simprocAttr];rw [yw ak];exact ⟨rfl,lK⟩
   . simp +contextual only [aU,a8,bS,bQ,d4,oM,ap_ aa,↓af,an,simprocAttr];refine ek (fun r g=>r 0=cl/\r 1=v/\r 5=.int .i64 i/\g1=g/\∃k:Nat,r 6=.int .i64 k/\k<=i/\∀d ∈ cs.take k,¬(d.name=cs[i].name\/d.ty=cs[i].ty/\d.tag=cs[i].tag)) (fun r g=>i - (r 6).toN) ?_ ?_
     . exact ⟨by simp only [aU,↓af,bq,simprocAttr],by simp only [a8,↓af,bq,simprocAttr],by simp only [bS,↓af,bq,simprocAttr],rfl,0,by simp only [↓af,bq,simprocAttr]<;>rfl,by omega,fun q ar=>by simp at ar⟩
     clear aU a8 bS;rintro r dI ⟨aU,a8,bS,e,k,cz,gO,jG⟩;subst e;unfold OT;by_cases mU:k<i
     . have g2:((k:Int) < (i:Int))=True:=aqh (by omega);have iT:k<cs.length:=by omega
       obtain ⟨bR,kJ,xK,k',_,_,_,TI,aiR,aiS,_⟩:=b2.la hy (k:=.i64) iT;have El:=eW g1 lK;have En:=eD g1 lK;have Ep:=u0 g1 lK;have Em:=TI g1 lK;have Eo:=aiR g1 lK;have Er:=aiS g1 lK;have WY:=fk mU (by unfold top at Js;omega);have BT:cs[k] ∈ cs.take i:=by rw [List.mem_take_iff_getElem];exact ⟨k,by omega,rfl⟩
       have bad:(cs[k].name=cs[i].name\/cs[k].ty=cs[i].ty/\cs[k].tag=cs[i].tag)->jI [] cs=false:=fun z=>by rw [aA,akf BT z];rfl
       have fD:¬(cs[k].name=cs[i].name\/cs[k].ty=cs[i].ty/\cs[k].tag=cs[i].tag)->∀d ∈ cs.take (k+1),¬(d.name=cs[i].name\/d.ty=cs[i].ty/\d.tag=cs[i].tag):=fun z d aq=>by
        rw [aqn iT] at aq;rcases aq0.1 aq with aq | aq
        . exact jG d aq
        . rw [aqU] at aq;rw [aq];exact z
       by_cases cg:cs[k].name=cs[i].name
       . simp +contextual only [aU,a8,bS,cz,g2,bQ,k',El,En,Ep,Em,Eo,Er,aqh cg,↓af,an,simprocAttr];rw [yw (bad (.inl cg))];exact ⟨rfl,lK⟩
       . by_cases dv:cs[k].ty=cs[i].ty
         . by_cases n3:cs[k].tag=cs[i].tag
           . simp +contextual only [aU,a8,bS,cz,g2,bQ,k',El,En,Ep,Em,Eo,Er,ap_ cg,aqh dv,aqh n3,↓af,an,simprocAttr];rw [yw (bad (.inr ⟨dv,n3⟩))];exact ⟨rfl,lK⟩
           . simp +contextual only [aU,a8,bS,cz,g2,bQ,k',El,En,Ep,Em,Eo,Er,ap_ cg,aqh dv,ap_ n3,WY,↓af,an,simprocAttr];exact ⟨⟨k+1,rfl,mU,fD (fun z=>z.elim cg fun z=>n3 z.2)⟩,by omega⟩
         . simp +contextual only [aU,a8,bS,cz,g2,bQ,k',El,En,Ep,Em,Eo,Er,ap_ cg,ap_ dv,WY,↓af,an,simprocAttr];exact ⟨⟨k+1,rfl,mU,fD (fun z=>z.elim cg fun z=>dv z.1)⟩,by omega⟩
     . have g2:((k:Int) < (i:Int))=False:=ap_ (by omega);have aeG:k=i:=by omega
       subst aeG;simp +contextual only [aU,a8,bS,cz,g2,cv,↓af,an,simprocAttr];refine ⟨⟨lK,k+1,rfl,aN,?_⟩,by omega⟩;rw [aA,akg jG (by omega) jl,aqY,aqn aN]
 . have g0:((i:Int) < (cs.length:Int))=False:=ap_ (by omega);rw [aqR (by omega),jI] at aA;simp +contextual only [aU,a8,bS,av,g0,↓af,an,simprocAttr];refine ek (fun r g=>r 0=cl/\r 1=v/\Ext h g/\∃i:Nat,r 7=.int .i64 i/\i<=l.length/\∀p ∈ l.take i,fB p=true) (fun r g=>l.length - (r 7).toN) ?_ ?_
   . exact ⟨by simp only [aU,↓af,bq,simprocAttr],by simp only [a8,↓af,bq,simprocAttr],bK,0,by simp only [↓af,bq,simprocAttr]<;>rfl,by omega,fun q ar=>by simp at ar⟩
   clear aU a8 bS bK;rintro r g ⟨aU,a8,bK,i,dT,aB,jG⟩;unfold OV;by_cases aN:i<l.length
   . have g0:((i:Int) < (l.length:Int))=True:=aqh (by omega);obtain ⟨b,off,cB,bQ,X,eR,ld,eW,_,_⟩:=aE.lX L (k:=.i64) aN;have d5:=ld g bK;have d0:=eW g bK;have ol:=eR.one;have cv:=fk aN (by unfold top at hle;omega);have ai:l[i] ∈ l:=aqC aN;have cu:=pS ai;by_cases cd:l[i].k<10
     . have ak:=EE (cs:=cs) ai (by
        have:¬10<=l[i].k:=by omega
        simp [fB,this])
       simp +contextual only [aU,a8,dT,aw,g0,bQ,d0,aqh cd,↓af,an,simprocAttr];rw [ak];exact ⟨rfl,bK⟩
     . by_cases cn:l[i].k>16
       . have ak:=EE (cs:=cs) ai (by
          have:¬l[i].k<=16:=by omega
          simp [fB,this])
         simp +contextual only [aU,a8,dT,aw,g0,bQ,d0,ap_ cd,aqh cn,↓af,an,simprocAttr];rw [ak];exact ⟨rfl,bK⟩
       . simp +contextual only [aU,a8,dT,aw,g0,bQ,d0,d5,ap_ cd,ap_ cn,↓af,an,simprocAttr];refine bF (L_ l[i].size l[i] (ap7 _) (by omega) _ g (X.ext bK)) ?_;rintro x g2 ⟨rfl,aH⟩;rw [tn (named:=dm) l[i].size l[i] (ap7 _) (by omega)];have jn:fB l[i]=l[i].may dm:=by
          have a:10<=l[i].k:=by omega
          have b:l[i].k<=16:=by omega
          simp [fB,a,b]
         cases hm:l[i].may dm with
         | false=>
           rw [hm] at jn;simp +contextual only [↓af,an,simprocAttr];rw [EE (cs:=cs) ai jn];exact ⟨rfl,bK.trans aH⟩
         | true=>
           rw [hm] at jn;simp +contextual only [aU,a8,dT,cv,↓af,an,simprocAttr];refine ⟨⟨bK.trans aH,i+1,rfl,aN,fun q ar=>?_⟩,by omega⟩;rw [take_one aN] at ar;rcases aq0.1 ar with ar | ar
           . exact jG q ar
           . rw [aqU] at ar;subst ar;exact jn
   . have g0:((i:Int) < (l.length:Int))=False:=ap_ (by omega);rw [aqt (by omega)] at jG;simp +contextual only [aU,a8,dT,aw,g0,↓af,an,simprocAttr];refine bF (V0 cs (b0 l) (by omega) l (ap7 _) jG cl v g (hy.ext bK) (L.ext bK)) ?_;rintro x g2 ⟨rfl,aH⟩;have he:=Rh aA jG;cases nU:dw cs (b0 l) l with
     | true=>
       rw [nU] at he;simp +contextual only [he,aqB,↓af,an,simprocAttr];exact bK.trans aH
     | false=>
       rw [nU] at he;simp +contextual only [he,aqd,aqD,↓af,an,simprocAttr];exact bK.trans aH
def nC:aE:=.mk 10 0 0 [] []
def gK (k:Nat):List aE:=List.replicate k nC
def eS (aq:cF):List aE->Option (List aE)
 | []=>none
 | p::q=>if e' p=true then some (gK aq.2.2.2.toNat++q) else if ch p=aq then some (p.l++q) else none
def fZ (aq:cF) (rows:List (List aE)):List (List aE):=rows.filterMap (eS aq)
def pM:List aE->Option (List aE)
 | []=>none
 | p::q=>if e' p=true then some q else none
def js (rows:List (List aE)):List (List aE):=rows.filterMap pM
def nM:List aE->Option aE
 | []=>none
 | p::_=>if e' p=true then none else some p
def ed (rows:List (List aE)):List aE:=rows.filterMap nM
def gy (rows:List (List aE)) (aq:cF):Bool:=(ed rows).any fun p=>decide (ch p=aq)
def EF:List UInt8:=[101,120,110]
def allM (cs:List b2) (p:aE):List cF × Bool:=
 if p.k=13\/p.k=15 then ([ch p],true) else if p.k=14 then ([(14,0,[],0),(14,1,[],0)],true) else if p.k=12 then ([],false) else
 ((cs.filter fun c=>decide (c.ty=fM cs p.s)).map fun c=>(16,0,c.name,(c.arg.length:Int)),!decide (fM cs p.s=EF))
def kc (cs:List b2):Option aE->List cF × Bool
 | none=>([],false)
 | some p=>allM cs p
def fC (vn:List aE->Option aE) (cs:List b2):Nat->List (List aE)->List aE->Bool
 | _,rows,[]=>rows.isEmpty
 | 0,_,_::_=>false
 | n+1,rows,p::q=>
   if e' p=true then
    if ((kc cs (vn (ed rows))).2&&(kc cs (vn (ed rows))).1.all (gy rows))=true then
     (kc cs (vn (ed rows))).1.any fun aq=>fC vn cs n (fZ aq rows) (gK aq.2.2.2.toNat++q)
    else fC vn cs n (js rows) q
   else fC vn cs n (fZ (ch p) rows) (p.l++q)
def iM (l:List aE):List (List aE):=l.map fun p=>[p]
section
variable [Lay] {B:Nat} {F G:aQ->Prop} {h ab:ag} {size:Nat} {es fg:List (List D)} {v w:V}
theorem Rz:∀(us:List (List V)) (es:List (List D)),us.length=es.length->(∀(i:Nat) (e:List D) (u:List V),es[i]? =some e->us[i]? =some u->cb F h e u)->eN us.flatten=true
 | [],_,_,_=>rfl
 | u::us,[],aw,_=>by simp at aw
 | u::us,e::es,aw,H=>by have aa:=(H 0 e u rfl rfl).eN;have ae:=Rz us es (by simpa using aw) fun i e u a b=>H (i+1) e u (by simpa using a) (by simpa using b);simp only [arc,akE,aa,ae,Bool.and_self]
theorem u_ (H:db B G h size es v) (L:bB F h size fg w) (ji:∀b,F b->G b/\¬v.a' b) (cu:1<=size) (cJ:B<=h.next) (hlen:(es.length+fg.length) * size<=top):
 ∃cQ ab,lF size v w h=.val cQ ab/\db B G ab size (es++fg) cQ/\Mod v.a' h ab/\∀b,cQ.a' b->v.a' b\/h.next<=ck b:=by
 obtain ⟨us,a,b,c,d⟩:=H.ex;obtain ⟨WR,a2,b1,b6,d2⟩:=L.ex;obtain ⟨cQ,ab,al,au,aJ,bE⟩:=ye cu a a2 cJ hlen (Rz WR fg b1 d2)
 have fc:∀b,(G b/\¬v.a' b)->Old h b->¬v.a' b/\(G b/\¬cQ.a' b):=fun b q o=>⟨q.2,q.1,fun z=>by
  rcases bE b z with z | z
  . exact q.2 z
  . unfold Old at o;omega⟩
 refine ⟨cQ,ab,al,⟨us++WR,?_,by simp [b,b1],?_,?_⟩,aJ,bE⟩
 . rw [aqi,List.flatten_append];exact au
 . intro u hu;rcases aq0.1 hu with hu | hu
   . exact c u hu
   . exact b6 u hu
 . intro i e u ax aH;by_cases aB:i<es.length
   . rw [aqq aB] at ax;rw [aqq (by omega)] at aH;exact (d i e u ax aH).mod aJ fc
   . rw [aqk (by omega)] at ax;rw [aqk (by omega),b] at aH;exact (d2 _ e u ax aH).mod aJ fun b q o=>fc b (ji b q) o
theorem NG (F:aQ->Prop) (h:ag):cb F h nC.enc [.int .i64 10,.int .i64 0,.int .i64 0,.str [],.bL]:=by unfold nC;rw [xn];exact .i (.i (.i (.s (arj _) ((bB.nil _ _ _).cons .nil))))
end
theorem MO (k:Nat):gK (k+1)=gK k++[nC]:=List.replicate_succ'
theorem ad8 (a b:cF):(eK.other .neq 111).run Tryz.prog (ef a) (ef b)=some (.bool (!decide (a=b))):=by
 obtain ⟨cd,cg,s1,eA⟩:=a;obtain ⟨cn,dv,s2,gk⟩:=b;have form:(eK.other .neq 111).run Tryz.prog (.agg [.int .i64 cd,.int .i64 cg,.str s1,.int .i64 eA]) (.agg [.int .i64 cn,.int .i64 dv,.str s2,.int .i64 gk])=
  (match (match iC.run (.int .i64 cd) (.int .i64 cn) with
    | none=>none
    | some bM=>bif bM then (match iC.run (.int .i64 cg) (.int .i64 dv) with
      | none=>none
      | some b1=>bif b1 then (match kb.run (.str s1) (.str s2) with
        | none=>none
        | some dR=>bif dR then (match iC.run (.int .i64 eA) (.int .i64 gk) with
          | none=>none
          | some gD=>bif gD then some true else some false) else some false) else some false) else some false) with
  | some q=>some (.bool (!q))
  | none=>none):=by kernel_rfl
 simp only [ef,form,z8,z7,aq9];by_cases c:cd=cn
 . by_cases d:cg=dv
   . by_cases e:s1=s2
     . by_cases f:eA=gk
       . simp [c,d,e,f]
       . simp [c,d,e,f]
     . simp [c,d,e]
   . simp [c,d]
 . simp [c]
theorem se [Lay] {F:aQ->Prop} {h:ag} {p:aE} {q:List aE} {v:V} (L:bB F h 5 ((p::q).map aE.enc) v):
 ∃b off w,hG 5 v (.int .i64 0)=some (.ptr b off)/\cb F h p.enc (dS p w)/\bB F h 5 (p.l.map aE.enc) w/\∀ab,Ext h ab->nj 5 (ab.get b) off=some (.agg (dS p w)):=by
 obtain ⟨b,off,w,ax,aH,bA,b5,_⟩:=aE.lX (l:=p::q) L (k:=.i64) (i:=0) (by simp);simp only [asm,aro,List.getElem_cons_zero] at ax aH bA b5;exact ⟨b,off,w,ax,aH,bA,b5⟩
theorem z1 [Lay] {F:aQ->Prop} {h:ag} {p:aE} {q:List aE} {v:V} (L:bB F h 5 ((p::q).map aE.enc) v):∃cQ,hr 5 v (some (.int .i64 1)) none none=some cQ/\bB F h 5 (q.map aE.enc) cQ:=by obtain ⟨cQ,a,b⟩:=L.drop (k:=.i64) (i:=1) (by simp);exact ⟨cQ,a,by simpa using b⟩
theorem HV (row:List aE) (cK:row≠[]) (hlen:row.length<=1000000000) (aq:cF) (k:Nat) (aA:aq.2.2.2=(k:Int)) (mo:k<=1000000000) (F:aQ->Prop) (v:V) (h:ag) (ji:∀b,F b->Old h b) (L:bB F h 5 (row.map aE.enc) v) (wQ:∀p ∈ row,p.l.length<=1000000000):
 cr Tryz.prog 74 [v,ef aq] h fun x ab=>∃cQ,x=.tuple [cQ,.bool (eS aq row).isSome]/\bB (fun b=>F b\/lC h b) ab 5 (((eS aq row).getD []).map aE.enc) cQ/\Ext h ab:=by
 obtain ⟨p,q,rfl⟩:=aqW cK;have j2:aq.2.2.2.toNat=k:=by rw [aA];rfl
 obtain ⟨jC,gz,aC,i0,hA,pd,eW⟩:=se L;obtain ⟨q6,t1,T⟩:=z1 L;have ol:=pd.one;simp only [aqb] at hlen;refine aaa.z rfl (cm ?_);unfold PI;simp only [ef];obtain ⟨aa,al,ax,H1⟩:=gb h [.int .i64 aq.1,.int .i64 aq.2.1,.str aq.2.2.1,.int .i64 aq.2.2.2];have cg:aa.next=h.next+1:=by rw [<-al];rfl
 have d0:=eW aa ax;obtain ⟨ae,au,aH,o_⟩:=gE aa z5 (dS p aC);have cf:=H1.ext aH;simp +contextual only [al,i0,d0,ol.1,ol.2.1,au,o_.g,cf.g,↓af,an,simprocAttr];refine bF (Dc p _ ae (((hA.e3 fun _ _=>trivial).ext ax).ext aH)) ?_;rintro x aM ⟨rfl,bA⟩;have oq:=o_.ext bA;have jA:=cf.ext bA;have lI:=(ax.trans aH).trans bA;have n3:=lI.next
 have xa:∀{xN:V},(∀b,xN.a' b->h.next<=ck b)->∀b,F b->F b/\¬xN.a' b:=fun {xN} ak b z=>⟨z,fun y=>by have:=ak b y;have:=ji b z;unfold Old at this;omega⟩;cases hw:e' p with
 | true=>
   have gN:eS aq (p::q)=some (gK k++q):=by simp only [eS,hw,aqB,j2]
   rw [gN];simp +contextual only [jA.g,aA,↓af,an,simprocAttr];refine ek (fun r g=>r 0=v/\r 19=.int .i64 k/\Ext h g/\∃(i:Nat) (dW:V),r 20=.int .i64 i/\i<=k/\r 6=dW/\db h.next F g 5 ((gK i).map aE.enc) dW) (fun r g=>k - (r 20).toN) ?_ ?_
   . exact ⟨by simp only [↓af,bq,simprocAttr],by simp only [↓af,bq,simprocAttr],lI,0,.bL,by simp only [↓af,bq,simprocAttr]<;>rfl,by omega,by simp only [↓af,bq,simprocAttr],db.nil _ _ _ _⟩
   rintro r g ⟨aU,zR,bK,i,dW,VD,aB,cz,da⟩;unfold PJ;have n5:=bK.next
   by_cases aN:i<k
   . have g0:((i:Int) < (k:Int))=True:=aqh (by omega);have cv:=fk aN (by omega);obtain ⟨iN,g2,bC,a2,a3,a4,a5⟩:=da.add (NG (fun b=>F b/\¬dW.a' b) g) (by omega) n5 (by rw [ap6,gK,ap9];unfold top;omega) rfl;simp +contextual only [aU,zR,VD,cz,g0,bC,cv,↓af,an,simprocAttr];refine ⟨⟨bK.fp a3 fun b z=>da.base z,i+1,iN,rfl,aN,rfl,?_⟩,by omega⟩;rw [MO,aqS];exact a2
   . have g0:((i:Int) < (k:Int))=False:=ap_ (by omega);obtain rfl:i=k:=by omega
     obtain ⟨iN,g2,bC,a2,a3,a4⟩:=u_ da (T.ext bK) (xa fun b z=>da.base z) (by omega) n5 (by simp only [ap6,gK,ap9];unfold top;omega);simp +contextual only [aU,zR,VD,cz,g0,t1,bC,↓af,an,simprocAttr];rw [<-aqS] at a2;refine ⟨_,rfl,a2.ea ?_ (fun _ z=>.inl z) (fun _ z=>.inr z),bK.fp a3 fun b z=>da.base z⟩;rw [ap6,aqi,gK,ap9];unfold top;omega
 | false=>
   simp +contextual only [oq.g,jA.g,↓af,an,simprocAttr];refine bF (yQ p _ aM ((((hA.e3 fun _ _=>trivial).ext ax).ext aH).ext bA)) ?_;rintro x bw ⟨rfl,b5⟩;have ud:=oq.ext b5;have p3:=jA.ext b5;have mR:=lI.trans b5;have aW:=ad8 (ch p) aq;simp only [ef] at aW;simp only [ef];by_cases a_:ch p=aq
   . have gN:eS aq (p::q)=some (p.l++q):=by simp only [eS,hw,aqd,aqD,a_,aqB]
     rw [gN];rw [aqH a_] at aW;have n4:=mR.next
     have du:=wQ p aqy;obtain ⟨dW,cw,bC,a2,a3,a4⟩:=u_ (db.nil h.next F bw 5) (pd.ext mR) (xa fun b z=>z.elim) (by omega) n4 (by simp only [ap6,aqN];unfold top;omega);rw [aq8] at a2;have cW:Ext h cw:=mR.fp a3 fun b z=>z.elim;obtain ⟨iN,e_,bM,b1,dR,gD⟩:=u_ a2 (T.ext cW) (xa fun b z=>a2.base z) (by omega) cW.next (by simp only [ap6];unfold top;omega)
     simp +contextual only [aW,oq.g,ud.g,jA.g,p3.g,bC,bM,t1,ar4,↓af,an,simprocAttr];rw [<-aqS] at b1;refine ⟨_,rfl,b1.ea ?_ (fun _ z=>.inl z) (fun _ z=>.inr z),cW.fp dR fun b z=>a2.base z⟩;rw [ap6,aqi];unfold top;omega
   . have gN:eS aq (p::q)=none:=by simp only [eS,hw,aqd,aqD,a_]
     rw [gN];rw [aqJ a_] at aW;simp +contextual only [aW,oq.g,ud.g,jA.g,p3.g,asf,↓af,an,simprocAttr];exact ⟨_,rfl,bB.nil _ _ _,mR⟩
def hd (row:List aE):List D:=[.l 5 (row.map aE.enc)]
theorem xB [Lay] {F:aQ->Prop} {h:ag} {rows:List (List aE)} {v:V} (L:bB F h 1 (rows.map hd) v) {i:Nat} (aB:i<rows.length):
 ∃b off w,hG 1 v (.int .i64 i)=some (.ptr b off)/\bB F h 5 (rows[i].map aE.enc) w/\∀ab,Ext h ab->gX (ab.get b) off=some w:=by
 obtain ⟨b,off,u,ax,aH,bA,_,cW⟩:=L.at (k:=.i64) (i:=i) (by rw [ap6];exact aB);rw [arV,hd] at aH;obtain ⟨w,us,rfl,S,e7⟩:=aH.ea;obtain rfl:=e7.no;exact ⟨b,_,w,ax,S,fun ab e=>by simpa using cW ab e 0 (by omega)⟩
theorem zZ [Lay] {F:aQ->Prop} {h:ag} {row:List aE} {w:V} (S:bB F h 5 (row.map aE.enc) w):cb F h (hd row) [w]:=S.cons .nil
theorem G2 (aq:cF) (rows:List (List aE)) (r:List aE):fZ aq (rows++[r])=fZ aq rows++(match eS aq r with
 | some x=>[x]
 | none=>[]):=by
 unfold fZ;rw [arT];congr 1;cases h:eS aq r<;>simp [h]
theorem FU (rows:List (List aE)) (r:List aE):js (rows++[r])=js rows++(match pM r with
 | some x=>[x]
 | none=>[]):=by
 unfold js;rw [arT];congr 1;cases h:pM r<;>simp [h]
structure vT (k:Nat) (rows:List (List aE)):Prop where
 len:∀r ∈ rows,r.length=k
 la:∀r ∈ rows,∀p ∈ r,p.l.length<=1000000000
 num:rows.length<=1000000000
 sm:k<=1000000000
theorem Wn (rows:List (List aE)) (m:Nat) (hm:0<m) (O:vT m rows) (aq:cF) (k:Nat) (aA:aq.2.2.2=(k:Int)) (mo:k<=1000000000) (v:V) (h:ag) (L:bB Any h 1 (rows.map hd) v):
 cr Tryz.prog 75 [v,ef aq] h fun x ab=>bB Any ab 1 ((fZ aq rows).map hd) x/\Ext h ab:=by
 have aw:=L.len;rw [ap6] at aw;have y2:=O.num;refine aab.z rfl (cm ?_);unfold PK;simp only [ef];obtain ⟨aa,al,ax,H1⟩:=gb h [.int .i64 aq.1,.int .i64 aq.2.1,.str aq.2.2.1,.int .i64 aq.2.2.2];have cg:aa.next=h.next+1:=by rw [<-al];rfl
 simp +contextual only [al,aw,↓af,an,simprocAttr];refine ek (fun r g=>r 3=.ptr (aG h.next) 0/\r 10=v/\r 11=.int .i64 rows.length/\Ext h g/\Has g h.next [.int .i64 aq.1,.int .i64 aq.2.1,.str aq.2.2.1,.int .i64 aq.2.2.2]/\∃(i:Nat) (dW:V),r 12=.int .i64 i/\i<=rows.length/\aa.next<=g.next/\r 5=dW/\db aa.next Any g 1 ((fZ aq (rows.take i)).map hd) dW) (fun r g=>rows.length - (r 12).toN) ?_ ?_
 . exact ⟨by simp only [↓af,bq,simprocAttr],by simp only [↓af,bq,simprocAttr],by simp only [↓af,bq,simprocAttr],ax,H1,0,.bL,by simp only [↓af,bq,simprocAttr]<;>rfl,by omega,ap7 _,by simp only [↓af,bq,simprocAttr],db.nil _ _ _ _⟩
 rintro r g ⟨bP,dK,fr,bK,H,i,dW,hX,aB,J8,bS,da⟩;unfold PL;by_cases aN:i<rows.length
 . have g0:((i:Int) < (rows.length:Int))=True:=aqh (by omega);obtain ⟨b,off,w,bQ,S,ld⟩:=xB L.kk aN;have d1:=ld g bK;have cv:=fk aN (by omega);have h9:rows[i] ∈ rows:=aqC aN;have hF:=O.len _ h9;have oJ:=O.sm;simp +contextual only [bP,dK,fr,hX,bS,g0,bQ,d1,H.g,↓af,an,simprocAttr];refine bF (HV rows[i] (fun z=>by rw [z] at hF;simp at hF;omega) (by omega) aq k aA mo (Old h) w g (fun b z=>bK.bY z) (S.ext bK) (O.la _ h9)) ?_;rintro x g2 ⟨w',rfl,iA,aH⟩;have mc:=da.ext aH;have cf:=H.ext aH;have dv:aa.next<=g2.next:=aqK J8 aH.next
   have fq:=iA.one;have hh:(fZ aq (rows.take i)).length<=rows.length:=aqK (aqO _ _) (by rw [aqw];omega);cases gN:eS aq rows[i] with
   | none=>
     simp +contextual only [bP,dK,fr,hX,bS,cv,Option.isSome_none,↓af,an,simprocAttr];refine ⟨⟨bK.trans aH,cf,i+1,dW,rfl,aN,dv,rfl,?_⟩,by omega⟩;rw [aqn aN,G2,gN,aq7];exact mc
   | some x=>
     rw [gN,aqL] at iA
     obtain ⟨iN,g3,bC,a2,a3,a4,a5⟩:=mc.add (ds:=hd x) (cs:=[w']) (zZ (iA.e3 fun b z=>⟨trivial,fun y=>by
      have ak:=da.base y;have aY:=da.tu y;rcases z with z | z
      . unfold Old at z;omega
      . unfold lC at z;unfold Old at aY;omega⟩)) (by omega) dv (by rw [ap6];unfold top;omega) rfl
     simp +contextual only [bP,dK,fr,hX,bS,cv,fq.1,fq.2.1,fq.2.2,bC,aqB,arD,↓af,an,simprocAttr];refine ⟨⟨(bK.trans aH).fp a3 fun b z=>by have:=da.base z;omega,cf.mod a3 (fun z=>by have:=da.base z;rw [dx] at this;omega),i+1,iN,rfl,aN,by omega,rfl,?_⟩,by omega⟩;rw [aqn aN,G2,gN,aqS];exact a2
 . have g0:((i:Int) < (rows.length:Int))=False:=ap_ (by omega);rw [aqt (by omega)] at da;have hh:(fZ aq rows).length<=rows.length:=aqO _ _;simp +contextual only [bP,dK,fr,hX,bS,g0,↓af,an,simprocAttr];exact ⟨da.ea (by rw [ap6];unfold top;omega) (fun _ _=>trivial) (fun _ _=>trivial),bK⟩
theorem XW [Lay] {F:aQ->Prop} {h:ag} {size:Nat} {es:List (List D)} {b:aQ} {off n c fT:Nat} (H:bB F h size es (.slice b off n c)) (av:n<=fT):bB F h size es (.slice b off n fT):=by obtain ⟨us,bC,a2,a3,a4⟩:=H.ex;exact ⟨fun _ _ _ _ e=>(by cases e;exact av),H.le,⟨us,⟨bC.1,bC.2⟩,a2,a3,a4⟩,fun x q=>H.uA x q⟩
theorem XX [Lay] {F:aQ->Prop} {h:ag} {size:Nat} {es:List (List D)} {b:aQ} {off n idx fT:Nat} (H:bB F h size es (.ee b off n idx)) (av:n<=fT):bB F h size es (.slice b off n fT):=by obtain ⟨us,bC,a2,a3,a4⟩:=H.ex;exact ⟨fun _ _ _ _ e=>(by cases e;exact av),H.le,⟨us,⟨bC.1,bC.2⟩,a2,a3,a4⟩,fun x q=>H.uA x q⟩
theorem akn [Lay] {F:aQ->Prop} {h:ag} {size:Nat} {es:List (List D)} {v:V} (L:bB F h size es v) {i:Nat} (aB:i<es.length):
 ∃cQ,hr size v (some (.int .i64 i)) (some (.int .i64 ((i+1:Nat):Int))) (some (.int .i64 ((i+1:Nat):Int)))=some cQ/\bB F h size [es[i]] cQ:=by
 obtain ⟨cQ,al,au⟩:=L.cut (k:=.i64) (bs:=.i64) (bu:=i) (aB:=i+1) (by omega) (by omega) (some (.int .i64 i)) (some (.int .i64 ((i+1:Nat):Int))) (.inl rfl) (.inl rfl);have e:(es.drop i).take (i+1-i)=[es[i]]:=by rw [arA,aqz aB];rfl
 rw [e] at au;obtain ⟨us,bT,_⟩:=L.ex;have bN:=bT.2;have bM:∀d y,i<=y->bound (some (V.int .i64 (i:Int))) d y=some i:=fun d y z=>uo z;have b1:∀d y,i+1<=y->bound (some (V.int .i64 ((i+1:Nat):Int))) d y=some (i+1):=fun d y z=>uo z;cases v<;>simp only at bN<;>first | omega | (exact bN.elim) | skip
 case slice b off tj cap=>
  obtain ⟨rfl,_⟩:=bN;have aD:=L.room _ _ _ _ rfl;have cg:Nat.beq cap i=false:=by rw [<-aqF,aqE];omega
  have dv:Nat.beq (i+1) i=false:=by rw [<-aqF,aqE];omega
  simp only [hr,q0,bM _ _ (show i<=i+1 by omega),b1 _ _ (show i+1<=cap by omega),b1 _ _ (ap7 _),cg,dv,aqe,ap3,arA] at al ⊢;subst al;exact ⟨_,rfl,XW au (ap7 _)⟩
 case ee b off tj idx=>
  obtain ⟨rfl,_⟩:=bN;have cg:Nat.blt i es.length=true:=by rw [aqA];exact aB
  have dv:Nat.beq (i+1) i=false:=by rw [<-aqF,aqE];omega
  simp only [hr,sf,bM _ _ (show i<=i+1 by omega),b1 _ _ (show i+1<=es.length by omega),b1 _ _ (ap7 _),cg,dv,ap8,aqe,ap3,arA] at al ⊢;subst al;exact ⟨_,rfl,XX au (ap7 _)⟩
theorem We (l:List aE) (p:aE):iM (l++[p])=iM l++[[p]]:=by simp [iM]
theorem amI (l:List aE) (hi:l.length<=1000000000) (v:V) (h:ag) (L:bB Any h 5 (l.map aE.enc) v):cr Tryz.prog 48 [v] h fun x ab=>bB Any ab 1 ((iM l).map hd) x/\Ext h ab:=by
 have aw:=L.len;rw [ap6] at aw;refine ZW.z rfl (cm ?_);unfold O9;simp +contextual only [aw,↓af,an,simprocAttr];refine ek (fun r g=>r 0=v/\r 6=.int .i64 l.length/\Ext h g/\∃(i:Nat) (dW:V),r 7=.int .i64 i/\i<=l.length/\r 3=dW/\db h.next (Old h) g 1 ((iM (l.take i)).map hd) dW) (fun r g=>l.length - (r 7).toN) ?_ ?_
 . exact ⟨by simp only [↓af,bq,simprocAttr],by simp only [↓af,bq,simprocAttr],Ext.refl h,0,.bL,by simp only [↓af,bq,simprocAttr]<;>rfl,by omega,by simp only [↓af,bq,simprocAttr],db.nil _ _ _ _⟩
 rintro r g ⟨aU,cz,bK,i,dW,dT,aB,bP,da⟩;unfold O';by_cases aN:i<l.length
 . have g0:((i:Int) < (l.length:Int))=True:=aqh (by omega);have cv:=fk aN (by omega);obtain ⟨w,s1,S⟩:=akn (L.kk.ext bK) (i:=i) (by rw [ap6];exact aN);rw [arV] at S;have fq:=S.one;have iA:bB (Old h) g 5 ([l[i]].map aE.enc) w:=S;obtain ⟨iN,g3,bC,a2,a3,a4,a5⟩:=da.add (ds:=hd [l[i]]) (cs:=[w]) (zZ (iA.e3 fun b z=>⟨z,fun y=>by have:=da.base y;unfold Old at z;omega⟩)) (by omega) bK.next (by rw [ap6,iM,ap6,aqw];unfold top;omega) rfl
   simp +contextual only [aU,cz,dT,bP,g0,cv,s1,fq.1,fq.2.1,fq.2.2,aqB,bC,↓af,an,simprocAttr];refine ⟨⟨bK.fp a3 fun b z=>da.base z,i+1,iN,rfl,aN,rfl,?_⟩,by omega⟩;rw [take_one aN,We,aqS];exact a2
 . have g0:((i:Int) < (l.length:Int))=False:=ap_ (by omega);rw [aqt (by omega)] at da;simp +contextual only [aU,cz,dT,bP,g0,↓af,an,simprocAttr];exact ⟨da.ea (by rw [ap6,iM,ap6];unfold top;omega) (fun _ _=>trivial) (fun _ _=>trivial),bK⟩
theorem aiY (rows:List (List aE)) (m:Nat) (hm:0<m) (O:vT m rows) (v:V) (h:ag) (L:bB Any h 1 (rows.map hd) v):
 cr Tryz.prog 78 [v] h fun x ab=>bB Any ab 1 ((js rows).map hd) x/\Ext h ab:=by
 have aw:=L.len;rw [ap6] at aw;have y2:=O.num;refine aae.z rfl (cm ?_);unfold PR;simp +contextual only [aw,↓af,an,simprocAttr];refine ek (fun r g=>r 6=v/\r 7=.int .i64 rows.length/\Ext h g/\∃(i:Nat) (dW:V),r 8=.int .i64 i/\i<=rows.length/\r 3=dW/\db h.next (Old h) g 1 ((js (rows.take i)).map hd) dW) (fun r g=>rows.length - (r 8).toN) ?_ ?_
 . exact ⟨by simp only [↓af,bq,simprocAttr],by simp only [↓af,bq,simprocAttr],Ext.refl h,0,.bL,by simp only [↓af,bq,simprocAttr]<;>rfl,by omega,by simp only [↓af,bq,simprocAttr],db.nil _ _ _ _⟩
 rintro r g ⟨cz,dT,bK,i,dW,cZ,aB,bP,da⟩;unfold PS;by_cases aN:i<rows.length
 . have g0:((i:Int) < (rows.length:Int))=True:=aqh (by omega);obtain ⟨b,off,w,bQ,S,ld⟩:=xB L.kk aN;have d1:=ld g bK;have cv:=fk aN (by omega);have hF:=O.len _ (aqC aN);have hR:rows.take (i+1)=rows.take i++[rows[i]]:=aqn aN;generalize rows[i]=row at S hF hR;obtain ⟨p,q,rfl⟩:=aqW (show row≠[] from fun z=>by rw [z] at hF;simp at hF;omega);obtain ⟨jC,gz,aC,i0,hA,pd,eW⟩:=se (S.ext bK);obtain ⟨q6,t1,T⟩:=z1 (S.ext bK);have d5:=eW g (Ext.refl g);have fq:=T.one;simp +contextual only [cz,dT,cZ,bP,g0,bQ,d1,i0,d5,↓af,an,simprocAttr];refine bF (Dc p _ g (hA.e3 fun _ _=>trivial)) ?_;rintro x g2 ⟨rfl,aH⟩;have mc:=da.ext aH;have dv:=(bK.trans aH).next
   have hh:(js (rows.take i)).length<=rows.length:=aqK (aqO _ _) (by rw [aqw];omega);cases hw:e' p with
   | false=>
     simp +contextual only [cz,dT,cZ,bP,cv,↓af,an,simprocAttr];refine ⟨⟨bK.trans aH,i+1,dW,rfl,aN,rfl,?_⟩,by omega⟩;rw [hR,FU];simp only [pM,hw,aqd,aqD,aq7];exact mc
   | true=>
     obtain ⟨iN,g3,bC,a2,a3,a4,a5⟩:=mc.add (ds:=hd q) (cs:=[q6]) (zZ ((T.ext aH).e3 fun b z=>⟨z,fun y=>by have:=da.base y;unfold Old at z;omega⟩)) (by omega) dv (by rw [ap6];unfold top;omega) rfl;simp +contextual only [cz,dT,cZ,bP,cv,t1,fq.1,fq.2.1,fq.2.2,aqB,bC,↓af,an,simprocAttr];refine ⟨⟨(bK.trans aH).fp a3 fun b z=>da.base z,i+1,iN,rfl,aN,rfl,?_⟩,by omega⟩;rw [hR,FU];simp only [pM,hw,aqB,aqS];exact a2
 . have g0:((i:Int) < (rows.length:Int))=False:=ap_ (by omega);rw [aqt (by omega)] at da;have hh:(js rows).length<=rows.length:=aqO _ _;simp +contextual only [cz,dT,cZ,bP,g0,↓af,an,simprocAttr];exact ⟨da.ea (by rw [ap6];unfold top;omega) (fun _ _=>trivial) (fun _ _=>trivial),bK⟩
theorem ER (rows:List (List aE)) (r:List aE):ed (rows++[r])=ed rows++(match nM r with
 | some x=>[x]
 | none=>[]):=by
 unfold ed;rw [arT];congr 1;cases h:nM r<;>simp [h]
theorem jz.length {κ:Type} {dF:κ->V}:∀{aV:List (κ × V)} {es:List ca},jz dF aV es->es.length=aV.length
 | [],[],_=>rfl
 | p::aV,m::es,H=>by simp [jz.length H.2.2]
 | [],_::_,H=>H.elim
 | _::_,[],H=>H.elim
theorem ajv [Lay] {κ:Type} {dF:κ->V} {h:ag} {b:aQ} {aV:List (κ × V)} (H:hz dF h b aV):xc [.map b] h=.val (.int .i64 aV.length) h:=by obtain ⟨es,clock,al,au,aJ⟩:=H.ex;simp only [xc,pO,al,b8.hU,jz.length au]
structure vN (rows:List (List aE)) (h:ag) (gx:Nat):Prop where
 ex:∃aV,hz ef h (aG gx) aV/\(∀aq,ev aq aV=if gy rows aq=true then some (.bool true) else none)/\(aV=[]↔ed rows=[])
theorem vN.ext [Lay] {rows:List (List aE)} {h ab:ag} {gx:Nat} (H:vN rows h gx) (e:Ext h ab):vN rows ab gx:=by obtain ⟨aV,al,au,aJ⟩:=H.ex;exact ⟨aV,al.ext e,au,aJ⟩
theorem vN.look [Lay] {rows:List (List aE)} {h:ag} {gx:Nat} (H:vN rows h gx) (aq:cF):hI (structEq Tryz.prog 111) (.bool false) false h (.map (aG gx)) (ef aq)=some (.bool (gy rows aq)):=by obtain ⟨aV,al,au,aJ⟩:=H.ex;rw [al.look BB,au];cases gy rows aq<;>rfl
theorem alm {κ:Type} [DecidableEq κ] (s:κ) (x:V):∀aV:List (κ × V),jt s x aV≠[]
 | []=>by simp [jt]
 | (n,a)::aV=>by
   simp only [jt]
   split<;>simp
def vP (h:ag):Option aE->List V->Prop
 | some p,cs=>∃w,cs=dS p w/\cb Any h p.enc cs
 | none,cs=>cs=z5
theorem vP.ext [Lay] {h ab:ag} {o:Option aE} {cs:List V} (H:vP h o cs) (e:Ext h ab):vP ab o cs:=by
 cases o with
 | none=>exact H
 | some p=>obtain ⟨w,a,b⟩:=H;exact ⟨w,a,b.ext e⟩
theorem vP.form [Lay] {h:ag} {o:Option aE} {cs:List V} (H:vP h o cs):∃(k n a:Int) (s:List UInt8) (w:V),cs=[.int .i64 k,.int .i64 n,.int .i64 a,.str s,w]/\w.one=true/\w.cells=[w]:=by
 cases o with
 | none=>exact ⟨0,0,0,[],.bL,H,rfl,rfl⟩
 | some p=>
   obtain ⟨w,rfl,b⟩:=H;obtain ⟨cB,e,L,_⟩:=aE.open b;simp only [dS,List.cons.injEq,and_true,true_and] at e;subst e;exact ⟨p.k,p.n,p.a,p.s,w,rfl,L.one.1,L.one.2.1⟩
theorem aec (rows:List (List aE)) (m:Nat) (hm:0<m) (O:vT m rows) (v:V) (h:ag) (L:bB Any h 1 (rows.map hd) v):
 cr Tryz.prog 76 [v] h fun x ab=>∃gx cs,x=.tuple [.map (aG gx),.agg cs,.bool (!decide (ed rows=[]))]/\vN rows ab gx/\vP ab (ed rows).getLast? cs/\Ext h ab:=by
 have aw:=L.len;rw [ap6] at aw;have y2:=O.num;refine aac.z rfl (cm ?_);unfold PM;obtain ⟨aa,al,ax,DQ⟩:=gb h z5;have cg:aa.next=h.next+1:=by rw [<-al];rfl
 obtain ⟨ae,au,aH,DG⟩:∃H,aa.new (.mp [] 0)=H/\Ext aa H/\hz ef H (aG aa.next) []:=⟨_,rfl,(Ext.refl aa).new _,hz.new _ aa⟩;have dv:ae.next=aa.next+1:=by rw [<-au];rfl
 obtain ⟨aM,aJ,bA,j9⟩:=gb ae z5;have n3:aM.next=ae.next+1:=by rw [<-aJ];rfl
 simp +contextual only [al,au,aJ,aw,r5,tq,aX.opt,↓af,an,simprocAttr];refine ek (fun r g=>r 3=.ptr (aG h.next) 0/\r 5=.map (aG aa.next)/\r 6=.ptr (aG ae.next) 0/\r 10=v/\r 11=.int .i64 rows.length/\Ext h g/\aM.next<=g.next/\Has g h.next z5/\∃(i:Nat) (cs:List V),r 12=.int .i64 i/\i<=rows.length/\vN (rows.take i) g aa.next/\Has g ae.next cs/\vP h (ed (rows.take i)).getLast? cs) (fun r g=>rows.length - (r 12).toN) ?_ ?_
 . exact ⟨by simp only [↓af,bq,simprocAttr],by simp only [↓af,bq,simprocAttr],by simp only [↓af,bq,simprocAttr],by simp only [↓af,bq,simprocAttr],by simp only [↓af,bq,simprocAttr],(ax.trans aH).trans bA,ap7 _,(DQ.ext aH).ext bA,0,z5,by simp only [↓af,bq,simprocAttr]<;>rfl,by omega,⟨[],DG.ext bA,fun aq=>rfl,by simp [ed]⟩,j9,rfl⟩
 rintro r g ⟨bP,bS,cz,dK,fr,bK,n5,mN,i,cs,hX,aB,M,B,ub⟩;unfold PN;by_cases aN:i<rows.length
 . have g0:((i:Int) < (rows.length:Int))=True:=aqh (by omega);obtain ⟨b,off,w,bQ,S,ld⟩:=xB L aN;have d1:=ld g bK;have cv:=fk aN (by omega);have hF:=O.len _ (aqC aN);have hR:rows.take (i+1)=rows.take i++[rows[i]]:=aqn aN;generalize rows[i]=row at S hF hR;obtain ⟨p,q,rfl⟩:=aqW (show row≠[] from fun z=>by rw [z] at hF;simp at hF;omega);obtain ⟨jC,gz,aC,i0,hA,pd,eW⟩:=se S;have d5:=eW g bK;have ol:=pd.one;simp +contextual only [bP,bS,cz,dK,fr,hX,g0,bQ,d1,i0,d5,↓af,an,simprocAttr];refine bF (Dc p _ g (hA.ext bK)) ?_;rintro x g2 ⟨rfl,b5⟩;have mh:=bK.trans b5;have Nz:=mN.ext b5;have M2:=M.ext b5;have ha:=B.ext b5;have d52:=eW g2 mh;have n4:=b5.next
   cases hw:e' p with
   | true=>
     have wI:ed (rows.take (i+1))=ed (rows.take i):=by rw [hR,ER];simp only [nM,hw,aqB,aq7]
     simp +contextual only [bP,bS,cz,dK,fr,hX,cv,↓af,an,simprocAttr];refine ⟨⟨mh,by omega,Nz,i+1,cs,rfl,aN,?_,ha,?_⟩,by omega⟩
     . obtain ⟨aV,bC,a2,a3⟩:=M2.ex;exact ⟨aV,bC,fun aq=>by rw [a2];unfold gy;rw [wI],by rw [wI];exact a3⟩
     . rw [wI];exact ub
   | false=>
     have wI:ed (rows.take (i+1))=ed (rows.take i)++[p]:=by rw [hR,ER];simp only [nM,hw,aqd,aqD]
     obtain ⟨bW,b6,c3,fU,c5,hD,E7,Sg⟩:=ub.form;subst hD;obtain ⟨g3,bE,M0⟩:∃G,g2.set (aG ae.next) (.bU (dS p aC) 0 false)=G/\Has G ae.next (dS p aC):=⟨_,rfl,ha.put _⟩
     have HE:Mod (fun b=>b=aG ae.next) g2 g3:=by rw [<-bE];exact (Mod.refl (fun b=>b=aG ae.next) g2).set (fun _=>rfl) _
     have F5:g3.next=g2.next:=by rw [<-bE];rfl
     have nH:Ext h g3:=mh.fp HE fun b z=>by rw [show b=aG ae.next from z,dx];omega
     have XT:=Nz.mod HE (fun z=>by have:=gZ z;omega);simp +contextual only [bP,bS,cz,dK,fr,hX,d1,i0,d52,ol.1,ol.2.1,ha.g,bE,M0.g,↓af,an,simprocAttr];refine bF (yQ p _ g3 (hA.ext nH)) ?_;rintro x g4 ⟨rfl,cW⟩;have n6:=cW.next
     obtain ⟨aV,bC,a2,a3⟩:=M2.ex;have XA:=(bC.mod HE (fun z=>by have:=gZ z;omega)).ext cW;obtain ⟨g5,bM,b1,dR,gD⟩:=XA.q5 BB (ch p) (.bool true);have lq:=E' (ch p);simp only [ef] at bM lq;simp +contextual only [ef,bP,bS,cz,dK,fr,hX,cv,bM,lq,ap8,↓o2,↓af,an,simprocAttr];refine ⟨⟨(nH.trans cW).fp dR fun b z=>by rw [show b=aG aa.next from z,dx];omega,by omega,(XT.ext cW).mod dR (fun z=>by have:=gZ z;omega),i+1,_,rfl,aN,⟨_,b1,fun aq=>?_,?_⟩,(M0.ext cW).mod dR (fun z=>by have:=gZ z;omega),?_⟩,by omega⟩
     . rw [K1,a2];unfold gy;rw [wI,List.any_append];by_cases c:aq=ch p
       . subst c;simp
       . simp [c,Ne.symm c]
     . rw [wI];exact ⟨fun z=>absurd z (alm _ _ _),fun z=>by simp at z⟩
     . rw [wI,List.getLast?_append];exact ⟨aC,rfl,hA⟩
 . have g0:((i:Int) < (rows.length:Int))=False:=ap_ (by omega);rw [aqt (by omega)] at M ub;obtain ⟨bW,b6,c3,fU,c5,hD,E7,Sg⟩:=ub.form;subst hD;obtain ⟨aV,bC,a2,a3⟩:=M.ex;have BU:=ajv bC;have aps:(h.next=ae.next)=False:=ap_ (by omega);have Fe:((aV.length:Int)>0)=(¬ed rows=[]):=by
    rw [<-a3];refine propext ⟨fun z y=>by rw [y] at z;simp at z,fun z=>?_⟩;have:=aso.2 z;omega
   simp +contextual only [bP,bS,cz,dK,fr,hX,g0,B.g,mN.g,BU,E7,Sg,↓af,an,simprocAttr];have ua:Mod (fun b=>b=aG h.next) g (g.set (aG h.next) (.bU [.int .i64 bW,.int .i64 b6,.int .i64 c3,.str fU,c5] 0 false)):=(Mod.refl (fun b=>b=aG h.next) g).set (fun _=>rfl) _;have e7:=bK.fp ua fun b z=>by rw [show b=aG h.next from z,dx];exact ap7 _
   refine ⟨aa.next,_,?_,⟨aV,bC.mod ua (fun z=>by have:=gZ z;omega),a2,a3⟩,ub.ext e7,e7⟩;have:decide (0 < (aV.length:Int))=!decide (ed rows=[]):=by
    by_cases z:ed rows=[]
    . rw [aqH z,aqJ (by have:=(show (0 < (aV.length:Int))=(¬ed rows=[]) from Fe);rw [this];exact fun y=>y z)];rfl
    . rw [aqJ z,aqH (by have:=(show (0 < (aV.length:Int))=(¬ed rows=[]) from Fe);rw [this];exact z)];rfl
   rw [this]
def qf (aq:cF):List D:=[.i .i64 aq.1,.i .i64 aq.2.1,.s aq.2.2.1,.i .i64 aq.2.2.2]
theorem rz [Lay] (F:aQ->Prop) (h:ag) (aq:cF) (aO:aq.2.2.1.length<=top):cb F h (qf aq) [.int .i64 aq.1,.int .i64 aq.2.1,.str aq.2.2.1,.int .i64 aq.2.2.2]:=.i (.i (.s aO (.i .nil)))
def ru (cs:List b2) (s:List UInt8):List cF:=(cs.filter fun c=>decide (c.ty=s)).map fun c=>(16,0,c.name,(c.arg.length:Int))
theorem Eh (cs:List b2) (s:List UInt8) (c:b2):ru (cs++[c]) s=ru cs s++(if c.ty=s then [(16,0,c.name,(c.arg.length:Int))] else []):=by unfold ru;rw [asg,aqS];congr 1;by_cases z:c.ty=s<;>simp [z]
theorem Bd (cs:List b2) (s:List UInt8):(ru cs s).length<=cs.length:=by unfold ru;rw [ap6];exact arU _ _
theorem ND {cs:List b2} {p:aE} (aa:p.k≠13) (ae:p.k≠15) (aM:p.k≠14) (bw:p.k≠12):allM cs p=(ru cs (fM cs p.s),!decide (fM cs p.s=EF)):=by unfold allM ru;rw [aqa (by omega),aqa aM,aqa bw]
theorem Ys (cs:List b2) (e2:cs.length<=1000000000) (k:V) (p:aE) (ie:List V) (h:ag) (je:p4 cs h k) (X:cb Any h p.enc ie):
 cr Tryz.prog 77 [k,.agg ie] h fun x ab=>∃v,x=.tuple [v,.bool (allM cs p).2]/\bB Any ab 4 ((allM cs p).1.map qf) v/\Ext h ab:=by
 have hA:=X;obtain ⟨cB,rfl,eR,hj⟩:=aE.open X;have ol:=eR.one;obtain ⟨hH,gx,l1,rfl,vK,Di,hy⟩:=je.ex;have av:=hy.len;rw [List.length_map] at av;refine aad.z rfl (cm ?_);unfold PO;obtain ⟨aa,al,ax,dG⟩:=gb h (dS p cB);by_cases oL:p.k=13
 . have bp:allM cs p=([ch p],true):=by unfold allM;rw [aqf (.inl oL)]
   rw [bp];simp +contextual only [ol.1,ol.2.1,al,dG.g,aqh oL,↓af,an,simprocAttr];refine bF (yQ p _ aa (hA.ext ax)) ?_;rintro x ae ⟨rfl,aH⟩;obtain ⟨aM,aJ,bA,S⟩:=ti (F:=Any) (size:=4) (h:=ae) rfl (rz Any ae (ch p) hj) trivial;simp +contextual only [ef,aJ,↓af,an,simprocAttr];exact ⟨_,rfl,S,(ax.trans aH).trans bA⟩
 . by_cases qM:p.k=15
   . have bp:allM cs p=([ch p],true):=by unfold allM;rw [aqf (.inr qM)]
     rw [bp];simp +contextual only [ol.1,ol.2.1,al,dG.g,ap_ oL,aqh qM,↓af,an,simprocAttr];refine bF (yQ p _ aa (hA.ext ax)) ?_;rintro x ae ⟨rfl,aH⟩;obtain ⟨aM,aJ,bA,S⟩:=ti (F:=Any) (size:=4) (h:=ae) rfl (rz Any ae (ch p) hj) trivial;simp +contextual only [ef,aJ,↓af,an,simprocAttr];exact ⟨_,rfl,S,(ax.trans aH).trans bA⟩
   . by_cases ni:p.k=14
     . have bp:allM cs p=([(14,0,[],0),(14,1,[],0)],true):=by unfold allM;rw [aqa (by omega),aqf ni]
       rw [bp];obtain ⟨aM,aJ,bA,S⟩:=K0 (F:=Any) (size:=4) (h:=aa) rfl rfl (rz Any aa (14,0,[],0) (arj _)) (rz Any aa (14,1,[],0) (arj _)) trivial;simp only [aqM,aq8] at aJ;have CV:=al;have vy:=dG.g;simp only [dS,ni] at CV vy;simp +contextual only [ol.1,ol.2.1,CV,vy,ni,ap_ (show ¬(14:Int)=13 by omega),ap_ (show ¬(14:Int)=15 by omega),aJ,↓af,an,simprocAttr];exact ⟨_,rfl,S,ax.trans bA⟩
     . by_cases th:p.k=12
       . have bp:allM cs p=([],false):=by unfold allM;rw [aqa (by omega),aqa ni,aqf th]
         rw [bp];simp +contextual only [ol.1,ol.2.1,al,dG.g,ap_ oL,ap_ ni,ap_ qM,aqh th,↓af,an,simprocAttr];exact ⟨_,rfl,bB.nil _ _ _,ax⟩
       . have bp:=ND (cs:=cs) oL qM ni th;rw [bp];obtain ⟨lG,ku,kx,lH,eT,t1,t2,t3,t4,t5,t6,t7⟩:=Di.find p.s;have jJ:=t7 aa ax;have rh:=vK.ext ax;have BO:=vK.lt;simp +contextual only [ol.1,ol.2.1,al,dG.g,rh.g,ap_ oL,ap_ ni,ap_ qM,ap_ th,jJ,av,↓af,an,simprocAttr];subst t1;have cg:=ax.next
         refine ek (fun r g=>r 6=.str (fM cs p.s)/\r 40=l1/\r 41=.int .i64 cs.length/\Ext h g/\∃(i:Nat) (dW:V),r 42=.int .i64 i/\i<=cs.length/\r 7=dW/\db h.next Any g 4 ((ru (cs.take i) (fM cs p.s)).map qf) dW) (fun r g=>cs.length - (r 42).toN) ?_ ?_
         . exact ⟨by simp only [↓af,bq,simprocAttr],by simp only [↓af,bq,simprocAttr],by simp only [↓af,bq,simprocAttr],ax,0,.bL,by simp only [↓af,bq,simprocAttr]<;>rfl,by omega,by simp only [↓af,bq,simprocAttr],db.nil _ _ _ _⟩
         rintro r g ⟨cz,LS,LU,bK,i,dW,LV,aB,dT,da⟩;unfold PQ;by_cases aN:i<cs.length
         . have g0:((i:Int) < (cs.length:Int))=True:=aqh (by omega);obtain ⟨b,off,en,bQ,HN,ny,zs,_,_,_,_⟩:=b2.la hy (k:=.i64) aN;have d5:=zs g bK;have l4:=ny.one;have oM:=ny.len;have cv:=fk aN (by omega);have hR:cs.take (i+1)=cs.take i++[cs[i]]:=aqn aN;have nS:cs[i].name.length<=top:=by obtain ⟨_,_,z,_⟩:=HN.str;exact z
           obtain ⟨g1,bE,b5,so⟩:=gE g l' (sQ cs[i] en);have Nw:=da.ext b5;have n5:=(bK.trans b5).next
           by_cases c:cs[i].ty=fM cs p.s
           . obtain ⟨iN,g2,bC,a2,a3,a4,a5⟩:=Nw.add (ds:=qf (16,0,cs[i].name,(cs[i].arg.length:Int))) (cs:=[.int .i64 16,.int .i64 0,.str cs[i].name,.int .i64 cs[i].arg.length]) (rz _ _ (16,0,cs[i].name,(cs[i].arg.length:Int)) nS) (by omega) n5 (by
              have:=Bd (cs.take i) (fM cs p.s);rw [aqw] at this;rw [ap6];unfold top;omega) rfl
             simp +contextual only [cz,LS,LU,LV,dT,g0,bQ,d5,l4.1,l4.2.1,oM,bE,so.g,aqh c,bC,cv,↓af,an,simprocAttr];refine ⟨⟨(bK.trans b5).fp a3 fun b z=>da.base z,i+1,iN,rfl,aN,rfl,?_⟩,by omega⟩;rw [hR,Eh,aqf c,aqS];exact a2
           . simp +contextual only [cz,LS,LU,LV,dT,g0,bQ,d5,l4.1,l4.2.1,oM,bE,so.g,ap_ c,cv,↓af,an,simprocAttr];refine ⟨⟨bK.trans b5,i+1,dW,rfl,aN,rfl,?_⟩,by omega⟩;rw [hR,Eh,aqa c,aq7];exact Nw
         . have g0:((i:Int) < (cs.length:Int))=False:=ap_ (by omega);rw [aqt (by omega)] at da;have ad1:=Bd cs (fM cs p.s);simp +contextual only [cz,LS,LU,LV,dT,g0,↓af,an,simprocAttr];refine ⟨dW,?_,da.ea (by rw [ap6];unfold top;omega) (fun _ _=>trivial) (fun _ _=>trivial),bK⟩;unfold EF;by_cases z:fM cs p.s=[101,120,110]<;>simp [z]
end
section
open Go a7
mutual
def aE.u9:aE->Nat
 | .mk k n a s l=>(if k=10\/k=11 then 0 else 1)+fP l
def fP:List aE->Nat
 | []=>0
 | t::l=>t.u9+fP l
end
def l7:List (List aE)->Nat
 | []=>0
 | r::rows=>fP r+l7 rows
theorem Lk (p:aE):p.u9=(if e' p=true then 0 else 1)+fP p.l:=by
 obtain ⟨k,n,a,s,l⟩:=p;simp only [aE.u9,e',aE.k,aE.l];by_cases aa:k=10
 . simp [aa]
 . by_cases ae:k=11
   . simp [ae]
   . simp [aa,ae]
theorem xq:∀a b:List aE,fP (a++b)=fP a+fP b
 | [],b=>by simp [fP]
 | t::a,b=>by rw [aqM,fP,fP,xq a b,ark]
theorem Yw:e' nC=true:=by decide
theorem Yu:nC.u9=0:=by simp [nC,aE.u9,fP]
theorem MN:∀k,fP (gK k)=0
 | 0=>rfl
 | k+1=>by rw [MO,xq,MN k];simp [fP,Yu]
theorem Yv:fB nC=true:=by
 have h:=tn (named:=dm) nC.size nC (ap7 _) (by simp [nC,aE.size,b0]);unfold fB;rw [<-h];have aL:fE 10=2:=by decide
 simp [nC,aE.j7,aE.k,aL,oZ,hq,de,km]
def mj (p:aE):Prop:=fB p=true/\p.size<=1000000000
theorem NH:mj nC:=⟨Yv,by simp [nC,aE.size,b0]⟩
theorem RS {p q:aE} (h:mj p) (ar:q ∈ p.l):mj q:=by obtain ⟨_,_,_,_,_,a⟩:=tx h.2 h.1;exact ⟨a q ar,by have:=FP ar;have:=h.2;omega⟩
theorem rH {p:aE} (h:mj p):p.l.length<=2:=ala h.2 h.1
structure mf (rows:List (List aE)) (q:List aE):Prop where
 len:∀r ∈ rows,r.length=q.length
 rg:∀r ∈ rows,∀p ∈ r,mj p
 r_:∀p ∈ q,mj p
 num:rows.length<=1000000000
def iY (rows:List (List aE)) (q:List aE):Nat:=2 * (l7 rows+fP q)+q.length
theorem mf.rows {rows:List (List aE)} {q:List aE} (U:mf rows q) {n:Nat} (aW:n<=1000000000) (hm:iY rows q<=n):vT q.length rows:=
 ⟨U.len,fun r aD p ai=>by have:=rH (U.rg r aD p ai);omega,U.num,by unfold iY at hm;omega⟩
section
variable {rows:List (List aE)} {q:List aE} {p:aE} {aq:cF}
theorem NJ {k:Nat} (aA:aq.2.2.2=(k:Int)) {r x:List aE} (h:eS aq r=some x) (aL:∀p ∈ r,mj p) {m:Nat} (aw:r.length=m+1):
 x.length=k+m/\(∀p ∈ x,mj p)/\fP x<=fP r:=by
 cases r with
 | nil=>cases h
 | cons a r=>
   simp only [aqb] at aw;simp only [eS] at h;by_cases hw:e' a=true
   . rw [aqf hw,ap3] at h;subst h;have j2:aq.2.2.2.toNat=k:=by rw [aA];rfl
     refine ⟨by rw [aqi,j2,gK,ap9];omega,fun p ai=>?_,by rw [xq,MN,fP];omega⟩;rcases aq0.1 ai with ai | ai
     . rw [List.eq_of_mem_replicate ai];exact NH
     . exact aL p (aqs _ ai)
   . rw [aqa hw] at h;by_cases a_:ch a=aq
     . rw [aqf a_,ap3] at h;subst h;have:a.l.length=k:=by rw [<-a_] at aA;simp only [ch] at aA;omega
       refine ⟨by rw [aqi,this];omega,fun p ai=>?_,by rw [xq,fP,Lk];omega⟩;rcases aq0.1 ai with ai | ai
       . exact RS (aL a aqy) ai
       . exact aL p (aqs _ ai)
     . rw [aqa a_] at h;cases h
theorem Mn (aq:cF):∀rows:List (List aE),(∀r ∈ rows,∀x,eS aq r=some x->fP x<=fP r)->l7 (fZ aq rows)<=l7 rows
 | [],_=>ap7 _
 | r::rows,h=>by
   have bd:=Mn aq rows fun r aD=>h r (aqs _ aD);unfold fZ at bd ⊢;rw [ary,l7];cases ao:eS aq r with
   | none=>simp only;omega
   | some x=>
     have:=h r aqy x ao;simp only [l7];omega
theorem Wo (aq:cF):∀rows:List (List aE),(∀r ∈ rows,∀x,eS aq r=some x->fP x<=fP r)->gy rows aq=true->l7 (fZ aq rows)<l7 rows
 | [],_,hm=>by simp [gy,ed] at hm
 | r::rows,h,hm=>by
   have bd:=fun z=>Wo aq rows (fun r aD=>h r (aqs _ aD)) z;have af2:=Mn aq rows fun r aD=>h r (aqs _ aD);unfold fZ at bd af2 ⊢;rw [ary,l7];unfold gy ed at hm bd;rw [ary] at hm;cases r with
   | nil=>
     simp only [nM] at hm;have:=bd hm;simp only [eS,fP];omega
   | cons a r=>
     by_cases hw:e' a=true
     . simp only [nM,hw,aqB] at hm;have:=bd hm;cases ao:eS aq (a::r) with
       | none=>simp only;omega
       | some x=>
         have:=h _ aqy x ao;simp only [l7];omega
     . simp only [nM,hw,aqD,ar9,arp,aqg,aqd] at hm;by_cases a_:ch a=aq
       . have ao:eS aq (a::r)=some (a.l++r):=by simp only [eS,hw,a_,aqB,aqD,aqd]
         rw [ao];simp only [l7,xq,fP];have:=Lk a;rw [aqa hw] at this;omega
       . have:=bd (hm.resolve_left a_);have ao:eS aq (a::r)=none:=by simp only [eS,hw,a_,aqD,aqd]
         rw [ao];simp only;omega
theorem TS:∀rows:List (List aE),l7 (js rows)<=l7 rows
 | []=>ap7 _
 | r::rows=>by
   have bd:=TS rows;unfold js at bd ⊢;rw [ary,l7];cases r with
   | nil=>simp only [pM];omega
   | cons a r=>
     simp only [pM]
     split
     . rename_i h;split at h
       . cases h
       . omega
     . rename_i x h;split at h
       . simp only [ap3] at h;subst h;simp only [l7,fP];omega
       . cases h
theorem mf.own (U:mf rows (p::q)) (hw:e' p=false):mf (fZ (ch p) rows) (p.l++q)/\iY (fZ (ch p) rows) (p.l++q)<iY rows (p::q):=by
 have bp:∀r ∈ rows,∀x,eS (ch p) r=some x->x.length=p.l.length+q.length/\(∀y ∈ x,mj y)/\fP x<=fP r:=fun r aD x ao=>NJ (k:=p.l.length) rfl ao (U.rg r aD) (U.len r aD);refine ⟨⟨fun r aD=>?_,fun r aD=>?_,fun y a6=>?_,aqK (aqO _ _) U.num⟩,?_⟩
 . obtain ⟨aU,a1,aa⟩:=ard.1 aD;rw [(bp aU a1 r aa).1,aqi]
 . obtain ⟨aU,a1,aa⟩:=ard.1 aD;exact (bp aU a1 r aa).2.1
 . rcases aq0.1 a6 with a6 | a6
   . exact RS (U.r_ p aqy) a6
   . exact U.r_ y (aqs _ a6)
 . have aa:=Mn (ch p) rows fun r aD x ao=>(bp r aD x ao).2.2;have ae:=Lk p;rw [aqa (by rw [hw];simp)] at ae;have aM:=rH (U.r_ p aqy);unfold iY;rw [xq,fP,aqi,aqb];omega
theorem F2 (aD:∀r ∈ rows,∀p ∈ r,mj p) (hm:gy rows aq=true):∃k:Nat,aq.2.2.2=(k:Int)/\k<=2:=by
 unfold gy ed at hm;rw [List.any_eq_true] at hm;obtain ⟨p,ai,e⟩:=hm;rw [aqg] at e;obtain ⟨r,a1,aa⟩:=ard.1 ai;cases r with
 | nil=>cases aa
 | cons a r=>
   simp only [nM] at aa
   split at aa
   . cases aa
   . rw [ap3] at aa;subst aa;exact ⟨a.l.length,by rw [<-e];rfl,rH (aD _ a1 a aqy)⟩
theorem mf.met (U:mf rows (p::q)) (hw:e' p=true) (hm:gy rows aq=true):mf (fZ aq rows) (gK aq.2.2.2.toNat++q)/\iY (fZ aq rows) (gK aq.2.2.2.toNat++q)<iY rows (p::q):=by
 obtain ⟨k,aA,mo⟩:=F2 U.rg hm;have j2:aq.2.2.2.toNat=k:=by rw [aA];rfl
 have bp:∀r ∈ rows,∀x,eS aq r=some x->x.length=k+q.length/\(∀y ∈ x,mj y)/\fP x<=fP r:=fun r aD x ao=>NJ aA ao (U.rg r aD) (U.len r aD);rw [j2];have qI:(gK k).length=k:=ap9;refine ⟨⟨fun r aD=>?_,fun r aD=>?_,fun y a6=>?_,aqK (aqO _ _) U.num⟩,?_⟩
 . obtain ⟨aU,a1,aa⟩:=ard.1 aD;rw [(bp aU a1 r aa).1,aqi,qI]
 . obtain ⟨aU,a1,aa⟩:=ard.1 aD;exact (bp aU a1 r aa).2.1
 . rcases aq0.1 a6 with a6 | a6
   . rw [List.eq_of_mem_replicate a6];exact NH
   . exact U.r_ y (aqs _ a6)
 . have aa:=Wo aq rows (fun r aD x ao=>(bp r aD x ao).2.2) hm;unfold iY;rw [xq,MN,fP,aqi,aqb,qI];omega
theorem mf.leave (U:mf rows (p::q)):mf (js rows) q/\iY (js rows) q<iY rows (p::q):=by
 have bp:∀r ∈ js rows,∃a,(a::r) ∈ rows:=fun r aD=>by
  obtain ⟨aU,a1,aa⟩:=ard.1 aD;cases aU with
  | nil=>cases aa
  | cons a aU=>
    simp only [pM] at aa
    split at aa
    . rw [ap3] at aa;subst aa;exact ⟨a,a1⟩
    . cases aa
 refine ⟨⟨fun r aD=>?_,fun r aD y a6=>?_,fun y a6=>U.r_ y (aqs _ a6),aqK (aqO _ _) U.num⟩,?_⟩
 . obtain ⟨a,h⟩:=bp r aD;have:=U.len _ h;simp only [aqb] at this;omega
 . obtain ⟨a,h⟩:=bp r aD;exact U.rg _ h y (aqs _ a6)
 . have aa:=TS rows;unfold iY;rw [fP,aqb];omega
end
end
section
open Go a7
def O7:aR:=
 aR.seq (aR.aj [⟨(some 54),.bV (.t 12),none,[12]⟩])
  (aR.cond (.t 54)
   (aR.aj [⟨(some 56),.bV (.t 0),none,[0]⟩,
     ⟨(some 57),.fX 5 (.t 11),none,[11]⟩,
     ⟨(some 58),.call 77 [(.t 56),(.t 57)],none,[56,57]⟩,
     ⟨(some 55),.bV (.t 58),none,[58]⟩,
     ⟨(some 59),.ext (.t 55) 0,none,[55]⟩,
     ⟨(some 60),.ext (.t 55) 1,none,[55]⟩,
     ⟨(some 13),.bV (.t 59),none,[59]⟩,
     ⟨(some 14),.bV (.t 60),none,[60]⟩])
   (aR.skip))
def O8:aR:=
 aR.seq (aR.seq (aR.aj [⟨(some 61),.bV (.t 13),none,[13]⟩,
  ⟨(some 62),.len .slice (.t 61),none,[61]⟩,
  ⟨(some 63),.bV (.c (.int .i64 0)),none,[]⟩])
  (aR.block 0 (aR.loop Ig)))
 (aR.seq (aR.seq (aR.aj [⟨(some 74),.bV (.t 14),none,[14]⟩,
   ⟨(some 75),.un .not (.t 74),none,[74]⟩])
  (aR.cond (.t 75)
   (aR.seq (aR.draw [⟨(some 76),.bV (.t 0),none,[0]⟩,
     ⟨(some 77),.bV (.t 1),none,[1]⟩,
     ⟨(some 79),.bV (.t 2),none,[2]⟩,
     ⟨(some 80),.ea 5 (.t 79) (some (.c (.int .i64 1))) none none,none,[79]⟩,
     ⟨(some 78),.call 78 [(.t 77)],none,[77]⟩,
     ⟨(some 81),.call 47 [(.t 76),(.t 78),(.t 80)],none,[76,78,80]⟩,
     ⟨(some 6),.bV (.t 81),none,[81]⟩] [])
    (aR.ret))
   (aR.skip)))
 (aR.seq (aR.seq (aR.aj [⟨(some 82),.bV (.t 13),none,[13]⟩,
   ⟨(some 83),.len .slice (.t 82),none,[82]⟩,
   ⟨(some 84),.bV (.c (.int .i64 0)),none,[]⟩])
  (aR.block 2 (aR.loop Ih)))
 (aR.seq (aR.aj [⟨(some 6),.bV (.c (.bool false)),none,[]⟩])
 (aR.ret))))
theorem O6:O4=(aR.seq (aR.aj [⟨(some 6),.bV (.c (.bool false)),none,[]⟩])
 (aR.seq (aR.seq (aR.aj [⟨(some 21),.bV (.t 2),none,[2]⟩,
   ⟨(some 22),.len .slice (.t 21),none,[21]⟩,
   ⟨(some 23),.bin (.int .eql) (.t 22) (.c (.int .i64 0)),none,[22]⟩])
  (aR.cond (.t 23)
   (aR.seq (aR.aj [⟨(some 24),.bV (.t 1),none,[1]⟩,
     ⟨(some 25),.len .slice (.t 24),none,[24]⟩,
     ⟨(some 26),.bin (.int .eql) (.t 25) (.c (.int .i64 0)),none,[25]⟩,
     ⟨(some 6),.bV (.t 26),none,[26]⟩])
    (aR.ret))
   (aR.skip)))
 (aR.seq (aR.seq (aR.aj [⟨(some 27),.bV (.t 2),none,[2]⟩,
   ⟨(some 28),.bQ 5 (.t 27) (.c (.int .i64 0)),none,[27]⟩,
   ⟨(some 29),.fX 5 (.t 28),none,[28]⟩,
   ⟨(some 30),.call 72 [(.t 29)],none,[29]⟩,
   ⟨(some 31),.un .not (.t 30),none,[30]⟩])
  (aR.cond (.t 31)
   (aR.seq (aR.aj [⟨(some 32),.bV (.t 2),none,[2]⟩,
     ⟨(some 33),.bQ 5 (.t 32) (.c (.int .i64 0)),none,[32]⟩,
     ⟨(some 34),.fX 5 (.t 33),none,[33]⟩,
     ⟨(some 35),.call 73 [(.t 34)],none,[34]⟩,
     ⟨(some 7),.new [(.int .i64 0),(.int .i64 0),(.str []),(.int .i64 0)],none,[]⟩,
     ⟨none,.st 4 (.t 7) (.t 35),none,[7,35]⟩])
    (aR.seq (aR.aj [⟨(some 37),.bV (.t 2),none,[2]⟩,
      ⟨(some 38),.fX 4 (.t 7),none,[7]⟩,
      ⟨(some 39),.call 74 [(.t 37),(.t 38)],none,[37,38]⟩,
      ⟨(some 36),.bV (.t 39),none,[39]⟩,
      ⟨(some 40),.ext (.t 36) 0,none,[36]⟩,
      ⟨(some 41),.ext (.t 36) 1,none,[36]⟩,
      ⟨(some 8),.bV (.t 40),none,[40]⟩,
      ⟨(some 9),.bV (.t 41),none,[41]⟩])
    (aR.seq (aR.aj [⟨(some 42),.bV (.t 0),none,[0]⟩,
      ⟨(some 43),.bV (.t 1),none,[1]⟩,
      ⟨(some 44),.fX 4 (.t 7),none,[7]⟩,
      ⟨(some 45),.call 75 [(.t 43),(.t 44)],none,[43,44]⟩,
      ⟨(some 46),.bV (.t 8),none,[8]⟩,
      ⟨(some 47),.call 47 [(.t 42),(.t 45),(.t 46)],none,[42,45,46]⟩,
      ⟨(some 6),.bV (.t 47),none,[47]⟩])
    (aR.ret))))
   (aR.skip)))
 (aR.seq (aR.aj [⟨(some 49),.bV (.t 1),none,[1]⟩,
   ⟨(some 50),.call 76 [(.t 49)],none,[49]⟩,
   ⟨(some 48),.bV (.t 50),none,[50]⟩,
   ⟨(some 51),.ext (.t 48) 0,none,[48]⟩,
   ⟨(some 52),.ext (.t 48) 1,none,[48]⟩,
   ⟨(some 53),.ext (.t 48) 2,none,[48]⟩,
   ⟨(some 11),.new [(.int .i64 0),(.int .i64 0),(.int .i64 0),(.str []),.bL],none,[]⟩,
   ⟨(some 10),.bV (.t 51),none,[51]⟩,
   ⟨none,.st 5 (.t 11) (.t 52),none,[11,52]⟩,
   ⟨(some 12),.bV (.t 53),none,[53]⟩])
 (aR.seq (aR.aj [⟨(some 13),.bV (.c .bL),none,[]⟩])
 (aR.seq (aR.aj [⟨(some 14),.bV (.c (.bool false)),none,[]⟩])
 (aR.seq (O7)
 (O8)))))))):=rfl
theorem Fb [Lay] {F:aQ->Prop} {h:ag} {l:List cF} {v:V} (L:bB F h 4 (l.map qf) v) {i:Nat} (aB:i<l.length):
 ∃b off,hG 4 v (.int .i64 i)=some (.ptr b off)/\∀ab,Ext h ab->nj 4 (ab.get b) off=some (.agg [.int .i64 l[i].1,.int .i64 l[i].2.1,.str l[i].2.2.1,.int .i64 l[i].2.2.2]):=by
 obtain ⟨b,off,u,ax,aH,bA,b5,_⟩:=L.at (k:=.i64) (i:=i) (by rw [ap6];exact aB);rw [arV,qf] at aH;obtain ⟨_,rfl,f1⟩:=aH.int;obtain ⟨_,rfl,f2⟩:=f1.int;obtain ⟨_,rfl,_,f3⟩:=f2.str;obtain ⟨_,rfl,f4⟩:=f3.int;obtain rfl:=f4.no;exact ⟨b,_,ax,b5⟩
abbrev lZ:List aE->Option aE:=fun l=>l.getLast?
theorem G9 (cs:List b2) (e2:cs.length<=1000000000):∀(n:Nat),n<=1000000000->∀(rows:List (List aE)) (q:List aE),mf rows q->iY rows q<=n->∀(k v w:V) (h:ag),p4 cs h k->bB Any h 1 (rows.map hd) v->bB Any h 5 (q.map aE.enc) w->
 cr Tryz.prog 47 [k,v,w] h fun x ab=>x=.bool (fC lZ cs n rows q)/\Ext h ab
 | n,aW,rows,[],U,lT,k,v,w,h,je,L,Q=>by
   have ar:=Q.len;have aD:=L.len;rw [ap6] at ar aD;have g0:((([]:List aE).length:Int)=0)=True:=aqh rfl;have hu:fC lZ cs n rows []=rows.isEmpty:=by cases n<;>rfl
   refine O5.z rfl (cm ?_);rw [O6];simp +contextual only [ar,aD,g0,↓af,an,simprocAttr];rw [hu];cases rows with
   | nil=>exact ⟨rfl,Ext.refl h⟩
   | cons r rows=>exact ⟨by congr 1,Ext.refl h⟩
 | 0,aW,rows,p::q,U,lT,k,v,w,h,je,L,Q=>by unfold iY at lT;simp only [aqb] at lT;omega
 | n+1,aW,rows,p::q,U,lT,k,v,w,h,je,L,Q=>by
   have ar:=Q.len;have aD:=L.len;rw [ap6] at ar aD;have g0:(((q.length+1:Nat):Int)=0)=False:=ap_ (by omega);rw [aqb] at ar;have pw:=U.rows aW lT;have BI:=U.r_ p aqy;have za:(p::q).length<=1000000000:=by unfold iY at lT;omega
   have y_:∀x ∈ p::q,x.l.length<=1000000000:=fun x ao=>by have:=rH (U.r_ x ao);omega
   obtain ⟨jC,gz,aC,i0,hA,pd,eW⟩:=se Q;obtain ⟨q6,t1,T⟩:=z1 Q;have d0:=eW h (Ext.refl h);refine O5.z rfl (cm ?_);rw [O6];simp +contextual only [ar,g0,i0,d0,↓af,an,simprocAttr];refine bF (Dc p _ h hA) ?_;rintro x aa ⟨rfl,ax⟩;have d1:=eW aa ax;cases hw:e' p with
   | false=>
     have hu:fC lZ cs (n+1) rows (p::q)=fC lZ cs n (fZ (ch p) rows) (p.l++q):=by simp only [fC,hw,aqd,aqD]
     rw [hu];obtain ⟨ow,aN⟩:=U.own hw;simp +contextual only [i0,d1,↓af,an,simprocAttr];refine bF (yQ p _ aa (hA.ext ax)) ?_;rintro x ae ⟨rfl,aH⟩;obtain ⟨aM,aJ,bA,iO⟩:=gE ae [.int .i64 0,.int .i64 0,.str [],.int .i64 0] [.int .i64 (ch p).1,.int .i64 (ch p).2.1,.str (ch p).2.2.1,.int .i64 (ch p).2.2.2];have lI:=(ax.trans aH).trans bA;simp +contextual only [ef,aJ,iO.g,↓af,an,simprocAttr];refine bF (HV (p::q) (by simp) za (ch p) p.l.length rfl (by have:=rH BI;omega) (Old aM) w aM (fun b z=>z) (Q.ext lI).kk y_) ?_;rintro x bw ⟨w',rfl,iA,b5⟩;have p1:=iO.ext b5;have mR:=lI.trans b5;have gN:eS (ch p) (p::q)=some (p.l++q):=by simp only [eS,hw,aqd,aqD,aqB]
     rw [gN,aqL] at iA;simp +contextual only [p1.g,↓af,an,simprocAttr];refine bF (Wn rows _ (by simp) pw (ch p) p.l.length rfl (by have:=rH BI;omega) v bw (L.ext mR)) ?_;rintro ah cw ⟨vU,cW⟩;have Bh:=mR.trans cW;simp +contextual only [↓af,an,simprocAttr];refine bF (G9 cs e2 n (by omega) _ _ ow (by omega) k ah w' cw (je.ext Bh) vU ((iA.e3 fun _ _=>trivial).ext cW)) ?_;rintro x e_ ⟨rfl,e7⟩;simp +contextual only [↓af,an,simprocAttr];exact Bh.trans e7
   | true=>
     simp +contextual only [↓af,an,simprocAttr];refine bF (aec rows _ (by simp) pw v aa (L.ext ax)) ?_;rintro x ae ⟨gx,apw,rfl,M,ub,aH⟩;obtain ⟨cd,cg,bC,s1,bT,rfl,akT,akU⟩:=ub.form;obtain ⟨aM,aJ,bA,iO⟩:=gE ae z5 [.int .i64 cd,.int .i64 cg,.int .i64 bC,.str s1,bT];have lI:=(ax.trans aH).trans bA;simp +contextual only [akT,akU,aJ,↓af,an,simprocAttr];have HD:=M.ext bA;have Nv:=ub.ext bA;refine MU (fun r g=>r 0=k/\r 1=v/\r 2=w/\r 10=.map (aG gx)/\Ext aM g/\∃bz,r 13=bz/\r 14=.bool (kc cs (ed rows).getLast?).2/\bB Any g 4 ((kc cs (ed rows).getLast?).1.map qf) bz) rfl (cm ?_) ?_
     . unfold O7;cases aF:(ed rows).getLast? with
       | none=>
         have hE:ed rows=[]:=List.getLast?_eq_none_iff.1 aF;simp +contextual only [hE,arP,ar4,kt,↓af,an,simprocAttr];exact ⟨Ext.refl aM,rfl,bB.nil _ _ _⟩
       | some x=>
         have hE:ed rows≠[]:=fun z=>by rw [z] at aF;cases aF
         rw [aF] at Nv;obtain ⟨apO,hD,hc⟩:=Nv;simp +contextual only [hE,arN,asf,iO.g,kt,↓af,an,simprocAttr];refine bF (Ys cs e2 k x _ aM (je.ext lI) hc) ?_;rintro y bw ⟨bz,rfl,jU,b5⟩;simp +contextual only [kt,↓af,an,simprocAttr];exact ⟨b5,rfl,jU⟩
     rintro r g ⟨aU,a8,b',dK,b5,bz,oa,iv,jU⟩;unfold O8;have bK:=lI.trans b5;have sw:=HD.ext b5;have nP:=jU.len;have Ff:=jU.le;rw [ap6] at nP Ff;have hu:fC lZ cs (n+1) rows (p::q)=if ((kc cs (ed rows).getLast?).2&&(kc cs (ed rows).getLast?).1.all (gy rows))=true then
      (kc cs (ed rows).getLast?).1.any fun aq=>fC lZ cs n (fZ aq rows) (gK aq.2.2.2.toNat++q) else fC lZ cs n (js rows) q:=by simp only [fC,hw,aqB]
     rw [hu];generalize ml:kc cs (ed rows).getLast? =Xu at *;obtain ⟨aO,ie⟩:=Xu;simp only at jU iv nP Ff;simp +contextual only [aU,a8,b',dK,oa,iv,nP,↓af,an,simprocAttr];refine ek (fun r G=>r 0=k/\r 1=v/\r 2=w/\r 10=.map (aG gx)/\r 13=bz/\r 61=bz/\r 62=.int .i64 aO.length/\Ext g G/\∃i:Nat,r 63=.int .i64 i/\i<=aO.length/\r 14=.bool (ie&&(aO.take i).all (gy rows))) (fun r G=>aO.length - (r 63).toN) ?_ ?_
     . refine ⟨by simp only [aU,↓af,bq,simprocAttr],by simp only [a8,↓af,bq,simprocAttr],by simp only [b',↓af,bq,simprocAttr],by simp only [dK,↓af,bq,simprocAttr],by simp only [oa,↓af,bq,simprocAttr],by simp only [↓af,bq,simprocAttr],by simp only [↓af,bq,simprocAttr],Ext.refl g,0,by simp only [↓af,bq,simprocAttr]<;>rfl,by omega,?_⟩;simp only [iv,↓af,bq,simprocAttr];simp
     clear aU a8 b' dK oa iv;rintro r G ⟨aU,a8,b',dK,oa,CW,CX,gu,i,CY,aB,iv⟩;unfold Ig;have mi:=bK.trans gu;by_cases aN:i<aO.length
     . have g1:((i:Int) < (aO.length:Int))=True:=aqh (by omega);obtain ⟨b,off,bQ,ld⟩:=Fb jU aN;have d4:=ld G gu;have cv:=fk aN (by unfold top at Ff;omega);obtain ⟨jT,vS,eP,tR⟩:=gE G [.int .i64 0,.int .i64 0,.str [],.int .i64 0] [.int .i64 aO[i].1,.int .i64 aO[i].2.1,.str aO[i].2.2.1,.int .i64 aO[i].2.2.2];have jJ:=((sw.ext gu).ext eP).look aO[i];have lq:=E' aO[i];simp only [ef] at jJ lq;have hR:aO.take (i+1)=aO.take i++[aO[i]]:=aqn aN;cases av:(ie&&(aO.take i).all (gy rows)) with
       | false=>
         rw [av] at iv;simp +contextual only [aU,a8,b',dK,oa,CW,CX,CY,iv,g1,bQ,d4,vS,tR.g,jJ,lq,ap8,cv,↓o2,↓af,an,simprocAttr];refine ⟨⟨gu.trans eP,i+1,rfl,aN,?_⟩,by omega⟩;rw [hR,List.all_append,<-Bool.and_assoc,av];rfl
       | true=>
         rw [av] at iv;simp +contextual only [aU,a8,b',dK,oa,CW,CX,CY,iv,g1,bQ,d4,vS,tR.g,jJ,lq,ap8,cv,↓o2,↓af,an,simprocAttr];refine ⟨⟨gu.trans eP,i+1,rfl,aN,?_⟩,by omega⟩;rw [hR,List.all_append,<-Bool.and_assoc,av];simp
     . have g1:((i:Int) < (aO.length:Int))=False:=ap_ (by omega);rw [aqt (by omega)] at iv;cases av:(ie&&aO.all (gy rows)) with
       | false=>
         rw [av] at iv;obtain ⟨ow,lS⟩:=U.leave;simp +contextual only [aU,a8,b',dK,oa,CW,CX,CY,iv,g1,t1,asf,↓af,an,simprocAttr];refine bF (aiY rows _ (by simp) pw v G (L.ext mi)) ?_;rintro cB jT ⟨HL,eP⟩;simp +contextual only [↓af,an,simprocAttr];refine bF (G9 cs e2 n (by omega) _ _ ow (by omega) k cB q6 jT (je.ext (mi.trans eP)) HL (T.ext (mi.trans eP))) ?_;rintro x o9 ⟨rfl,bO⟩;simp +contextual only [aqd,aqD,↓af,an,simprocAttr];exact (mi.trans eP).trans bO
       | true=>
         rw [av] at iv;have wV:∀aq ∈ aO,gy rows aq=true:=by rw [ap2] at av;exact aqu.1 av.2
         simp +contextual only [aU,a8,b',dK,oa,CW,CX,CY,iv,g1,nP,ar4,aqB,↓af,an,simprocAttr];refine ek (fun r G=>r 0=k/\r 1=v/\r 2=w/\r 82=bz/\r 83=.int .i64 aO.length/\Ext g G/\∃i:Nat,r 84=.int .i64 i/\i<=aO.length/\(aO.any fun aq=>fC lZ cs n (fZ aq rows) (gK aq.2.2.2.toNat++q))=((aO.drop i).any fun aq=>fC lZ cs n (fZ aq rows) (gK aq.2.2.2.toNat++q))) (fun r G=>aO.length - (r 84).toN) ?_ ?_
         . exact ⟨by simp only [aU,↓af,bq,simprocAttr],by simp only [a8,↓af,bq,simprocAttr],by simp only [b',↓af,bq,simprocAttr],by simp only [↓af,bq,simprocAttr],by simp only [↓af,bq,simprocAttr],gu,0,by simp only [↓af,bq,simprocAttr]<;>rfl,by omega,rfl⟩
         clear aU a8 b' dK oa CW CX CY iv gu mi g1 aB;rintro r G ⟨aU,a8,b',CZ,C0,gu,j,C1,bG,oE⟩;unfold Ih;have mi:=bK.trans gu;by_cases gi:j<aO.length
         . have g1:((j:Int) < (aO.length:Int))=True:=aqh (by omega);obtain ⟨b,off,bQ,ld⟩:=Fb jU gi;have d4:=ld G gu;have sl:=fk gi (by unfold top at Ff;omega);have h9:aO[j] ∈ aO:=aqC gi;obtain ⟨cN,h8,aeJ⟩:=F2 U.rg (wV _ h9);obtain ⟨ow,lS⟩:=U.met hw (wV _ h9);rw [aqz gi,ar9] at oE;generalize aO[j]=aq at bQ ld d4 h8 ow lS oE;obtain ⟨jT,vS,eP,tR⟩:=gE G [.int .i64 0,.int .i64 0,.str [],.int .i64 0] [.int .i64 aq.1,.int .i64 aq.2.1,.str aq.2.2.1,.int .i64 aq.2.2.2];have Q1:=mi.trans eP;simp +contextual only [aU,a8,b',CZ,C0,C1,g1,bQ,d4,vS,tR.g,↓af,an,simprocAttr];refine bF (HV (p::q) (by simp) za aq cN h8 (by omega) (Old jT) w jT (fun b z=>z) (Q.ext Q1).kk y_) ?_;rintro x o9 ⟨w',rfl,iA,bO⟩;have Xd:=tR.ext bO;have yn:=Q1.trans bO;have gN:eS aq (p::q)=some (gK aq.2.2.2.toNat++q):=by simp only [eS,hw,aqB]
           rw [gN,aqL] at iA;simp +contextual only [aU,a8,b',CZ,C0,C1,Xd.g,↓af,an,simprocAttr];refine bF (Wn rows _ (by simp) pw aq cN h8 (by omega) v o9 (L.ext yn)) ?_;rintro ah ma ⟨vU,iP⟩;have yo:=yn.trans iP;simp +contextual only [aU,a8,b',CZ,C0,C1,↓af,an,simprocAttr];refine bF (G9 cs e2 n (by omega) _ _ ow (by omega) k ah w' ma (je.ext yo) vU ((iA.e3 fun _ _=>trivial).ext iP)) ?_;rintro x AE ⟨rfl,mL⟩;cases rX:fC lZ cs n (fZ aq rows) (gK aq.2.2.2.toNat++q) with
           | true=>
             simp +contextual only [↓af,an,simprocAttr];rw [oE,rX];exact ⟨rfl,yo.trans mL⟩
           | false=>
             simp +contextual only [aU,a8,b',CZ,C0,C1,sl,↓af,an,simprocAttr];refine ⟨⟨((gu.trans eP).trans (bO.trans iP)).trans mL,j+1,rfl,gi,?_⟩,by omega⟩;rw [oE,rX,arQ]
         . have g1:((j:Int) < (aO.length:Int))=False:=ap_ (by omega);rw [aqR (by omega)] at oE;simp +contextual only [aU,a8,b',CZ,C0,C1,g1,↓af,an,simprocAttr];rw [oE];exact ⟨rfl,mi⟩
theorem alY (neg:Bool) (cd cg:Int) (s1:List UInt8) (eA cn dv:Int) (s2:List UInt8) (gk:Int):(eK.other (bif neg then .neq else .eql) 124).run Tryz.prog (.agg [.int .i64 cd,.int .i64 cg,.str s1,.int .i64 eA]) (.agg [.int .i64 cn,.int .i64 dv,.str s2,.int .i64 gk])=
 (match (match iC.run (.int .i64 cd) (.int .i64 cn) with
   | none=>none
   | some bM=>bif bM then (match iC.run (.int .i64 cg) (.int .i64 dv) with
     | none=>none
     | some b1=>bif b1 then (match kb.run (.str s1) (.str s2) with
       | none=>none
       | some dR=>bif dR then (match iC.run (.int .i64 eA) (.int .i64 gk) with
         | none=>none
         | some gD=>bif gD then some true else some false) else some false) else some false) else some false) with
 | some q=>some (.bool (bif neg then !q else q))
 | none=>none):=by cases neg<;>kernel_rfl
theorem VT (neg:Bool) (a b:cF):(eK.other (bif neg then .neq else .eql) 124).run Tryz.prog (ef a) (ef b)=some (.bool (bif neg then !decide (a=b) else decide (a=b))):=by
 obtain ⟨cd,cg,s1,eA⟩:=a;obtain ⟨cn,dv,s2,gk⟩:=b;simp only [ef,alY,z8,z7,aq9];by_cases c:cd=cn
 . by_cases d:cg=dv
   . by_cases e:s1=s2
     . by_cases f:eA=gk
       . simp [c,d,e,f]
       . simp [c,d,e,f]
     . simp [c,d,e]
   . simp [c,d]
 . simp [c]
theorem LY (row:List aE) (cK:row≠[]) (hlen:row.length<=1000000000) (aq:cF) (k:Nat) (aA:aq.2.2.2=(k:Int)) (mo:k<=1000000000) (F:aQ->Prop) (v:V) (h:ag) (ji:∀b,F b->Old h b) (L:bB F h 5 (row.map aE.enc) v) (wQ:∀p ∈ row,p.l.length<=1000000000):
 cr Tryz.prog 81 [v,ef aq] h fun x ab=>∃cQ,x=.tuple [cQ,.bool (eS aq row).isSome]/\bB (fun b=>F b\/lC h b) ab 5 (((eS aq row).getD []).map aE.enc) cQ/\Ext h ab:=by
 obtain ⟨p,q,rfl⟩:=aqW cK;have j2:aq.2.2.2.toNat=k:=by rw [aA];rfl
 obtain ⟨jC,gz,aC,i0,hA,pd,eW⟩:=se L;obtain ⟨q6,t1,T⟩:=z1 L;have ol:=pd.one;simp only [aqb] at hlen;refine aah.z rfl (cm ?_);unfold PV;simp only [ef];obtain ⟨aa,al,ax,H1⟩:=gb h [.int .i64 aq.1,.int .i64 aq.2.1,.str aq.2.2.1,.int .i64 aq.2.2.2];have cg:aa.next=h.next+1:=by rw [<-al];rfl
 have d0:=eW aa ax;obtain ⟨ae,au,aH,o_⟩:=gE aa z5 (dS p aC);have cf:=H1.ext aH;simp +contextual only [al,i0,d0,ol.1,ol.2.1,au,o_.g,cf.g,↓af,an,simprocAttr];refine bF (Aa p _ ae (((hA.e3 fun _ _=>trivial).ext ax).ext aH)) ?_;rintro x aM ⟨rfl,bA⟩;have oq:=o_.ext bA;have jA:=cf.ext bA;have lI:=(ax.trans aH).trans bA;have n3:aa.next<=aM.next:=(aH.trans bA).next
 have xa:∀{xN:V},(∀b,xN.a' b->h.next<=ck b)->∀b,F b->F b/\¬xN.a' b:=fun {xN} ak b z=>⟨z,fun y=>by have:=ak b y;have:=ji b z;unfold Old at this;omega⟩;cases hw:e' p with
 | true=>
   have gN:eS aq (p::q)=some (gK k++q):=by simp only [eS,hw,aqB,j2]
   rw [gN];simp +contextual only [jA.g,↓af,an,simprocAttr];refine ek (fun r g=>r 0=v/\r 3=.ptr (aG h.next) 0/\Ext h g/\aa.next<=g.next/\Has g h.next [.int .i64 aq.1,.int .i64 aq.2.1,.str aq.2.2.1,.int .i64 aq.2.2.2]/\∃(i:Nat) (dW:V),r 8=.int .i64 i/\i<=k/\r 7=dW/\db aa.next F g 5 ((gK i).map aE.enc) dW) (fun r g=>k - (r 8).toN) ?_ ?_
   . exact ⟨by simp only [↓af,bq,simprocAttr],by simp only [↓af,bq,simprocAttr],lI,n3,jA,0,.bL,by simp only [↓af,bq,simprocAttr]<;>rfl,by omega,by simp only [↓af,bq,simprocAttr],db.nil _ _ _ _⟩
   rintro r g ⟨aU,bP,bK,n5,H,i,dW,cZ,aB,dT,da⟩;unfold PW;have gv:∀b,dW.a' b->h.next<=ck b:=fun b z=>by have:=da.base z;omega
   by_cases aN:i<k
   . have g0:((i:Int) < (k:Int))=True:=aqh (by omega);have cv:=fk aN (by omega);obtain ⟨iN,g2,bC,a2,a3,a4,a5⟩:=da.add (NG (fun b=>F b/\¬dW.a' b) g) (by omega) n5 (by rw [ap6,gK,ap9];unfold top;omega) rfl;simp +contextual only [aU,bP,cZ,dT,H.g,aA,g0,bC,cv,↓af,an,simprocAttr];refine ⟨⟨bK.fp a3 gv,by omega,by have:=H.mod a3 (fun z=>by have:=da.base z;rw [dx] at this;omega);rw [aA] at this;exact this,i+1,iN,rfl,aN,rfl,?_⟩,by omega⟩;rw [MO,aqS];exact a2
   . have g0:((i:Int) < (k:Int))=False:=ap_ (by omega);obtain rfl:i=k:=by omega
     obtain ⟨iN,g2,bC,a2,a3,a4⟩:=u_ da (T.ext bK) (xa gv) (by omega) n5 (by simp only [ap6,gK,ap9];unfold top;omega);simp +contextual only [aU,bP,cZ,dT,H.g,aA,g0,t1,bC,↓af,an,simprocAttr];rw [<-aqS] at a2;refine ⟨_,rfl,a2.ea ?_ (fun _ z=>.inl z) (fun _ z=>.inr (show h.next<=_ by omega)),bK.fp a3 gv⟩;rw [ap6,aqi,gK,ap9];unfold top;omega
 | false=>
   simp +contextual only [oq.g,jA.g,↓af,an,simprocAttr];refine bF (C3 p _ aM ((((hA.e3 fun _ _=>trivial).ext ax).ext aH).ext bA)) ?_;rintro x bw ⟨rfl,b5⟩;have ud:=oq.ext b5;have p3:=jA.ext b5;have mR:=lI.trans b5;have aW:=VT true (ch p) aq;simp only [ef,ap8] at aW;simp only [ef];by_cases a_:ch p=aq
   . have gN:eS aq (p::q)=some (p.l++q):=by simp only [eS,hw,aqd,aqD,a_,aqB]
     rw [gN];rw [aqH a_] at aW;have n4:=mR.next
     have du:=wQ p aqy;obtain ⟨dW,cw,bC,a2,a3,a4⟩:=u_ (db.nil h.next F bw 5) (pd.ext mR) (xa fun b z=>z.elim) (by omega) n4 (by simp only [ap6,aqN];unfold top;omega);rw [aq8] at a2;have cW:Ext h cw:=mR.fp a3 fun b z=>z.elim;obtain ⟨iN,e_,bM,b1,dR,gD⟩:=u_ a2 (T.ext cW) (xa fun b z=>a2.base z) (by omega) cW.next (by simp only [ap6];unfold top;omega)
     simp +contextual only [aW,oq.g,ud.g,jA.g,p3.g,bC,bM,t1,ar4,↓af,an,simprocAttr];rw [<-aqS] at b1;refine ⟨_,rfl,b1.ea ?_ (fun _ z=>.inl z) (fun _ z=>.inr z),cW.fp dR fun b z=>a2.base z⟩;rw [ap6,aqi];unfold top;omega
   . have gN:eS aq (p::q)=none:=by simp only [eS,hw,aqd,aqD,a_]
     rw [gN];rw [aqJ a_] at aW;simp +contextual only [aW,oq.g,ud.g,jA.g,p3.g,asf,↓af,an,simprocAttr];exact ⟨_,rfl,bB.nil _ _ _,mR⟩
theorem VY (rows:List (List aE)) (m:Nat) (hm:0<m) (O:vT m rows) (aq:cF) (k:Nat) (aA:aq.2.2.2=(k:Int)) (mo:k<=1000000000) (v:V) (h:ag) (L:bB Any h 1 (rows.map hd) v):
 cr Tryz.prog 82 [v,ef aq] h fun x ab=>bB Any ab 1 ((fZ aq rows).map hd) x/\Ext h ab:=by
 have aw:=L.len;rw [ap6] at aw;have y2:=O.num;refine aai.z rfl (cm ?_);unfold PX;simp only [ef];obtain ⟨aa,al,ax,H1⟩:=gb h [.int .i64 aq.1,.int .i64 aq.2.1,.str aq.2.2.1,.int .i64 aq.2.2.2];have cg:aa.next=h.next+1:=by rw [<-al];rfl
 simp +contextual only [al,↓af,an,simprocAttr];refine ek (fun r g=>r 3=.ptr (aG h.next) 0/\r 0=v/\Ext h g/\Has g h.next [.int .i64 aq.1,.int .i64 aq.2.1,.str aq.2.2.1,.int .i64 aq.2.2.2]/\∃(i:Nat) (dW:V),r 6=.int .i64 i/\i<=rows.length/\aa.next<=g.next/\r 5=dW/\db aa.next Any g 1 ((fZ aq (rows.take i)).map hd) dW) (fun r g=>rows.length - (r 6).toN) ?_ ?_
 . exact ⟨by simp only [↓af,bq,simprocAttr],by simp only [↓af,bq,simprocAttr],ax,H1,0,.bL,by simp only [↓af,bq,simprocAttr]<;>rfl,by omega,ap7 _,by simp only [↓af,bq,simprocAttr],db.nil _ _ _ _⟩
 rintro r g ⟨bP,aU,bK,H,i,dW,cz,aB,J8,bS,da⟩;unfold PY;by_cases aN:i<rows.length
 . have g0:((i:Int) < (rows.length:Int))=True:=aqh (by omega);obtain ⟨b,off,w,bQ,S,ld⟩:=xB L.kk aN;have d1:=ld g bK;have cv:=fk aN (by omega);have h9:rows[i] ∈ rows:=aqC aN;have hF:=O.len _ h9;have oJ:=O.sm;simp +contextual only [bP,aU,cz,bS,aw,g0,bQ,d1,H.g,↓af,an,simprocAttr];refine bF (LY rows[i] (fun z=>by rw [z] at hF;simp at hF;omega) (by omega) aq k aA mo (Old h) w g (fun b z=>bK.bY z) (S.ext bK) (O.la _ h9)) ?_;rintro x g2 ⟨w',rfl,iA,aH⟩;have mc:=da.ext aH;have cf:=H.ext aH;have dv:aa.next<=g2.next:=aqK J8 aH.next
   have fq:=iA.one;have hh:(fZ aq (rows.take i)).length<=rows.length:=aqK (aqO _ _) (by rw [aqw];omega);cases gN:eS aq rows[i] with
   | none=>
     simp +contextual only [bP,aU,cz,bS,cv,d1,H.g,Option.isSome_none,↓af,an,simprocAttr];refine ⟨⟨bK.trans aH,cf,i+1,dW,rfl,aN,dv,rfl,?_⟩,by omega⟩;rw [aqn aN,G2,gN,aq7];exact mc
   | some x=>
     rw [gN,aqL] at iA
     obtain ⟨iN,g3,bC,a2,a3,a4,a5⟩:=mc.add (ds:=hd x) (cs:=[w']) (zZ (iA.e3 fun b z=>⟨trivial,fun y=>by
      have ak:=da.base y;have aY:=da.tu y;rcases z with z | z
      . unfold Old at z;omega
      . unfold lC at z;unfold Old at aY;omega⟩)) (by omega) dv (by rw [ap6];unfold top;omega) rfl
     simp +contextual only [bP,aU,cz,bS,cv,d1,H.g,fq.1,fq.2.1,fq.2.2,bC,aqB,arD,↓af,an,simprocAttr];refine ⟨⟨(bK.trans aH).fp a3 fun b z=>by have:=da.base z;omega,cf.mod a3 (fun z=>by have:=da.base z;rw [dx] at this;omega),i+1,iN,rfl,aN,by omega,rfl,?_⟩,by omega⟩;rw [aqn aN,G2,gN,aqS];exact a2
 . have g0:((i:Int) < (rows.length:Int))=False:=ap_ (by omega);rw [aqt (by omega)] at da;have hh:(fZ aq rows).length<=rows.length:=aqO _ _;simp +contextual only [bP,aU,cz,bS,aw,g0,↓af,an,simprocAttr];exact ⟨da.ea (by rw [ap6];unfold top;omega) (fun _ _=>trivial) (fun _ _=>trivial),bK⟩
theorem al_ (l:List aE) (hi:l.length<=1000000000) (v:V) (h:ag) (L:bB Any h 5 (l.map aE.enc) v):cr Tryz.prog 50 [v] h fun x ab=>bB Any ab 1 ((iM l).map hd) x/\Ext h ab:=by
 have aw:=L.len;rw [ap6] at aw;refine ZY.z rfl (cm ?_);unfold Pd;simp +contextual only [↓af,an,simprocAttr];refine ek (fun r g=>r 0=v/\Ext h g/\∃(i:Nat) (dW:V),r 4=.int .i64 i/\i<=l.length/\r 3=dW/\db h.next Any g 1 ((iM (l.take i)).map hd) dW) (fun r g=>l.length - (r 4).toN) ?_ ?_
 . exact ⟨by simp only [↓af,bq,simprocAttr],Ext.refl h,0,.bL,by simp only [↓af,bq,simprocAttr]<;>rfl,by omega,by simp only [↓af,bq,simprocAttr],db.nil _ _ _ _⟩
 rintro r g ⟨aU,bK,i,dW,d_,aB,bP,da⟩;unfold Pe;by_cases aN:i<l.length
 . have g0:((i:Int) < (l.length:Int))=True:=aqh (by omega);have cv:=fk aN (by omega);obtain ⟨b,off,w,bQ,X,dU,Df,ld⟩:=FO L aN;have d5:=ld g bK;obtain ⟨g2,au,aH,S⟩:=ti (F:=fun b=>Old h b\/lC g b) (size:=5) (h:=g) (ds:=l[i].enc) (cs:=dS l[i] w) rfl ((X.kk.ext bK).e3 fun b z=>.inl z) (.inr (by unfold lC;rw [dx];exact ap7 _));have mc:=da.ext aH;have iA:bB (fun b=>Old h b\/lC g b) g2 5 ([l[i]].map aE.enc) (.slice (aG g.next) 0 1 1):=S
   obtain ⟨iN,g3,bC,a2,a3,a4,a5⟩:=mc.add (ds:=hd [l[i]]) (cs:=[.slice (aG g.next) 0 1 1]) (zZ (iA.e3 fun b z=>⟨trivial,fun y=>by
    have ak:=da.base y;have aY:=da.tu y;rcases z with z | z
    . unfold Old at z;omega
    . unfold lC at z;unfold Old at aY;omega⟩)) (by omega) (bK.trans aH).next (by rw [ap6,iM,ap6,aqw];unfold top;omega) rfl
   simp only [dS] at au;simp +contextual only [aU,bP,d_,aw,g0,bQ,d5,dU,Df,au,bC,cv,↓af,an,simprocAttr];refine ⟨⟨(bK.trans aH).fp a3 fun b z=>da.base z,i+1,iN,rfl,aN,rfl,?_⟩,by omega⟩;rw [take_one aN,We,aqS];exact a2
 . have g0:((i:Int) < (l.length:Int))=False:=ap_ (by omega);rw [aqt (by omega)] at da;simp +contextual only [aU,bP,d_,aw,g0,↓af,an,simprocAttr];exact ⟨da.ea (by rw [ap6,iM,ap6];unfold top;omega) (fun _ _=>trivial) (fun _ _=>trivial),bK⟩
theorem al3 (rows:List (List aE)) (m:Nat) (hm:0<m) (O:vT m rows) (v:V) (h:ag) (L:bB Any h 1 (rows.map hd) v):
 cr Tryz.prog 86 [v] h fun x ab=>bB Any ab 1 ((js rows).map hd) x/\Ext h ab:=by
 have aw:=L.len;rw [ap6] at aw;have y2:=O.num;refine aam.z rfl (cm ?_);unfold P5;simp +contextual only [↓af,an,simprocAttr];refine ek (fun r g=>r 0=v/\Ext h g/\∃(i:Nat) (dW:V),r 4=.int .i64 i/\i<=rows.length/\r 3=dW/\db h.next (Old h) g 1 ((js (rows.take i)).map hd) dW) (fun r g=>rows.length - (r 4).toN) ?_ ?_
 . exact ⟨by simp only [↓af,bq,simprocAttr],Ext.refl h,0,.bL,by simp only [↓af,bq,simprocAttr]<;>rfl,by omega,by simp only [↓af,bq,simprocAttr],db.nil _ _ _ _⟩
 rintro r g ⟨aU,bK,i,dW,d_,aB,bP,da⟩;unfold P6;by_cases aN:i<rows.length
 . have g0:((i:Int) < (rows.length:Int))=True:=aqh (by omega);obtain ⟨b,off,w,bQ,S,ld⟩:=xB L.kk aN;have d1:=ld g bK;have cv:=fk aN (by omega);have hF:=O.len _ (aqC aN);have hR:rows.take (i+1)=rows.take i++[rows[i]]:=aqn aN;generalize rows[i]=row at S hF hR;obtain ⟨p,q,rfl⟩:=aqW (show row≠[] from fun z=>by rw [z] at hF;simp at hF;omega);obtain ⟨jC,gz,aC,i0,hA,pd,eW⟩:=se (S.ext bK);obtain ⟨q6,t1,T⟩:=z1 (S.ext bK);have d5:=eW g (Ext.refl g);have fq:=T.one;simp +contextual only [aU,bP,d_,aw,g0,bQ,d1,i0,d5,↓af,an,simprocAttr];refine bF (Aa p _ g (hA.e3 fun _ _=>trivial)) ?_;rintro x g2 ⟨rfl,aH⟩;have mc:=da.ext aH;have dv:=(bK.trans aH).next
   have d12:=ld g2 (bK.trans aH);have hh:(js (rows.take i)).length<=rows.length:=aqK (aqO _ _) (by rw [aqw];omega);cases hw:e' p with
   | false=>
     simp +contextual only [aU,bP,d_,cv,↓af,an,simprocAttr];refine ⟨⟨bK.trans aH,i+1,dW,rfl,aN,rfl,?_⟩,by omega⟩;rw [hR,FU];simp only [pM,hw,aqd,aqD,aq7];exact mc
   | true=>
     obtain ⟨iN,g3,bC,a2,a3,a4,a5⟩:=mc.add (ds:=hd q) (cs:=[q6]) (zZ ((T.ext aH).e3 fun b z=>⟨z,fun y=>by have:=da.base y;unfold Old at z;omega⟩)) (by omega) dv (by rw [ap6];unfold top;omega) rfl;simp +contextual only [aU,bP,d_,bQ,d12,cv,t1,fq.1,fq.2.1,fq.2.2,aqB,bC,↓af,an,simprocAttr];refine ⟨⟨(bK.trans aH).fp a3 fun b z=>da.base z,i+1,iN,rfl,aN,rfl,?_⟩,by omega⟩;rw [hR,FU];simp only [pM,hw,aqB,aqS];exact a2
 . have g0:((i:Int) < (rows.length:Int))=False:=ap_ (by omega);rw [aqt (by omega)] at da;have hh:(js rows).length<=rows.length:=aqO _ _;simp +contextual only [aU,bP,d_,aw,g0,↓af,an,simprocAttr];exact ⟨da.ea (by rw [ap6];unfold top;omega) (fun _ _=>trivial) (fun _ _=>trivial),bK⟩
theorem alH (cs:List b2) (e2:cs.length<=1000000000) (cl:V) (p:aE) (ie:List V) (h:ag) (hy:bB Any h 5 (cs.map b2.enc) cl) (X:cb Any h p.enc ie):
 cr Tryz.prog 83 [cl,.agg ie] h fun x ab=>∃v,x=.tuple [v,.bool (allM cs p).2]/\bB Any ab 4 ((allM cs p).1.map qf) v/\Ext h ab:=by
 have hA:=X;obtain ⟨cB,rfl,eR,hj⟩:=aE.open X;have ol:=eR.one;have av:=hy.len;rw [List.length_map] at av;refine aaj.z rfl (cm ?_);unfold PZ;obtain ⟨aa,al,ax,dG⟩:=gb h (dS p cB);by_cases oL:p.k=13
 . have bp:allM cs p=([ch p],true):=by unfold allM;rw [aqf (.inl oL)]
   rw [bp];simp +contextual only [ol.1,ol.2.1,al,dG.g,aqh oL,↓af,an,simprocAttr];refine bF (C3 p _ aa (hA.ext ax)) ?_;rintro x ae ⟨rfl,aH⟩;obtain ⟨aM,aJ,bA,S⟩:=ti (F:=Any) (size:=4) (h:=ae) rfl (rz Any ae (ch p) hj) trivial;simp +contextual only [ef,aJ,↓af,an,simprocAttr];exact ⟨_,rfl,S,(ax.trans aH).trans bA⟩
 . by_cases qM:p.k=15
   . have bp:allM cs p=([ch p],true):=by unfold allM;rw [aqf (.inr qM)]
     rw [bp];simp +contextual only [ol.1,ol.2.1,al,dG.g,ap_ oL,aqh qM,↓af,an,simprocAttr];refine bF (C3 p _ aa (hA.ext ax)) ?_;rintro x ae ⟨rfl,aH⟩;obtain ⟨aM,aJ,bA,S⟩:=ti (F:=Any) (size:=4) (h:=ae) rfl (rz Any ae (ch p) hj) trivial;simp +contextual only [ef,aJ,↓af,an,simprocAttr];exact ⟨_,rfl,S,(ax.trans aH).trans bA⟩
   . by_cases ni:p.k=14
     . have bp:allM cs p=([(14,0,[],0),(14,1,[],0)],true):=by unfold allM;rw [aqa (by omega),aqf ni]
       rw [bp];obtain ⟨aM,aJ,bA,S⟩:=K0 (F:=Any) (size:=4) (h:=aa) rfl rfl (rz Any aa (14,0,[],0) (arj _)) (rz Any aa (14,1,[],0) (arj _)) trivial;simp only [aqM,aq8] at aJ;have CV:=al;have vy:=dG.g;simp only [dS,ni] at CV vy;simp +contextual only [ol.1,ol.2.1,CV,vy,ni,ap_ (show ¬(14:Int)=13 by omega),ap_ (show ¬(14:Int)=15 by omega),aJ,↓af,an,simprocAttr];exact ⟨_,rfl,S,ax.trans bA⟩
     . by_cases th:p.k=12
       . have bp:allM cs p=([],false):=by unfold allM;rw [aqa (by omega),aqa ni,aqf th]
         rw [bp];simp +contextual only [ol.1,ol.2.1,al,dG.g,ap_ oL,ap_ ni,ap_ qM,aqh th,↓af,an,simprocAttr];exact ⟨_,rfl,bB.nil _ _ _,ax⟩
       . have bp:=ND (cs:=cs) oL qM ni th;rw [bp];simp +contextual only [ol.1,ol.2.1,al,dG.g,ap_ oL,ap_ ni,ap_ qM,ap_ th,↓af,an,simprocAttr];refine bF (LZ cs p.s cl aa (hy.ext ax)) ?_;rintro x ae ⟨⟨lG,ku,kx,lH,eT,rfl,rfl,t2,t3,_,_,_⟩,aH⟩;obtain ⟨aM,aJ,bA,Xe⟩:=gE ae l' [.str lG,.str (fM cs p.s),.int .i64 kx,.int .i64 lH,eT];have lI:=(ax.trans aH).trans bA;have n3:aM.next=ae.next+1:=by rw [<-aJ];rfl
         have dv:=(ax.trans aH).next
         simp +contextual only [t2,t3,aJ,↓af,an,simprocAttr];refine ek (fun r g=>r 0=cl/\r 6=.ptr (aG ae.next) 0/\Ext h g/\aM.next<=g.next/\Has g ae.next [.str lG,.str (fM cs p.s),.int .i64 kx,.int .i64 lH,eT]/\∃(i:Nat) (dW:V),r 9=.int .i64 i/\i<=cs.length/\r 8=dW/\db aM.next Any g 4 ((ru (cs.take i) (fM cs p.s)).map qf) dW) (fun r g=>cs.length - (r 9).toN) ?_ ?_
         . exact ⟨by simp only [↓af,bq,simprocAttr],by simp only [↓af,bq,simprocAttr],lI,ap7 _,Xe,0,.bL,by simp only [↓af,bq,simprocAttr]<;>rfl,by omega,by simp only [↓af,bq,simprocAttr],db.nil _ _ _ _⟩
         rintro r g ⟨aU,cz,bK,n5,Aw,i,dW,dV,aB,cZ,da⟩;unfold P0;by_cases aN:i<cs.length
         . have g0:((i:Int) < (cs.length:Int))=True:=aqh (by omega);obtain ⟨b,off,en,bQ,HN,ny,_,eW,eD,_,oO⟩:=b2.la hy (k:=.i64) aN;have d0:=eW g bK;have d1:=eD g bK;have d4:=oO g bK;have oM:=ny.len;have cv:=fk aN (by omega);have hR:cs.take (i+1)=cs.take i++[cs[i]]:=aqn aN;have nS:cs[i].name.length<=top:=by obtain ⟨_,_,z,_⟩:=HN.str;exact z
           by_cases c:cs[i].ty=fM cs p.s
           . obtain ⟨iN,g2,bC,a2,a3,a4,a5⟩:=da.add (ds:=qf (16,0,cs[i].name,(cs[i].arg.length:Int))) (cs:=[.int .i64 16,.int .i64 0,.str cs[i].name,.int .i64 cs[i].arg.length]) (rz _ _ (16,0,cs[i].name,(cs[i].arg.length:Int)) nS) (by omega) n5 (by
              have:=Bd (cs.take i) (fM cs p.s);rw [aqw] at this;rw [ap6];unfold top;omega) rfl
             obtain ⟨wy,ns,dC,_⟩:=gb g [.int .i64 16,.int .i64 0,.str cs[i].name,.int .i64 cs[i].arg.length];have aby:=eW wy (bK.trans dC);have abz:=oO wy (bK.trans dC);rw [ns] at bC;simp +contextual only [aU,cz,dV,cZ,av,g0,bQ,d0,d1,d4,aby,abz,Aw.g,oM,ns,aqh c,bC,cv,↓af,an,simprocAttr];refine ⟨⟨bK.fp a3 fun b z=>by have:=da.base z;omega,by omega,Aw.mod a3 (fun z=>by have:=da.base z;rw [dx] at this;omega),i+1,iN,rfl,aN,rfl,?_⟩,by omega⟩;rw [hR,Eh,aqf c,aqS];exact a2
           . simp +contextual only [aU,cz,dV,cZ,av,g0,bQ,d0,d1,d4,Aw.g,oM,ap_ c,cv,↓af,an,simprocAttr];refine ⟨⟨bK,n5,Aw,i+1,dW,rfl,aN,rfl,?_⟩,by omega⟩;rw [hR,Eh,aqa c,aq7];exact da
         . have g0:((i:Int) < (cs.length:Int))=False:=ap_ (by omega);rw [aqt (by omega)] at da;have ad1:=Bd cs (fM cs p.s);simp +contextual only [aU,cz,dV,cZ,av,g0,Aw.g,↓af,an,simprocAttr];refine ⟨dW,?_,da.ea (by rw [ap6];unfold top;omega) (fun _ _=>trivial) (fun _ _=>trivial),bK⟩;unfold EF;by_cases z:fM cs p.s=[101,120,110]<;>simp [z]
theorem al4 (rows:List (List aE)) (m:Nat) (hm:0<m) (O:vT m rows) (aq:cF) (v:V) (h:ag) (L:bB Any h 1 (rows.map hd) v):
 cr Tryz.prog 84 [v,ef aq] h fun x ab=>x=.bool (gy rows aq)/\Ext h ab:=by
 have aw:=L.len;rw [ap6] at aw;have y2:=O.num;refine aak.z rfl (cm ?_);unfold P1;simp only [ef];obtain ⟨aa,al,ax,H1⟩:=gb h [.int .i64 aq.1,.int .i64 aq.2.1,.str aq.2.2.1,.int .i64 aq.2.2.2];simp +contextual only [al,↓af,an,simprocAttr];refine ek (fun r g=>r 0=v/\r 3=.ptr (aG h.next) 0/\Ext h g/\Has g h.next [.int .i64 aq.1,.int .i64 aq.2.1,.str aq.2.2.1,.int .i64 aq.2.2.2]/\∃i:Nat,r 5=.int .i64 i/\i<=rows.length/\gy rows aq=gy (rows.drop i) aq) (fun r g=>rows.length - (r 5).toN) ?_ ?_
 . exact ⟨by simp only [↓af,bq,simprocAttr],by simp only [↓af,bq,simprocAttr],ax,H1,0,by simp only [↓af,bq,simprocAttr]<;>rfl,by omega,rfl⟩
 rintro r g ⟨aU,bP,bK,H,i,bS,aB,y0⟩;unfold P2;by_cases aN:i<rows.length
 . have g0:((i:Int) < (rows.length:Int))=True:=aqh (by omega);obtain ⟨b,off,w,bQ,S,ld⟩:=xB L aN;have d1:=ld g bK;have cv:=fk aN (by omega);have hF:=O.len _ (aqC aN);rw [aqz aN] at y0;generalize rows[i]=row at S hF y0;obtain ⟨p,q,rfl⟩:=aqW (show row≠[] from fun z=>by rw [z] at hF;simp at hF;omega);obtain ⟨jC,gz,aC,i0,hA,pd,eW⟩:=se S;have d5:=eW g bK;simp +contextual only [aU,bP,bS,aw,g0,bQ,d1,i0,d5,↓af,an,simprocAttr];refine bF (Aa p _ g (hA.ext bK)) ?_;rintro x g2 ⟨rfl,aH⟩;have cf:=H.ext aH;have mh:=bK.trans aH;have d12:=ld g2 mh;have d52:=eW g2 mh;cases hw:e' p with
   | true=>
     have kg:gy rows aq=gy (rows.drop (i+1)) aq:=by rw [y0];simp only [gy,ed,ary,nM,hw,aqB]
     simp +contextual only [aU,bP,bS,bQ,d1,i0,d5,d12,d52,cf.g,cv,↓af,an,simprocAttr];exact ⟨⟨mh,cf,i+1,rfl,aN,kg⟩,by omega⟩
   | false=>
     have kg:gy rows aq=(decide (ch p=aq)||gy (rows.drop (i+1)) aq):=by rw [y0];simp only [gy,ed,ary,nM,hw,aqd,aqD,ar9]
     simp +contextual only [aU,bP,bS,bQ,d1,i0,d5,d12,d52,cf.g,↓af,an,simprocAttr];refine bF (C3 p _ g2 (hA.ext mh)) ?_;rintro x g3 ⟨rfl,bA⟩;have jA:=cf.ext bA;have nH:=mh.trans bA;have d13:=ld g3 nH;have d53:=eW g3 nH;have aW:=VT false (ch p) aq;simp only [ef,aqe] at aW;simp only [ef];by_cases a_:ch p=aq
     . rw [aqH a_] at aW kg;simp +contextual only [aU,bP,bS,bQ,d1,i0,d5,d12,d52,d13,d53,cf.g,jA.g,aW,↓af,an,simprocAttr];rw [kg];exact ⟨rfl,nH⟩
     . rw [aqJ a_] at aW kg;simp +contextual only [aU,bP,bS,bQ,d1,i0,d5,d12,d52,d13,d53,cf.g,jA.g,aW,cv,↓af,an,simprocAttr];exact ⟨⟨nH,jA,i+1,rfl,aN,by rw [kg,arQ]⟩,by omega⟩
 . have g0:((i:Int) < (rows.length:Int))=False:=ap_ (by omega);rw [aqR (by omega)] at y0;simp +contextual only [aU,bP,bS,aw,g0,↓af,an,simprocAttr];rw [y0];exact ⟨rfl,bK⟩
def Pb:aR:=
 aR.seq (aR.aj [⟨(some 65),.bV (.t 10),none,[10]⟩,
  ⟨(some 66),.len .slice (.t 65),none,[65]⟩,
  ⟨(some 67),.bin (.int .gtr) (.t 66) (.c (.int .i64 0)),none,[66]⟩])
  (aR.cond (.t 67)
   (aR.seq (aR.aj [⟨(some 69),.bV (.t 0),none,[0]⟩,
     ⟨(some 70),.bV (.t 10),none,[10]⟩,
     ⟨(some 71),.bQ 5 (.t 70) (.c (.int .i64 0)),none,[70]⟩,
     ⟨(some 72),.fX 5 (.t 71),none,[71]⟩,
     ⟨(some 73),.call 83 [(.t 69),(.t 72)],none,[69,72]⟩,
     ⟨(some 68),.bV (.t 73),none,[73]⟩,
     ⟨(some 74),.ext (.t 68) 0,none,[68]⟩,
     ⟨(some 75),.ext (.t 68) 1,none,[68]⟩,
     ⟨(some 12),.bV (.t 74),none,[74]⟩,
     ⟨(some 13),.bV (.t 75),none,[75]⟩])
    (aR.seq (aR.seq (aR.aj [⟨(some 14),.bV (.c (.int .i64 0)),none,[]⟩])
     (aR.block 2 (aR.loop Ij)))
    (aR.seq (aR.aj [⟨(some 91),.bV (.t 13),none,[13]⟩])
    (aR.cond (.t 91)
     (aR.seq (aR.aj [⟨(some 92),.bV (.t 0),none,[0]⟩,
       ⟨(some 93),.bV (.t 1),none,[1]⟩,
       ⟨(some 94),.bV (.t 2),none,[2]⟩,
       ⟨(some 95),.bV (.t 12),none,[12]⟩,
       ⟨(some 96),.call 85 [(.t 92),(.t 93),(.t 94),(.t 95)],none,[92,93,94,95]⟩,
       ⟨(some 6),.bV (.t 96),none,[96]⟩])
      (aR.ret))
     (aR.skip)))))
   (aR.skip))
def Pc:aR:=
 aR.seq (aR.draw [⟨(some 97),.bV (.t 0),none,[0]⟩,
  ⟨(some 98),.bV (.t 1),none,[1]⟩,
  ⟨(some 100),.bV (.t 2),none,[2]⟩,
  ⟨(some 101),.ea 5 (.t 100) (some (.c (.int .i64 1))) none none,none,[100]⟩,
  ⟨(some 99),.call 86 [(.t 98)],none,[98]⟩,
  ⟨(some 102),.call 49 [(.t 97),(.t 99),(.t 101)],none,[97,99,101]⟩,
  ⟨(some 6),.bV (.t 102),none,[102]⟩] [])
 (aR.ret)
theorem Pa:c49=(aR.seq (aR.aj [⟨(some 6),.bV (.c (.bool false)),none,[]⟩])
 (aR.seq (aR.seq (aR.aj [⟨(some 15),.bV (.t 2),none,[2]⟩,
   ⟨(some 16),.len .slice (.t 15),none,[15]⟩,
   ⟨(some 17),.bin (.int .eql) (.t 16) (.c (.int .i64 0)),none,[16]⟩])
  (aR.cond (.t 17)
   (aR.seq (aR.aj [⟨(some 18),.bV (.t 1),none,[1]⟩,
     ⟨(some 19),.len .slice (.t 18),none,[18]⟩,
     ⟨(some 20),.bin (.int .eql) (.t 19) (.c (.int .i64 0)),none,[19]⟩,
     ⟨(some 6),.bV (.t 20),none,[20]⟩])
    (aR.ret))
   (aR.skip)))
 (aR.seq (aR.seq (aR.aj [⟨(some 21),.bV (.t 2),none,[2]⟩,
   ⟨(some 22),.bQ 5 (.t 21) (.c (.int .i64 0)),none,[21]⟩,
   ⟨(some 23),.fX 5 (.t 22),none,[22]⟩,
   ⟨(some 24),.call 79 [(.t 23)],none,[23]⟩,
   ⟨(some 25),.un .not (.t 24),none,[24]⟩])
  (aR.cond (.t 25)
   (aR.seq (aR.aj [⟨(some 26),.bV (.t 2),none,[2]⟩,
     ⟨(some 27),.bQ 5 (.t 26) (.c (.int .i64 0)),none,[26]⟩,
     ⟨(some 28),.fX 5 (.t 27),none,[27]⟩,
     ⟨(some 29),.call 80 [(.t 28)],none,[28]⟩,
     ⟨(some 7),.new [(.int .i64 0),(.int .i64 0),(.str []),(.int .i64 0)],none,[]⟩,
     ⟨none,.st 4 (.t 7) (.t 29),none,[7,29]⟩])
    (aR.seq (aR.aj [⟨(some 31),.bV (.t 2),none,[2]⟩,
      ⟨(some 32),.fX 4 (.t 7),none,[7]⟩,
      ⟨(some 33),.call 81 [(.t 31),(.t 32)],none,[31,32]⟩,
      ⟨(some 30),.bV (.t 33),none,[33]⟩,
      ⟨(some 34),.ext (.t 30) 0,none,[30]⟩,
      ⟨(some 35),.ext (.t 30) 1,none,[30]⟩,
      ⟨(some 8),.bV (.t 34),none,[34]⟩,
      ⟨(some 9),.bV (.t 35),none,[35]⟩])
    (aR.seq (aR.aj [⟨(some 36),.bV (.t 0),none,[0]⟩,
      ⟨(some 37),.bV (.t 1),none,[1]⟩,
      ⟨(some 38),.fX 4 (.t 7),none,[7]⟩,
      ⟨(some 39),.call 82 [(.t 37),(.t 38)],none,[37,38]⟩,
      ⟨(some 40),.bV (.t 8),none,[8]⟩,
      ⟨(some 41),.call 49 [(.t 36),(.t 39),(.t 40)],none,[36,39,40]⟩,
      ⟨(some 6),.bV (.t 41),none,[41]⟩])
    (aR.ret))))
   (aR.skip)))
 (aR.seq (aR.aj [⟨(some 10),.bV (.c .bL),none,[]⟩])
 (aR.seq (aR.seq (aR.aj [⟨(some 11),.bV (.c (.int .i64 0)),none,[]⟩])
  (aR.block 0 (aR.loop Ii)))
 (aR.seq (Pb)
 (Pc))))))):=rfl
abbrev ig:List aE->Option aE:=fun l=>l.head?
def HI (cs:List b2) (n:Nat):Prop:=∀(rows:List (List aE)) (q:List aE),mf rows q->iY rows q<=n->∀(cl v w:V) (h:ag),bB Any h 5 (cs.map b2.enc) cl->bB Any h 1 (rows.map hd) v->bB Any h 5 (q.map aE.enc) w->
 cr Tryz.prog 49 [cl,v,w] h fun x ab=>x=.bool (fC ig cs n rows q)/\Ext h ab
theorem ama {cs:List b2} {n:Nat} (aW:n+1<=1000000000) (R:HI cs n) (rows:List (List aE)) (p:aE) (q:List aE) (U:mf rows (p::q)) (lT:iY rows (p::q)<=n+1) (hw:e' p=true) (aO:List cF) (aoY:aO.length<=1000000000) (wV:∀aq ∈ aO,gy rows aq=true) (cl v w bz:V) (h:ag)
 (C:bB Any h 5 (cs.map b2.enc) cl) (L:bB Any h 1 (rows.map hd) v) (Q:bB Any h 5 ((p::q).map aE.enc) w) (jU:bB Any h 4 (aO.map qf) bz):
 cr Tryz.prog 85 [cl,v,w,bz] h fun x ab=>x=.bool (aO.any fun aq=>fC ig cs n (fZ aq rows) (gK aq.2.2.2.toNat++q))/\Ext h ab:=by
 have nP:=jU.len;rw [ap6] at nP;have pw:=U.rows aW lT;have za:(p::q).length<=1000000000:=by unfold iY at lT;omega
 have y_:∀x ∈ p::q,x.l.length<=1000000000:=fun x ao=>by have:=rH (U.r_ x ao);omega
 refine aal.z rfl (cm ?_);unfold P3;simp +contextual only [↓af,an,simprocAttr];refine ek (fun r G=>r 0=cl/\r 1=v/\r 2=w/\r 3=bz/\Ext h G/\∃i:Nat,r 9=.int .i64 i/\i<=aO.length/\(aO.any fun aq=>fC ig cs n (fZ aq rows) (gK aq.2.2.2.toNat++q))=((aO.drop i).any fun aq=>fC ig cs n (fZ aq rows) (gK aq.2.2.2.toNat++q))) (fun r G=>aO.length - (r 9).toN) ?_ ?_
 . exact ⟨by simp only [↓af,bq,simprocAttr],by simp only [↓af,bq,simprocAttr],by simp only [↓af,bq,simprocAttr],by simp only [↓af,bq,simprocAttr],Ext.refl h,0,by simp only [↓af,bq,simprocAttr]<;>rfl,by omega,rfl⟩
 rintro r G ⟨aU,a8,b',bP,gu,j,dV,bG,oE⟩;unfold P4;by_cases gi:j<aO.length
 . have g1:((j:Int) < (aO.length:Int))=True:=aqh (by omega);obtain ⟨b,off,bQ,ld⟩:=Fb jU gi;have d4:=ld G gu;have sl:=fk gi (by omega);have h9:aO[j] ∈ aO:=aqC gi;obtain ⟨cN,h8,aeJ⟩:=F2 U.rg (wV _ h9);obtain ⟨ow,lS⟩:=U.met hw (wV _ h9);rw [aqz gi,ar9] at oE;generalize aO[j]=aq at bQ ld d4 h8 ow lS oE;simp +contextual only [aU,a8,b',bP,dV,nP,g1,bQ,d4,↓af,an,simprocAttr];refine bF (LY (p::q) (by simp) za aq cN h8 (by omega) (Old G) w G (fun b z=>z) (Q.ext gu).kk y_) ?_;rintro x o9 ⟨w',rfl,iA,bO⟩;have yn:=gu.trans bO;have d42:=ld o9 yn;have gN:eS aq (p::q)=some (gK aq.2.2.2.toNat++q):=by simp only [eS,hw,aqB]
   rw [gN,aqL] at iA;simp +contextual only [aU,a8,b',bP,dV,bQ,d42,↓af,an,simprocAttr];refine bF (VY rows _ (by simp) pw aq cN h8 (by omega) v o9 (L.ext yn)) ?_;rintro ah ma ⟨vU,iP⟩;have yo:=yn.trans iP;simp +contextual only [aU,a8,b',bP,dV,↓af,an,simprocAttr];refine bF (R _ _ ow (by omega) cl ah w' ma (C.ext yo) vU ((iA.e3 fun _ _=>trivial).ext iP)) ?_;rintro x AE ⟨rfl,mL⟩;cases rX:fC ig cs n (fZ aq rows) (gK aq.2.2.2.toNat++q) with
   | true=>
     simp +contextual only [↓af,an,simprocAttr];rw [oE,rX];exact ⟨rfl,yo.trans mL⟩
   | false=>
     simp +contextual only [aU,a8,b',bP,dV,sl,↓af,an,simprocAttr];refine ⟨⟨yo.trans mL,j+1,rfl,gi,?_⟩,by omega⟩;rw [oE,rX,arQ]
 . have g1:((j:Int) < (aO.length:Int))=False:=ap_ (by omega);rw [aqR (by omega)] at oE;simp +contextual only [aU,a8,b',bP,dV,nP,g1,↓af,an,simprocAttr];rw [oE];exact ⟨rfl,gu⟩
theorem Yq (cs:List b2) (p:aE) (h:cs.length<=1000000000):(allM cs p).1.length<=1000000000:=by
 unfold allM
 split
 . simp
 . split
   . simp
   . split
     . simp
     . have:=Bd cs (fM cs p.s);unfold ru at this;simp only;omega
theorem V5 (cs:List b2) (e2:cs.length<=1000000000):∀(n:Nat),n<=1000000000->HI cs n
 | n,aW,rows,[],U,lT,cl,v,w,h,C,L,Q=>by
   have ar:=Q.len;have aD:=L.len;rw [ap6] at ar aD;have g0:((([]:List aE).length:Int)=0)=True:=aqh rfl;have hu:fC ig cs n rows []=rows.isEmpty:=by cases n<;>rfl
   refine O_.z rfl (cm ?_);rw [Pa];simp +contextual only [ar,aD,g0,↓af,an,simprocAttr];rw [hu];cases rows with
   | nil=>exact ⟨rfl,Ext.refl h⟩
   | cons r rows=>exact ⟨by congr 1,Ext.refl h⟩
 | 0,aW,rows,p::q,U,lT,cl,v,w,h,C,L,Q=>by unfold iY at lT;simp only [aqb] at lT;omega
 | n+1,aW,rows,p::q,U,lT,cl,v,w,h,C,L,Q=>by
   have Hi:HI cs n:=V5 cs e2 n (by omega);have ar:=Q.len;have aD:=L.len;rw [ap6] at ar aD;have g0:(((q.length+1:Nat):Int)=0)=False:=ap_ (by omega);rw [aqb] at ar;have pw:=U.rows aW lT;have BI:=U.r_ p aqy;have za:(p::q).length<=1000000000:=by unfold iY at lT;omega
   have y_:∀x ∈ p::q,x.l.length<=1000000000:=fun x ao=>by have:=rH (U.r_ x ao);omega
   obtain ⟨jC,gz,aC,i0,hA,pd,eW⟩:=se Q;obtain ⟨q6,t1,T⟩:=z1 Q;have d0:=eW h (Ext.refl h);refine O_.z rfl (cm ?_);rw [Pa];simp +contextual only [ar,g0,i0,d0,↓af,an,simprocAttr];refine bF (Aa p _ h hA) ?_;rintro x aa ⟨rfl,ax⟩;have d1:=eW aa ax;cases hw:e' p with
   | false=>
     have hu:fC ig cs (n+1) rows (p::q)=fC ig cs n (fZ (ch p) rows) (p.l++q):=by simp only [fC,hw,aqd,aqD]
     rw [hu];obtain ⟨ow,aN⟩:=U.own hw;simp +contextual only [i0,d1,↓af,an,simprocAttr];refine bF (C3 p _ aa (hA.ext ax)) ?_;rintro x ae ⟨rfl,aH⟩;obtain ⟨aM,aJ,bA,iO⟩:=gE ae [.int .i64 0,.int .i64 0,.str [],.int .i64 0] [.int .i64 (ch p).1,.int .i64 (ch p).2.1,.str (ch p).2.2.1,.int .i64 (ch p).2.2.2];have lI:=(ax.trans aH).trans bA;simp +contextual only [ef,aJ,iO.g,↓af,an,simprocAttr];refine bF (LY (p::q) (by simp) za (ch p) p.l.length rfl (by have:=rH BI;omega) (Old aM) w aM (fun b z=>z) (Q.ext lI).kk y_) ?_;rintro x bw ⟨w',rfl,iA,b5⟩;have p1:=iO.ext b5;have mR:=lI.trans b5;have gN:eS (ch p) (p::q)=some (p.l++q):=by simp only [eS,hw,aqd,aqD,aqB]
     rw [gN,aqL] at iA;simp +contextual only [p1.g,↓af,an,simprocAttr];refine bF (VY rows _ (by simp) pw (ch p) p.l.length rfl (by have:=rH BI;omega) v bw (L.ext mR)) ?_;rintro ah cw ⟨vU,cW⟩;have Bh:=mR.trans cW;simp +contextual only [↓af,an,simprocAttr];refine bF (Hi _ _ ow (by omega) cl ah w' cw (C.ext Bh) vU ((iA.e3 fun _ _=>trivial).ext cW)) ?_;rintro x e_ ⟨rfl,e7⟩;simp +contextual only [↓af,an,simprocAttr];exact Bh.trans e7
   | true=>
     have hu:fC ig cs (n+1) rows (p::q)=if ((kc cs (ed rows).head?).2&&(kc cs (ed rows).head?).1.all (gy rows))=true then
      (kc cs (ed rows).head?).1.any fun aq=>fC ig cs n (fZ aq rows) (gK aq.2.2.2.toNat++q) else fC ig cs n (js rows) q:=by simp only [fC,hw,aqB]
     simp +contextual only [↓af,an,simprocAttr];have cg:=ax.next
     have y2:=pw.num;refine ek (fun r g=>r 0=cl/\r 1=v/\r 2=w/\Ext h g/\∃(i:Nat) (dW:V),r 11=.int .i64 i/\i<=rows.length/\r 10=dW/\db h.next (Old h) g 5 ((ed (rows.take i)).map aE.enc) dW) (fun r g=>rows.length - (r 11).toN) ?_ ?_
     . exact ⟨by simp only [↓af,bq,simprocAttr],by simp only [↓af,bq,simprocAttr],by simp only [↓af,bq,simprocAttr],ax,0,.bL,by simp only [↓af,bq,simprocAttr]<;>rfl,by omega,by simp only [↓af,bq,simprocAttr],db.nil _ _ _ _⟩
     rintro r g ⟨aU,a8,b',bK,i,dW,fr,aB,dK,da⟩;unfold Ii;by_cases aN:i<rows.length
     . have g1:((i:Int) < (rows.length:Int))=True:=aqh (by omega);obtain ⟨b,off,wr,bQ,S,ld⟩:=xB L.kk aN;have abP:=ld g bK;have cv:=fk aN (by omega);have hF:=pw.len _ (aqC aN);have hR:rows.take (i+1)=rows.take i++[rows[i]]:=aqn aN;generalize rows[i]=row at S hF hR;obtain ⟨p',fi,rfl⟩:=aqW (show row≠[] from fun z=>by rw [z] at hF;simp at hF);obtain ⟨bM,di,bT,i1,hc,NA,eD⟩:=se (S.ext bK);have d5:=eD g (Ext.refl g);have ol:=NA.one;simp +contextual only [aU,a8,b',fr,dK,aD,g1,bQ,abP,i1,d5,↓af,an,simprocAttr];refine bF (Aa p' _ g (hc.e3 fun _ _=>trivial)) ?_;rintro x g2 ⟨rfl,aH⟩;have mc:=da.ext aH;have dv:=(bK.trans aH).next
       have abQ:=ld g2 (bK.trans aH);have d52:=eD g2 aH;have hh:(ed (rows.take i)).length<=rows.length:=aqK (aqO _ _) (by rw [aqw];omega);cases iW:e' p' with
       | true=>
         simp +contextual only [aU,a8,b',fr,dK,cv,↓af,an,simprocAttr];refine ⟨⟨bK.trans aH,i+1,dW,rfl,aN,rfl,?_⟩,by omega⟩;rw [hR,ER];simp only [nM,iW,aqB,aq7];exact mc
       | false=>
         obtain ⟨iN,g3,bC,a2,a3,a4,a5⟩:=mc.add (ds:=p'.enc) (cs:=dS p' bT) ((hc.ext aH).e3 fun b z=>⟨z,fun y=>by have:=da.base y;unfold Old at z;omega⟩) (by omega) dv (by rw [ap6];unfold top;omega) rfl;simp +contextual only [aU,a8,b',fr,dK,bQ,abQ,i1,d52,ol.1,ol.2.1,bC,cv,↓af,an,simprocAttr];refine ⟨⟨(bK.trans aH).fp a3 fun b z=>da.base z,i+1,iN,rfl,aN,rfl,?_⟩,by omega⟩;rw [hR,ER];simp only [nM,iW,aqd,aqD,aqS];exact a2
     . have g1:((i:Int) < (rows.length:Int))=False:=ap_ (by omega);rw [aqt (by omega)] at da;have hh:(ed rows).length<=rows.length:=aqO _ _;have FS:bB Any g 5 ((ed rows).map aE.enc) dW:=da.ea (by rw [ap6];unfold top;omega) (fun _ _=>trivial) (fun _ _=>trivial);have yU:=FS.len;rw [ap6] at yU;simp +contextual only [aU,a8,b',fr,dK,aD,g1,↓af,an,simprocAttr];refine MU (fun r G=>r 0=cl/\r 1=v/\r 2=w/\Ext h G/\fC ig cs (n+1) rows (p::q)=fC ig cs n (js rows) q) rfl (cm ?_) ?_
       . unfold Pb;cases aF:ed rows with
         | nil=>
           rw [aF] at yU;have g2:((([]:List aE).length:Int)>0)=False:=ap_ (by simp);rw [aF] at hu;simp only [List.head?_nil,kc,aqV,aqd,aqD] at hu;simp +contextual only [aU,a8,b',dK,yU,g2,kt,↓af,an,simprocAttr];exact ⟨bK,hu⟩
         | cons x xs=>
           rw [aF] at yU FS;rw [aqb] at yU;have g2:((0:Int) < ((xs.length+1:Nat):Int))=True:=aqh (by omega);rw [aF] at hu;obtain ⟨bM,di,bT,i1,hc,NA,eD⟩:=se FS;have d5:=eD g (Ext.refl g);simp +contextual only [aU,a8,b',dK,yU,g2,i1,d5,↓af,an,simprocAttr];refine bF (alH cs e2 cl x _ g (C.ext bK) hc) ?_;rintro y g2 ⟨bz,rfl,jU,aH⟩;have kA:=Yq cs x e2;obtain ⟨aO,Q7⟩:∃aO,aO=(allM cs x).1:=⟨_,rfl⟩;obtain ⟨ie,Q5⟩:∃ie,ie=(allM cs x).2:=⟨_,rfl⟩;have zi:fC ig cs (n+1) rows (p::q)=if (ie&&aO.all (gy rows))=true then (aO.any fun aq=>fC ig cs n (fZ aq rows) (gK aq.2.2.2.toNat++q)) else fC ig cs n (js rows) q:=by subst Q7 Q5;exact hu
           rw [<-Q7] at jU kA;rw [<-Q5];clear hu;have hu:=zi;clear zi;have nP:=jU.len;rw [ap6] at nP;have mh:=bK.trans aH;simp +contextual only [aU,a8,b',↓af,an,simprocAttr];refine ek (fun r G=>r 0=cl/\r 1=v/\r 2=w/\r 12=bz/\Ext g2 G/\∃(i:Nat) (c:Bool),r 14=.int .i64 i/\i<=aO.length/\r 13=.bool c/\(ie&&aO.all (gy rows))=(c&&(aO.drop i).all (gy rows))) (fun r G=>aO.length - (r 14).toN) ?_ ?_
           . exact ⟨by simp only [aU,↓af,bq,simprocAttr],by simp only [a8,↓af,bq,simprocAttr],by simp only [b',↓af,bq,simprocAttr],by simp only [↓af,bq,simprocAttr],Ext.refl g2,0,ie,by simp only [↓af,bq,simprocAttr]<;>rfl,by omega,by simp only [↓af,bq,simprocAttr],rfl⟩
           clear aU a8 b' dK fr;rintro r G ⟨aU,a8,b',hX,gu,i,c,iv,aB,oa,c8⟩;unfold Ij;have mi:=mh.trans gu;by_cases uN:i<aO.length
           . have g3:((i:Int) < (aO.length:Int))=True:=aqh (by omega);rw [aqz uN,arz] at c8;cases c with
             | true=>
               obtain ⟨b,off,bQ,ld⟩:=Fb jU uN;have d4:=ld G gu;have cv:=fk uN (by omega);simp +contextual only [aU,a8,b',hX,iv,oa,nP,g3,bQ,d4,↓af,an,simprocAttr];refine bF (al4 rows _ (by simp) pw aO[i] v G (L.ext mi)) ?_;rintro y o9 ⟨rfl,bO⟩;simp +contextual only [aU,a8,b',hX,iv,cv,↓af,an,simprocAttr];refine ⟨⟨gu.trans bO,i+1,gy rows aO[i],rfl,uN,rfl,?_⟩,by omega⟩;rw [c8,aqY]
             | false=>
               rw [aqV] at c8;rw [c8] at hu;simp only [aqd,aqD] at hu;simp +contextual only [aU,a8,b',hX,iv,oa,nP,g3,kt,↓af,an,simprocAttr];exact ⟨mi,hu⟩
           . have g3:((i:Int) < (aO.length:Int))=False:=ap_ (by omega);rw [aqR (by omega),List.all_nil,aq1] at c8;cases c with
             | false=>
               rw [c8] at hu;simp only [aqd,aqD] at hu;simp +contextual only [aU,a8,b',hX,iv,oa,nP,g3,kt,↓af,an,simprocAttr];exact ⟨mi,hu⟩
             | true=>
               have wV:∀aq ∈ aO,gy rows aq=true:=by rw [ap2] at c8;exact aqu.1 c8.2
               rw [c8] at hu;simp only [aqB] at hu;simp +contextual only [aU,a8,b',hX,iv,oa,nP,g3,uk,↓af,an,simprocAttr];refine bF (ama aW Hi rows p q U lT hw aO kA wV cl v w bz G (C.ext mi) (L.ext mi) (Q.ext mi) (jU.ext gu)) ?_;rintro y o9 ⟨rfl,bO⟩;simp +contextual only [uk,↓af,an,simprocAttr];rw [hu];exact ⟨rfl,mi.trans bO⟩
       rintro r G ⟨aU,a8,b',gu,gT⟩;unfold Pc;rw [gT];obtain ⟨ow,lS⟩:=U.leave;simp +contextual only [aU,a8,b',t1,↓af,an,simprocAttr];refine bF (al3 rows _ (by simp) pw v G (L.ext gu)) ?_;rintro cB jT ⟨HL,eP⟩;simp +contextual only [↓af,an,simprocAttr];refine bF (Hi _ _ ow (by omega) cl cB q6 jT (C.ext (gu.trans eP)) HL (T.ext (gu.trans eP))) ?_;rintro x o9 ⟨rfl,bO⟩;simp +contextual only [↓af,an,simprocAttr];exact (gu.trans eP).trans bO
def Xa (cs:List b2) (l:List aE):Prop:=∀n,dw cs n l=true
theorem Vb {s:List aE} {q:aE} (hw:e' q=false) {aq:cF} {i:Nat}:∀l:List aE,b0 (gA l aq i)<=b0 l
 | []=>ap7 _
 | p::l=>by
   have bd:=Vb (s:=s) hw (aq:=aq) (i:=i) l;unfold gA at bd ⊢;rw [arG]
   split
   . rw [ary];cases ao:p.l[i]? with
     | none=>simp only [b0];omega
     | some x=>
       have aa:=FP (aqv ao);simp only [b0];omega
   . simp only [b0];omega
theorem alh {aq:cF} {i:Nat}:∀l:List aE,l≠[]->b0 (gA l aq i)<b0 l
 | [],h=>absurd rfl h
 | p::l,_=>by
   have bd:b0 (gA l aq i)<=b0 l:=Vb (s:=[]) (q:=.mk 12 0 0 [] []) (by decide) l;have a1:0<p.size:=qV p;unfold gA at bd ⊢;rw [arG]
   split
   . rw [ary];cases ao:p.l[i]? with
     | none=>simp only [b0];omega
     | some x=>
       have aa:=FP (aqv ao);simp only [b0];omega
   . simp only [b0];omega
theorem Wu:∀l:List aE,b0 (fj l)<=b0 l
 | []=>ap7 _
 | p::l=>by
   have bd:=Wu l;unfold fj at bd ⊢;rw [arG]
   split
   . simp only [b0];omega
   . simp only [b0];omega
theorem Aj {cs:List b2} {n:Nat} {l:List aE}:dw cs (n+1) l=true↔∀p s,fj l=p::s->(∀q ∈ p::s,gh cs p q=true)/\∀q ∈ p::s,∀i<q.l.length,dw cs n (gA (p::s) (ch q) i)=true:=by
 cases aO:fj l with
 | nil=>simp [dw,aO]
 | cons p s=>
   simp only [dw,aO,ap2,aqu,arF,arS];exact ⟨fun h p' gm ⟨a,b⟩=>by subst a;subst b;exact h,fun h=>h p s ⟨rfl,rfl⟩⟩
theorem Wx {cs:List b2}:∀(N n:Nat) (l:List aE),b0 l<=n->dw cs n l=true->dw cs N l=true
 | 0,_,_,_,_=>rfl
 | N+1,n,l,aW,h=>by rw [Aj];intro p s aO;have aa:=Wu l;have a1:0<p.size:=qV p;rw [aO,b0] at aa;obtain ⟨m,rfl⟩:∃m,n=m+1:=⟨n-1,by omega⟩;obtain ⟨a,b⟩:=Aj.1 h p s aO;refine ⟨a,fun q ar i aB=>Wx N m _ ?_ (b q ar i aB)⟩;have ae:=alh (aq:=ch q) (i:=i) (p::s) (by simp);rw [b0] at ae;omega
theorem Cw {l:List aE} {p:aE}:p ∈ fj l↔p ∈ l/\e' p=false:=by simp [fj,arK]
theorem K8 {l:List aE} {aq:cF} {i:Nat} {x:aE}:x ∈ gA l aq i↔∃q ∈ l,ch q=aq/\q.l[i]? =some x:=by simp only [gA,ard,arK,aqg];exact ⟨fun ⟨q,⟨a,b⟩,c⟩=>⟨q,a,b,c⟩,fun ⟨q,a,b,c⟩=>⟨q,⟨a,b⟩,c⟩⟩
theorem yC {cs:List b2} {p q:aE}:gh cs p q=true↔q.k=p.k/\(p.k=16->∃c,gf q.s cs=some c/\c.ty=fM cs p.s/\c.arg.length=q.l.length):=by
 simp only [gh,ap2,aqg,arp];refine and_congr_right fun _=>?_;by_cases h:p.k=16
 . simp only [h,ne_eq,not_true,false_or,forall_const];cases gf q.s cs with
   | none=>simp
   | some c=>simp
 . simp [h]
theorem Rx {cs:List b2} {p q:aE} (h:gh cs p q=true) (jF:p.k=16):fM cs q.s=fM cs p.s:=by obtain ⟨c,a,b,_⟩:=(yC.1 h).2 jF;unfold fM at b ⊢;rw [a];exact b
theorem My {cs:List b2}:∀(n:Nat) (eH l:List aE),(∀p ∈ eH,e' p=false->p ∈ l)->dw cs n l=true->dw cs n eH=true
 | 0,_,_,_,_=>rfl
 | n+1,eH,l,S2,h=>by
   rw [Aj];intro p' gm jo;have ez:∀q ∈ p'::gm,q ∈ fj l:=fun q ar=>by rw [<-jo] at ar;obtain ⟨a,b⟩:=Cw.1 ar;exact Cw.2 ⟨S2 q a b,b⟩
   obtain ⟨p,s,aO⟩:∃p s,fj l=p::s:=aqW fun z=>by have:=ez p' aqy;rw [z] at this;cases this
   rw [aO] at ez;obtain ⟨a,b⟩:=Aj.1 h p s aO;have gS:=a p' (ez p' aqy);refine ⟨fun q ar=>?_,fun q ar i aB=>My n _ _ (fun x ao _=>?_) (b q (ez q ar) i aB)⟩
   . have hQ:=a q (ez q ar);have e:=(yC.1 gS).1;refine yC.2 ⟨by rw [(yC.1 hQ).1,e],fun jF=>?_⟩;obtain ⟨c,bW,b6,c3⟩:=(yC.1 hQ).2 (by rw [<-e];exact jF);exact ⟨c,bW,by rw [b6,Rx gS (by rw [<-e];exact jF)],c3⟩
   . obtain ⟨y,dU,gn,y3⟩:=K8.1 ao;exact K8.2 ⟨y,ez y dU,gn,y3⟩
def sq (cs:List b2) (R:List (List aE)):Prop:=∀(i:Nat) (l:List aE),(∀p ∈ l,e' p=false->∃r ∈ R,r[i]? =some p)->Xa cs l
theorem sq.leave {cs:List b2} {R:List (List aE)} (C:sq cs R):sq cs (js R):=fun i l h=>C (i+1) l fun p ai hw=>by
 obtain ⟨bb,a,b⟩:=h p ai hw;obtain ⟨r,c,d⟩:=ard.1 a;cases r with
 | nil=>cases d
 | cons x r=>
   simp only [pM] at d
   split at d
   . rw [ap3] at d;subst d;exact ⟨_,c,by simpa using b⟩
   . cases d
theorem Jy {R:List (List aE)} {x:aE}:x ∈ R.filterMap List.head? ↔∃r ∈ R,r[0]? =some x:=by rw [ard];exact ⟨fun ⟨r,a,b⟩=>⟨r,a,by rw [<-List.head?_eq_getElem?];exact b⟩,fun ⟨r,a,b⟩=>⟨r,a,by rw [List.head?_eq_getElem?];exact b⟩⟩
theorem sq.split {cs:List b2} {R:List (List aE)} (C:sq cs R) (aq:cF) (k:Nat) (aA:aq.2.2.2=(k:Int)):sq cs (fZ aq R):=by
 intro i l h n;have j2:aq.2.2.2.toNat=k:=by rw [aA];rfl
 have key:∀p ∈ l,e' p=false->(i<k/\∃x,(∃r ∈ R,r[0]? =some x)/\e' x=false/\ch x=aq/\x.l[i]? =some p)\/(k<=i/\∃r ∈ R,r[i-k+1]? =some p):=by
  intro p ai hw;obtain ⟨bb,a,b⟩:=h p ai hw;obtain ⟨r,c,d⟩:=ard.1 a;cases r with
  | nil=>cases d
  | cons x r=>
    simp only [eS] at d
    split at d
    . rw [ap3] at d;subst d;have aw:(gK aq.2.2.2.toNat).length=k:=by rw [j2,gK,ap9]
      by_cases aB:i<k
      . rw [aqq (by omega)] at b;have:=aqv b;rw [List.eq_of_mem_replicate this,Yw] at hw;cases hw
      . rw [aqk (by omega),aw] at b;exact .inr ⟨by omega,_,c,by simpa using b⟩
    . split at d
      . rename_i a_;rw [ap3] at d;subst d;have aw:x.l.length=k:=by rw [<-a_] at aA;simp only [ch] at aA;omega
        by_cases aB:i<k
        . rw [aqq (by omega)] at b;exact .inl ⟨aB,x,⟨_,c,rfl⟩,by simpa using ‹¬e' x=true›,a_,b⟩
        . rw [aqk (by omega),aw] at b;exact .inr ⟨by omega,_,c,by simpa using b⟩
      . cases d
 by_cases aB:i<k
 . cases n with
   | zero=>rfl
   | succ n=>
     cases aO:fj l with
     | nil=>simp [dw,aO]
     | cons pP Mf=>
       have gI:pP ∈ fj l:=by rw [aO];exact aqy
       obtain ⟨m1,m2⟩:=Cw.1 gI;obtain ⟨-,x,bD,er,kQ,p0⟩:=(key pP m1 m2).resolve_right (by omega);have AQ:=C 0 (R.filterMap List.head?) (fun p ai _=>Jy.1 ai) (n+1+1);have FA:x ∈ fj (R.filterMap List.head?):=Cw.2 ⟨Jy.2 bD,er⟩;obtain ⟨p,s,B5⟩:∃p s,fj (R.filterMap List.head?)=p::s:=aqW fun z=>by rw [z] at FA;cases FA
       obtain ⟨a,b⟩:=Aj.1 AQ p s B5;have JM:i<x.l.length:=by rw [aqp] at p0;exact p0.1
       rw [B5] at FA;refine My (n+1) _ _ (fun q ar hw=>?_) (b x FA i JM);obtain ⟨-,y,dU,gn,y3,y4⟩:=(key q ar hw).resolve_right (by omega);rw [kQ];refine K8.2 ⟨y,?_,y3,y4⟩;rw [<-B5];exact Cw.2 ⟨Jy.2 dU,gn⟩
 . exact C (i-k+1) l (fun p ai hw=>((key p ai hw).resolve_left (by omega)).2) n
theorem U5 {p:aE} (aO:p.size<=1000000000) (h:fB p=true) (aA:p.k=13):ch p=(13,0,[],0):=by simp only [fB,ap2,aqg] at h;obtain ⟨⟨aa,ae⟩,aM⟩:=h;have aD:=tn (named:=dm) p.size p (ap7 _) aO;rw [aM] at aD;rw [Ma] at aD;simp only [ap2,aqg] at aD;obtain ⟨⟨⟨⟨⟨⟨a8,b'⟩,bP⟩,d_⟩,bS⟩,cz⟩,dT⟩:=aD;rw [aA] at b' bP cz dT;simp [oZ,hq,de] at b' bP cz dT;simp [ch,aA,b',bP,cz]
theorem Yt {cs:List b2} {p q:aE} (ai:mj p) (ar:mj q) (wp:e' p=false) (aA:q.k=p.k) (aK:p.k=16->fM cs q.s=fM cs p.s):allM cs q=allM cs p:=by
 obtain ⟨bC,a2,a3,a4,a5,_⟩:=tx ai.2 ai.1;obtain ⟨bM,b1,dR,gD,jX,_⟩:=tx ar.2 ar.1;simp only [e',asa,arh] at wp;unfold allM;rw [aA];by_cases Ed:p.k=13
 . rw [U5 ai.2 ai.1 Ed,U5 ar.2 ar.1 (by rw [aA,Ed])];simp [Ed]
 . by_cases v_:p.k=15
   . obtain ⟨bD,er,kQ⟩:=a3 v_;obtain ⟨dU,gn,y3⟩:=dR (by rw [aA,v_]);simp [ch,v_,aA,bD,er,kQ,dU,gn,y3]
   . by_cases OO:p.k=14
     . simp [OO]
     . by_cases OA:p.k=12
       . simp [OA]
       . simp only [Ed,v_,OO,OA,or_self,aqD,aK (by omega)]
theorem NI {α:Type} {f g:α->Bool}:∀{l:List α},(∀a ∈ l,f a=g a)->l.any f=l.any g
 | [],_=>rfl
 | a::l,h=>by rw [ar9,ar9,h a aqy,NI fun b ak=>h b (aqs _ ak)]
theorem I4 {R:List (List aE)} {x:aE} (h:x ∈ ed R):e' x=false/\∃r ∈ R,r[0]? =some x:=by
 obtain ⟨r,a,b⟩:=ard.1 h;cases r with
 | nil=>cases b
 | cons y r=>
   simp only [nM] at b
   split at b
   . cases b
   . rw [ap3] at b;subst b;exact ⟨by simpa using ‹¬e' y=true›,_,a,rfl⟩
theorem aed {cs:List b2} {rows:List (List aE)} {q:List aE} (C:sq cs (q::rows)) (aL:∀r ∈ rows,∀p ∈ r,mj p):kc cs ((ed rows).getLast?)=kc cs ((ed rows).head?):=by
 cases aF:ed rows with
 | nil=>rfl
 | cons x xs=>
   rw [List.getLast?_eq_some_getLast (by simp:x::xs≠[])];simp only [List.head?_cons,kc];have ez:(x::xs).getLast (by simp) ∈ x::xs:=List.getLast_mem _;generalize (x::xs).getLast (by simp)=y at ez;rw [<-aF] at ez;have ao:x ∈ ed rows:=by rw [aF];exact aqy
   obtain ⟨dU,r,aD,aoh⟩:=I4 ez;obtain ⟨bD,bb,qD,aoe⟩:=I4 ao;have Bo:∀z ∈ ed rows,mj z:=fun z bl=>by obtain ⟨_,r,aD,e⟩:=I4 bl;exact aL r aD z (aqv e)
   have S:=C 0 [x,y] (fun p ai _=>by
    simp only [aql,asn,or_false] at ai;rcases ai with rfl | rfl
    . exact ⟨bb,aqs _ qD,aoe⟩
    . exact ⟨r,aqs _ aD,aoh⟩) 1
   have aO:fj [x,y]=[x,y]:=by simp [fj,bD,dU]
   have F:=(Aj.1 S x [y] aO).1 y (by simp);exact Yt (Bo x ao) (Bo y ez) bD (yC.1 F).1 fun jF=>Rx F jF
theorem G' {cs:List b2}:∀(n:Nat) (rows:List (List aE)) (q:List aE),mf rows q->sq cs (q::rows)->fC lZ cs n rows q=fC ig cs n rows q
 | n,rows,[],_,_=>by cases n<;>rfl
 | 0,rows,p::q,_,_=>rfl
 | n+1,rows,p::q,U,C=>by
   simp only [fC];rw [show kc cs (lZ (ed rows))=kc cs (ig (ed rows)) from aed C U.rg];by_cases hw:e' p=true
   . rw [aqf hw,aqf hw];by_cases av:((kc cs (ig (ed rows))).2&&(kc cs (ig (ed rows))).1.all (gy rows))=true
     . rw [aqf av,aqf av];rw [ap2,aqu] at av;refine NI fun aq a_=>?_;have hm:=av.2 aq a_;obtain ⟨k,aA,_⟩:=F2 U.rg hm;refine G' n _ _ (U.met hw hm).1 ?_;have:=C.split aq k aA;simpa [fZ,eS,hw] using this
     . rw [aqa av,aqa av];refine G' n _ _ U.leave.1 ?_;have:=C.leave;simpa [js,pM,hw] using this
   . rw [aqa hw,aqa hw];have iW:e' p=false:=by simpa using hw
     refine G' n _ _ (U.own iW).1 ?_;have:=C.split (ch p) p.l.length rfl;simpa [fZ,eS,hw] using this
theorem aa8 {cs:List b2} {l:List aE} {p:aE} (h:dw cs (b0 (l++[p])) (l++[p])=true):sq cs ([p]::iM l):=by
 intro i eH fm n;refine My n _ _ (fun x ao hw=>?_) (Wx n _ (l++[p]) (ap7 _) h);obtain ⟨r,a,b⟩:=fm x ao hw;rcases aql.1 a with rfl | a
 . cases i with
   | zero=>simp at b;simp [b]
   | succ i=>simp at b
 . obtain ⟨y,dU,rfl⟩:=ass.1 a;cases i with
   | zero=>simp at b;subst b;simp [dU]
   | succ i=>simp at b
section
variable [Lay]
theorem akV (h:ag) (G:aQ->Prop) (size:Nat):db h.next G (h.new (.bU [] 0 false)) size [] (.slice (aG h.next) 0 0 0):=
 ⟨[],⟨by simp,rfl,by rw [dx];exact ap7 _,by unfold Old;rw [dx,ir];omega,ap7 _,by unfold top;omega,[],0,false,oA _,by simp,by simp⟩,rfl,fun u hu=>(by cases hu),fun i e u q=>(by simp at q)⟩
theorem KL (h:ag) {l:List aE} {p:aE} {v w:V} (hlen:l.length<=1000000000) (L:bB Any h 5 (l.map aE.enc) v) (X:cb Any h p.enc (dS p w)):
 ∃aa,h.new (.bU [] 0 false)=aa/\Ext h aa/\∃ae,aa.new (.bU (dS p w) 0 false)=ae/\Ext h ae/\∃v3 aM,lF 5 (.slice (aG h.next) 0 0 0) v ae=.val v3 aM/\Ext h aM/\∃v4 bw,lF 5 v3 (.slice (aG aa.next) 0 1 1) aM=.val v4 bw/\bB Any bw 5 ((l++[p]).map aE.enc) v4/\Ext h bw:=by
 have ax:Ext h (h.new (.bU [] 0 false)):=(Ext.refl h).new _;have cg:(h.new (.bU [] 0 false)).next=h.next+1:=ir _ _
 have DN:=akV h (fun b=>Old h b\/b=aG (h.next+1)) 5;generalize h.new (.bU [] 0 false)=aa at ax cg DN;obtain ⟨ae,au,aH,S⟩:=ti (F:=fun b=>Old h b\/b=aG (h.next+1)) (size:=5) (h:=aa) (ds:=p.enc) (cs:=dS p w) rfl ((X.kk.ext ax).e3 fun b z=>.inl z) (.inr (by rw [cg]));have dv:ae.next=aa.next+1:=by rw [<-au];exact ir _ _
 obtain ⟨v3,aM,bC,a2,a3,a4⟩:=u_ (DN.ext aH) ((L.kk.ext ax).ext aH) (fun b z=>⟨.inl z,fun y=>by have:=DN.base y;unfold Old at z;omega⟩) (by omega) (by omega) (by simp only [ap6,aqN];unfold top;omega);rw [aq8] at a2;have bA:Ext h aM:=(ax.trans aH).fp a3 fun b z=>DN.base z;have sC:bB (fun b=>Old h b\/b=aG (h.next+1)) aM 5 ([p].map aE.enc) (.slice (aG aa.next) 0 1 1):=by
  refine (S.mod a3 fun b z o=>⟨fun y=>?_,z⟩);have o4:b=aG h.next:=y
  subst o4;rcases z with z | z
  . unfold Old at z;rw [dx] at z;omega
  . rw [r9] at z;omega
 obtain ⟨v4,bw,bM,b1,dR,gD⟩:=u_ a2 sC (fun b z=>⟨z,fun y=>by
  rcases a4 b y with y | y
  . have o4:b=aG h.next:=y
    subst o4;rcases z with z | z
    . unfold Old at z;rw [dx] at z;omega
    . rw [r9] at z;omega
  . rcases z with z | z
    . unfold Old at z;omega
    . subst z;rw [dx] at y;omega⟩) (by omega) bA.next (by simp only [ap6,aqb,aqN];unfold top;omega)
 rw [<-aqS] at b1;exact ⟨aa,rfl,ax,ae,au,ax.trans aH,v3,aM,bC,bA,v4,bw,bM,b1.ea (by simp only [ap6,aqi,aqb,aqN];unfold top;omega) (fun _ _=>trivial) (fun _ _=>trivial),bA.fp dR fun b z=>a2.base z⟩
end
def sj (vn:List aE->Option aE) (cs:List b2) (l:List aE) (p:aE):Bool:=if ky cs (l++[p])=0 then fC vn cs (iY (iM l) [p]) (iM l) [p] else false
theorem IT {cs:List b2} {l:List aE} (h:ky cs l=0):(∀p ∈ l,fB p=true)/\dw cs (b0 l) l=true:=by
 unfold ky at h
 split at h
 . rename_i c;simp only [ap2,aqu] at c;exact ⟨c.1.2,c.2⟩
 . cases h
theorem Mj {l:List aE} {p:aE} (h:∀q ∈ l++[p],fB q=true) (aO:b0 (l++[p])<=1000000000):mf (iM l) [p]:=by
 have bl:∀q ∈ l++[p],mj q:=fun q ar=>⟨h q ar,by have:=pS ar;omega⟩;have aw:=mG (l++[p]);rw [aqi] at aw;refine ⟨fun r aD=>?_,fun r aD q ar=>?_,fun q ar=>bl q (List.mem_append_right _ ar),by rw [iM,ap6];omega⟩
 . obtain ⟨x,_,rfl⟩:=ass.1 aD;rfl
 . obtain ⟨x,ao,rfl⟩:=ass.1 aD;rw [aqU] at ar;subst ar;exact bl _ (List.mem_append_left _ ao)
mutual
theorem UB:∀p:aE,p.u9<=p.size
 | .mk k n a s l=>by
   have:=LJ l;simp only [aE.u9,aE.size]
   split<;>omega
theorem LJ:∀l:List aE,fP l<=b0 l
 | []=>ap7 _
 | p::l=>by have:=UB p;have:=LJ l;simp only [fP,b0];omega
end
theorem VX:∀l:List aE,l7 (iM l)=fP l
 | []=>rfl
 | p::l=>by have:=VX l;unfold iM at this ⊢;simp only [are,l7,fP,this,aro]
theorem Uo (l:List aE) (p:aE):iY (iM l) [p]<=2 * b0 (l++[p])+1:=by have aa:=LJ l;have ae:=UB p;rw [iY,VX,xt];simp only [fP,b0,aqb,aqN];omega
theorem anJ {cs:List b2} {l:List aE} {p:aE} (aO:b0 (l++[p])<=1000000000):sj lZ cs l p=sj ig cs l p:=by
 unfold sj;by_cases h:ky cs (l++[p])=0
 . rw [aqf h,aqf h];obtain ⟨a,b⟩:=IT h;exact G' _ _ _ (Mj a aO) (aa8 b)
 . rw [aqa h,aqa h]
theorem Ri (cs:List b2) (l:List aE):ky cs l=0\/ky cs l=2:=by
 unfold ky
 split
 . exact .inl rfl
 . exact .inr rfl
theorem alp (cs:List b2) (e2:cs.length<=1000000000) (l:List aE) (p:aE) (aO:b0 (l++[p])<=100000000) (cl v w:V) (h:ag) (hy:bB Any h 5 (cs.map b2.enc) cl) (L:bB Any h 5 (l.map aE.enc) v) (X:cb Any h p.enc (dS p w)):
 cr Tryz.prog 18 [cl,v,.agg (dS p w)] h fun x ab=>x=.tuple [.bool (sj lZ cs l p),.int .i64 (ky cs (l++[p]))]/\Ext h ab:=by
 have hi:l.length<=1000000000:=by have:=mG (l++[p]);rw [aqi] at this;omega
 have ol:w.one=true/\w.cells=[w]/\w.fD=true:=by obtain ⟨cB,e,eR,_⟩:=aE.open X;simp only [dS,List.cons.injEq] at e;rw [e.2.2.2.2.1];exact eR.one
 refine ZN.z rfl (cm ?_);unfold OQ;obtain ⟨g,vg,cA,jS⟩:=gb h (dS p w);obtain ⟨aa,al,ax,ae,au,aH,v3,aM,aJ,bA,v4,bw,bE,ks,b5⟩:=KL g hi (L.ext cA) (X.ext cA);have mJ:=jS.ext ax;have ha:=jS.ext aH;have j9:=jS.ext bA;have gQ:=jS.ext b5;simp only [dS] at vg au jS mJ ha j9 gQ;simp only [dS];simp +contextual only [vg,jS.g,mJ.g,ha.g,j9.g,ol.1,ol.2.1,ol.2.2,al,au,aJ,bE,↓af,an,simprocAttr];refine bF (U7 cs (l++[p]) (by omega) cl v4 bw ((hy.ext cA).ext b5) ks) ?_;rintro x cw ⟨k,rfl,cW,je⟩;have o5:=jS.ext b5;have oy:=(cA.trans b5).trans cW;rcases Ri cs (l++[p]) with z | z
 . have je:=je z;rw [z];have gQ:=gQ.ext cW;simp +contextual only [ha.g,j9.g,gQ.g,ol.1,ol.2.1,ol.2.2,↓af,an,simprocAttr];have hu:sj lZ cs l p=fC lZ cs (iY (iM l) [p]) (iM l) [p]:=aqf z;obtain ⟨a,b⟩:=IT z;have U:=Mj a (by omega);have hm:=Uo l p;obtain ⟨e_,eh,e7,x'⟩:=ti (F:=Any) (size:=5) (h:=cw) (ds:=p.enc) (cs:=dS p w) rfl (X.ext oy) trivial;simp only [dS] at eh;have nu:=gQ.ext e7;simp +contextual only [gQ.g,nu.g,ol.1,ol.2.1,ol.2.2,eh,↓af,an,simprocAttr];refine bF (amI l hi v e_ (L.ext (oy.trans e7))) ?_;rintro y hC ⟨HK,hM⟩;have sn:=nu.ext hM;simp +contextual only [nu.g,sn.g,ol.1,ol.2.1,ol.2.2,↓af,an,simprocAttr];refine bF (G9 cs e2 _ (by omega) (iM l) [p] U (ap7 _) k y _ hC ((je.ext e7).ext hM) HK (x'.ext hM)) ?_;rintro y rJ ⟨rfl,wi⟩;simp +contextual only [gQ.g,nu.g,sn.g,ol.1,ol.2.1,ol.2.2,↓af,an,simprocAttr];rw [hu];exact ⟨rfl,((oy.trans e7).trans hM).trans wi⟩
 . have hu:sj lZ cs l p=false:=aqa (by rw [z];decide);rw [z,hu];simp +contextual only [ha.g,j9.g,gQ.g,ol.1,ol.2.1,ol.2.2,↓af,an,simprocAttr];exact oy
theorem amp (cs:List b2) (e2:cs.length<=1000000000) (l:List aE) (p:aE) (aO:b0 (l++[p])<=100000000) (cl v w:V) (h:ag) (hy:bB Any h 5 (cs.map b2.enc) cl) (L:bB Any h 5 (l.map aE.enc) v) (X:cb Any h p.enc (dS p w)):
 cr Tryz.prog 19 [cl,v,.agg (dS p w)] h fun x ab=>x=.tuple [.bool (sj ig cs l p),.int .i64 (ky cs (l++[p]))]/\Ext h ab:=by
 have hi:l.length<=1000000000:=by have:=mG (l++[p]);rw [aqi] at this;omega
 have ol:w.one=true/\w.cells=[w]/\w.fD=true:=by obtain ⟨cB,e,eR,_⟩:=aE.open X;simp only [dS,List.cons.injEq] at e;rw [e.2.2.2.2.1];exact eR.one
 refine ZO.z rfl (cm ?_);unfold OR;obtain ⟨g,vg,cA,jS⟩:=gb h (dS p w);obtain ⟨aa,al,ax,ae,au,aH,v3,aM,aJ,bA,v4,bw,bE,ks,b5⟩:=KL g hi (L.ext cA) (X.ext cA);have mJ:=jS.ext ax;have ha:=jS.ext aH;have j9:=jS.ext bA;have gQ:=jS.ext b5;simp only [dS] at vg au jS mJ ha j9 gQ;simp only [dS];simp +contextual only [vg,jS.g,mJ.g,ha.g,j9.g,ol.1,ol.2.1,ol.2.2,al,au,aJ,bE,↓af,an,simprocAttr];refine bF (VO cs (l++[p]) (by omega) cl v4 bw ((hy.ext cA).ext b5) ks) ?_;rintro x cw ⟨rfl,cW⟩;have oy:=(cA.trans b5).trans cW;rcases Ri cs (l++[p]) with z | z
 . rw [z];have gQ:=gQ.ext cW;simp +contextual only [ha.g,j9.g,gQ.g,ol.1,ol.2.1,ol.2.2,↓af,an,simprocAttr];have hu:sj ig cs l p=fC ig cs (iY (iM l) [p]) (iM l) [p]:=aqf z;obtain ⟨a,b⟩:=IT z;have U:=Mj a (by omega);have hm:=Uo l p;obtain ⟨e_,eh,e7,x'⟩:=ti (F:=Any) (size:=5) (h:=cw) (ds:=p.enc) (cs:=dS p w) rfl (X.ext oy) trivial;simp only [dS] at eh;have nu:=gQ.ext e7;simp +contextual only [gQ.g,nu.g,ol.1,ol.2.1,ol.2.2,eh,↓af,an,simprocAttr];refine bF (al_ l hi v e_ (L.ext (oy.trans e7))) ?_;rintro y hC ⟨HK,hM⟩;have sn:=nu.ext hM;simp +contextual only [nu.g,sn.g,ol.1,ol.2.1,ol.2.2,↓af,an,simprocAttr];refine bF (V5 cs e2 _ (by omega) (iM l) [p] U (ap7 _) cl y _ hC (hy.ext ((oy.trans e7).trans hM)) HK (x'.ext hM)) ?_;rintro y rJ ⟨rfl,wi⟩;simp +contextual only [gQ.g,nu.g,sn.g,ol.1,ol.2.1,ol.2.2,↓af,an,simprocAttr];rw [hu];exact ⟨rfl,((oy.trans e7).trans hM).trans wi⟩
 . have hu:sj ig cs l p=false:=aqa (by rw [z];decide);rw [z,hu];simp +contextual only [ha.g,j9.g,gQ.g,ol.1,ol.2.1,ol.2.2,↓af,an,simprocAttr];exact oy
theorem Y7 (cs:List b2) (l:List aE) (cl v:V) (h:ag) (hy:bB Any h 5 (cs.map b2.enc) cl) (L:bB Any h 5 (l.map aE.enc) v):cr Tryz.prog 15 [cl,v] h fun x ab=>(∃b,x=.bool b)/\h=ab:=by
 have aw:=L.len;have av:=hy.len;rw [ap6] at aw av;refine ZL.z rfl (cm ?_);unfold v_;by_cases bW:12<cs.length
 . have g1:((cs.length:Int)>12)=True:=aqh (by omega);simp +contextual only [av,aw,g1,↓af,an,simprocAttr];exact ⟨_,rfl⟩
 . have g1:((cs.length:Int)>12)=False:=ap_ (by omega);by_cases b6:8<l.length
   . have g2:((l.length:Int)>8)=True:=aqh (by omega);simp +contextual only [av,aw,g1,g2,↓af,an,simprocAttr];exact ⟨_,rfl⟩
   . have g2:((l.length:Int)>8)=False:=ap_ (by omega);simp +contextual only [av,aw,g1,g2,↓af,an,simprocAttr];refine bF (aiE l 40 v h L) ?_;rintro x aa ⟨⟨b,rfl⟩,rfl⟩;simp +contextual only [↓af,an,simprocAttr];exact ⟨_,rfl⟩
end
section
open Go a7 Go.RowKit
set_option maxRecDepth 100000 in
theorem YW:MJ ctx 100000 16 []=true:=by kernel_rfl
theorem YV (h:ag):e4 Tryz.prog 16 [] h (.bool true) h:=
 aa2 (by kernel_rfl) (fun E x q=>by subst q;simp [Rel]) ⟨_,Tryz.func16,by kernel_rfl⟩ (fun w hw=>anv (C:=ctx) follows zE hw LN (by kernel_rfl) (by kernel_rfl) YW) h
theorem NX (h:ag):cr Tryz.prog 16 [] h fun x ab=>x=.bool true/\ab=h:=⟨_,_,YV h,rfl,rfl⟩
end
section
open Go a7
theorem aaU {F:aQ->Prop} {h:ag} {p:aE} {qc:List V} (X:cb F h p.enc qc):∃w,qc=dS p w/\w.one=true/\w.cells=[w]/\w.fD=true:=by obtain ⟨cB,rfl,eR,_⟩:=aE.open X;exact ⟨cB,rfl,eR.one⟩
theorem anf (cs:List b2) (e2:cs.length<=1000000000) (l:List aE) (p:aE) (aO:b0 (l++[p])<=100000000) (cl v:V) (qc:List V) (h:ag) (hy:bB Any h 5 (cs.map b2.enc) cl) (L:bB Any h 5 (l.map aE.enc) v) (X:cb Any h p.enc qc):cr Tryz.prog 4 [cl,v,.agg qc] h fun x ab=>x=.bool true:=by
 obtain ⟨w,rfl,ol⟩:=aaU X;have na:b0 l<=b0 (l++[p]):=by rw [xt];omega
 have hi:l.length<=1000000000:=by have:=mG l;omega
 refine ZX.z rfl (cm ?_);unfold fU;obtain ⟨g,vg,cA,jS⟩:=gb h (dS p w);obtain ⟨aa,al,ax,ae,au,aH,v3,aM,aJ,bA,v4,bw,bE,ks,b5⟩:=KL g hi (L.ext cA) (X.ext cA);have mJ:=jS.ext ax;have ha:=jS.ext aH;have j9:=jS.ext bA;have o5:=jS.ext b5;simp only [dS] at vg au jS mJ ha j9 o5;simp only [dS];simp +contextual only [vg,jS.g,mJ.g,ha.g,j9.g,ol.1,ol.2.1,ol.2.2,al,au,aJ,bE,↓af,an,simprocAttr];refine bF (Y7 cs (l++[p]) cl v4 bw ((hy.ext cA).ext b5) ks) ?_;rintro x cw ⟨⟨b,rfl⟩,rfl⟩;have oy:=cA.trans b5;cases b with
 | true=>
   simp +contextual only [ha.g,j9.g,o5.g,ol.1,ol.2.1,ol.2.2,↓af,an,simprocAttr];refine bF (NX _) ?_;rintro x e_ ⟨rfl,rfl⟩;simp +contextual only [↓af,an,simprocAttr]
 | false=>
 simp +contextual only [ha.g,j9.g,o5.g,ol.1,ol.2.1,ol.2.2,↓af,an,simprocAttr];refine bF (QE (b0 l+1) l (by omega) (by omega) v bw (L.ext oy)) ?_;rintro G_ e_ ⟨X2,e7⟩;have W:bB Any e_ 5 (l.map aE.enc) G_:=X2.e3 fun _ _=>trivial;have nu:=o5.ext e7;have su:=oy.trans e7;simp +contextual only [nu.g,ol.1,ol.2.1,ol.2.2,↓af,an,simprocAttr];refine bF (alp cs e2 l p aO cl G_ w e_ (hy.ext su) W (X.ext su)) ?_;rintro x hC ⟨rfl,hM⟩;have sn:=nu.ext hM;have xS:=su.trans hM;simp +contextual only [sn.g,ol.1,ol.2.1,ol.2.2,↓af,an,simprocAttr];refine bF (amp cs e2 l p aO cl v w hC (hy.ext xS) (L.ext xS) (X.ext xS)) ?_;rintro x rJ ⟨rfl,wi⟩;have Dr:=xS.trans wi;rw [anJ (by omega)];generalize sj ig cs l p=u;have g1:(u == u)=true:=beq_self_eq_true u;simp +contextual only [g1,↓af,an,simprocAttr];refine bF (alc cs l (by omega) cl G_ rJ (hy.ext Dr) ((W.ext hM).ext wi)) ?_;rintro x Bq ⟨rfl,Ev⟩;simp +contextual only [↓af,an,simprocAttr];refine bF (VO cs l (by omega) cl v Bq (hy.ext (Dr.trans Ev)) (L.ext (Dr.trans Ev))) ?_;rintro x ads ⟨rfl,Q2⟩;simp +contextual only [↓af,an,simprocAttr];refine bF (amw l G_ v ads ((((W.ext hM).ext wi).ext Ev).ext Q2) (L.ext ((Dr.trans Ev).trans Q2))) ?_;rintro x Ja ⟨rfl,aoE⟩;simp +contextual only [↓af,an,simprocAttr];refine bF (NX _) ?_;rintro x aoT ⟨rfl,rfl⟩;simp +contextual only [↓af,an,simprocAttr]
end
end Go.Proofs.YtgmhjhgoamjeeaaGreatDoor
