/- The abstract machine and its walks (a verified interpreter of the model's code: plain definitions and lemmas, no condition). Printed by a program from longer texts: names made short. -/
import Derived.Test.YtahfljfikfkpnaaGreatDoorM4
import Derived.Test.YtahfljfikfkpnaaGreatDoorM3
import Derived.ChangeArms
import Derived.DataReads
import Derived.ChangeBears
import Derived.Carry
import Derived.OpenShut
import Derived.ChangeSame
import Derived.Handed
import Derived.HandedShaped
set_option linter.unusedSectionVars false
set_option linter.unusedSimpArgs false
set_option linter.unusedVariables false
set_option maxHeartbeats 64000000
noncomputable section
namespace Go.Proofs.YtahfljfikfkpnaaGreatDoor.bf
section
open Go Go.RowKit
set_option linter.defProp false
def aob:=
 And.intro @FR<|And.intro @agJ<|And.intro @ahD<|And.intro @agK<|And.intro @ahA<|And.intro @ahE<|And.intro @ahB<|And.intro @ag3<|And.intro @agT<|And.intro @agQ<|And.intro @agR<|And.intro @ahm<|And.intro @ag0<|And.intro @ahy<|And.intro @ahs<|And.intro @aii<|And.intro @ahz<|And.intro @ain<|And.intro @agO<|And.intro @ahR<|And.intro @ahe<|And.intro @ah9<|And.intro @ahf<|And.intro @ah'<|And.intro @ahw<|And.intro @ail<|And.intro @agI<|And.intro @ahO<|And.intro @ahK<|And.intro @ais<|And.intro @ag8<|And.intro @ah3<|And.intro @ahb<|And.intro @ah6<|And.intro @ahG<|And.intro @aiq<|And.intro @ahF<|And.intro @aip<|And.intro @ag5<|@ah0
def aoc:=
 And.intro @ag6<|And.intro @ah1<|And.intro @ag7<|And.intro @ah2<|And.intro @ag_<|And.intro @ah4<|And.intro @aha<|And.intro @ah5<|And.intro @ahd<|And.intro @ah8<|And.intro @ahc<|And.intro @ah7<|And.intro @ahl<|And.intro @aid<|And.intro @ag4<|And.intro @ahZ<|And.intro @ahq<|And.intro @aih<|And.intro @aht<|And.intro @aij<|And.intro @agV<|And.intro @ahW<|And.intro @ahi<|And.intro @aib<|And.intro @ahj<|And.intro @aic<|And.intro @ahg<|And.intro @ah_<|And.intro @ahv<|And.intro @aik<|And.intro @agM<|And.intro @ahP<|And.intro @agN<|And.intro @ahQ<|And.intro @ahH<|And.intro @air<|And.intro @ahp<|And.intro @aif<|And.intro @ahL<|@ait
def aod:=
 And.intro @aho<|And.intro @aie<|And.intro @ahC<|And.intro @aio<|And.intro @ahx<|And.intro @aim<|And.intro @agF<|And.intro @ahN<|And.intro @agS<|And.intro @ahU<|And.intro @ahh<|And.intro @aia<|And.intro @agU<|And.intro @ahV<|And.intro @agX<|And.intro @ahY<|And.intro @agW<|And.intro @ahX<|And.intro @ahS<|And.intro @ahT<|And.intro @Um<|And.intro @agP<|@agZ
def aoe:=
 And.intro @anp<|And.intro @am7<|And.intro @abH<|And.intro @abG<|And.intro @aba<|And.intro @amr<|And.intro @ZO<|And.intro @ZN<|And.intro @akZ<|And.intro @ac_<|And.intro @ac'<|And.intro @ZQ<|And.intro @acT<|And.intro @acS<|And.intro @alI<|And.intro @ac5<|And.intro @aks<|And.intro @akr<|And.intro @ai1<|And.intro @aiZ<|And.intro @ai2<|And.intro @ai0<|And.intro @ai3<|And.intro @Ls<|And.intro @Lr<|And.intro @ab4<|And.intro @acV<|And.intro @acU<|And.intro @anL<|And.intro @amN<|And.intro @amO<|And.intro @akh<|And.intro @akj<|And.intro @akY<|And.intro @akV<|And.intro @an2<|And.intro @an1<|And.intro @Zz<|And.intro @ZA<|@ZB
def aof:=
 And.intro @ZC<|And.intro @Zy<|And.intro @X2<|And.intro @X4<|And.intro @X3<|And.intro @anI<|And.intro @anK<|And.intro @anJ<|And.intro @ags<|And.intro @agu<|And.intro @agt<|And.intro @agE<|And.intro @ahI<|And.intro @ahr<|And.intro @ag2<|And.intro @ahu<|And.intro @ahn<|And.intro @ahk<|And.intro @ag'<|And.intro @ag9<|And.intro @agH<|And.intro @agL<|And.intro @anX<|And.intro @anW<|And.intro @ajc<|And.intro @aje<|And.intro @LK<|And.intro @Ux<|And.intro @UA<|And.intro @UB<|And.intro @ang<|And.intro @aiB<|And.intro @ti<|And.intro @jY<|And.intro @fG<|And.intro @ns<|And.intro @jK<|And.intro @rk<|And.intro @ajU<|@abf
def aog:=
 And.intro @aku<|And.intro @adO<|And.intro @abj<|And.intro @aky<|And.intro @adS<|And.intro @abu<|And.intro @akI<|And.intro @ad1<|And.intro @abo<|And.intro @akD<|And.intro @adX<|And.intro @abq<|And.intro @akG<|And.intro @adZ<|And.intro @abt<|And.intro @akH<|And.intro @ad0<|And.intro @abh<|And.intro @akw<|And.intro @adQ<|And.intro @abv<|And.intro @akJ<|And.intro @ad2<|And.intro @abp<|And.intro @akE<|And.intro @adY<|And.intro @abn<|And.intro @akC<|And.intro @adW<|And.intro @abk<|And.intro @akz<|And.intro @adT<|And.intro @abg<|And.intro @akv<|And.intro @adP<|And.intro @abm<|And.intro @akB<|And.intro @adV<|And.intro @abi<|@akx
def aoh:=
 And.intro @adR<|And.intro @abl<|And.intro @akA<|And.intro @adU<|And.intro @abe<|And.intro @adN<|And.intro @ad3<|And.intro @aiU<|And.intro @aiV<|And.intro @aiT<|And.intro @beq_true<|And.intro @beq_false<|And.intro @Bool.not_true<|And.intro @Bool.not_false<|And.intro @arP<|And.intro @arz<|And.intro @arC<|And.intro @arR<|And.intro @Bool.not_not<|And.intro @V.bool.injEq<|And.intro @aqW<|And.intro @arI<|And.intro @anE<|And.intro @anF<|And.intro @anC<|And.intro @Bool.true_eq_false<|And.intro @aqk<|And.intro @anH<|And.intro @alX<|And.intro @alY<|And.intro @Zi<|And.intro @Zh<|And.intro @Ze<|And.intro @Zb<|And.intro @aeJ<|And.intro @aeL<|And.intro @aeK<|And.intro @Zc<|And.intro @Zd<|@Zf
def aoi:=
 And.intro @Zg<|And.intro @Vh<|And.intro @aom<|And.intro @CQ<|And.intro @aon<|And.intro @aj_<|And.intro @aoo<|And.intro @aka<|And.intro @aop<|And.intro @akb<|And.intro @aoq<|And.intro @akc<|And.intro @aor<|And.intro @akd<|And.intro @aos<|And.intro @ake<|And.intro @aot<|And.intro @adI<|And.intro @adF<|And.intro @adH<|And.intro @adG<|And.intro @adJ<|And.intro @Bool.or_false<|And.intro @ar8<|And.intro @Bool.or_true<|And.intro @Bool.true_or<|And.intro @aj1<|And.intro @ajJ<|And.intro @U7<|And.intro @akW<|And.intro @akX<|And.intro @YN<|And.intro @YT<|And.intro @YU<|And.intro @YV<|And.intro @YW<|And.intro @YX<|And.intro @YY<|And.intro @YZ<|@Y0
def aoj:=
 And.intro @YM<|And.intro @YO<|And.intro @YP<|And.intro @YQ<|And.intro @YR<|And.intro @YS<|And.intro @am0<|And.intro @am1<|And.intro @am2<|And.intro @amZ<|And.intro @amI<|And.intro @amK<|And.intro @amH<|@amJ
end
section
open Go Go.RowKit
variable [Lay]
theorem Ip {B:Nat} {h:ae} {size:Nat} {s:V} {n:Nat} {us cs:List V} (cX:1<=size) (H1:fe B h size s n us) (cU:B<=h.next) (hlen:(n+1) * size<=top) (h0:cs.length=size) (aU:fs cs=true):
 ∃v ab,ml size s (.slice (aE h.next) 0 1 1) (h.new (.bz cs 0 false))=.val v ab/\fe B ab size v (n+1) (us++cs)/\Mod s.bd h ab/\h.next+1<=ab.next/\∀b,v.bd b->s.bd b\/h.next<cM b:=by
 have ay:Ext h (h.new (.bz cs 0 false)):=(Ext.refl h).new _;have bE:fD (h.new (.bz cs 0 false)) size (.slice (aE h.next) 0 1 1) 1 cs:=by refine ⟨by rw [h0];omega,rfl,kf (by rw [jK];omega),cs,.inr ⟨0,false,by rw [ti]⟩,by omega,by simp⟩
 obtain ⟨v,ab,an,av,aH,bP⟩:=PN cX (H1.ext ay) bE (by rw [jK];omega) hlen aU;refine ⟨v,ab,an,av,(ay.mod _).trans aH,by have:=aH.next;rw [jK] at this;exact this,fun b ah=>?_⟩;rcases bP b ah with q | q
 . exact .inl q
 . exact .inr (by rw [jK] at q;omega)
theorem W_:∀l:List UInt8,py (jE l)=some l
 | []=>rfl
 | c::l=>by have aT:=W_ l;simp only [jE,py,aT];simp
theorem D_:∀l:List UInt8,(jE l).length=l.length
 | []=>rfl
 | c::l=>by simp only [jE,aqp,D_ l]
theorem P':∀l m:List UInt8,jE (l++m)=jE l++jE m
 | [],m=>rfl
 | c::l,m=>by simp only [jE,aqP,P' l m]
theorem WQ {h:ae} {b:aN} {us:List V} {c':Nat} {st:Bool} {off:Nat} {l:List UInt8} (aJ:h.get b=.bz us c' st) (aD:off+l.length<=us.length) (hu:(us.drop off).take l.length=jE l):v' b off l.length h=.val (.str l) h:=by unfold v';rw [aJ];simp only [cz.qs,cz.bz];rw [show Nat.ble (off+l.length) us.length=true from by rw [aqE];exact aD];simp only [aqo];rw [ET us l.length off aD,hu,W_]
theorem RR {B:Nat} {h:ae} {v:V} {n:Nat} {l:List UInt8} (H:fe B h 1 v n (jE l)):uU.run v h=.val (.str l) h:=by
 have U:=H.1;rw [D_,asj] at U;have ad:=H.2;cases v<;>simp only at ad<;>try (exact ad.elim)
 case cn=>
  subst ad;rw [arW] at U;subst U;rfl
 case slice=>
  obtain ⟨an,av,aH,bP,cE,us,c',st,dG,fX,eE⟩:=ad;rw [D_] at eE;simp only [uU];rw [an,<-U];exact WQ dG (by omega) eE
 case fp=>
  obtain ⟨an,av,aH,bP,cE,us,st,dG,fX,eE⟩:=ad;rw [D_] at eE fX;simp only [uU];rw [an,bP,<-U];exact WQ dG (by omega) (by simpa using eE)
def uP (size:Nat) (s:V) (m:Nat) (af:List V) (h:ae):a8:=match s with
 | .cn=>wL size m af h
 | .slice b off len cap=>wK size b off len cap m af h
 | .fp b off len idx=>wJ size b off len idx m af h
 | _=>.fail
theorem Mod.self {b:aN} {h ab:ae} (e:Mod (fun q=>q=b) h ab) (k:cz):Mod (fun q=>q=b) h (ab.set b k):=e.set (fun _=>rfl) k
theorem Mod.fresh {M:aN->Prop} {h ab:ae} (e:Mod M h ab) {i:Nat} (aG:h.next<=i) (k:cz):Mod M h (ab.set (aE i) k):=
 e.set (fun q=>absurd (show cM (aE i)<h.next from q) (by rw [dj];omega)) k
theorem Mod.anD {M N:aN->Prop} {h ad aC:ae} (e:Mod M h ad) (q:Mod N ad aC) (aL:∀b,N b->h.next<=cM b):Mod M h aC:=
 ⟨aqn e.next q.next,fun b aU ah=>by rw [q.get b (e.cA aU) (fun k=>absurd (show cM b<h.next from aU) (by have:=aL b k;omega)),e.get b aU ah]⟩
end
section
open Go Go.RowKit
set_option linter.defProp false
variable [Lay]
def ag:=And.intro @aob<|And.intro @aoc @aod
def an3:=And.intro @aoe<|And.intro @aof<|And.intro @aog<|And.intro @aoh<|And.intro @aoi @aoj
def an4:=And.intro @Option.isSome_some.{0}<|And.intro @arD.{0}<|And.intro @aqu.{1}<|And.intro @aqs.{1}<|And.intro @arZ<|And.intro @and_true<|And.intro @aqz.{0}<|And.intro @aq6.{0}<|And.intro @aqp.{0}<|And.intro @aqB.{0}<|
 And.intro @arp.{0}<|And.intro @asb.{0}<|And.intro @arN.{0}<|And.intro @List.take_zero.{0}<|And.intro @aqP.{0}<|And.intro @aq5.{0}<|And.intro @aqj.{0}<|And.intro @exists_eq_left'.{1}<|And.intro @List.cons.injEq.{0}<|
 And.intro @Nat.succ_ne_zero<|And.intro @agf<|And.intro @age<|And.intro @List.getElem?_nil.{0}<|And.intro @decide_true<|And.intro @ase<|And.intro @eq_self.{1}<|And.intro @not_true_eq_false<|And.intro @not_false_eq_true<|And.intro @ite_true.{1} @ite_false.{1}
def dv:=And.intro an3 (And.intro an4 (And.intro @jR.eq_1 (And.intro @jR.eq_2 (And.intro @aW.gh.eq_1 (And.intro @aW.gh.eq_2 (And.intro @qt.eq_1 (And.intro @qt.eq_2 (And.intro @qt.eq_3 (And.intro @over.eq_1 (And.intro @over.eq_2 (And.intro @over.eq_3 (And.intro @fs.eq_1 (@fs.eq_2)))))))))))))
def ak:=And.intro dv (And.intro @bV.ends.eq_1 (And.intro @bV.ends.eq_2 (And.intro @ho.eq_1 (And.intro @ho.eq_2 (And.intro @ho.eq_3 (And.intro @ho.eq_4 (And.intro @oneOf.eq_1 (And.intro @oneOf.eq_2 top.eq_1))))))))
end
section
open Go Go.RowKit
variable [Lay]
theorem abz {P:Program} {f:FuncId} (bg:Nat.beq f dx=false) {v:V} (bE:∀E x,x=.bool true->Rel E v x) (hL:∃fn,P.funcs[f]? =some fn/\fn.body.isSome=true) (H:∀w,Lay.ok w->Calls P f #[] w fun e w'=>e=.returned (.bool true)/\Below w.heap.size w w') (h:ae):
 gm P f [] h v h:=by
 refine ⟨fun e=>by subst e;simp at bg,.inl ⟨hL,fun al E w xs ay s=>?_⟩⟩;simp only [bm] at ay;subst ay;refine (H w (Lay.gy s.laid s.frame)).mono fun e w' q=>?_;obtain ⟨rfl,ah⟩:=q;exact ⟨E,_,rfl,fun _ _ q=>q,bE E _ rfl,s.below ah⟩
def sE (E:Env) (h:ae) (p:iq):Env:=fun b=>if b=aE h.next then some p else E b
theorem Xk (E:Env) (h:ae) (p:iq):sE E h p (aE h.next)=some p:=aqw rfl
theorem Ou {al:Fr} {E:Env} {h:ae} {w:World} (s:a6 al E h w) (p:iq):E.le (sE E h p):=fun b q aI=>by unfold sE;rw [aqr (fun e=>by rw [e,s.fresh _ (aqh _)] at aI;cases aI)];exact aI
theorem amX {W:World} {E:Env} {h:ae} (s:a6 ⟨W,fun _=>none⟩ E h W) (p:iq) (k:cz) (aU:k.own=false) (ar:hT W.heap.size (sE E h p) W (aE h.next) k):
 a6 ⟨W,fun _=>none⟩ (sE E h p) (h.new k) W:=by
 refine ⟨fun b _=>?_,fun _ _ h=>(by cases h),fun b b2 q fb U ad aM bh aI=>?_,fun i aG=>?_,s.frame,s.laid,fun b q n cs st U aM=>by
  rw [jY] at U;by_cases bS:aE h.next=b
  . rw [aqw bS] at U;rw [U] at aU;cases aU
  . rw [aqr bS] at U;unfold sE at aM;rw [aqr (fun e=>bS e.symm)] at aM;exact s.base _ _ _ _ _ U aM⟩
 . rw [jY];by_cases e:aE h.next=b
   . subst e;rw [aqw rfl];exact ar
   . rw [aqr e];exact (s.bd b rfl).mono (Ou s p)
 . rw [jY] at U ad;by_cases bS:aE h.next=b
   . rw [aqw bS,aU] at U;cases U
   . by_cases cJ:aE h.next=b2
     . rw [aqw cJ,aU] at ad;cases ad
     . rw [aqr bS] at U;rw [aqr cJ] at ad;unfold sE at aM bh;rw [aqr (fun e=>bS e.symm)] at aM;rw [aqr (fun e=>cJ e.symm)] at bh;exact s.inj b b2 q fb U ad aM bh aI
 . rw [jK] at aG;unfold sE;rw [aqr (fun e=>by have:=lv e;omega)];exact s.fresh i (by omega)
theorem amY {W:World} {E:Env} {h:ae} (s:a6 ⟨W,fun _=>none⟩ E h W) {k base cap:Nat} {c:Array Value} {el:TypeId} {cf:Nat × Nat} (ar:W.heap[k]? =some (.cells c el cf)) {af:List V}
 (aq:base+af.length<=c.size) (aa:∀i v y,af[i]? =some v->c[base+i]? =some y->Rel E v y):
 a6 ⟨W,fun _=>none⟩ (sE E h ⟨k,base,cap⟩) (h.new (.ro af)) W:=by
 refine amX s _ _ rfl ?_;have a':k<W.heap.size:=by
  by_cases a':k<W.heap.size
  . exact a'
  . rw [arM (by omega)] at ar;cases ar
 refine ⟨trivial,⟨k,base,cap⟩,c,el,cf,Xk _ _ _,a',ar,aq,fun i y aG bg=>?_⟩;have:T.get .bad (aE i) (hg .e 0 af)=af[i]:=by have:=ER af 0 i .e;rw [aqW] at this;rw [this,aqw aG,aqm aG];rfl
 rw [this];exact Rel.mono (Ou s _) _ _ (aa i _ y (aqm aG) bg)
end
section
open Go Go.RowKit
variable [Lay]
section
variable (P:Program)
def Av:List Field->Nat->Option Nat
 | [],o=>some o
 | f::cG,o=>if f.offset=o then Av cG (o+P.cellsOf f.type) else none
def yw:Bool:=(List.range P.types.size).all fun t=>match P.underlying t with
 | some (.struct cG)=>decide (Av P cG.toList 0=some (P.cellsOf t))
 | _=>true
def fM (h:ae):Nat->Nat->TypeId->List V->Prop
 | 0,_,_,_=>False
 | n+1,m,t,af=>match P.underlying t with
   | some .bool=>∃b,af=[.bool b]
   | some (.int k)=>∃i,af=[.int k i]/\(Lit.int k i).wf=true
   | some .string=>∃s:List UInt8,af=[.str s]/\s.length+1<=m
   | some (.slice e)=>1<=m/\(af=[.cn]\/(∃b i j k,af=[.iy b i j k])\/P.cellsOf e=0\/
      ∃b len cap,af=[.slice b 0 len cap]/\0<len/\len<=cap/\Old h b/\∃us,k' h b us/\us.length=len * P.cellsOf e/\∃ms:List Nat,ms.length=len/\ms.sum+1<=m/\
       ∀(i k:Nat),ms[i]? =some k->1<=k/\fM h n k e ((us.drop (i * P.cellsOf e)).take (P.cellsOf e)))
   | some (.struct cG)=>af.length=P.cellsOf t/\∃ms:List Nat,ms.length=cG.toList.length/\ms.sum+1<=m/\∀(i:Nat) (f:Field) (k:Nat),cG.toList[i]? =some f->ms[i]? =some k->1<=k/\fM h n k f.type ((af.drop f.offset).take (P.cellsOf f.type))
   | some (.pointer e)=>1<=m/\(af=[.mK]\/P.cellsOf e=0\/∃b,af=[.ptr b 0]/\Old h b/\∃us,k' h b us/\us.length=P.cellsOf e/\∃k,k+1<=m/\fM h n k e us)
   | some (.map _ _)=>af=[.l0]\/af=[.bad]
   | some (.interface _)=>af=[.nilIface]\/af=[.bad]
   | _=>True
end
theorem fM.ext {P:Program} {h ab:ae} (e:Ext h ab):∀(n m:Nat) (t:TypeId) (af:List V),fM P h n m t af->fM P ab n m t af
 | 0,_,_,_,H=>H
 | n+1,m,t,af,H=>by
   unfold fM at H ⊢
   split at H<;>try exact H
   . refine ⟨H.1,?_⟩;rcases H.2 with H | H | H | ⟨b,len,cap,U,ad,aC,bF,us,c1,dF,ms,iv,fO,j4⟩
     . exact .inl H
     . exact .inr (.inl H)
     . exact .inr (.inr (.inl H))
     . exact .inr (.inr (.inr ⟨b,len,cap,U,ad,aC,e.cA bF,us,e.rd bF c1,dF,ms,iv,fO,fun i k ar=>⟨(j4 i k ar).1,fM.ext e n _ _ _ (j4 i k ar).2⟩⟩))
   . obtain ⟨U,ms,ad,aC,aX⟩:=H;exact ⟨U,ms,ad,aC,fun i f k aA ar=>⟨(aX i f k aA ar).1,fM.ext e n _ _ _ (aX i f k aA ar).2⟩⟩
   . refine ⟨H.1,?_⟩;rcases H.2 with H | H | ⟨b,U,bF,us,c1,dF,k,iv,fO⟩
     . exact .inl H
     . exact .inr (.inl H)
     . exact .inr (.inr ⟨b,U,e.cA bF,us,e.rd bF c1,dF,k,iv,fM.ext e n _ _ _ fO⟩)
mutual
def i_ {H:Type}:DataW H->Nat
 | .lit (.string bytes)=>bytes.length+1
 | .lit _=>1
 | .nil=>1
 | .ptr d=>i_ d+1
 | .slice elems spare=>pN elems+pN spare+1
 | .agg parts=>pN parts+1
 | .iface _ d=>i_ d+1
 | .map entries=>P9 entries+1
 | .held _=>1
def pN {H:Type}:List (DataW H)->Nat
 | []=>0
 | d::r=>i_ d+pN r
def P9 {H:Type}:List (Lit × DataW H)->Nat
 | []=>0
 | x::r=>ZU x+P9 r
def ZU {H:Type}:Lit × DataW H->Nat
 | (.string bytes,d)=>bytes.length+i_ d+1
 | (_,d)=>i_ d+1
end
theorem ta {H:Type} (d:DataW H):1<=i_ d:=by
 cases d with
 | lit l=>cases l<;>simp [i_]
 | _=>simp [i_]
theorem IN {H:Type}:∀l:List (DataW H),pN l=(l.map i_).sum
 | []=>by simp [pN]
 | d::r=>by simp only [pN,arE,List.sum_cons,IN r]
theorem Ed {w:World} {base:Nat} {a:Addr} {n:Nat} {l:List Value} (h:w.cells? base a n=some l):l.length=n/\∀i,i<n->w.cell? (a.add i)=l[i]? :=by
 unfold World.cells? at h
 split at h
 . exact ⟨by simpa using mapM_some_length h,fun i aG=>mapM_some_get h i i (by simp [aG])⟩
 . cases h
theorem Wh {E aw:Env} (he:E.le aw) {af:List V} {l:List Value} (H:bm E af l):bm aw af l:=bm.mono he af l H
section
variable {H:Type} {enc:TypeId × Value->H} {P:Program} {W:World} {base:Nat} {sp:Nat->Bool} {held:Bool}
def Lays (P:Program) (W:World) (n m:Nat) (t:TypeId) (cs:List Value):Prop:=
 ∀(E:Env) (h:ae),a6 ⟨W,fun _=>none⟩ E h W->∃aw ab af,E.le aw/\Ext h ab/\a6 ⟨W,fun _=>none⟩ aw ab W/\bm aw af cs/\af.length=cs.length/\fM P ab n m t af
theorem Uw (n size:Nat) (e:TypeId):∀(pieces:List (List Value)) (ms:List Nat),ms.length=pieces.length->(∀(i:Nat) (l:List Value) (k:Nat),pieces[i]? =some l->ms[i]? =some k->l.length=size/\Lays P W n k e l)->
 ∀(E:Env) (h:ae),a6 ⟨W,fun _=>none⟩ E h W->∃aw ab us,E.le aw/\Ext h ab/\a6 ⟨W,fun _=>none⟩ aw ab W/\bm aw us pieces.flatten/\us.length=pieces.length * size/\
  ∀(i k:Nat),ms[i]? =some k->fM P ab n k e ((us.drop (i * size)).take size)
 | [],[],_,_,E,h,s=>⟨E,h,[],fun _ _ q=>q,Ext.refl h,s,rfl,by simp,fun i k aG=>by simp at aG⟩
 | [],_::_,aD,_,_,_,_=>by simp at aD
 | _::_,[],aD,_,_,_,_=>by simp at aD
 | l::ls,m::ms,nf,ai,E,h,s=>by
   obtain ⟨aD,H⟩:=ai 0 l m rfl rfl;obtain ⟨hE,U,af,b7,a2,a3,a4,a5,mW⟩:=H E h s;obtain ⟨b1,ad,us,ct,c6,hv,mZ,oo,s'⟩:=Uw n size e ls ms (by simpa using nf) (fun i l k an av=>ai (i+1) l k (by simpa using an) (by simpa using av)) hE U a3;refine ⟨b1,ad,af++us,b7.trans ct,a2.trans c6,hv,?_,?_,?_⟩
   . rw [arq];exact bm.append (Wh ct a4) mZ
   . rw [aqC,oo,a5,aD,aqp,arn];omega
   . intro i k aG;cases i with
     | zero=>
       rw [Nat.zero_mul,arp,asi (by rw [a5,aD])];simp only [aqz,aqj] at aG;subst aG;exact fM.ext c6 _ _ _ _ mW
     | succ i=>
       rw [arn,Nat.one_mul,Nat.add_comm,<-List.drop_drop,List.drop_left' (by rw [a5,aD])];exact s' i k (by simpa using aG)
theorem Uv (n:Nat):∀(cG:List Field) (ms:List Nat) (o cm:Nat) (cs:List Value),Av P cG o=some cm->cs.length=cm->ms.length=cG.length->(∀(i:Nat) (f:Field) (k:Nat),cG[i]? =some f->ms[i]? =some k->Lays P W n k f.type ((cs.drop f.offset).take (P.cellsOf f.type)))->
 o<=cm/\∀(E:Env) (h:ae),a6 ⟨W,fun _=>none⟩ E h W->∃aw ab af,E.le aw/\Ext h ab/\a6 ⟨W,fun _=>none⟩ aw ab W/\bm aw af (cs.drop o)/\af.length=cm-o/\
  ∀(i:Nat) (f:Field) (k:Nat),cG[i]? =some f->ms[i]? =some k->o<=f.offset/\fM P ab n k f.type ((af.drop (f.offset-o)).take (P.cellsOf f.type))
 | [],_::_,_,_,_,_,_,nf,_=>by simp at nf
 | _::_,[],_,_,_,_,_,nf,_=>by simp at nf
 | [],[],o,cm,cs,aB,aD,_,_=>by simp only [Av,aqj] at aB;subst aB;refine ⟨aqh _,fun E h s=>⟨E,h,[],fun _ _ q=>q,Ext.refl h,s,?_,by simp,fun i f k aA=>by simp at aA⟩⟩;rw [ara (by omega)];rfl
 | f::cG,m::ms,o,cm,cs,aB,aD,nf,ai=>by
   simp only [Av] at aB;by_cases aA:f.offset=o
   . rw [aqw aA] at aB;obtain ⟨g1,g2⟩:=Uv n cG ms (o+P.cellsOf f.type) cm cs aB aD (by simpa using nf) (fun i f k an av=>ai (i+1) f k (by simpa using an) (by simpa using av));refine ⟨by omega,fun E h s=>?_⟩;have tw:=ai 0 f m rfl rfl;obtain ⟨hE,U,af,b7,a2,a3,a4,a5,mW⟩:=tw E h s;obtain ⟨b1,ad,us,ct,c6,hv,mZ,oo,s'⟩:=g2 hE U a3;have Lj:af.length=P.cellsOf f.type:=by rw [a5,ard,aqU,aA];omega
     refine ⟨b1,ad,af++us,b7.trans ct,a2.trans c6,hv,?_,?_,?_⟩
     . have e:cs.drop o=(cs.drop f.offset).take (P.cellsOf f.type)++cs.drop (o+P.cellsOf f.type):=by
        rw [aA,<-List.drop_drop,arS]
       rw [e];exact bm.append (Wh ct a4) mZ
     . rw [aqC,Lj,oo];omega
     . intro i g k aJ ar;cases i with
       | zero=>
         simp only [aqz,aqj] at aJ ar;subst aJ ar;refine ⟨by omega,?_⟩;rw [aA,ar7,arp,asi Lj];exact fM.ext c6 _ _ _ _ mW
       | succ i=>
         obtain ⟨bS,cJ⟩:=s' i g k (by simpa using aJ) (by simpa using ar);refine ⟨by omega,?_⟩;rw [show g.offset-o=P.cellsOf f.type + (g.offset - (o+P.cellsOf f.type)) from by omega,<-List.drop_drop,List.drop_left' Lj];exact cJ
   . rw [aqr aA] at aB;cases aB
theorem RI {w:World} {a:Addr} {y:Value} (h:w.cell? a=some y):a.spot=none/\∃c el cf,w.heap[a.block]? =some (.cells c el cf)/\c[a.off]? =some y:=by
 refine ⟨World.cell?_spot h,?_⟩;unfold World.cell? at h
 split at h
 . rename_i c el cf ba
   split at h
   . cases h
   . exact ⟨c,el,cf,ba,h⟩
 . cases h
theorem Y1 (a:Addr) (n:Nat):(a.add n).block=a.block:=by unfold Addr.add;split<;>rfl
theorem Y2 (a:Addr) (n:Nat):(a.add n).off=a.off+n:=by unfold Addr.add;split<;>simp_all
theorem amu {w:World} {a:Addr} {l:List Value} (aV:0<l.length) (h:∀i,i<l.length->w.cell? (a.add i)=l[i]?):
 a.spot=none/\∃c el cf,w.heap[a.block]? =some (.cells c el cf)/\a.off+l.length<=c.size/\∀i,i<l.length->c[a.off+i]? =l[i]? :=by
 have aex:w.cell? (a.add 0)=some l[0]:=by rw [h 0 aV];exact aqm aV
 obtain ⟨s1,c,el,cf,s2,yr⟩:=RI aex;have ef:a.add 0=a:=by unfold Addr.add;simp
 rw [ef] at s1 s2 yr;have key:∀i,i<l.length->c[a.off+i]? =l[i]? :=by intro i aG;have q:=h i aG;rw [aqm aG] at q ⊢;obtain ⟨_,fl,aoV,aoY,t2,t3⟩:=RI q;rw [Y1,s2] at t2;rw [Y2] at t3;simp only [aqj,Obj.cells.injEq] at t2;obtain ⟨rfl,_,_⟩:=t2;exact t3
 refine ⟨s1,c,el,cf,s2,?_,key⟩;have:=key (l.length-1) (by omega);rw [aqm (by omega)] at this;have a':=(aql.1 this).1;omega
theorem Xl {E:Env} {h:ae} (s:a6 ⟨W,fun _=>none⟩ E h W) {a:Addr} {cap:Nat} {l:List Value} (aV:0<l.length) (aq:∀i,i<l.length->W.cell? (a.add i)=l[i]?) {us:List V} (aa:bm E us l):
 ∃aw ab b,E.le aw/\Ext h ab/\a6 ⟨W,fun _=>none⟩ aw ab W/\Old ab b/\a.spot=none/\aw b=some ⟨a.block,a.off,cap⟩/\k' ab b us:=by
 obtain ⟨s1,c,el,cf,s2,yr,An⟩:=amu aV aq;have Fs:us.length=l.length:=(bm.length aa).symm;refine ⟨sE E h ⟨a.block,a.off,cap⟩,h.new (.ro us),aE h.next,Ou s _,(Ext.refl h).new _,amY s s2 (by omega) fun i v y bE bg=>?_,Vs,s1,Xk _ _ _,.inl (ti _)⟩;have aG:i<l.length:=by have:=(aqD.1 bE).1;omega
 rw [An i aG] at bg;obtain ⟨oU,aM,bh⟩:=bm.get aa i v bE;rw [bg] at aM;simp only [aqj] at aM;rw [aM];exact bh
theorem SP {α:Type} (size:Nat):∀(pieces:List (List α)) (i j:Nat),(∀l ∈ pieces,l.length=size)->i<pieces.length->j<size->pieces.flatten[i * size+j]? =(pieces[i]?).bind (·[j]?)
 | [],i,j,_,aG,_=>by simp at aG
 | l::ls,i,j,ai,aG,bU=>by
   have aD:l.length=size:=ai l (by simp);cases i with
   | zero=>
     rw [Nat.zero_mul,aqW,arq,aqG (by omega)];simp
   | succ i=>
     rw [arq,aqH (by rw [aD,arn];omega)];rw [show (i+1) * size+j-l.length=i * size+j from by rw [aD,arn];omega];rw [SP size ls i j (fun l aD=>ai l (by simp [aD])) (by simpa using aG) bU];simp
theorem SR {α:Type} (size:Nat):∀(pieces:List (List α)),(∀l ∈ pieces,l.length=size)->pieces.flatten.length=pieces.length * size
 | [],_=>by simp
 | l::ls,ai=>by rw [arq,aqC,SR size ls (fun l aD=>ai l (by simp [aD])),ai l (by simp),aqp,arn];omega
theorem VO {α:Type} (R:Nat->α->Prop):∀(len:Nat),(∀i,i<len->∃l,R i l)->∃bC:List α,bC.length=len/\∀i l,bC[i]? =some l->R i l
 | 0,_=>⟨[],rfl,fun i l q=>by simp at q⟩
 | m+1,h=>by
   obtain ⟨bC,an,av⟩:=VO R m (fun i aG=>h i (by omega));obtain ⟨l,U⟩:=h m (by omega);refine ⟨bC++[l],by simp [an],fun i ed gH=>?_⟩;by_cases aG:i<bC.length
   . rw [aqG aG] at gH;exact av i ed gH
   . rw [aqH (by omega)] at gH;have ef:i-bC.length=0:=by
      by_cases q:i-bC.length=0
      . exact q
      . rw [aqL (by simp;omega)] at gH;cases gH
     rw [ef] at gH;simp at gH;subst gH;obtain rfl:i=m:=by omega
     exact U
theorem FW (d_:yw P=true) (dU:laidOutB P=true):∀(n:Nat) (t:TypeId) (cs:List Value) (x:DataW H × List MemPlace),t<P.types.size->DataW.trod enc P W base sp held n t cs=some x->Lays P W n (i_ x.1) t cs
 | 0,t,cs,x,_,h=>by simp [DataW.trod] at h
 | n+1,t,cs,x,a',h=>by
   have D4:∀(cs:List Value),(∀ab af,af.length=cs.length->fM P ab (n+1) (i_ x.1) t af)->Lays P W (n+1) (i_ x.1) t cs:=by
    intro cs H E h s;refine ⟨E,h,cs.map fun _=>.bad,fun _ _ q=>q,Ext.refl h,s,?_,by simp,H _ _ (by simp)⟩;clear H
    induction cs with
    | nil=>rfl
    | cons c cs aT=>exact ⟨c,cs,rfl,by simp [Rel],aT⟩
   cases hu:P.underlying t with
   | none=>
     refine D4 cs fun ab af _=>?_;simp only [fM,hu]
   | some u=>
     cases u with
     | bool=>
       obtain ⟨b,rfl,_⟩:=DataW.trod_bool hu h;intro E h s;exact ⟨E,h,[.bool b],fun _ _ q=>q,Ext.refl h,s,⟨_,_,rfl,rfl,rfl⟩,rfl,by simp only [fM,hu];exact ⟨b,rfl⟩⟩
     | int k=>
       obtain ⟨i,rfl,_,hw⟩:=DataW.trod_int hu h;intro E h s;exact ⟨E,h,[.int k i],fun _ _ q=>q,Ext.refl h,s,⟨_,_,rfl,rfl,rfl⟩,rfl,by simp only [fM,hu];exact ⟨i,rfl,hw⟩⟩
     | string=>
       obtain ⟨b,rfl,rfl,_⟩:=DataW.trod_string hu h;intro E h s;exact ⟨E,h,[.str b.data.toList],fun _ _ q=>q,Ext.refl h,s,⟨_,_,rfl,rfl,rfl⟩,rfl,by simp only [fM,hu,i_];exact ⟨_,rfl,aqh _⟩⟩
     | struct cG=>
       obtain ⟨xs,tL,aL,rfl,aD,zL,aA⟩:=DataW.trod_struct hu h;obtain rfl:n=tL:=by omega
       have afL:Av P cG.toList 0=some (P.cellsOf t):=by unfold yw at d_;rw [aqR] at d_;have:=d_ t (arQ.2 a');rw [hu] at this;exact of_decide_eq_true this
       have kC:∀(i:Nat) (f:Field) (k:Nat),cG.toList[i]? =some f->(xs.map fun x=>i_ x.1)[i]? =some k->Lays P W n k f.type ((cs.drop f.offset).take (P.cellsOf f.type)):=by
        intro i f k aG ar;have p0:f ∈ cG.toList:=aqX aG;have gO:cG[i]? =some f:=by simpa using aG
        have:=aA i f gO;have TB:i<xs.length:=by rw [zL];exact (aql.1 gO).1
        rw [aqm TB] at this;rw [aq3,aqm TB,arj,aqj] at ar;subst ar;exact FW d_ dU n _ _ _ ((kid_struct dU a' hu).1 f p0) this
       intro E h s;obtain ⟨_,g⟩:=Uv n cG.toList (xs.map fun x=>i_ x.1) 0 _ cs afL aD (by simp [zL]) kC;obtain ⟨aw,ab,af,b7,a2,a3,a4,a5,mW⟩:=g E h s;refine ⟨aw,ab,af,b7,a2,a3,by simpa using a4,by rw [a5,aD];omega,?_⟩;simp only [fM,hu];refine ⟨by omega,xs.map fun x=>i_ x.1,by simp [zL],?_,fun i f k p0 ar=>⟨?_,by simpa using (mW i f k p0 ar).2⟩⟩
       . simp only [i_,IN,List.map_map];exact aqh _
       . rw [aq3,Option.map_eq_some_iff] at ar;obtain ⟨y,_,rfl⟩:=ar;exact ta _
     | slice e=>
       rcases DataW.trod_slice hu h with ⟨rfl,rfl⟩ | ⟨a,len,cap,elems,rest,tL,aL,rfl,rfl,ah,ts,_,To,Kv,_,_⟩
       . intro E h s;exact ⟨E,h,[.cn],fun _ _ q=>q,Ext.refl h,s,⟨_,_,rfl,rfl,rfl⟩,rfl,by simp only [fM,hu];exact ⟨ta _,.inl trivial⟩⟩
       . obtain rfl:n=tL:=by omega
         by_cases az:P.cellsOf e=0
         . refine D4 _ fun ab af _=>?_;simp only [fM,hu];exact ⟨ta _,.inr (.inr (.inl az))⟩
         by_cases tq:len=0
         . subst tq;intro E h s;refine ⟨E,h,[.iy .z 0 0 0],fun _ _ q=>q,Ext.refl h,s,⟨_,_,rfl,?_,rfl⟩,rfl,by simp only [fM,hu];exact ⟨ta _,.inr (.inl ⟨_,_,_,_,rfl⟩)⟩⟩;simp only [Rel];exact ⟨_,_,rfl⟩
         . -- its elements
           have lS:∀i,i<len->∃l,W.cells? base (a.add (i * P.cellsOf e)) (P.cellsOf e)=some l/\∀k:Nat,(elems.map fun x=>i_ x.1)[i]? =some k->Lays P W n k e l:=by intro i aG;have:=Kv i aG;rw [aqm (by omega)] at this;rw [Option.bind_eq_some_iff] at this;obtain ⟨l,U,ad⟩:=this;refine ⟨l,U,fun k ar=>?_⟩;rw [aq3,aqm (by omega),arj,aqj] at ar;subst ar;exact FW d_ dU n _ _ _ (kid_slice dU a' hu) ad
           obtain ⟨pieces,js,iF⟩:∃pieces:List (List Value),pieces.length=len/\∀i (l:List Value),pieces[i]? =some l->W.cells? base (a.add (i * P.cellsOf e)) (P.cellsOf e)=some l/\∀k:Nat,(elems.map fun x=>i_ x.1)[i]? =some k->Lays P W n k e l:=by exact VO (fun i l=>W.cells? base (a.add (i * P.cellsOf e)) (P.cellsOf e)=some l/\∀k:Nat,(elems.map fun x=>i_ x.1)[i]? =some k->Lays P W n k e l) len lS
           have hA:∀(i:Nat) (l:List Value) (k:Nat),pieces[i]? =some l->(elems.map fun x=>i_ x.1)[i]? =some k->l.length=P.cellsOf e/\Lays P W n k e l:=by intro i l k aG ar;obtain ⟨an,av⟩:=iF i l aG;exact ⟨(Ed an).1,av k ar⟩
           have TN:∀l ∈ pieces,l.length=P.cellsOf e:=by intro l aD;obtain ⟨i,aG⟩:=List.getElem?_of_mem aD;exact (Ed (iF i l aG).1).1
           intro E h s;obtain ⟨hE,U,us,b7,a2,a3,a4,a5,mW⟩:=Uw n (P.cellsOf e) e pieces (elems.map fun x=>i_ x.1) (by simp [To,js]) hA E h s;have kC:=SR (P.cellsOf e) pieces TN;have zw:0<len * P.cellsOf e:=Nat.mul_pos (by omega) (by omega);have Kb:∀i,i<pieces.flatten.length->W.cell? (a.add i)=pieces.flatten[i]? :=by
            intro q aI;rw [kC] at aI;have TF:q % P.cellsOf e<P.cellsOf e:=Nat.mod_lt _ (by omega);have hdiv:q / P.cellsOf e<pieces.length:=Nat.div_lt_of_lt_mul (by rw [Nat.mul_comm];exact aI);have zz:q / P.cellsOf e * P.cellsOf e+q % P.cellsOf e=q:=by rw [Nat.mul_comm];exact Nat.div_add_mod q _
            rw [<-zz,SP (P.cellsOf e) pieces _ _ TN hdiv TF,aqm hdiv];obtain ⟨an,_⟩:=iF _ _ (aqm hdiv);have:=(Ed an).2 _ TF;rw [Option.bind_some,<-this];congr 1;unfold Addr.add;by_cases cp:q / P.cellsOf e * P.cellsOf e=0
            . rw [cp];simp
            . by_cases z2:q % P.cellsOf e=0
              . rw [z2];simp
              . have z3:¬(q / P.cellsOf e * P.cellsOf e+q % P.cellsOf e=0):=by omega
                rw [aqr cp,aqr z2,aqr z3];simp [arl]
           obtain ⟨b1,ad,b,ct,c6,hv,mZ,oo,s',IF⟩:=Xl a3 (cap:=cap) (by rw [kC,js];exact zw) Kb a4;refine ⟨b1,ad,[.slice b 0 len cap],b7.trans ct,a2.trans c6,hv,⟨_,_,rfl,?_,rfl⟩,rfl,?_⟩
           . simp only [Rel];refine ⟨_,s',ts,?_⟩;obtain ⟨ZH,akg,st⟩:=a;simp only at oo;subst oo;rfl
           . simp only [fM,hu];refine ⟨ta _,.inr (.inr (.inr ⟨b,len,cap,rfl,by omega,ts,mZ,us,IF,by rw [a5,js],elems.map fun x=>i_ x.1,by simp [To],?_,fun i k ar=>⟨?_,fM.ext c6 _ _ _ _ (mW i k ar)⟩⟩))⟩
             . simp only [i_,IN,List.map_map];exact Nat.add_le_add_right (Nat.le_add_right _ _) 1
             . rw [aq3,Option.map_eq_some_iff] at ar;obtain ⟨y,_,rfl⟩:=ar;exact ta _
     | pointer e=>
       rcases DataW.trod_pointer hu h with ⟨rfl,rfl⟩ | ⟨a,mr,y,tL,aL,rfl,rfl,aq,bg⟩
       . intro E h s;exact ⟨E,h,[.mK],fun _ _ q=>q,Ext.refl h,s,⟨_,_,rfl,rfl,rfl⟩,rfl,by simp only [fM,hu];exact ⟨ta _,.inl trivial⟩⟩
       . obtain rfl:n=tL:=by omega
         by_cases az:P.cellsOf e=0
         . refine D4 _ fun ab af _=>?_;simp only [fM,hu];exact ⟨ta _,.inr (.inl az)⟩
         . intro E h s;obtain ⟨an,av⟩:=Ed aq;obtain ⟨hE,U,us,b7,a2,a3,a4,a5,mW⟩:=FW d_ dU n _ _ _ (kid_pointer dU a' hu) bg E h s;obtain ⟨b1,ad,b,ct,c6,hv,mZ,oo,s',IF⟩:=Xl a3 (cap:=0) (by omega) (fun i aG=>av i (by omega)) a4;refine ⟨b1,ad,[.ptr b 0],b7.trans ct,a2.trans c6,hv,⟨_,_,rfl,?_,rfl⟩,rfl,?_⟩
           . simp only [Rel];refine ⟨_,s',?_⟩;obtain ⟨ZH,akg,st⟩:=a;simp only at oo;subst oo;rfl
           . simp only [fM,hu];exact ⟨ta _,.inr (.inr ⟨b,rfl,mZ,us,IF,by omega,_,aqh _,fM.ext c6 _ _ _ _ mW⟩)⟩
     | map k e=>
       have h0:cs.length=1:=by
        unfold DataW.trod at h;rw [hu] at h
        split at h<;>simp_all
       intro E h s;refine ⟨E,h,[.bad],fun _ _ q=>q,Ext.refl h,s,?_,by simp [h0],by simp only [fM,hu];exact .inr trivial⟩
       match cs,h0 with
       | [c],_=>exact ⟨c,[],rfl,by simp [Rel],rfl⟩
     | interface ms=>
       have h0:cs.length=1:=by
        unfold DataW.trod at h;rw [hu] at h
        split at h<;>simp_all
       intro E h s;refine ⟨E,h,[.bad],fun _ _ q=>q,Ext.refl h,s,?_,by simp [h0],by simp only [fM,hu];exact .inr trivial⟩
       match cs,h0 with
       | [c],_=>exact ⟨c,[],rfl,by simp [Rel],rfl⟩
     | _=>
       refine D4 cs fun ab af _=>?_;simp only [fM,hu]
def rN (P:Program) (h:ae) (n m:Nat) (t:TypeId) (v:V):Prop:=
 match P.underlying t with
 | some (.struct _) | some (.array _ _)=>∃af,v=.agg af/\fM P h n m t af
 | _=>fM P h n m t [v]
theorem rN.ext {h ab:ae} (e:Ext h ab) {n m:Nat} {t:TypeId} {v:V} (H:rN P h n m t v):rN P ab n m t v:=by
 unfold rN at H ⊢
 split at H
 . obtain ⟨af,an,av⟩:=H;exact ⟨af,an,fM.ext e _ _ _ _ av⟩
 . obtain ⟨af,an,av⟩:=H;exact ⟨af,an,fM.ext e _ _ _ _ av⟩
 . exact fM.ext e _ _ _ _ H
theorem aiO (d_:yw P=true) (dU:laidOutB P=true) {r:Reach} {mY:Nat} {t:TypeId} {v:Value} {d:DataW H} {p:List MemPlace} (a':t<P.types.size) (bT:Value.okWide P W r mY t v) (aY:DataW.Trod enc P W base sp held t v d p) {E:Env} {h:ae} (s:a6 ⟨W,fun _=>none⟩ E h W):
 ∃n aw ab x,E.le aw/\Ext h ab/\a6 ⟨W,fun _=>none⟩ aw ab W/\Rel aw x v/\rN P ab n (i_ d) t x:=by
 obtain ⟨fuel,aA⟩:=aY;obtain ⟨aw,ab,af,b7,a2,a3,a4,a5,mW⟩:=FW d_ dU _ _ _ _ a' aA E h s;have agg:(∃cs,v=.agg cs)->∃x,Rel aw x v/\x=.agg af:=by rintro ⟨cs,rfl⟩;exact ⟨.agg af,by simp only [Rel];exact ⟨cs,rfl,a4⟩,rfl⟩
 have one:v.cells=#[v]->∃x,Rel aw x v/\af=[x]:=by
  intro aq;rw [aq] at a4 a5
  match af,a4,a5 with
  | [x],⟨y,de,aM,bh,cu⟩,_=>
    simp only [List.cons.injEq] at aM;exact ⟨x,aM.1 ▸ bh,rfl⟩
 refine ⟨fuel,aw,ab,?_⟩;unfold Value.okWide at bT;cases hu:P.underlying t with
 | none=>
   rw [hu] at bT;simp only [Cell.okWide,Cell.ok,hu] at bT
 | some u=>
   rw [hu] at bT;unfold rN;rw [hu];cases u<;>simp only at bT ⊢<;>first
    | (obtain ⟨cs,bE,_⟩:=bT
       obtain ⟨x,an,av⟩:=agg ⟨cs,bE⟩;exact ⟨x,b7,a2,a3,an,af,av,mW⟩)
    | (have aq:v.cells=#[v]:=by
        cases v<;>first
         | rfl
         | (simp only [Cell.okWide,Cell.ok,hu] at bT)
       obtain ⟨x,an,av⟩:=one aq;exact ⟨x,b7,a2,a3,an,av ▸ mW⟩)
def o4 (P:Program) (h:ae):Nat->List TypeId->List V->Prop
 | _,[],[]=>True
 | m,t::dp,v::af=>∃k bG,k+bG<=m/\(∃n,rN P h n k t v)/\o4 P h bG dp af
 | _,_,_=>False
theorem o4.mono {h:ae}:∀{m b4:Nat} {dp:List TypeId} {af:List V},m<=b4->o4 P h m dp af->o4 P h b4 dp af
 | _,_,[],[],_,H=>by unfold o4;trivial
 | _,_,[],_::_,_,H=>H.elim
 | _,_,_::_,[],_,H=>H.elim
 | _,_,_::_,_::_,hm,⟨k,bG,ar,H,jC⟩=>⟨k,bG,aqn ar hm,H,jC⟩
theorem Uu (d_:yw P=true) (dU:laidOutB P=true) {r:Reach} {mY:Nat}:∀{dp:List TypeId} {af:List Value} {ds:List (DataW H)} {p:List MemPlace},(∀t ∈ dp,t<P.types.size)->(∀(j:Nat) t v,dp[j]? =some t->af[j]? =some v->Value.okWide P W r mY t v)->
 DataW.TrodAll enc P W base sp held dp af ds p->∀{E:Env} {h:ae},a6 ⟨W,fun _=>none⟩ E h W->∃aw ab xs,E.le aw/\Ext h ab/\a6 ⟨W,fun _=>none⟩ aw ab W/\bm aw xs af/\o4 P ab (pN ds) dp xs
 | [],[],ds,p,_,_,_,E,h,s=>⟨E,h,[],fun _ _ q=>q,Ext.refl h,s,rfl,by unfold o4;trivial⟩
 | [],_::_,ds,p,_,_,aY,E,h,s=>by cases ds<;>exact aY.elim
 | _::_,[],ds,p,_,_,aY,E,h,s=>by cases ds<;>exact aY.elim
 | _::_,_::_,[],p,_,_,aY,E,h,s=>aY.elim
 | t::dp,v::af,d::ds,p,aB,bE,⟨cc,cy,U,ad,_⟩,E,h,s=>by obtain ⟨n,hE,g1,x,b7,a2,a3,a4,a5⟩:=aiO d_ dU (aB t (by simp)) (bE 0 t v rfl rfl) U s;obtain ⟨b1,g2,xs,ct,c6,hv,mZ,oo⟩:=Uu d_ dU (fun t q=>aB t (by simp [q])) (fun j t v an av=>bE (j+1) t v (by simpa using an) (by simpa using av)) ad a3;exact ⟨b1,g2,x::xs,b7.trans ct,a2.trans c6,hv,⟨_,_,rfl,Rel.mono ct _ _ a4,mZ⟩,i_ d,pN ds,by simp only [pN];exact aqh _,⟨n,a5.ext c6⟩,oo⟩
theorem aa_ (d_:yw P=true) (dU:laidOutB P=true) {r:Reach} {mY:Nat} {f:FuncId} {dp:List TypeId} {af:List Value} {ds:List (DataW H)} {p:List MemPlace} (fV:∀t ∈ dp,t<P.types.size) (bE:∀(j:Nat) t v,dp[j]? =some t->af[j]? =some v->Value.okWide P W r mY t v)
 (aY:DataW.TrodAll enc P W base sp held dp af ds p) (nb:Lay.ok W) (bO:eO P) (ah:∃fn,P.funcs[f]? =some fn/\fn.body.isSome=true) (aq:∀(h:ae) (xs:List V),o4 P h (pN ds) dp xs->e9 P f xs h fun y _=>y=.bool true):
 Calls P f af.toArray W fun e w'=>e=.returned (.bool true)/\Below W.heap.size W w':=by
 obtain ⟨E,h,xs,_,_,a3,a4,a5⟩:=Uu d_ dU fV bE aY (Dj W nb);obtain ⟨y,ab,qZ,rfl⟩:=aq h xs a5;refine (qZ.calls bO ah _ E W af a4 a3).mono fun e w' q=>?_;obtain ⟨aw,x,rfl,_,av,aH⟩:=q;simp only [Rel] at av;subst av;exact ⟨rfl,aH.frame⟩
end
end
section
open Go Go.RowKit
variable [Lay]
section
variable {P:Program} {h:ae} {n m:Nat} {t:TypeId}
theorem fM.pos {af:List V} (H:fM P h n m t af):∃k,n=k+1:=by
 cases n with
 | zero=>exact H.elim
 | succ m=>exact ⟨m,rfl⟩
theorem fM.str {af:List V} (H:fM P h n m t af) (hu:P.underlying t=some .string):∃s:List UInt8,af=[.str s]/\s.length+1<=m:=by obtain ⟨_,rfl⟩:=H.pos;simpa only [fM,hu] using H
def Df (v:V):Prop:=∀b off l c,v=.slice b off l c->l<=c
end
end
section
open Go Go.RowKit Go.ChangeShapes Go.WideShapes
variable [Lay]
section
variable {H:Type} {enc:TypeId × Value->H} {P:Program}
theorem P2 (dU:laidOutB P=true) {W qG:World} (ah:Below W.heap.size W qG):∀{dp:List TypeId} {af:List Value} {ds:List (DataW H)} {bC:List MemPlace},(dp.all fun t=>P.readableRec t&&decide (t<P.types.size))=true->
 DataW.TrodAll enc P W 0 (fun _=>true) true dp af ds bC->DataW.TrodAll enc P qG 0 (fun b=>decide (b<W.heap.size)) true dp af ds bC
 | [],[],[],_,_,h=>h
 | [],_::_,_,_,_,h=>by rename_i ds _;cases ds<;>exact h.elim
 | [],[],_::_,_,_,h=>h.elim
 | _::_,[],_,_,_,h=>by rename_i ds _;cases ds<;>exact h.elim
 | _::_,_::_,[],_,_,h=>h.elim
 | t::dp,v::af,d::ds,bC,aa,h=>by have a':=h.lt;obtain ⟨p,q,U,ad,rfl⟩:=h;simp only [arG,aqi,aqy] at aa;exact ⟨p,q,Below.trod dU aa.1.1 aa.1.2 U ah (fun x ay=>a' x (by simp [ay])),P2 dU ah aa.2 ad,rfl⟩
theorem W6 {W:World} {base:Nat} {sp:Nat->Bool} {held:Bool}:∀{dp:List TypeId} {af:List Value} {ds:List (DataW H)} {bC:List MemPlace},DataW.TrodAll enc P W base sp held dp af ds bC->ds.length=dp.length
 | [],[],[],_,_=>rfl
 | [],_::_,ds,_,h=>by cases ds<;>exact h.elim
 | [],[],_::_,_,h=>h.elim
 | _::_,[],ds,_,h=>by cases ds<;>exact h.elim
 | _::_,_::_,[],_,h=>h.elim
 | t::dp,v::af,d::ds,bC,h=>by obtain ⟨p,q,U,ad,rfl⟩:=h;simp [W6 ad]
theorem aiA (d_:yw P=true) (dU:laidOutB P=true) {f:FuncId} {fn:Func} {s:ChangeSpec} {N9:TypeId} (fV:(fn.params.toList.all fun t=>P.readableRec t&&decide (t<P.types.size))=true) (T1:s.vars=[]) (xE:fn.resultTypes=#[N9]) (afQ:P.underlying N9=some .bool)
 (Cg:∀ds:List (DataW H),ds.length=fn.params.size->s.fn H (ds++[])={results:=[.lit (.bool true)],args:=ds})
 {B:Nat} (aq:∀(h:ae) (xs:List V),o4 P h B fn.params.toList xs->e9 P f xs h fun y _=>y=.bool true)
 {W:World} {base:Nat} {args:Array Value} {ds gs:List (DataW H)} {before:List MemPlace} (ar:pN (ds++gs)<=B) (mA:Lay.ok W) (bO:eO P) (ah:∃fn,P.funcs[f]? =some fn/\fn.body.isSome=true)
 (Ci:∀(j:Nat) t v,fn.params[j]? =some t->args[j]? =some v->Value.okWide P W .any base t v) (nb:DataW.Whole enc P fn.params.toList s.vars false W args.toList ds gs before):
 Calls P f args W fun e qG=>∃v,e=.returned v/\s.post enc P fn false true false false W args v qG:=by
 have aen:=nb;obtain ⟨p,q,oy,EZ,rfl,r8,p4⟩:=nb;rw [T1] at EZ;obtain ⟨rfl,rfl⟩:=trodVars_none EZ;have hlen:ds.length=fn.params.size:=by rw [W6 oy];simp
 have hw:=aa_ d_ dU (mY:=base) (r:=.any) (fun t aB=>by
  have:=aqR.1 fV t aB;simp only [aqi,aqy] at this
  exact this.2) (fun j t v U ad=>Ci j t v (by simpa using U) (by simpa using ad)) oy mA bO ah (fun h xs q=>aq h xs (q.mono (by simpa using ar)))
 simp only [ars] at hw;refine hw.mono fun e qG ⟨he,P1⟩=>?_;subst he;refine ⟨_,rfl,ds,[],p++[],[],p,[],aen,?_,?_,?_,P1.frame _,fun h=>by cases h⟩
 . rw [Cg ds hlen,xE];exact trodAll_mk1 (shut_bool afQ _)
 . rw [Cg ds hlen];exact P2 dU P1 fV oy
 . rw [Cg ds hlen,T1];rfl
end
end
section
open Go Go.RowKit
variable [Lay]
theorem amR {P:Program} {h:ae} {B:Nat} {xs:List V} (az:o4 P h B [] xs):xs=[]:=by
 match xs,az with
 | [],_=>rfl
theorem amQ {P:Program} {h:ae} {B:Nat} {t:TypeId} {dp:List TypeId} {xs:List V} (az:o4 P h B (t::dp) xs):∃a DX k bG n,xs=a::DX/\k+bG<=B/\rN P h n k t a/\o4 P h bG dp DX:=by
 match xs,az with
 | a::DX,⟨k,bG,ar,⟨n,aV⟩,U⟩=>exact ⟨a,DX,k,bG,n,rfl,ar,aV,U⟩
section
variable {P:Program} {h:ae} {n m:Nat} {t:TypeId} {v:V}
theorem amS (az:rN P h n m t v) (hu:P.underlying t=some .string):∃s:List UInt8,v=.str s/\s.length+1<=m:=by unfold rN at az;rw [hu] at az;obtain ⟨s,e,q⟩:=fM.str az hu;simp only [List.cons.injEq,and_true] at e;exact ⟨s,e,q⟩
end
inductive D where
 | i (k:IntKind) (n:Int)
 | b (x:Bool)
 | s (x:List UInt8)
 | l (size:Nat) (es:List (List D))
inductive dX (F:aN->Prop) (h:ae):List D->List V->Prop
 | nil:dX F h [] []
 | i {k:IntKind} {n:Int} {ds:List D} {af:List V} (t:dX F h ds af):dX F h (.i k n::ds) (.int k n::af)
 | b {x:Bool} {ds:List D} {af:List V} (t:dX F h ds af):dX F h (.b x::ds) (.bool x::af)
 | s {x:List UInt8} {ds:List D} {af:List V} (ah:x.length<=top) (t:dX F h ds af):dX F h (.s x::ds) (.str x::af)
 | l {size:Nat} {es:List (List D)} {v:V} {us:List (List V)} {ds:List D} {af:List V} (aa:Df v) (ah:es.length<=top) (az:fD h size v es.length us.flatten) (hu:us.length=es.length) (bK:∀u ∈ us,u.length=size)
    (kids:∀(i:Nat) (e:List D) (u:List V),es[i]? =some e->us[i]? =some u->dX F h e u) (aA:∀b,v.bd b->F b) (t:dX F h ds af):dX F h (.l size es::ds) (v::af)
structure e1 (F:aN->Prop) (h:ae) (size:Nat) (es:List (List D)) (v:V):Prop where
 room:Df v
 le:es.length<=top
 ex:∃us:List (List V),fD h size v es.length us.flatten/\us.length=es.length/\(∀u ∈ us,u.length=size)/\∀(i:Nat) (e:List D) (u:List V),es[i]? =some e->us[i]? =some u->dX F h e u
 BF:∀b,v.bd b->F b
section
variable {F:aN->Prop} {h ab:ae} {ds:List D} {af:List V}
theorem dX.mod {ew M:aN->Prop} (m:Mod M h ab) (dt:∀b,F b->Old h b->¬M b/\ew b) (H:dX F h ds af):dX ew ab ds af:=by
 induction H with
 | nil=>exact .nil
 | i t aT=>exact .i aT
 | b t aT=>exact .b aT
 | s ah t aT=>exact .s ah aT
 | l aa ah az hu bK kids aA t vl tD=>exact .l aa ah (az.mod m fun b q=>(dt b (aA b q) (az.cA q)).1) hu bK vl (fun b q=>(dt b (aA b q) (az.cA q)).2) tD
theorem dX.ext (H:dX F h ds af) (e:Ext h ab):dX F ab ds af:=by
 induction H with
 | nil=>exact .nil
 | i t aT=>exact .i aT
 | b t aT=>exact .b aT
 | s ah t aT=>exact .s ah aT
 | l aa ah az hu bK kids aA t vl tD=>exact .l aa ah (az.ext e) hu bK vl aA tD
theorem dX.fQ {ew:aN->Prop} (H:dX F h ds af) (w:∀b,F b->ew b):dX ew h ds af:=by
 induction H with
 | nil=>exact .nil
 | i t aT=>exact .i aT
 | b t aT=>exact .b aT
 | s ah t aT=>exact .s ah aT
 | l aa ah az hu bK kids aA t vl tD=>exact .l aa ah az hu bK vl (fun b q=>w b (aA b q)) tD
theorem dX.cA (H:dX F h ds af):dX (fun b=>F b/\Old h b) h ds af:=by
 induction H with
 | nil=>exact .nil
 | i t aT=>exact .i aT
 | b t aT=>exact .b aT
 | s ah t aT=>exact .s ah aT
 | l aa ah az hu bK kids aA t vl tD=>exact .l aa ah az hu bK vl (fun b q=>⟨aA b q,az.cA q⟩) tD
theorem dX.fs (H:dX F h ds af):fs af=true:=by
 induction H with
 | nil=>rfl
 | i t aT=>simpa [Go.Proofs.YtahfljfikfkpnaaGreatDoor.bf.fs,V.one] using aT
 | b t aT=>simpa [Go.Proofs.YtahfljfikfkpnaaGreatDoor.bf.fs,V.one] using aT
 | s ah t aT=>simpa [Go.Proofs.YtahfljfikfkpnaaGreatDoor.bf.fs,V.one] using aT
 | l aa ah az hu bK kids aA t vl tD=>simp only [Go.Proofs.YtahfljfikfkpnaaGreatDoor.bf.fs,az.one.1,tD,Bool.and_self]
theorem dX.int {k:IntKind} {n:Int} (H:dX F h (.i k n::ds) af):∃us,af=.int k n::us/\dX F h ds us:=by
 cases H with
 | i t=>exact ⟨_,rfl,t⟩
theorem dX.str {x:List UInt8} (H:dX F h (.s x::ds) af):∃us,af=.str x::us/\x.length<=top/\dX F h ds us:=by
 cases H with
 | s ah t=>exact ⟨_,rfl,ah,t⟩
theorem dX.e6 {size:Nat} {es:List (List D)} (H:dX F h (.l size es::ds) af):∃v us,af=v::us/\e1 F h size es v/\dX F h ds us:=by
 cases H with
 | l aa ah az hu bK kids aA t=>exact ⟨_,_,rfl,⟨aa,ah,⟨_,az,hu,bK,kids⟩,aA⟩,t⟩
theorem dX.no (H:dX F h [] af):af=[]:=by cases H;rfl
end
theorem JN {size:Nat}:∀(us:List (List V)) (i:Nat) (u:List V),(∀u ∈ us,u.length=size)->us[i]? =some u->(us.flatten.drop (i * size)).take size=u
 | [],i,u,_,h=>by simp at h
 | w::us,0,u,aD,h=>by simp only [aqz,aqj] at h;subst h;rw [Nat.zero_mul,arp,arq,asi (aD _ (by simp))]
 | w::us,i+1,u,aD,h=>by rw [show (i+1) * size=size+i * size from by rw [Nat.succ_mul,Nat.add_comm],<-List.drop_drop,arq,List.drop_left' (aD _ (by simp))];exact JN us i u (fun u hu=>aD u (by simp [hu])) (by simpa using h)
theorem JO {size:Nat}:∀(us:List (List V)),(∀u ∈ us,u.length=size)->us.flatten.length=us.length * size
 | [],_=>by simp
 | w::us,aD=>by rw [arq,aqC,aD w (by simp),JO us (fun u hu=>aD u (by simp [hu])),aqp,Nat.succ_mul,Nat.add_comm]
section
variable {F:aN->Prop} {h ab:ae} {size:Nat} {es:List (List D)} {v:V}
theorem e1.cons {ds:List D} {af:List V} (H:e1 F h size es v) (t:dX F h ds af):dX F h (.l size es::ds) (v::af):=by obtain ⟨us,a,b,c,d⟩:=H.ex;exact .l H.room H.le a b c d H.BF t
theorem e1.ext (H:e1 F h size es v) (e:Ext h ab):e1 F ab size es v:=by obtain ⟨us,a,b,c,d⟩:=H.ex;exact ⟨H.room,H.le,⟨us,a.ext e,b,c,fun i x u an av=>(d i x u an av).ext e⟩,H.BF⟩
theorem e1.mod {ew M:aN->Prop} (m:Mod M h ab) (dt:∀b,F b->Old h b->¬M b/\ew b) (H:e1 F h size es v):e1 ew ab size es v:=by obtain ⟨us,a,b,c,d⟩:=H.ex;exact ⟨H.room,H.le,⟨us,a.mod m fun x q=>(dt x (H.BF x q) (a.cA q)).1,b,c,fun i x u an av=>(d i x u an av).mod m dt⟩,fun x q=>(dt x (H.BF x q) (a.cA q)).2⟩
theorem e1.fQ {ew:aN->Prop} (H:e1 F h size es v) (w:∀b,F b->ew b):e1 ew h size es v:=by obtain ⟨us,a,b,c,d⟩:=H.ex;exact ⟨H.room,H.le,⟨us,a,b,c,fun i x u an av=>(d i x u an av).fQ w⟩,fun b q=>w b (H.BF b q)⟩
theorem e1.len (H:e1 F h size es v):ju v=some (.int .i64 es.length):=by obtain ⟨us,a,_⟩:=H.ex;exact a.len
theorem e1.one (H:e1 F h size es v):v.one=true/\v.cells=[v]/\v.hK=true:=by obtain ⟨us,a,_⟩:=H.ex;exact a.one
theorem e1.nil (F:aN->Prop) (h:ae) (size:Nat):e1 F h size [] .cn:=⟨fun b o l c e=>(by cases e),aqZ _,⟨[],⟨by simp,rfl⟩,rfl,fun u hu=>(by cases hu),fun i e u q=>(by simp at q)⟩,fun b q=>q.elim⟩
theorem e1.at (H:e1 F h size es v) {k:IntKind} {i:Nat} (aG:i<es.length):
 ∃b off u,kU size v (.int k i)=some (.ptr b (off+i * size))/\dX F h es[i] u/\u.length=size/\(∀ab,Ext h ab->pk size (ab.get b) (off+i * size)=some (.agg u))/\∀ab,Ext h ab->∀j,j<size->gW (ab.get b) (off+i * size+j)=u[j]? :=by
 obtain ⟨us,U,ad,aD,aC⟩:=H.ex;have Tv:i<us.length:=by omega
 have hu:=aqm Tv;obtain ⟨b,off,aM,bh⟩:=U.fy (k:=k) aG;have aA:=JN us i _ aD hu;have kC:=JO us aD;have hle:i * size+size<=us.length * size:=by have:=ari size (show i+1<=us.length by omega);rw [Nat.succ_mul] at this;exact this
 have Fs:us[i].length=size:=aD _ (aq1 Tv);refine ⟨b,off,us[i],aM,aC i _ _ (aqm aG) hu,Fs,fun ab e=>?_,fun ab e j bU=>?_⟩
 . rw [(bh.ext e).iH (i:=i * size) (n:=size) (by omega),aA]
 . rw [arl,(bh.ext e).hc (i:=i * size+j) (by omega)];have:((us.flatten.drop (i * size)).take size)[j]? =us[i][j]? :=by rw [aA]
   rw [aq_ bU,art] at this;rw [<-this,aqm (by omega)]
end
def Any (_:aN):Prop:=True
structure Has (h:ae) (n:Nat) (l:List V):Prop where
 lt:n<h.next
 g:h.get (aE n)=.bz l 0 false
theorem Has.ext {h ab:ae} {n:Nat} {l:List V} (B:Has h n l) (e:Ext h ab):Has ab n l:=⟨ar0 B.lt e.next,(e.get _ (kf B.lt)).trans B.g⟩
theorem gd (h:ae) (l:List V):∃H,h.new (.bz l 0 false)=H/\Ext h H/\Has H h.next l:=⟨_,rfl,(Ext.refl h).new _,by rw [jK];omega,ti _⟩
theorem fw (h:ae) (z l:List V):∃H,(h.new (.bz z 0 false)).set (aE h.next) (.bz l 0 false)=H/\Ext h H/\Has H h.next l:=
 ⟨_,rfl,((Ext.refl h).new _).set (aqh _) _,by rw [rk,jK];omega,by rw [fG,aqw rfl]⟩
theorem Has.set {h:ae} {n m:Nat} {l:List V} (B:Has h n l) (hm:n≠m) (k:cz):Has (h.set (aE m) k) n l:=⟨by rw [rk];exact B.lt,by rw [fG,aqr (by rw [ns];exact fun q=>hm q.symm)];exact B.g⟩
theorem Has.put {h:ae} {n:Nat} {l:List V} (B:Has h n l) (ed:List V):Has (h.set (aE n) (.bz ed 0 false)) n ed:=⟨by rw [rk];exact B.lt,by rw [fG,aqw rfl]⟩
theorem CE (h:ae) (size n:Nat) (af:List V) (aD:af.length=n * size) (aL:n<=top):∃H,h.new (.bz af 0 false)=H/\Ext h H/\fD H size (.slice (aE h.next) 0 n n) n af/\Df (.slice (aE h.next) 0 n n)/\∀b,(V.slice (aE h.next) 0 n n).bd b->b=aE h.next:=
 ⟨_,rfl,(Ext.refl h).new _,fe.v (B:=h.next) ⟨aD,rfl,by rw [dj];exact aqh _,kf (by rw [jK];omega),aqh _,aL,af,0,false,ti _,by omega,by rw [arp,ar_]⟩,
   fun b o l c e=>by cases e;exact aqh _,fun b q=>q⟩
theorem e1.set {F:aN->Prop} {h:ae} {size:Nat} {es:List (List D)} {v:V} (H:e1 F h size es v) {b:aN} (ah:¬F b) (k:cz):e1 F (h.set b k) size es v:=
 H.mod ((Mod.refl (fun x=>x=b) h).set (fun _=>rfl) k) fun x q _=>⟨fun e=>ah (e ▸ q),q⟩
theorem dh {h:ae} {n:Nat} (aL:h.next<=n):¬Old h (aE n):=fun q=>by unfold Old at q;rw [dj] at q;omega
theorem rA {i n:Nat} (h:i<n) (aL:n<=4611686018427387904):IntKind.i64.wrap ((i:Int)+1)=((i+1:Nat):Int):=by rw [wrap_i64 (by omega) (by omega)];rfl
def pQ (i:Int):List D:=[.i .i64 i]
theorem e1.Ud {F:aN->Prop} {h:ae} {l:List Int} {v:V} (H:e1 F h 1 (l.map pQ) v) {k:IntKind} {i:Nat} (aG:i<l.length):
 ∃b off,kU 1 v (.int k i)=some (.ptr b (off+i * 1))/\∀ab,Ext h ab->gW (ab.get b) (off+i * 1)=some (.int .i64 l[i]):=by
 obtain ⟨b,off,u,aM,bh,cu,_,dA⟩:=H.at (k:=k) (i:=i) (by rw [aqJ];exact aG);rw [arJ,pQ] at bh;obtain ⟨us,rfl,eY⟩:=dX.int bh;obtain rfl:=eY.no;exact ⟨b,off,aM,fun ab e=>by simpa using dA ab e 0 (by omega)⟩
end
section
open Go Go.RowKit
variable [Lay]
def ma (n:Nat) (b:aN):aN:=aE (n+cM b)
mutual
def V.dc (n:Nat):V->V
 | .ptr b o=>.ptr (ma n b) o
 | .slice b o l c=>.slice (ma n b) o l c
 | .fp b o l c=>.fp (ma n b) o l c
 | .iy b o l c=>.iy (ma n b) o l c
 | .map b=>.map (ma n b)
 | .func f cs=>.func f (l_ n cs)
 | .nW f cs=>.nW f (l_ n cs)
 | .iface t v=>.iface t (v.dc n)
 | .agg cs=>.agg (l_ n cs)
 | .tuple cs=>.tuple (l_ n cs)
 | .bad=>.bad | .bool b=>.bool b | .int k i=>.int k i | .str s=>.str s | .mK=>.mK | .cn=>.cn | .l0=>.l0 | .oQ=>.oQ | .nilIface=>.nilIface
def l_ (n:Nat):List V->List V
 | []=>[]
 | v::af=>v.dc n::l_ n af
end
theorem WB (n:Nat):∀l:List V,l_ n l=l.map (V.dc n)
 | []=>by simp [l_]
 | v::l=>by rw [l_,WB n l,arE]
def c9.dc (n:Nat) (m:c9):c9:=⟨m.k.dc n,m.v.dc n,m.born⟩
def cz.dc (n:Nat):cz->cz
 | .cells m cs c' st=>.bz ((iT cs 0 m).map (V.dc n)) c' st
 | .iter s pos=>.iter s pos
 | .mp es clock=>.mp (es.map (c9.dc n)) clock
 | .jf es=>.jf (es.map (c9.dc n))
 | _=>.dead
def ae.rP (h aq:ae):Nat->ae
 | 0=>h
 | k+1=>(h.rP aq k).new ((aq.get (aE k)).dc h.next)
theorem yY (h aq:ae):∀k,(h.rP aq k).next=h.next+k
 | 0=>rfl
 | k+1=>by rw [ae.rP,jK,yY h aq k];omega
theorem PJ (h aq:ae):∀k,Ext h (h.rP aq k)
 | 0=>Ext.refl h
 | k+1=>(PJ h aq k).new _
theorem Il (h aq:ae):∀(k i:Nat),i<k->(h.rP aq k).get (aE (h.next+i))=(aq.get (aE i)).dc h.next
 | 0,i,aG=>absurd aG (by omega)
 | k+1,i,aG=>by
   rw [ae.rP,jY,yY];by_cases e:i=k
   . subst e;rw [aqw rfl]
   . rw [aqr (fun q=>e (by have:=lv q;omega)),Il h aq k i (by omega)]
theorem PK (h aq:ae) (b:aN):∀(k:Nat),(cM b<h.next\/h.next+k<=cM b)->(h.rP aq k).get b=h.get b
 | 0,_=>rfl
 | k+1,ah=>by rw [ae.rP,jY,yY,aqr (fun q=>by subst q;rw [dj] at ah;omega)];exact PK h aq b k (by omega)
def ae.app (h aq:ae):ae:=h.rP aq aq.next
def pL (h aq:ae) (E b1:Env):Env:=fun b=>if h.next<=cM b/\cM b<h.next+aq.next then b1 (aE (cM b-h.next)) else E b
section
variable {al:Fr} {E b1:Env} {h aq:ae} {w bn:World}
theorem Ik (s:a6 al E h w):E.le (pL h aq E b1):=fun b p q=>by
 unfold pL;rw [aqr]
 . exact q
 . rintro ⟨U,_⟩;have:=s.fresh (cM b) U;rw [yc] at this;rw [this] at q;cases q
theorem s5 (s2:a6 ⟨w,fun _=>none⟩ b1 aq bn) {b:aN} {p:iq} (q:b1 b=some p):pL h aq E b1 (ma h.next b)=some p:=by
 unfold pL ma;have a':cM b<aq.next:=by
  rcases ark (cM b) aq.next with av | av
  . exact av
  . have:=s2.fresh _ av;rw [yc,q] at this;cases this
 rw [dj,aqw ⟨by omega,by omega⟩,show h.next+cM b-h.next=cM b from by omega,yc];exact q
mutual
theorem tV (s2:a6 ⟨w,fun _=>none⟩ b1 aq bn):∀(v:V) (x:Value),Rel b1 v x->Rel (pL h aq E b1) (v.dc h.next) x
 | .bad,x,q=>by simp only [V.dc,Rel]
 | .bool _,x,q=>by simpa only [V.dc,Rel] using q
 | .int _ _,x,q=>by simpa only [V.dc,Rel] using q
 | .str _,x,q=>by simpa only [V.dc,Rel] using q
 | .mK,x,q=>by simpa only [V.dc,Rel] using q
 | .cn,x,q=>by simpa only [V.dc,Rel] using q
 | .l0,x,q=>by simpa only [V.dc,Rel] using q
 | .oQ,x,q=>by simpa only [V.dc,Rel] using q
 | .nilIface,x,q=>by simpa only [V.dc,Rel] using q
 | .ptr b o,x,q=>by simp only [V.dc,Rel] at q ⊢;obtain ⟨p,an,av⟩:=q;exact ⟨p,s5 s2 an,av⟩
 | .slice b o l c,x,q=>by simp only [V.dc,Rel] at q ⊢;obtain ⟨p,an,av⟩:=q;exact ⟨p,s5 s2 an,av⟩
 | .fp b o l c,x,q=>by simp only [V.dc,Rel] at q ⊢;obtain ⟨p,an,av⟩:=q;exact ⟨p,s5 s2 an,av⟩
 | .iy b o l c,x,q=>by simpa only [V.dc,Rel] using q
 | .map b,x,q=>by simp only [V.dc,Rel] at q ⊢;obtain ⟨p,an,av⟩:=q;exact ⟨p,s5 s2 an,av⟩
 | .func f cs,x,q=>by
   simp only [V.dc,Rel] at q ⊢;rcases q with ⟨an,a,av,aH⟩ | ⟨an,b,p,rfl,aH,bP⟩
   . exact .inl ⟨an,a,av,Dd s2 cs _ aH⟩
   . exact .inr ⟨an,ma h.next b,p,by simp only [l_,V.dc],s5 s2 aH,bP⟩
 | .nW f cs,x,q=>by simp only [V.dc,Rel] at q ⊢;obtain ⟨an,a,av,aH⟩:=q;exact ⟨an,a,av,Dd s2 cs _ aH⟩
 | .iface t v,x,q=>by simp only [V.dc,Rel] at q ⊢;obtain ⟨y,an,av⟩:=q;exact ⟨y,an,tV s2 v y av⟩
 | .agg cs,x,q=>by simp only [V.dc,Rel] at q ⊢;obtain ⟨a,an,av⟩:=q;exact ⟨a,an,Dd s2 cs _ av⟩
 | .tuple cs,x,q=>by simp only [V.dc,Rel] at q ⊢;obtain ⟨a,an,av⟩:=q;exact ⟨a,an,Dd s2 cs _ av⟩
theorem Dd (s2:a6 ⟨w,fun _=>none⟩ b1 aq bn):∀(v:List V) (x:List Value),bm b1 v x->bm (pL h aq E b1) (l_ h.next v) x
 | [],x,q=>by simpa only [l_,bm] using q
 | v::af,x,q=>by simp only [l_,bm] at q ⊢;obtain ⟨y,de,an,av,aH⟩:=q;exact ⟨y,de,an,tV s2 v y av,Dd s2 af de aH⟩
end
theorem U6 (s2:a6 ⟨w,fun _=>none⟩ b1 aq bn):∀(v:List c9) (x:List MapEntry),fc b1 v x->fc (pL h aq E b1) (v.map (c9.dc h.next)) x
 | [],x,q=>by simpa only [List.map_nil,fc] using q
 | v::af,x,q=>by simp only [arE,fc,c9.dc] at q ⊢;obtain ⟨y,de,an,av,aH,bP,cE⟩:=q;exact ⟨y,de,an,tV s2 _ _ av,tV s2 _ _ aH,bP,U6 s2 af de cE⟩
theorem Xh (s2:a6 ⟨w,fun _=>none⟩ b1 aq bn):∀(v:List c9) (x:List MapEntry),mj b1 v x->mj (pL h aq E b1) (v.map (c9.dc h.next)) x
 | [],x,q=>by simpa only [List.map_nil,mj] using q
 | v::af,x,q=>by simp only [arE,mj,c9.dc] at q ⊢;obtain ⟨y,de,an,av,aH,cE⟩:=q;exact ⟨y,de,an,tV s2 _ _ av,tV s2 _ _ aH,Xh s2 af de cE⟩
theorem ES (cs:T V):∀(n off i:Nat),i<n->(iT cs off n)[i]? =some (T.get .bad (aE (off+i)) cs)
 | 0,_,i,aG=>absurd aG (by omega)
 | n+1,off,0,_=>by simp [iT]
 | n+1,off,i+1,aG=>by rw [iT,aq6,ES cs n (off+1) i (by omega)];congr 3;omega
theorem ZI (hw:al.w.heap.size<=w.heap.size) (s2:a6 ⟨w,fun _=>none⟩ b1 aq bn) {b:aN} {k:cz} (H:hT w.heap.size b1 bn b k):hT al.w.heap.size (pL h aq E b1) bn (ma h.next b) (k.dc h.next):=by
 cases k with
 | cells n cs c' st=>
   obtain ⟨aL,p,c,el,cf,U,ad,aC,aX,bF,bR,cv⟩:=H;have aD:((iT cs 0 n).map (V.dc h.next)).length=n:=by rw [aqJ,w9]
   refine ⟨by rw [aD];exact aL,p,c,el,cf,s5 s2 U,aqn hw ad,aC,aX,bF,bR,by rw [aD];exact cv.1,fun i y aG bg=>?_⟩;rw [aD] at aG;have:=ER ((iT cs 0 n).map (V.dc h.next)) 0 i .e;rw [aqW,aqw (by rw [aD];exact aG),aq3,ES cs n 0 i aG] at this;rw [this];simp only [arj,arD,aqW];exact tV s2 _ _ (cv.2 i y aG bg)
 | iter st pos=>
   obtain ⟨p,U,ad,aC⟩:=H;exact ⟨p,s5 s2 U,aqn hw ad,aC⟩
 | mp es clock=>
   obtain ⟨p,a,U,ad,aC,aX⟩:=H;exact ⟨p,a,s5 s2 U,aqn hw ad,aC,U6 s2 _ _ aX⟩
 | jf es=>
   obtain ⟨p,a,c,l,U,ad,aC,aX,bF⟩:=H;exact ⟨p,a,c,l,s5 s2 U,aqn hw ad,aC,Xh s2 _ _ aX,bF⟩
 | _=>trivial
theorem Gz {k:cz} {n:Nat} (H:(k.dc n).own=true):k.own=true:=by cases k<;>simp_all [cz.dc,cz.own]
theorem VF {B:Nat} {b:aN} {k:cz} {p:iq} (H:hT B E w b k) (aU:k.own=true) (q:E b=some p):B<=p.bd/\p.bd<w.heap.size:=by
 have lt:∀{o:Obj},w.heap[p.bd]? =some o->p.bd<w.heap.size:=fun {o} q=>by
  rcases ark p.bd w.heap.size with av | av
  . exact av
  . rw [arM av] at q;cases q
 cases k with
 | cells n cs c' st=>
   obtain ⟨_,p',c,el,cf,U,ad,aC,_⟩:=H;rw [q] at U;cases U;exact ⟨ad,lt aC⟩
 | iter st pos=>
   obtain ⟨p',U,ad,_,aC⟩:=H;rw [q] at U;cases U;exact ⟨ad,lt aC⟩
 | mp es clock=>
   obtain ⟨p',a,U,ad,aC,_⟩:=H;rw [q] at U;cases U;exact ⟨ad,lt aC⟩
 | jf es=>
   obtain ⟨p',a,c,l,U,ad,aC,_⟩:=H;rw [q] at U;cases U;exact ⟨ad,lt aC⟩
 | e2 l=>
   obtain ⟨p',o,U,ad,aC,_⟩:=H;rw [q] at U;cases U;exact ⟨ad,lt aC⟩
 | gg=>
   obtain ⟨p',U,ad,aC⟩:=H;rw [q] at U;cases U;exact ⟨ad,lt aC⟩
 | kb src since seen last=>
   obtain ⟨p',m,a,U,ad,_,aC,_⟩:=H;rw [q] at U;cases U;exact ⟨ad,lt aC⟩
 | dead=>cases aU
 | view n cs=>cases aU
theorem WC (s:a6 al E h w) (s2:a6 ⟨w,fun _=>none⟩ b1 aq bn):a6 al (pL h aq E b1) (h.app aq) bn:=by
 have Ww:=s.below s2.frame;have hw:al.w.heap.size<=w.heap.size:=s.frame.size;have cs:∀b,(h.next<=cM b/\cM b<h.next+aq.next/\∃i,i<aq.next/\b=ma h.next (aE i)/\(h.app aq).get b=(aq.get (aE i)).dc h.next/\pL h aq E b1 b=b1 (aE i))\/
  ((cM b<h.next\/h.next+aq.next<=cM b)/\(h.app aq).get b=h.get b/\pL h aq E b1 b=E b):=fun b=>by
  by_cases q:h.next<=cM b/\cM b<h.next+aq.next
  . refine .inl ⟨q.1,q.2,cM b-h.next,by omega,?_,?_,aqw q⟩
    . unfold ma;rw [dj,show h.next + (cM b-h.next)=cM b from by omega,yc]
    . have:=Il h aq aq.next (cM b-h.next) (by omega)
      rw [show h.next + (cM b-h.next)=cM b from by omega,yc] at this;exact this
  . exact .inr ⟨by omega,PK h aq b _ (by omega),aqr q⟩
 have Vt:∀b p,(h.get b).own=true->E b=some p->p.bd<w.heap.size:=fun b p aU q=>by have ah:hT al.w.heap.size E w b (h.get b):=s.at q;exact (VF ah aU q).2
 have Vb:∀i p,(aq.get (aE i)).own=true->b1 (aE i)=some p->w.heap.size<=p.bd:=fun i p aU q=>(VF (s2.bd _ rfl) aU q).1;refine ⟨fun b ah=>?_,fun b k ar=>?_,fun b b2 p p' bb bI aM bh ai=>?_,fun i aG=>?_,Ww.frame,s.laid,fun b p n c st aJ he=>?_⟩
 . rcases cs b with ⟨_,_,i,aG,rfl,aM,bh⟩ | ⟨_,aM,bh⟩
   . rw [aM];exact ZI hw s2 (s2.bd _ rfl)
   . rw [aM];exact (Ww.bd b ah).mono (Ik s)
 . obtain ⟨an,av,i,aG,rfl⟩:=s.qm b k ar;rcases cs (aE i) with ⟨bS,_⟩ | ⟨_,aM,bh⟩
   . rw [dj] at bS;omega
   . refine ⟨aM.trans an,bh.trans av,i,?_,rfl⟩;show i < (h.rP aq aq.next).next
     rw [yY];omega
 . rcases cs b with ⟨_,_,i,aG,rfl,g1,g2⟩ | ⟨_,g1,g2⟩<;>rcases cs b2 with ⟨_,_,j,bU,rfl,g3,g4⟩ | ⟨_,g3,g4⟩
   . rw [g1] at bb;rw [g3] at bI;rw [g2] at aM;rw [g4] at bh;rw [s2.inj _ _ _ _ (Gz bb) (Gz bI) aM bh ai]
   . rw [g1] at bb;rw [g3] at bI;rw [g2] at aM;rw [g4] at bh;have a:=Vb _ _ (Gz bb) aM;have b:=Vt _ _ bI bh;omega
   . rw [g1] at bb;rw [g3] at bI;rw [g2] at aM;rw [g4] at bh;have a:=Vb _ _ (Gz bI) bh;have b:=Vt _ _ bb aM;omega
   . rw [g1] at bb;rw [g3] at bI;rw [g2] at aM;rw [g4] at bh;exact s.inj _ _ _ _ bb bI aM bh ai
 . have aL:(h.app aq).next=h.next+aq.next:=yY h aq aq.next
   rw [aL] at aG;rcases cs (aE i) with ⟨bS,cJ,_⟩ | ⟨_,aM,bh⟩
   . rw [dj] at cJ;omega
   . rw [bh];exact s.fresh i (by omega)
 . rcases cs b with ⟨_,_,i,aG,rfl,g1,g2⟩ | ⟨_,g1,g2⟩
   . rw [g2] at he;cases ar:aq.get (aE i) with
     | cells tL fl aoX apV=>
       rw [g1,ar] at aJ;simp only [cz.dc,cz.bz,cz.cells.injEq] at aJ;obtain ⟨_,_,q,_⟩:=aJ;subst q;exact s2.base _ _ _ _ _ ar he
     | _=>rw [g1,ar] at aJ;simp [cz.dc] at aJ
   . rw [g1] at aJ;rw [g2] at he;exact s.base _ _ _ _ _ aJ he
end
theorem abC {C:Ctx} (dt:C.P.follows .mixedOrders=true) (bO:eO C.P) (ha:o3 C) {n:Nat} {f:FuncId} {aq:ae} {v:V} (aA:Nat.beq f dx=false) (ay:C.ext f=none) (hL:∃fn,C.P.funcs[f]? =some fn/\fn.body.isSome=true)
 (he:qL C n f [] ae.empty=.val v aq) (h:ae):gm C.P f [] h (v.dc h.next) (h.app aq):=by
 refine ⟨fun e=>by subst e;simp at aA,.inl ⟨hL,fun al E w xs aD s=>?_⟩⟩;simp only [bm] at aD;subst aD;obtain ⟨_,kQ⟩:=Eb dt bO ha aA ay he (al:=⟨w,fun _=>none⟩) (E:=fun _=>none) (w:=w) (xs:=[]) rfl (Dj w (Lay.gy s.laid s.frame));refine kQ.mono fun e w' aI=>?_;obtain ⟨aw,x,rfl,_,av,aH⟩:=aI;exact ⟨_,x,rfl,Ik s,tV aH _ _ av,WC s aH⟩
theorem Y9 (h aq:ae):Ext h (h.app aq):=PJ h aq _
theorem PL (h aq:ae) {i:Nat} (aG:i<aq.next):(h.app aq).get (aE (h.next+i))=(aq.get (aE i)).dc h.next:=Il h aq _ i aG
theorem PM (h aq:ae):(h.app aq).next=h.next+aq.next:=yY h aq _
end
section
open Go Go.RowKit
variable [Lay]
def LC:IntKind->IntKind->Bool
 | .i8,.i8 | .i16,.i16 | .i32,.i32 | .i64,.i64 | .u8,.u8 | .u16,.u16 | .u32,.u32 | .u64,.u64=>true
 | _,_=>false
theorem Ul {a b:IntKind} (h:LC a b=true):a=b:=by cases a<;>cases b<;>first | rfl | cases h
def vj:Int->Int->Bool
 | .ofNat a,.ofNat b=>Nat.beq a b
 | .negSucc a,.negSucc b=>Nat.beq a b
 | _,_=>false
theorem Fy {a b:Int} (h:vj a b=true):a=b:=by cases a<;>cases b<;>simp only [vj] at h<;>first | (rw [aq4 h]) | (cases h)
def PZ:Bool->Bool->Bool
 | true,true | false,false=>true
 | _,_=>false
theorem Zu {a b:Bool} (h:PZ a b=true):a=b:=by cases a<;>cases b<;>first | rfl | cases h
def ji:List UInt8->List UInt8->Bool
 | [],[]=>true
 | a::PX,b::gf=>Nat.beq a.toNat b.toNat&&ji PX gf
 | _,_=>false
theorem Wv:∀{a b:List UInt8},ji a b=true->a=b
 | [],[],_=>rfl
 | [],_::_,h=>by cases h
 | _::_,[],h=>by cases h
 | a::PX,b::gf,h=>by simp only [ji,aqi] at h;rw [Wv h.2,UInt8.toNat_inj.1 (aq4 h.1)]
def Gp (mo:List D->List V->Bool) (size:Nat):List (List D)->List V->Bool
 | [],pV=>(match pV with | []=>true | _=>false)
 | e::es,pV=>Nat.beq (pV.take size).length size&&mo e (pV.take size)&&Gp mo size es (pV.drop size)
def Ms (aq:ae) (mo:List D->List V->Bool) (size:Nat) (es:List (List D)):V->Bool
 | .cn=>(match es with | []=>true | _=>false)
 | .slice b off len cap=>Nat.beq len es.length&&Nat.ble len cap&&Nat.ble len top&&Nat.blt (cM b) aq.next&&(match aq.get b with
   | .cells n cs _ _=>Nat.ble (off+len * size) n&&Gp mo size es (iT cs off (len * size))
   | _=>false)
 | _=>false
def CS (aq:ae):Nat->List D->List V->Bool
 | 0,_,_=>false
 | f+1,ds,af=>match ds with
   | []=>(match af with | []=>true | _=>false)
   | d::ds=>match af with
     | []=>false
     | v::af=>(match d with
       | .i k n=>(match v with | .int bG tL=>LC k bG&&vj n tL | _=>false)
       | .b x=>(match v with | .bool y=>PZ x y | _=>false)
       | .s x=>(match v with | .str y=>ji x y&&Nat.ble x.length top | _=>false)
       | .l size es=>Ms aq (CS aq f) size es v)&&CS aq f ds af
section
variable {h aq:ae}
def vC (h aq:ae) (b:aN):Prop:=h.next<=cM b/\cM b<h.next+aq.next
theorem Vq {mo:List D->List V->Bool} {size:Nat}:∀{es:List (List D)} {pV:List V},Gp mo size es pV=true->
 ∃us:List (List V),pV=us.flatten/\us.length=es.length/\(∀u ∈ us,u.length=size)/\∀(i:Nat) (e:List D) (u:List V),es[i]? =some e->us[i]? =some u->mo e u=true
 | [],pV,H=>by
   cases pV with
   | nil=>exact ⟨[],rfl,rfl,fun u q=>(by cases q),fun i e u q=>(by simp at q)⟩
   | cons _ _=>cases H
 | e::es,pV,H=>by
   simp only [Gp,aqi] at H;obtain ⟨us,an,av,aH,bP⟩:=Vq H.2;refine ⟨pV.take size::us,by rw [arq,<-an,arS],by simp [av],fun u hu=>?_,fun i x u aM bh=>?_⟩
   . rcases aqN.1 hu with rfl | hu
     . exact aq4 H.1.1
     . exact aH u hu
   . cases i with
     | zero=>
       simp only [aqz,aqj] at aM bh;subst aM bh;exact H.1.2
     | succ i=>exact bP i x u (by simpa using aM) (by simpa using bh)
theorem adM (cs:T V) (n off m:Nat) (hm:off+m<=n):((iT cs 0 n).drop off).take m=iT cs off m:=by
 apply List.ext_getElem?;intro i;by_cases aG:i<m
 . rw [aq_ aG,art,ES cs n 0 _ (by omega),ES cs m off i aG,aqW]
 . rw [aqL (by rw [ard,aqU,w9];omega),aqL (by rw [w9];omega)]
theorem akm {mo:List D->List V->Bool} (ar:∀ds af,mo ds af=true->dX (vC h aq) (h.app aq) ds (l_ h.next af)) {size:Nat} {es:List (List D)} {v:V} (H:Ms aq mo size es v=true):
 e1 (vC h aq) (h.app aq) size es (v.dc h.next):=by
 cases v<;>simp only [Ms] at H<;>try (cases H;done)
 case cn=>
  cases es with
  | nil=>exact e1.nil _ _ _
  | cons _ _=>cases H
 case slice b off len cap=>
  simp only [aqi] at H;obtain ⟨⟨⟨⟨U,ad⟩,aC⟩,aX⟩,bF⟩:=H;have U:=aq4 U;have ad:=aqQ ad;have aC:=aqQ aC;have aX:cM b<aq.next:=aqQ aX
  cases aJ:aq.get b<;>rw [aJ] at bF<;>simp only at bF<;>try (cases bF;done)
  rename_i n cs c' st;simp only [aqi] at bF;have bR:=aqQ bF.1;obtain ⟨us,an,av,aH,bP⟩:=Vq bF.2;subst U;have tp:(h.app aq).get (ma h.next b)=.bz ((iT cs 0 n).map (V.dc h.next)) c' st:=by have:=PL h aq aX;rw [yc,aJ] at this;exact this
  have kC:(us.map (List.map (V.dc h.next))).flatten=us.flatten.map (V.dc h.next):=by rw [List.map_flatten]
  have hlen:us.flatten.length=es.length * size:=by rw [<-an,w9]
  refine ⟨fun b2 o l c e=>(by cases e;exact ad),aC,⟨us.map (List.map (V.dc h.next)),⟨by rw [kC,aqJ,hlen],rfl,?_,_,.inr ⟨c',st,tp⟩,?_,?_⟩,by rw [aqJ,av],fun u hu=>?_,fun i e u aM bh=>?_⟩,fun b2 q=>?_⟩
  . unfold Old ma;rw [dj,PM];omega
  . rw [kC,aqJ,aqJ,w9,hlen];exact bR
  . rw [kC,aqJ,hlen,<-List.map_drop,<-List.map_take,adM cs n off _ bR,an]
  . obtain ⟨eI,ie,rfl⟩:=List.mem_map.1 hu;rw [aqJ];exact aH eI ie
  . rw [aq3] at bh;cases aI:us[i]? with
    | none=>rw [aI] at bh;cases bh
    | some eI=>
      rw [aI] at bh;simp only [arj,aqj] at bh;subst bh;rw [<-WB];exact ar _ _ (bP i e eI aM aI)
  . simp only [V.dc,V.bd] at q;subst q;unfold vC ma;rw [dj];exact ⟨by omega,by omega⟩
theorem Mq:∀{f:Nat} {ds:List D} {af:List V},CS aq f ds af=true->dX (vC h aq) (h.app aq) ds (l_ h.next af)
 | 0,_,_,H=>by cases H
 | f+1,ds,af,H=>by
   cases ds with
   | nil=>
     cases af with
     | nil=>exact .nil
     | cons _ _=>cases H
   | cons d ds=>
     cases af with
     | nil=>cases H
     | cons v af=>
       simp only [CS,aqi] at H;have t:=Mq (f:=f) H.2;have H1:=H.1;rw [l_];cases d with
       | i k n=>
         cases v<;>simp only at H1<;>try (cases H1;done)
         simp only [aqi] at H1;rw [Ul H1.1,Fy H1.2];simp only [V.dc];exact .i t
       | b x=>
         cases v<;>simp only at H1<;>try (cases H1;done)
         rw [Zu H1];simp only [V.dc];exact .b t
       | s x=>
         cases v<;>simp only at H1<;>try (cases H1;done)
         simp only [aqi] at H1;rw [<-Wv H1.1];simp only [V.dc];exact .s (aqQ H1.2) t
       | l size es=>exact (akm (fun ds af q=>Mq (f:=f) q) H1).cons t
end
def oM (k:Int):List (Int × List D)->Option (List D)
 | []=>none
 | (n,d)::l=>if k=n then some d else oM k l
inductive nz (F:aN->Prop) (h:ae):List (Int × List D)->List c9->Prop
 | nil:nz F h [] []
 | cons {n:Int} {ds:List D} {y:V} {born:Nat} {dS:List (Int × List D)} {es:List c9} (aY:dX F h ds y.cells) (t:nz F h dS es):nz F h ((n,ds)::dS) (⟨.int .i64 n,y,born⟩::es)
structure pF (F:aN->Prop) (h:ae) (dS:List (Int × List D)) (v:V):Prop where
 ex:∃b es,v=.map b/\Old h b/\((∃clock,h.get b=.mp es clock)\/h.get b=.jf es/\(dS.map Prod.fst).Nodup)/\nz F h dS es/\F b
section
variable {F:aN->Prop} {h ab:ae} {dS:List (Int × List D)} {es:List c9} {v:V}
theorem nz.ext (H:nz F h dS es) (e:Ext h ab):nz F ab dS es:=by
 induction H with
 | nil=>exact .nil
 | cons aY t aT=>exact .cons (aY.ext e) aT
theorem pF.ext (H:pF F h dS v) (e:Ext h ab):pF F ab dS v:=by obtain ⟨b,es,an,av,aH,bP,cE⟩:=H.ex;exact ⟨b,es,an,e.cA av,by rw [e.get b av];exact aH,bP.ext e,cE⟩
theorem G6 (k n:Int):kO.run (.int .i64 k) (.int .i64 n)=some (decide (k=n)):=by simp only [kO,V.fg,rZ,aqo,Ew]
theorem nz.mw (H:nz F h dS es) (k:Int):(oM k dS=none/\mw kO (.int .i64 k) es=some none)\/∃ds y,oM k dS=some ds/\dX F h ds y.cells/\Go.Proofs.YtahfljfikfkpnaaGreatDoor.bf.mw kO (.int .i64 k) es=some (some y):=by
 induction H with
 | nil=>exact .inl ⟨rfl,rfl⟩
 | @cons n ds y born dS es aY t aT=>
   simp only [oM,Go.Proofs.YtahfljfikfkpnaaGreatDoor.bf.mw,G6];by_cases q:k=n
   . subst q;simp only [aqu,decide_true,aqo];exact .inr ⟨ds,y,rfl,aY,rfl⟩
   . simp only [q,aqs,ase,aqt];exact aT
theorem UZ {k:Int} {ds:List D}:∀{dS:List (Int × List D)},oM k dS=some ds->k ∈ dS.map Prod.fst
 | [],h=>by cases h
 | (n,d)::l,h=>by
   simp only [oM] at h;by_cases q:k=n
   . subst q;simp
   . rw [aqr q] at h;simp only [arE,aqN];exact .inr (UZ h)
theorem nz.ou (H:nz F h dS es) (aL:(dS.map Prod.fst).Nodup) (k:Int):(oM k dS=none/\ou kO (.int .i64 k) es=some none)\/∃ds y,oM k dS=some ds/\dX F h ds y.cells/\Go.Proofs.YtahfljfikfkpnaaGreatDoor.bf.ou kO (.int .i64 k) es=some (some y):=by
 induction H with
 | nil=>exact .inl ⟨rfl,rfl⟩
 | @cons n ds y born dS es aY t aT=>
   simp only [arE,ash] at aL;have aT:=aT aL.2;simp only [oM,Go.Proofs.YtahfljfikfkpnaaGreatDoor.bf.ou,G6];by_cases q:k=n
   . subst q;rcases aT with ⟨_,e⟩ | ⟨_,_,e,_⟩
     . simp only [e,aqu,decide_true,aqo];exact .inr ⟨ds,y,rfl,aY,rfl⟩
     . exact absurd (UZ e) aL.1
   . rcases aT with ⟨aM,e⟩ | ⟨m',oU,aM,bh,e⟩
     . simp only [e,q,aqs,ase,aqt];exact .inl ⟨aM,trivial⟩
     . simp only [e,q,aqs,ase,aqt];exact .inr ⟨m',oU,aM,bh,rfl⟩
theorem pF.look (H:pF F h dS v) (k:Int) (z:V) (ok:Bool):(oM k dS=none/\ln kO z ok h v (.int .i64 k)=some (bif ok then .tuple [z,.bool false] else z))\/
 ∃ds y,oM k dS=some ds/\dX F h ds y.cells/\ln kO z ok h v (.int .i64 k)=some (bif ok then .tuple [y,.bool true] else y):=by
 obtain ⟨b,es,rfl,_,aH,bP,_⟩:=H.ex;rcases aH with ⟨clock,aH⟩ | ⟨aH,aL⟩
 . rcases bP.mw k with ⟨aM,e⟩ | ⟨ds,y,aM,bh,e⟩
   . exact .inl ⟨aM,by simp only [ln,aH,nV,sq,cz.lp,e]⟩
   . exact .inr ⟨ds,y,aM,bh,by simp only [ln,aH,nV,sq,cz.lp,e]⟩
 . rcases bP.ou aL k with ⟨aM,e⟩ | ⟨ds,y,aM,bh,e⟩
   . exact .inl ⟨aM,by simp only [ln,aH,e]⟩
   . exact .inr ⟨ds,y,aM,bh,by simp only [ln,aH,e]⟩
end
def CT (aq:ae) (f:Nat):List (Int × List D)->List c9->Bool
 | [],es=>(match es with | []=>true | _=>false)
 | (n,ds)::dS,es=>(match es with
   | []=>false
   | m::es=>(match m.k with | .int k i=>LC k .i64&&vj i n | _=>false)&&CS aq f ds m.v.cells&&CT aq f dS es)
def Gk:List Int->Bool
 | []=>true
 | n::l=>(l.all fun m=>!vj n m)&&Gk l
def Gq (aq:ae) (f:Nat) (dS:List (Int × List D)):V->Bool
 | .map b=>Nat.blt (cM b) aq.next&&Gk (dS.map Prod.fst)&&(match aq.get b with
   | .mp es _=>CT aq f dS es
   | .jf es=>CT aq f dS es
   | _=>false)
 | _=>false
theorem af9:∀n:Int,vj n n=true
 | .ofNat a=>asm a
 | .negSucc a=>asm a
theorem Vf:∀{l:List Int},Gk l=true->l.Nodup
 | [],_=>List.nodup_nil
 | n::l,h=>by simp only [Gk,aqi] at h;refine ash.2 ⟨fun q=>?_,Vf h.2⟩;have:=aqR.1 h.1 n q;rw [af9] at this;cases this
theorem abr (n:Nat) (v:V):(v.dc n).cells=l_ n v.cells:=by cases v<;>simp only [V.dc,V.cells,l_]
section
variable {h aq:ae}
theorem Mr {f:Nat}:∀{dS:List (Int × List D)} {es:List c9},CT aq f dS es=true->nz (vC h aq) (h.app aq) dS (es.map (c9.dc h.next))
 | [],es,H=>by
   cases es with
   | nil=>exact .nil
   | cons _ _=>cases H
 | (n,ds)::dS,es,H=>by
   cases es with
   | nil=>cases H
   | cons m es=>
     simp only [CT,aqi] at H;obtain ⟨⟨U,ad⟩,aC⟩:=H;obtain ⟨mk,fz,born⟩:=m;cases mk<;>simp only at U<;>try (cases U;done)
     simp only [aqi] at U;rw [Ul U.1,Fy U.2,arE];simp only [c9.dc,V.dc];exact .cons (by rw [abr];exact Mq ad) (Mr aC)
theorem akl {f:Nat} {dS:List (Int × List D)} {v:V} (H:Gq aq f dS v=true):pF (vC h aq) (h.app aq) dS (v.dc h.next):=by
 cases v<;>simp only [Gq] at H<;>try (cases H;done)
 rename_i b;simp only [aqi] at H;obtain ⟨⟨U,ad⟩,aC⟩:=H;have U:cM b<aq.next:=aqQ U
 have aJ:=PL h aq U;rw [yc] at aJ;have ah:vC h aq (ma h.next b):=by unfold vC ma;rw [dj];exact ⟨by omega,by omega⟩
 have aU:Old (h.app aq) (ma h.next b):=by unfold Old ma;rw [dj,PM];omega
 cases ar:aq.get b<;>rw [ar] at aC<;>simp only at aC<;>try (cases aC;done)
 . rw [ar] at aJ;exact ⟨_,_,rfl,aU,.inl ⟨_,aJ⟩,Mr aC,ah⟩
 . rw [ar] at aJ;exact ⟨_,_,rfl,aU,.inr ⟨aJ,Vf ad⟩,Mr aC,ah⟩
end
theorem nz.fQ {F ew:aN->Prop} {h:ae} {dS:List (Int × List D)} {es:List c9} (H:nz F h dS es) (w:∀b,F b->ew b):nz ew h dS es:=by
 induction H with
 | nil=>exact .nil
 | cons aY t aT=>exact .cons (aY.fQ w) aT
theorem pF.fQ {F ew:aN->Prop} {h:ae} {dS:List (Int × List D)} {v:V} (H:pF F h dS v) (w:∀b,F b->ew b):pF ew h dS v:=by obtain ⟨b,es,an,av,aH,bP,cE⟩:=H.ex;exact ⟨b,es,an,av,aH,bP.fQ w,w b cE⟩
def Gr (C:Ctx) (n:Nat) (f:FuncId) (mo:ae->V->Bool):Bool:=match qL C n f [] ae.empty with
 | .val v aq=>mo aq v
 | _=>false
def Pf (h:ae) (b:aN):Prop:=h.next<=cM b
section
variable {C:Ctx} (dt:C.P.follows .mixedOrders=true) (bO:eO C.P) (ha:o3 C) {n:Nat} {f:FuncId} (aA:Nat.beq f dx=false) (ay:C.ext f=none) (hL:∃fn,C.P.funcs[f]? =some fn/\fn.body.isSome=true)
include dt bO ha aA ay hL
theorem abB {mo:ae->V->Bool} (H:Gr C n f mo=true) (h:ae):∃v aq,mo aq v=true/\gm C.P f [] h (v.dc h.next) (h.app aq):=by
 unfold Gr at H;cases aq:qL C n f [] ae.empty with
 | fail=>rw [aq] at H;cases H
 | cB _ _=>rw [aq] at H;cases H
 | val v ba=>
   rw [aq] at H;exact ⟨v,ba,H,abC dt bO ha aA ay hL aq h⟩
theorem abA {m:Nat} {dS:List (Int × List D)} (H:Gr C n f (fun aq v=>Gq aq m dS v)=true) (h:ae):e9 C.P f [] h fun x ab=>Ext h ab/\pF (Pf h) ab dS x:=by obtain ⟨v,aq,q,c⟩:=abB dt bO ha aA ay hL H h;exact ⟨_,_,c,Y9 _ _,(akl q).fQ fun b q=>q.1⟩
end
structure YI (pre:List V) (b size:Nat) (h:ae) (cI:V) (n:Nat) (us:List V):Prop where
 g:h.get (aE b)=.bz (pre++[cI]) 0 false
 o:fe (b+1) h size cI n us
 lt:b<h.next
structure aox (pre:List V) (b size:Nat) (h:ae) (cI:V) (ab:ae) (LU:V) (n:Nat) (us:List V):Prop where
 w:YI pre b size ab LU n us
 m:Mod (fun q=>q=aE b\/cI.bd q) h ab
 f:∀q,LU.bd q->cI.bd q\/h.next<=cM q
section
variable {pre:List V} {b size:Nat} {h ab o':ae} {cI LU apy:V} {n tL:Nat} {us ap3:List V}
end
def XS (P:Program) (f:FuncId) (args:List V) (u:Option V) (h:ae) (eI:Option V) (ab:ae):Prop:=
 (∃fn,P.funcs[f]? =some fn/\fn.body.isSome=true)/\∀(al:Fr) E w xs m,bm E args xs->i' E u m->a6 al E h w->
  CallsDIn (aK none) 0 P f xs.toArray m w fun e b4 w'=>∃aw x,e=.returned x/\E.le aw/\i' aw eI (settle b4)/\a6 al aw ab w'
def oY (P:Program) (f:FuncId) (args:List V) (u:Option V) (h:ae) (K:Option V->ae->Prop):Prop:=∃eI ab,XS P f args u h eI ab/\K eI ab
def jS (P:Program):List V->Option V->ae->(Option V->ae->Prop)->Prop
 | [],u,h,K=>K u h
 | .func f args::ds,u,h,K=>oY P f args u h fun eI ab=>jS P ds eI ab K
 | .ptr b _::ds,u,h,K=>(match h.get b with
   | .gg=>jS P ds u (h.set b .dead) K
   | _=>False)
 | _::_,_,_,_=>False
section
variable {P:Program} {au:Nat}
theorem Hr:∀{af:List V} {u:Option V} {h:ae} {K:Option V->ae->Prop},jS P af u h K->∃eI ab,K eI ab/\jS P af u h fun a b=>a=eI/\b=ab
 | [],u,h,K,H=>⟨u,h,H,rfl,rfl⟩
 | v::af,u,h,K,H=>by
   cases v<;>simp only [jS] at H<;>try (exact H.elim)
   . rename_i b o;cases aJ:h.get b<;>rw [aJ] at H<;>simp only at H<;>try (exact H.elim)
     obtain ⟨eI,ab,an,av⟩:=Hr H;exact ⟨eI,ab,an,by simp only [jS];rw [aJ];exact av⟩
   . obtain ⟨qx,U,tU,H⟩:=H;obtain ⟨eI,ab,an,av⟩:=Hr H;exact ⟨eI,ab,an,by simp only [jS];exact ⟨qx,U,tU,av⟩⟩
theorem Hs (bO:eO P) {al:Fr} {fn:Func} {tmps:Array Value} {R:Ending->World->Prop} {eI:Option V} {ab:ae}:∀(af:List V) (ds:List Deferred) (E:Env) (u:Option V) (h:ae) (w:World) (m:FrameMode),
 jS P af u h (fun a b=>a=eI/\b=ab)->mS E af ds->i' E u m->a6 al E h w->(∀aw b4 w',E.le aw->i' aw eI b4->a6 al aw ab w'->LeavesInM (aK none) 0 P fn tmps R [] b4 w')->LeavesInM (aK none) 0 P fn tmps R ds m w
 | [],ds,E,u,h,w,m,he,aY,hu,s,c_=>by obtain ⟨rfl,rfl⟩:=he;simp only [mS] at aY;subst aY;exact c_ E m w (Env.le.refl E) hu s
 | v::af,ds,E,u,h,w,m,he,aY,hu,s,c_=>by
   obtain ⟨d,m',rfl,xl,xm⟩:=aY;cases v with
   | func f args=>
     simp only [jS] at he;obtain ⟨qx,U,⟨⟨EL,hL,ah⟩,cH⟩,he⟩:=he;obtain ⟨aA,cap,aB,aD⟩:=xl;refine ⟨hu.run,.inr ⟨fun h=>by simp at h,_,cap,f,d.args++cap,aB,?_,fun _ _=>trivial,?_⟩⟩
     . rw [aB];simp only [invoke];exact t' bO hL ah _ w
     . have e:d.args++cap=(d.args.toList++cap.toList).toArray:=by apply arX;simp
       rw [e];refine CallsDIn.mono (cH al E w _ m aD hu s) fun e m1 b0 aI=>?_;obtain ⟨hE,x,rfl,an,av,aH⟩:=aI;exact Hs bO af m' hE qx U b0 (settle m1) he (xm.mono an) av aH fun b1 m2 bn cc cy eD=>c_ b1 m2 bn (an.trans cc) cy eD
   | ptr b off=>
     simp only [jS] at he;cases aJ:h.get b<;>rw [aJ] at he<;>simp only at he<;>try (exact he.elim)
     obtain ⟨p,ai,Kd⟩:=xl;have ah:=s.at ai;rw [aJ] at ah;obtain ⟨p',hM,cU,ba⟩:=ah;rw [ai] at hM;cases hM;have mC:=(aql.1 ba).1
     let b0:World:={w with heap:=w.heap.setIfInBounds p.bd (.deferred none)}
     have Ld:(Instr.takeDeferred p.bd).run P w=.ok [] b0:=by
      have fN:(getObj p.bd).run P w=.ok (.deferred (some [])) w:=by simp only [getObj,Sem.run,ba]
      have q_:(setObj p.bd (.deferred none)).run P w=.ok () b0:=by simp only [setObj,Sem.run,ba];rfl
      simp only [Instr.takeDeferred,Sem.run_bind,fN,Result.andThen_ok,q_,Sem.run_pure]
     have s1:a6 al E (h.set b .dead) b0:=s.gone (by rw [aJ];rfl) ai cU (by simp [b0]) (fun j bU=>by simp only [b0,aqF];rw [aqr (fun e=>bU e.symm)]) rfl rfl rfl;refine ⟨hu.run,.inl ⟨p.bd,b0,by rw [Kd],Ld,?_⟩⟩;exact Hs bO af m' E u _ b0 m he xm hu s1 c_
   | _=>simp [jS] at he
theorem y_ {E:Env} {fn:Func} {args:List V} {xs:List Value} (ay:bm E args xs) (eZ:fn.ntmps<=top) (gU:args.length<=fn.ntmps):
 h' E fn.ntmps (a7.bz args) {tmps:=xs.toArray++Array.replicate (fn.ntmps-xs.toArray.size) undef,defers:=[]}:=by
 have hlen:=ay.length;have cX:xs.toArray.size<=fn.ntmps:=by simp;omega
 have ea:(a7.bz args) cd=.bad:=by rw [qj,aqL (by unfold cd;unfold top at eZ;omega)];rfl
 refine ⟨by simp;omega,by rw [ea];simp [lD],fun t _=>?_⟩;rw [qj];cases aJ:args[t]? with
 | none=>simp [Rel]
 | some v=>
   obtain ⟨y,bg,aa⟩:=ay.get t v aJ;simp only [arD];have zF:t<xs.length:=(aqD.1 bg).1;rw [aqM,arK (by simpa using zF)];simp only [List.getElem?_toArray,bg,arD];exact aa
theorem ab6 (dt:P.follows .mixedOrders=true) (bO:eO P) {f:FuncId} {fn:Func} {c:Code} {args:List V} {u:Option V} {h:ae} {K:Option V->ae->Prop} (aA:P.funcs[f]? =some fn) (ah:fn.body=some c)
 (eZ:Nat.ble fn.ntmps top=true) (gU:Nat.ble args.length fn.ntmps=true) {rc:bL} {c4:List mV} (ph:fI P fn.ntmps c=rc) (nO:jx P fn.ntmps fn.results.toList=c4) (hA:rc.plain=true)
 (H:fZ P rc (a7.bz args) h fun e r ab=>e.ends/\∃af,ho r ab c4=some af/\K u ab):oY P f args u h K:=by
 subst ph nO;rw [aqE] at eZ gU;have aU:Out fn.ntmps (a7.bz args):=by intro t aB _;rw [qj,aqL (by omega)];rfl
 have ea:(a7.bz args) cd=.bad:=by rw [qj,aqL (by unfold cd;unfold top at eZ;omega)];rfl
 rcases Hq eZ dt bO c _ h _ aU H with ⟨e,bu,ab,⟨gx,af,p6,ep⟩,h2,pa⟩ | ⟨x,bu,ab,⟨gx,_⟩,h2,pa⟩
 case inr=>exact (gx:False).elim
 have gk:bu cd=.bad:=(h2.2 hA).trans ea;refine ⟨u,ab,⟨⟨fn,aA,by rw [ah];rfl⟩,fun al E w xs m ay hu s=>?_⟩,ep⟩;have k:=y_ ay eZ gU;refine CallsDIn.mono (callsDIn_of_wp (R:=fun e w'=>∃aw x,e=.returned x/\E.le aw/\a6 al aw ab w') aA ah trivial ?_) fun dP b4 w' aI=>?_
 . refine (pa none al E _ w (.inl rfl) k s _ fun aw a1 w' an av aH=>?_).wp;obtain ⟨cS,d_⟩:=uY h2.1;have aY:a1.defers=[]:=by have:=av.defers;rw [gk] at this;exact this
   have ar:RegRel0 aw fn.ntmps cS a1:=⟨av.size,fun t aB=>by have:=congrFun d_ t;simp only [et] at this;rw [this];exact av.ax t (mI aB)⟩;obtain ⟨x,cc,cy⟩:=Ai (P:=P) ar aH (w6 d_ p6);cases e with
   | normal=>exact ⟨aY,x,cc,aw,x,rfl,an,aH⟩
   | ret=>exact ⟨aY,x,cc,aw,x,rfl,an,aH⟩
   | exit i=>exact gx.elim
 . obtain ⟨rfl,aw,x,rfl,an,aH⟩:=aI;exact ⟨aw,x,rfl,an,by rw [hu.settle];exact hu.mono an,aH⟩
end
def y' (c4:List mV) (K X:V->ae->Prop) (e:bV) (r:a7) (ab:ae):Prop:=
 match e with
 | .exit i=>i=kZ/\(∃t y,r h7=.iface t y)/\X (r h7) ab
 | _=>∃af,ho r ab c4=some af/\K (oneOf af) ab
def vH (r:a7) (c4:List mV) (K X:V->ae->Prop) (u:Option V) (ad:ae):Prop:=
 match u with
 | none=>∃af,ho r ad c4=some af/\K (oneOf af) ad
 | some v=>X v ad
def tf (P:Program) (c4:List mV) (K X:V->ae->Prop) (e:bV) (r:a7) (ab:ae):Prop:=
 match e with
 | .exit i=>i=kZ/\(∃t y,r h7=.iface t y)/\jS P (r cd).list (some (r h7)) ab (vH r c4 K X)
 | _=>jS P (r cd).list none ab (vH r c4 K X)
section
variable {P:Program} {au:Nat} {c4:List mV} {K X:V->ae->Prop} {r:a7} {h:ae}
theorem acC:y' c4 K X .ret r h=∃af,ho r h c4=some af/\K (oneOf af) h:=(rfl)
theorem Sn:y' c4 K X .normal r h=∃af,ho r h c4=some af/\K (oneOf af) h:=(rfl)
theorem NT (r:a7) (v:V):r.set (some h7) v h7=v:=by simp only [a7.set,aqu]
theorem Er {t:TypeId} {y:V}:y' c4 K X (.exit kZ) (r.set (some h7) (.iface t y)) h=X (.iface t y) h:=by simp only [y',NT,arZ];exact propext ⟨fun q=>q.2,fun q=>⟨⟨_,_,rfl⟩,q⟩⟩
theorem acB:tf P c4 K X .ret r h=jS P (r cd).list none h (vH r c4 K X):=(rfl)
theorem acz:tf P c4 K X .normal r h=jS P (r cd).list none h (vH r c4 K X):=(rfl)
theorem acA {t:TypeId} {y:V}:tf P c4 K X (.exit kZ) (r.set (some h7) (.iface t y)) h=jS P (r cd).list (some (.iface t y)) h (vH (r.set (some h7) (.iface t y)) c4 K X):=by simp only [tf,NT,arZ,G_];exact propext ⟨fun q=>q.2,fun q=>⟨⟨_,_,rfl⟩,q⟩⟩
theorem ak3:vH r c4 K X none h=∃af,ho r h c4=some af/\K (oneOf af) h:=(rfl)
theorem ak5 {v:V}:vH r c4 K X (some v) h=X v h:=(rfl)
theorem aoa {u:Option V} {K:Option V->ae->Prop}:jS P [] u h K=K u h:=(rfl)
theorem an_ {f:FuncId} {args ds:List V} {u:Option V} {K:Option V->ae->Prop}:jS P (.func f args::ds) u h K=oY P f args u h fun eI ab=>jS P ds eI ab K:=(rfl)
theorem oY.mono {f:FuncId} {args:List V} {u:Option V} {K k7:Option V->ae->Prop} (c:oY P f args u h K) (ar:∀u ab,K u ab->k7 u ab):oY P f args u h k7:=by obtain ⟨eI,ab,an,av⟩:=c;exact ⟨eI,ab,an,ar _ _ av⟩
theorem aki (t:Nat):a7.bz [] t=.bad:=rfl
theorem V.ai8:V.bad.list=[]:=rfl
theorem V.ai9 (l:List V):(V.tuple l).list=l:=rfl
set_option linter.defProp false in
def eJ:=And.intro @agY<|And.intro @aki<|And.intro @V.ai8<|And.intro @V.ai9<|And.intro @aoa<|And.intro @an_<|And.intro @ak3 @ak5
set_option linter.defProp false in
def bx:=And.intro @acC<|And.intro @Sn<|And.intro @Er<|And.intro @acA<|And.intro @acB<|And.intro @acz<|And.intro @Un<|And.intro @W3<|And.intro @GB @aln
theorem EB {x:V}:∀{l:List ResultVar},ho (r.set (some h7) x) h (jx P au l)=ho r h (jx P au l)
 | []=>rfl
 | .tmp t::rs=>by
   simp only [jx];cases aq:(Nat.ble t top&&Nat.blt t au) with
   | false=>simp [ho]
   | true=>
     simp only [aqi,aqE] at aq;have:(r.set (some h7) x) t=r t:=by simp only [a7.set];rw [aqr (by unfold top at aq;unfold h7;omega)]
     simp only [aqo,ho,this,EB (l:=rs)]
 | .cell a t::rs=>by
   simp only [jx];cases aq:(Nat.ble a top&&Nat.blt a au) with
   | false=>simp [ho]
   | true=>
     simp only [aqi,aqE] at aq;have:(r.set (some h7) x) a=r a:=by simp only [a7.set];rw [aqr (by unfold top at aq;unfold h7;omega)]
     simp only [aqo];cases bj P t with
     | none=>simp [ho]
     | some aP=>
       simp only;cases aP.agg with
       | true=>simp only [aqo,ho,this,EB (l:=rs)]
       | false=>
         cases Nat.beq aP.size 1 with
         | true=>simp only [aqo,aqt,ho,this,EB (l:=rs)]
         | false=>simp [ho]
theorem ak4 {au:Nat} (eZ:au<=top) {r:a7} (aU:Out au r):r h7=.bad:=aU h7 (by unfold top at eZ;unfold h7;omega) (by decide)
theorem UF (bO:eO P) {al:Fr} {fn:Func} {aw:Env} {a1:Act} {w':World} {bu:a7} {ab ad:ae} {mP:Option V} {m:FrameMode} (h2:Out fn.ntmps bu) (av:h' aw fn.ntmps bu a1) (hu:i' aw mP m) (aH:a6 al aw ab w')
 (q7:jS P (bu cd).list mP ab fun a b=>a=none/\b=ad) {af:List V} (p6:ho bu ad (jx P fn.ntmps fn.results.toList)=some af) {R:Ending->World->Prop} (c_:∀b1 x bn,aw.le b1->Rel b1 (oneOf af) x->a6 al b1 ad bn->R (.returned x) bn):
 LeavesInM (aK none) 0 P fn a1.tmps R a1.defers m w':=by
 refine Hs bO _ a1.defers aw mP ab w' m q7 av.defers.list hu aH fun b1 m2 bn cc cy eD=>?_;simp only [i'] at cy;subst cy;obtain ⟨cS,d_⟩:=uY h2;have ar:RegRel0 b1 fn.ntmps cS a1:=⟨av.size,fun t aB=>by have:=congrFun d_ t;simp only [et] at this;rw [this];exact Rel.mono cc _ _ (av.ax t (mI aB))⟩;obtain ⟨x,e8,hR⟩:=Ai (P:=P) ar eD (w6 d_ p6);exact ⟨x,e8,c_ b1 x bn cc hR eD⟩
theorem UE (bO:eO P) {al:Fr} {fn:Func} {aw:Env} {a1:Act} {w':World} {bu:a7} {ab ad:ae} {mP:Option V} {m:FrameMode} (av:h' aw fn.ntmps bu a1) (hu:i' aw mP m) (aH:a6 al aw ab w') {v:V}
 (q7:jS P (bu cd).list mP ab fun a b=>a=some v/\b=ad) {R:Ending->World->Prop} (c_:∀b1 x bn,aw.le b1->Rel b1 v x->a6 al b1 ad bn->R (.panicked (l3 x)) bn):
 LeavesInM (aK none) 0 P fn a1.tmps R a1.defers m w':=by
 refine Hs bO _ a1.defers aw mP ab w' m q7 av.defers.list hu aH fun b1 m2 bn cc cy eD=>?_;obtain ⟨x,ay,rfl⟩:=cy;exact c_ b1 x bn cc ay eD
theorem RY (dt:P.follows .mixedOrders=true) (bO:eO P) {f:FuncId} {fn:Func} {c:Code} {args:List V} (aA:P.funcs[f]? =some fn) (ah:fn.body=some c)
 (eZ:Nat.ble fn.ntmps top=true) (bg:Nat.beq f dx=false) (gU:Nat.ble args.length fn.ntmps=true) {rc:bL} (ph:fI P fn.ntmps c=rc) (nO:jx P fn.ntmps fn.results.toList=c4) {Q:bV->a7->ae->Prop} (H:fZ P rc (a7.bz args) h Q)
 (cR:∀e r ab,(rc.plain=true->r cd=.bad)->Q e r ab->tf P c4 K X e r ab):jB P f args h K X:=by
 subst ph nO;rw [aqE] at eZ gU;have aU:Out fn.ntmps (a7.bz args):=by intro t aB _;rw [qj,aqL (by omega)];rfl
 have ea:(a7.bz args) cd=.bad:=by rw [qj,aqL (by unfold cd;unfold top at eZ;omega)];rfl
 have iu:f≠dx:=fun e=>by subst e;simp at bg
 have E3:∃fn,P.funcs[f]? =some fn/\fn.body.isSome=true:=⟨fn,aA,by rw [ah];rfl⟩;rcases Hq eZ dt bO c _ h _ aU H with ⟨e,bu,ab,aI,h2,pa⟩ | ⟨x,bu,ab,aI,h2,pa⟩
 . have nM:=cR e bu ab (fun z=>(h2.2 z).trans ea) aI;obtain ⟨he,hw⟩:(e=.normal\/e=.ret)/\jS P (bu cd).list none ab (vH bu (jx P fn.ntmps fn.results.toList) K X):=by
    cases e with
    | normal=>exact ⟨.inl rfl,nM⟩
    | ret=>exact ⟨.inr rfl,nM⟩
    | exit i=>
      obtain ⟨_,⟨t,y,ai⟩,_⟩:=nM;rw [ak4 eZ h2.1] at ai;cases ai
   obtain ⟨wb,ad,pe,q7⟩:=Hr hw;cases wb with
   | none=>
     obtain ⟨af,p6,ep⟩:=pe;refine .inl ⟨oneOf af,ad,⟨iu,.inl ⟨E3,fun al E w xs ay s=>?_⟩⟩,ep⟩;refine pO.1 (callsIn_of_wp_marks (F:=aK none) (n:=0) aA ah trivial ?_);refine (pa none al E _ w (.inl rfl) (y_ ay eZ gU) s _ fun aw a1 w' an av aH=>?_).wp;have:LeavesInM (aK none) 0 P fn a1.tmps (fun e w'=>∃aw x,e=.returned x/\E.le aw/\Rel aw (oneOf af) x/\a6 al aw ad w') a1.defers .returning w':=
      UF bO h2.1 av (mP:=none) rfl aH q7 p6 fun b1 x bn z2 z3 z4=>⟨b1,x,rfl,an.trans z2,z3,z4⟩
     rcases he with rfl | rfl<;>exact this
   | some v=>
     refine .inr ⟨v,ad,⟨iu,E3,fun al E w xs ay s=>?_⟩,pe⟩;refine pO.1 (callsIn_of_wp_marks (F:=aK none) (n:=0) aA ah trivial ?_);refine (pa none al E _ w (.inl rfl) (y_ ay eZ gU) s _ fun aw a1 w' an av aH=>?_).wp;have:LeavesInM (aK none) 0 P fn a1.tmps (fun e w'=>∃aw x,e=.panicked (l3 x)/\E.le aw/\Rel aw v x/\a6 al aw ad w') a1.defers .returning w':=
      UE bO av (mP:=none) rfl aH q7 fun b1 x bn z2 z3 z4=>⟨b1,x,rfl,an.trans z2,z3,z4⟩
     rcases he with rfl | rfl<;>exact this
 . have nM:=cR _ (bu.set (some h7) x) ab (fun z=>by rw [G_];exact (h2.2 z).trans ea) aI;obtain ⟨_,⟨t,y,ai⟩,hw⟩:=nM;rw [NT] at ai hw;rw [G_] at hw;obtain ⟨wb,ad,pe,q7⟩:=Hr hw;cases wb with
   | none=>
     obtain ⟨af,p6,ep⟩:=pe;rw [EB] at p6;refine .inl ⟨oneOf af,ad,⟨iu,.inl ⟨E3,fun al E w xs ay s=>?_⟩⟩,ep⟩;refine pO.1 (callsIn_of_wp_marks (F:=aK none) (n:=0) aA ah trivial ?_);refine (pa none al E _ w (.inl rfl) (y_ ay eZ gU) s _ fun aw a1 w' oU an av aH bP=>?_).wp;exact UF bO h2.1 av (mP:=some x) ⟨oU,aH,rfl⟩ bP q7 p6 fun b1 x bn z2 z3 z4=>⟨b1,x,rfl,an.trans z2,z3,z4⟩
   | some v=>
     refine .inr ⟨v,ad,⟨iu,E3,fun al E w xs ay s=>?_⟩,pe⟩;refine pO.1 (callsIn_of_wp_marks (F:=aK none) (n:=0) aA ah trivial ?_);refine (pa none al E _ w (.inl rfl) (y_ ay eZ gU) s _ fun aw a1 w' oU an av aH bP=>?_).wp;exact UE bO av (mP:=some x) ⟨oU,aH,rfl⟩ bP q7 fun b1 x bn z2 z3 z4=>⟨b1,x,rfl,an.trans z2,z3,z4⟩
theorem abY (dt:P.follows .mixedOrders=true) (bO:eO P) {f:FuncId} {fn:Func} {c:Code} {args:List V} (aA:P.funcs[f]? =some fn) (ah:fn.body=some c)
 (eZ:Nat.ble fn.ntmps top=true) (bg:Nat.beq f dx=false) (gU:Nat.ble args.length fn.ntmps=true) {rc:bL} (ph:fI P fn.ntmps c=rc) (nO:jx P fn.ntmps fn.results.toList=c4) (hA:rc.plain=true) (H:fZ P rc (a7.bz args) h (y' c4 K X)):jB P f args h K X:=by
 refine RY dt bO aA ah eZ bg gU ph nO H fun e r ab az q=>?_;have az:=az hA;cases e with
 | normal=>simp only [tf,az,V.list,jS];exact q
 | ret=>simp only [tf,az,V.list,jS];exact q
 | exit i=>
   obtain ⟨an,av,aH⟩:=q;refine ⟨an,av,?_⟩;rw [az];exact aH
theorem abZ (dt:P.follows .mixedOrders=true) (bO:eO P) {f:FuncId} {fn:Func} {c:Code} {args:List V} (aA:P.funcs[f]? =some fn) (ah:fn.body=some c)
 (eZ:Nat.ble fn.ntmps top=true) (bg:Nat.beq f dx=false) (gU:Nat.ble args.length fn.ntmps=true) {rc:bL} (ph:fI P fn.ntmps c=rc) (nO:jx P fn.ntmps fn.results.toList=c4) (H:fZ P rc (a7.bz args) h (tf P c4 K X)):jB P f args h K X:=
 RY dt bO aA ah eZ bg gU ph nO H fun e r ab _ q=>q
theorem jB.abX {f:FuncId} {args:List V} (c:jB P f args h K fun _ _=>False):e9 P f args h K:=by
 rcases c with c | ⟨_,_,_,q⟩
 . exact c
 . exact q.elim
end
def Dc (s:A6) (u:Option V) (r:a7):a7:=(r.set (some s.d) (u.getD .nilIface)).set (some s.e) ((rx s.x).aS (r.set (some s.d) (u.getD .nilIface)))
theorem ab5 {P:Program} (dt:P.follows .mixedOrders=true) (bO:eO P) {f:FuncId} {fn:Func} {c:Code} {args:List V} {u:Option V} {h:ae} {K:Option V->ae->Prop} (aA:P.funcs[f]? =some fn) (ah:fn.body=some c)
 (eZ:Nat.ble fn.ntmps top=true) (gU:Nat.ble args.length fn.ntmps=true) {dc:A6} (aa:ym c=some dc) (gi:(fm fn.ntmps (some dc.d)&&fm fn.ntmps (some dc.e))=true) {rc:bL} {c4:List mV} (ph:fI P fn.ntmps dc.rest=rc) (nO:jx P fn.ntmps fn.results.toList=c4) (hA:rc.plain=true)
 (H:fZ P rc (Dc dc u (a7.bz args)) h fun e r ab=>e.ends/\∃af,ho r ab c4=some af/\K none ab):oY P f args u h K:=by
 subst ph nO;rw [aqE] at eZ gU;simp only [aqi] at gi;have aU:Out fn.ntmps (a7.bz args):=by intro t aB _;rw [qj,aqL (by omega)];rfl
 have ea:(a7.bz args) cd=.bad:=by rw [qj,aqL (by unfold cd;unfold top at eZ;omega)];rfl
 have pe:Out fn.ntmps (Dc dc u (a7.bz args)):=(aU.set gi.1 _).set gi.2 _;have ic:Dc dc u (a7.bz args) cd=.bad:=by unfold Dc;rw [Ao gi.2,Ao gi.1];exact ea
 rcases Hq eZ dt bO dc.rest _ h _ pe H with ⟨e,bu,ab,⟨gx,af,p6,ep⟩,h2,pa⟩ | ⟨x,bu,ab,⟨gx,_⟩,h2,pa⟩
 case inr=>exact (gx:False).elim
 have gk:bu cd=.bad:=(h2.2 hA).trans ic;refine ⟨none,ab,⟨⟨fn,aA,by rw [ah];rfl⟩,fun al E w xs m ay hu s=>?_⟩,ep⟩;have k:=y_ ay eZ gU;obtain ⟨id,bb,bI,Nw,rt,rfl,g1,g2,g3,g4,g5,g6⟩:=Wc aa;refine callsDIn_of_wpSIn aA ah trivial fun nB cs xk=>wpSIn_seq (wpSIn_region ?_)
 obtain ⟨X,dD,mr,h0,b4,mB,Fl⟩:∃X,Rel E (u.getD .nilIface) X/\∃mr,(match recoverD (nB::cs) with
  | some (v,Jb)=>v=X/\Jb=mr
  | none=>X=.nilIface/\mr=nB::cs)/\∃b4,mr={nB with mode:=b4}::cs/\settle b4=.returning:=by
  cases u with
  | none=>
    simp only [i'] at hu;subst hu;refine ⟨.nilIface,rfl,nB::cs,?_,.returning,?_,rfl⟩
    . simp only [recoverD,xk];exact ⟨trivial,trivial⟩
    . rw [<-xk]
  | some v=>
    obtain ⟨x,ay,rfl⟩:=hu;refine ⟨x,ay,{nB with mode:=.panicking [{v:=x,recovered:=true}]}::cs,?_,.panicking [{v:=x,recovered:=true}],rfl,rfl⟩;simp only [recoverD,xk];exact ⟨trivial,trivial⟩
 have c1:=k.put (Env.le.refl E) gi.1 dD;have zs:∀(r:a7) (a:Act),h' E fn.ntmps r a->Rel E ((rx dc.x).aS r) (a.eval dc.x):=by
  intro r a dL;cases dc.x with
  | tmp t=>
    simp only [rx];cases ah:Nat.ble t top with
    | false=>simp [aW.aS,Rel]
    | true=>
      simp only [aqo,aW.aS];exact dL.ax t (mI (aqQ ah))
  | const v=>exact tO E v
  | func f=>
    simp only [rx];cases ah:Nat.beq f dx with
    | true=>simp [aW.aS,Rel]
    | false=>
      simp only [aqt,aW.aS,Rel];exact .inl ⟨fun e=>by subst e;simp at ah,_,rfl,by simp [bm]⟩
  | global g=>simp [rx,aW.aS,Rel]
 have dF:=c1.put (Env.le.refl E) gi.2 (zs _ _ c1)
 have se:=((pa none al E _ w (.inl rfl) dF s (fun dP a1 w'=>bodyPostS P fn nB cs (fun e b4 w'=>∃aw x,e=.returned x/\E.le aw/\i' aw none (settle b4)/\a6 al aw ab w') dP a1 mr w') (by
  intro aw a1 w' an av aH;have aY:a1.defers=[]:=by have:=av.defers;rw [gk] at this;exact this
  obtain ⟨cS,d_⟩:=uY h2.1;have ar:RegRel0 aw fn.ntmps cS a1:=⟨av.size,fun t aB=>by have:=congrFun d_ t;simp only [et] at this;rw [this];exact av.ax t (mI aB)⟩;obtain ⟨x,cc,cy⟩:=Ai (P:=P) ar aH (w6 d_ p6);cases e with
  | normal=>exact ⟨aY,b4,mB,x,cc,aw,x,rfl,an,Fl,aH⟩
  | ret=>exact ⟨aY,b4,mB,x,cc,aw,x,rfl,an,Fl,aH⟩
  | exit i=>exact gx.elim))).wp
 rw [<-g1] at se;rw [<-g4] at se;have Ck:=wpSIn_of_wpIn (F:=aK none) rfl se;have pj:∀y,Region.wanted bb y=true:=fun y=>by simp [Region.wanted,g3]
 have hN:∀y,Region.wanted bI y=true:=fun y=>by simp [Region.wanted,g6]
 have K9:∀(ρ:Operand->Value),(execOp ρ bb).run P w=.ok .recover w:=fun ρ=>by obtain ⟨dst,op,type,pos,after,guard⟩:=bb;simp only at g2;subst g2;rfl
 have vg:∀(ρ:Operand->Value),(execOp ρ bI).run P w=.ok (.value (ρ dc.x)) w:=fun ρ=>by obtain ⟨dst,op,type,pos,after,guard⟩:=bI;simp only at g5;subst g5;rfl
 have cX:(#[bb,bI]:Array Oper).size=2:=rfl;rw [cX];simp only [List.range_succ,List.range_zero,aq5,aqP,wpOpsSIn];have ef:(#[bb,bI]:Array Oper)[0]? =some bb:=rfl;have aM:(#[bb,bI]:Array Oper)[1]? =some bI:=rfl;rw [ef];simp only [pj,aqu,K9];refine ⟨fun _ _=>trivial,?_⟩;cases B_:recoverD (nB::cs) with
 | none=>
   rw [B_] at h0;obtain ⟨J5,o_⟩:=h0;subst J5 o_;simp only [aM,hN,aqu,vg];exact ⟨fun _ _=>trivial,Ck⟩
 | some hh=>
   obtain ⟨v,abV⟩:=hh;rw [B_] at h0;obtain ⟨rfl,rfl⟩:=h0;simp only [aM,hN,aqu,vg];exact ⟨fun _ _=>trivial,Ck⟩
end
end Go.Proofs.YtahfljfikfkpnaaGreatDoor.bf
