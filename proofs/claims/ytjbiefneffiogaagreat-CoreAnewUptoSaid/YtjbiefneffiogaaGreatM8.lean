/- The chapter's functions, walked by the abstract machine: plain lemmas, no condition. Printed by a program from longer texts: names made short. -/
import Derived.Test.YtjbiefneffiogaaGreatM4
import Derived.Test.YtjbiefneffiogaaGreatM6
import Derived.Test.YtjbiefneffiogaaGreatM7
set_option linter.unusedSectionVars false
set_option linter.unusedSimpArgs false
set_option linter.unusedVariables false
namespace Go.Proofs.YtjbiefneffiogaaGreat
open Go ba
theorem A1 {f:FuncId} {args:List V} {h:ag} {v:V} (c:bR Tryz.prog f args h fun x aa=>x=v∧aa=h):ma Tryz.prog f args h v h:=by
 obtain ⟨x,aa,q,rfl,rfl⟩:=c
 exact q
def At.enc (a:At):List V:=[.int .i64 a.k,.int .i64 a.n,.str a.s]
def gG:List At→List V
 | []=>[]
 | a::l=>a.enc++gG l
theorem CN:∀l:List At,(gG l).length=l.length * 3
 | []=>rfl
 | a::l=>by rw [gG,List.length_append,CN l,List.length_cons];simp only [At.enc,List.length_cons,List.length_nil];omega
theorem CM:∀(l:List At) (i:Nat) (ax:i<l.length),((gG l).drop (i * 3)).take 3=l[i].enc
 | [],i,ax=>by simp at ax
 | a::l,0,_=>by simp [gG,At.enc]
 | a::l,i+1,ax=>by
   rw [gG,show (i+1) * 3=a.enc.length+i * 3 from by simp only [At.enc,List.length_cons,List.length_nil];omega,List.drop_append,List.drop_eq_nil_of_le (by omega),List.nil_append,Nat.add_sub_cancel_left]
   exact CM l i (by simpa using ax)
theorem j6 (l:List Int):(cC l).length=l.length:=by simp [cC]
inductive eF (h:ag):aw→List V→Prop
 | mk {k x n:Int} {s:List UInt8} {a:List At} {t:List Int} {l:List aw} {bl bs aY:V} {us:List (List V)} (bH:cF h 3 bl a.length (gG a)) (aI:cF h 1 bs t.length (cC t))
   (aT:ym aY) (aB:cF h 7 aY l.length us.flatten) (hu:us.length=l.length) (kids:∀(i:Nat) (c:aw) (u:List V),l[i]? =some c→us[i]? =some u→eF h c u):
   eF h (.mk k x n s a t l) [.int .i64 k,.int .i64 x,.int .i64 n,.str s,bl,bs,aY]
def ic (h:ag) (l:List aw) (aY:V):Prop:=ym aY∧∃us:List (List V),cF h 7 aY l.length us.flatten∧us.length=l.length∧∀(i:Nat) (c:aw) (u:List V),l[i]? =some c→us[i]? =some u→eF h c u
theorem eF.ext {h aa:ag} (e:Ext h aa) {c:aw} {ad:List V} (H:eF h c ad):eF aa c ad:=by
 induction H with
 | mk bH aI aT aB hu kids bb=>exact .mk (bH.ext e) (aI.ext e) aT (aB.ext e) hu bb
theorem ic.ext {h aa:ag} (e:Ext h aa) {l:List aw} {v:V} (H:ic h l v):ic aa l v:=by
 obtain ⟨aT,us,ab,af,aK⟩:=H
 exact ⟨aT,us,ab.ext e,af,fun i c u aG az=>(aK i c u aG az).ext e⟩
theorem eF.len {h:ag} {c:aw} {ad:List V} (H:eF h c ad):ad.length=7:=by cases H;rfl
theorem eF.open {h:ag} {c:aw} {ad:List V} (H:eF h c ad):∃bl bs aY,ad=[.int .i64 c.k,.int .i64 c.x,.int .i64 c.n,.str c.s,bl,bs,aY]∧cF h 3 bl c.a.length (gG c.a)∧cF h 1 bs c.t.length (cC c.t)∧ic h c.l aY:=by
 cases H with
 | mk bH aI aT aB hu kids=>exact ⟨_,_,_,rfl,bH,aI,aT,_,aB,hu,kids⟩
theorem De:∀(us:List (List V)) (i:Nat) (u:List V),(∀u ∈ us,u.length=7)→us[i]? =some u→(us.flatten.drop (i * 7)).take 7=u
 | [],i,u,_,h=>by simp at h
 | w::us,0,u,aB,h=>by
   simp only [List.getElem?_cons_zero,Option.some.injEq] at h
   subst h
   rw [Nat.zero_mul,List.drop_zero,List.flatten_cons,List.take_left' (aB _ (by simp))]
 | w::us,i+1,u,aB,h=>by
   rw [show (i+1) * 7=7+i * 7 from by omega,←List.drop_drop,List.flatten_cons,List.drop_left' (aB _ (by simp))]
   exact De us i u (fun u hu=>aB u (by simp [hu])) (by simpa using h)
theorem xc:∀(us:List (List V)),(∀u ∈ us,u.length=7)→us.flatten.length=us.length * 7
 | [],_=>rfl
 | w::us,aB=>by rw [List.flatten_cons,List.length_append,aB w (by simp),xc us (fun u hu=>aB u (by simp [hu])),List.length_cons];omega
theorem ic.len {h:ag} {l:List aw} {v:V} (H:ic h l v):mT v=some (.int .i64 l.length):=by
 obtain ⟨_,us,ab,_⟩:=H
 exact ab.len
theorem ic.one {h:ag} {l:List aw} {v:V} (H:ic h l v):v.one=true∧v.cells=[v]∧v.ek=true:=by
 obtain ⟨_,us,ab,_⟩:=H
 exact ab.one
theorem ic.at {h:ag} {l:List aw} {v:V} (H:ic h l v) {k:IntKind} {i:Nat} (ax:i<l.length):
 ∃b off u,gy 7 v (.int k i)=some (.ptr b (off+i * 7))∧eF h l[i] u∧mR 7 (h.get b) (off+i * 7)=some (.agg u)∧∀j,j<7→h9 (h.get b) (off+i * 7+j)=u[j]? :=by
 obtain ⟨aT,us,ab,af,aK⟩:=H
 have qU:∀u ∈ us,u.length=7:=by
  intro u hu
  obtain ⟨j,bC⟩:=List.getElem?_of_mem hu
  have jF:j<l.length:=by rw [←af];exact (List.getElem?_eq_some_iff.1 bC).1
  exact (aK j l[j] u (List.getElem?_eq_getElem jF) bC).len
 have DX:i<us.length:=by omega
 have hu:=List.getElem?_eq_getElem DX
 obtain ⟨b,off,aL,bo⟩:=ab.cl (k:=k) ax
 have au:=De us i _ qU hu
 have im:=xc us qU
 refine ⟨b,off,us[i],aL,aK i _ _ (List.getElem?_eq_getElem ax) hu,?_,fun j bC=>?_⟩
 · rw [bo.gd (i:=i * 7) (n:=7) (by omega),au]
 · exact bo.cell au (by omega) bC
theorem ic.rM {h:ag} {l:List aw} {v:V} (H:ic h l v) {k:IntKind} {i:Nat} (ax:i<l.length):
 ∃b off u,gy 7 v (.int k i)=some (.ptr b (off+i * 7))∧eF h l[i] u∧∀aa,Ext h aa→mR 7 (aa.get b) (off+i * 7)=some (.agg u)∧∀j,j<7→h9 (aa.get b) (off+i * 7+j)=u[j]? :=by
 obtain ⟨aT,us,ab,af,aK⟩:=H
 have qU:∀u ∈ us,u.length=7:=by
  intro u hu
  obtain ⟨j,bC⟩:=List.getElem?_of_mem hu
  have jF:j<l.length:=by rw [←af];exact (List.getElem?_eq_some_iff.1 bC).1
  exact (aK j l[j] u (List.getElem?_eq_getElem jF) bC).len
 have DX:i<us.length:=by omega
 have hu:=List.getElem?_eq_getElem DX
 obtain ⟨b,off,aL,bo⟩:=ab.cl (k:=k) ax
 have au:=De us i _ qU hu
 have im:=xc us qU
 refine ⟨b,off,us[i],aL,aK i _ _ (List.getElem?_eq_getElem ax) hu,fun aa e=>⟨?_,fun j bC=>?_⟩⟩
 · rw [(bo.ext e).gd (i:=i * 7) (n:=7) (by omega),au]
 · exact (bo.ext e).cell au (by omega) bC
theorem ic.lens {h:ag} {l:List aw} {us:List (List V)} (af:us.length=l.length) (aK:∀(i:Nat) (c:aw) (u:List V),l[i]? =some c→us[i]? =some u→eF h c u):∀u ∈ us,u.length=7:=by
 intro u hu
 obtain ⟨j,bC⟩:=List.getElem?_of_mem hu
 have jF:j<l.length:=by rw [←af];exact (List.getElem?_eq_some_iff.1 bC).1
 exact (aK j l[j] u (List.getElem?_eq_getElem jF) bC).len
theorem ic.cut {h:ag} {l:List aw} {v:V} (H:ic h l v) {k:IntKind} {m:Nat} (hm:m≤l.length):∃dE,g0 7 v none (some (.int k m)) none=some dE∧ic h (l.take m) dE:=by
 obtain ⟨aT,us,ab,af,aK⟩:=H
 have qU:=ic.lens af aK
 obtain ⟨dE,aL,bo,c6⟩:=ab.cut (k:=k) (bK:=k) (bU:=0) (ax:=m) (Nat.zero_le _) hm none (some (.int k m)) (.inr ⟨rfl,rfl⟩) (.inl rfl) aT
 refine ⟨dE,aL,?_,us.take m,?_,?_,?_⟩
 · intro b off fJ lN e
   subst e
   cases v<;>simp only [g0] at aL
   case aF=>unfold v' at aL;simp only [mr] at aL;split at aL<;>cases aL
   case slice eJ Ml tJ Sd=>
    have aA:=aT _ _ _ _ rfl
    have hlen:tJ=l.length:=ab.2.1
    unfold o' at aL
    simp only [pq (k:=k) (d:=tJ) (y:=Sd) (m:=m) (by omega),mr,Option.some.injEq,V.slice.injEq] at aL
    omega
   case dp eJ Ml tJ Ww=>
    unfold n3 at aL
    have hlen:tJ=l.length:=ab.2.1
    simp only [pq (k:=k) (d:=tJ) (y:=tJ) (m:=m) (by omega),mr] at aL
    cases aA:Nat.blt 0 tJ with
    | true=>rw [aA] at aL;cases aL
    | false=>rw [aA] at aL;cases aL
   case gN eJ Ml ae' Ww=>
    unfold v_ at aL
    simp only [mr] at aL
    split at aL<;>cases aL
   all_goals cases aL
 · rw [List.length_take,Nat.min_eq_left hm]
   have im:=xc us qU
   have:(us.take m).flatten=us.flatten.take (m * 7):=by
    have bk:us=us.take m++us.drop m:=(List.take_append_drop m us).symm
    have V0:∀u ∈ us.take m,u.length=7:=fun u hu=>qU u (List.mem_of_mem_take hu)
    have tq:=xc (us.take m) V0
    conv=>rhs;rw [bk,List.flatten_append]
    rw [List.take_left' (by rw [tq,List.length_take,af,Nat.min_eq_left hm])]
   rw [this]
   simpa using bo
 · rw [List.length_take,List.length_take,af]
 · intro i c u aG az
   rw [List.getElem?_take] at aG az
   split at aG
   · rename_i ax
     rw [if_pos ax] at az
     exact aK i c u aG az
   · cases aG
theorem uS {h:ag} {l:List At} {v:V} (H:cF h 3 v l.length (gG l)) {k:IntKind} {i:Nat} (ax:i<l.length):
 ∃b off,gy 3 v (.int k i)=some (.ptr b (off+i * 3))∧mR 3 (h.get b) (off+i * 3)=some (.agg l[i].enc)∧∀j,j<3→h9 (h.get b) (off+i * 3+j)=(l[i].enc)[j]? :=by
 obtain ⟨b,off,aL,bo⟩:=H.cl (k:=k) ax
 refine ⟨b,off,aL,?_,fun j bC=>bo.cell (CM l i ax) (by rw [CN];omega) bC⟩
 rw [bo.gd (i:=i * 3) (n:=3) (by rw [CN];omega),CM l i ax]
theorem ints_at {h:ag} {l:List Int} {v:V} (H:cF h 1 v l.length (cC l)) {k:IntKind} {i:Nat} (ax:i<l.length):
 ∃b off,gy 1 v (.int k i)=some (.ptr b (off+i * 1))∧h9 (h.get b) (off+i * 1)=some (.int .i64 l[i]):=by
 obtain ⟨b,off,aL,bo⟩:=H.cl (k:=k) ax
 refine ⟨b,off,aL,?_⟩
 rw [Nat.mul_one,bo.dq (by rw [j6];exact ax)]
 simp [cC]
theorem nM (n s:Nat) (b:aN) (o:Nat) (k:IntKind) (i:Int):(q3 n s).run (.ptr b o) (.int k i)=if 0≤i∧i < (n:Int) then some (.ptr b (o+i.toNat * s)) else none:=by
 simp only [q3,V.dD,V.l5,q2,mS]
 by_cases ab:0≤i<;>by_cases af:i < (n:Int)
 · have:¬(n:Int)≤i:=by omega
   simp [ab,af,this]
 · have:(n:Int)≤i:=by omega
   simp [ab,af,this]
 · simp [ab]
 · simp [ab]
theorem CL {P:Program} {d:Option Nat} {k:ep} {z:V} {ok:Bool} {x i:aZ} {j:Nat} {want:Bool} {rs:List Nat} {e:fF} {H:ag}:nm P ⟨d,.look k z ok x i,some (j,want),rs⟩ e H=
 (fo (e.r.trim rs j)∧e2 (cW (e.r.trim rs j) want) ((jL k.eq z ok H (x.a8 (e.r.trim rs)) (i.a8 (e.r.trim rs))).isSome=true)∧V.opt (cW (e.r.trim rs j) want) ((jL k.eq z ok H (x.a8 (e.r.trim rs)) (i.a8 (e.r.trim rs))).getD .bad)=e.v):=CK rfl
theorem hg {i n:Nat} (h:i<n) (aX:n≤4611686018427387904):IntKind.i64.wrap ((i:Int)+1)=((i+1:Nat):Int):=by
 rw [wrap_i64 (by omega) (by omega)]
 rfl
inductive ni where
 | no | env | tO | gj | out
 | val (i:Nat)
 | nx (i:Nat)
abbrev fi:=aN→ni
open Classical in
noncomputable def mf (K:fi) (p:aN→Prop) (r:ni):fi:=fun b=>if p b then r else K b
theorem rG {K:fi} {p:aN→Prop} {r:ni} {b:aN} (h:p b):mf K p r b=r:=if_pos h
theorem qn {K:fi} {p:aN→Prop} {r:ni} {b:aN} (h:¬p b):mf K p r b=K b:=if_neg h
def e6 (aD:List aN) (j:Nat):aN:=aD.getD j .z
def eh (aD:List aN) (j:Nat):V:=.ptr (e6 aD j) 0
inductive ei (h:ag) (K:fi) (aD:List aN):V→gP→Prop
 | nil:ei h K aD .cq []
 | cons {b:aN} {n:Int} {j:Nat} {p:V} {L:gP} (cV:K b=.env) (a1:h.get b=.ar [.int .i64 n,eh aD j,p] 0 false) (bC:j<aD.length) (aT:ei h K aD p L):ei h K aD (.ptr b 0) ((n,j)::L)
structure dQ (ao:ag) (K:fi) (h:ag) (aD:List aN) (bg:fi) (aa:ag) (bq:List aN) (dJ:ni→Prop):Prop where
 next:h.next≤aa.next
 role:∀b,K b≠.no→bg b=K b
 fresh:∀b,K b=.no→bg b≠.no→h.next≤cd b∧cd b<aa.next
 get:∀b,K b≠.no→¬dJ (K b)→aa.get b=h.get b
 low:∀b,cd b<ao.next→aa.get b=h.get b
 aD:∃t,bq=aD++t
theorem Hm {aD t:List aN} {j:Nat} (bC:j<aD.length):e6 (aD++t) j=e6 aD j:=by
 unfold e6
 rw [List.getD_eq_getElem?_getD,List.getD_eq_getElem?_getD,List.getElem?_append_left bC]
theorem MQ {aD t:List aN} {j:Nat} (bC:j<aD.length):eh (aD++t) j=eh aD j:=by
 unfold eh;rw [Hm bC]
theorem aaL {aD t:List aN} {bw:List Nat} (h:∀j ∈ bw,j<aD.length):bw.map (eh (aD++t))=bw.map (eh aD):=
 List.map_congr_left fun j bC=>MQ (h j bC)
section
variable {ao h aa e7:ag} {K bg ad0:fi} {aD bq ad5:List aN} {dJ aeb:ni→Prop}
theorem dQ.len (t:dQ ao K h aD bg aa bq dJ):aD.length≤bq.length:=by
 obtain ⟨u,rfl⟩:=t.aD;simp
theorem dQ.a_ (t:dQ ao K h aD bg aa bq dJ) {j:Nat} (bC:j<aD.length):e6 bq j=e6 aD j:=by
 obtain ⟨u,rfl⟩:=t.aD;exact Hm bC
theorem dQ.ptr (t:dQ ao K h aD bg aa bq dJ) {j:Nat} (bC:j<aD.length):eh bq j=eh aD j:=by
 obtain ⟨u,rfl⟩:=t.aD;exact MQ bC
theorem dQ.A0 (t:dQ ao K h aD bg aa bq dJ) {bw:List Nat} (bC:∀j ∈ bw,j<aD.length):bw.map (eh bq)=bw.map (eh aD):=by
 obtain ⟨u,rfl⟩:=t.aD;exact aaL bC
theorem dQ.Mk (e:Ext h aa) (aX:∀b,K b≠.no→cd b<h.next) (Kn:ao.next≤h.next):dQ ao K h aD K aa aD dJ:=
 ⟨e.next,fun _ _=>rfl,fun _ h aa=>absurd h aa,fun b ah _=>e.get b (aX b ah),fun b ah=>e.get b (Nat.lt_of_lt_of_le ah Kn),[],by simp⟩
theorem dQ.x3 {b:aN} {k:cp} (ah:dJ (K b)) (fm:ao.next≤cd b):dQ ao K h aD K (h.set b k) aD dJ:=by
 refine ⟨Nat.le_refl _,fun _ _=>rfl,fun _ h aa=>absurd h aa,fun c aA aX=>?_,fun c aA=>?_,[],by simp⟩
 · rw [cM,if_neg]
   rintro rfl
   exact aX ah
 · rw [cM,if_neg]
   rintro rfl
   omega
theorem ei.c8 {p:V} {L:gP} (H:ei h K aD p L) (t:dQ ao K h aD bg aa bq dJ) (aA:¬dJ .env):ei aa bg bq p L:=by
 induction H with
 | nil=>exact .nil
 | @cons b _ _ _ _ cV a1 bC aT bb=>
   have ah:K b≠.no:=by rw [cV];exact fun q=>by cases q
   refine .cons (by rw [t.role _ ah];exact cV) ?_ (Nat.lt_of_lt_of_le bC t.len) bb
   rw [t.get _ ah (by rw [cV];exact aA),a1,t.ptr bC]
theorem Mi {ad ws:List V} {a cc:Nat} {b bN:Bool} (e:cp.ar ad a b=cp.ar ws cc bN):ad=ws:=by
 apply List.ext_getElem?
 intro i
 rw [←sd ad a b i,←sd ws cc bN i,e]
theorem ei.same {p:V} {L:gP} (H:ei h K aD p L):∀{uI:gP},ei h K aD p uI→uI.length=L.length:=by
 induction H with
 | nil=>intro uI hJ;cases hJ;rfl
 | cons cV a1 bC aT bb=>
   intro uI hJ
   cases hJ with
   | cons aeC KI z2 tl=>
     rw [a1] at KI
     have:=Mi KI
     simp only [List.cons.injEq] at this
     obtain ⟨_,_,rfl,_⟩:=this
     rw [List.length_cons,List.length_cons,bb tl]
open Classical in
noncomputable def uZ (h:ag) (K:fi) (aD:List aN) (p:V):Nat:=if H:∃L,ei h K aD p L then H.choose.length else 0
theorem ei.uZ {p:V} {L:gP} (H:ei h K aD p L):uZ h K aD p=L.length:=by
 unfold Go.Proofs.YtjbiefneffiogaaGreat.uZ
 rw [dif_pos ⟨L,H⟩]
 exact H.same (Exists.choose_spec (⟨L,H⟩:∃L,ei h K aD p L))
theorem ei.one {p:V} {L:gP} (H:ei h K aD p L):p.one=true∧p.cells=[p]∧p.ek=true:=by
 cases H<;>exact ⟨rfl,rfl,rfl⟩
theorem dQ.mod (t:dQ ao K h aD bg aa bq dJ):Mod (fun b=>K b=.no∨dJ (K b)) h aa:=
 ⟨t.next,fun b _ ah=>t.get b (fun q=>ah (.inl q)) (fun q=>ah (.inr q))⟩
theorem ca.c8 {B size n:Nat} {v:V} {ad:List V} (H:ca B h size v n ad) (t:dQ ao K h aD bg aa bq dJ) {r:ni} (aT:∀b,v.a_ b→K b=r) (ab:r≠.no) (af:¬dJ r):ca B aa size v n ad:=
 H.mod t.mod fun b q e=>by
  have:=aT b q
  rw [this] at e
  rcases e with e | e
  · exact ab e
  · exact af e
structure ld where
 G5:ag→dk→V→V→List V→Prop
 y_:ag→hN→V→List V→Prop
 l_:Nat
 hH:ag→aw→List V→Prop
 lay:V→V→Int→Int→V→Int→Int→Bool→List V→V→V→List V
def sI (ao h:ag) (K:fi) (aD:List aN) (i:Nat) (v:dk) (cu:V):Prop:=
 match v with
 | .dt _ bw=>ca ao.next h 1 cu bw.length (bw.map (eh aD))∧(∀b,cu.a_ b→K b=.nx i)∧∀j ∈ bw,j<aD.length
 | _=>True
def yR (h:ag) (K:fi) (aD:List aN) (v:dk) (cN:V):Prop:=
 match v with
 | .fn _ _ e=>ei h K aD cN e
 | _=>True
theorem sI.c8 {i:Nat} {v:dk} {cu:V} (H:sI ao h K aD i v cu) (t:dQ ao K h aD bg aa bq dJ) (aA:¬dJ (.nx i)):sI ao aa bg bq i v cu:=by
 cases v<;>first | trivial | skip
 obtain ⟨aG,az,aW⟩:=H
 refine ⟨?_,fun b ah=>?_,fun j bC=>Nat.lt_of_lt_of_le (aW j bC) t.len⟩
 · rw [t.A0 aW]
   exact ca.c8 aG t az (by simp) aA
 · rw [t.role b (by rw [az b ah];simp),az b ah]
theorem yR.c8 {v:dk} {cN:V} (H:yR h K aD v cN) (t:dQ ao K h aD bg aa bq dJ) (aA:¬dJ .env):yR aa bg bq v cN:=by
 cases v<;>first | trivial | exact ei.c8 H t aA
def uK (Y:ld) (ao h:ag) (K:fi) (aD:List aN) (i:Nat) (v:dk):Prop:=
 K (e6 aD i)=.val i∧∃cu cN cs,h.get (e6 aD i)=.ar cs 0 false∧Y.G5 ao v cu cN cs∧sI ao h K aD i v cu∧yR h K aD v cN
theorem uK.c8 {Y:ld} {i:Nat} {v:dk} (H:uK Y ao h K aD i v) (ax:i<aD.length) (t:dQ ao K h aD bg aa bq dJ) (ab:¬dJ (.val i)) (af:¬dJ (.nx i)) (aK:¬dJ .env):uK Y ao aa bg bq i v:=by
 obtain ⟨aG,cu,cN,cs,az,aW,bZ,dW⟩:=H
 have ah:K (e6 aD i)≠.no:=by rw [aG];simp
 refine ⟨by rw [t.a_ ax,t.role _ ah,aG],cu,cN,cs,?_,aW,bZ.c8 t af,dW.c8 t aK⟩
 rw [t.a_ ax,t.get _ ah (by rw [aG];exact ab),az]
structure hn (Y:ld) (ao h:ag) (K:fi) (aD:List aN) (st:List dk):Prop where
 ext:Ext ao h
 new:∀b,K b≠.no→ao.next≤cd b∧cd b<h.next
 len:aD.length=st.length
 val:∀i v,st[i]? =some v→uK Y ao h K aD i v
theorem dQ.ext (t:dQ ao K h aD bg aa bq dJ) (e:Ext ao h):Ext ao aa:=⟨Nat.le_trans e.next t.next,fun b ah=>(t.low b ah).trans (e.get b ah)⟩
theorem dQ.news (t:dQ ao K h aD bg aa bq dJ) (e:Ext ao h) (n:∀b,K b≠.no→ao.next≤cd b∧cd b<h.next):∀b,bg b≠.no→ao.next≤cd b∧cd b<aa.next:=by
 intro b ah
 have aX:=t.next
 have Kn:=e.next
 by_cases q:K b=.no
 · have:=t.fresh b q ah;omega
 · have:=n b q;omega
theorem hn.c8 {Y:ld} {st:List dk} (H:hn Y ao h K aD st) (t:dQ ao K h aD bg aa aD dJ) (ab:∀i,¬dJ (.val i)) (af:∀i,¬dJ (.nx i)) (aK:¬dJ .env):hn Y ao aa bg aD st:=
 ⟨t.ext H.ext,t.news H.ext H.new,H.len,fun i v q=>(H.val i v q).c8 (by rw [H.len];exact (List.getElem?_eq_some_iff.1 q).1) t (ab i) (af i) aK⟩
theorem hn.Ot {Y:ld} {st:List dk} (H:hn Y ao h K aD st) {i:Nat} {v:dk} (t:dQ ao K h aD bg aa aD dJ) (ab:∀j,j≠i→¬dJ (.val j)) (af:∀j,j≠i→¬dJ (.nx j)) (aK:¬dJ .env) (a6:uK Y ao aa bg aD i v):hn Y ao aa bg aD (st.set i v):=by
 refine ⟨t.ext H.ext,t.news H.ext H.new,by rw [List.length_set];exact H.len,fun j u q=>?_⟩
 by_cases bC:j=i
 · subst bC
   rw [List.getElem?_set_self'] at q
   cases bk:st[j]? with
   | none=>rw [bk] at q;cases q
   | some w=>rw [bk] at q;simp at q;subst q;exact a6
 · rw [List.getElem?_set_ne (by omega)] at q
   exact (H.val j u q).c8 (by rw [H.len];exact (List.getElem?_eq_some_iff.1 q).1) t (ab j bC) (af j bC) aK
theorem hn.push {Y:ld} {st:List dk} (H:hn Y ao h K aD st) {b:aN} {v:dk} (t:dQ ao K h aD bg aa (aD++[b]) dJ) (ab:∀j,¬dJ (.val j)) (af:∀j,¬dJ (.nx j)) (aK:¬dJ .env) (a6:uK Y ao aa bg (aD++[b]) st.length v):hn Y ao aa bg (aD++[b]) (st++[v]):=by
 refine ⟨t.ext H.ext,t.news H.ext H.new,by simp [H.len],fun j u q=>?_⟩
 by_cases bC:j<st.length
 · rw [List.getElem?_append_left bC] at q
   exact (H.val j u q).c8 (by rw [H.len];exact bC) t (ab j) (af j) aK
 · have jF:j < (st++[v]).length:=(List.getElem?_eq_some_iff.1 q).1
   rw [List.length_append] at jF
   simp only [List.length_cons,List.length_nil] at jF
   obtain rfl:j=st.length:=by omega
   simp at q
   subst q
   exact a6
end
end Go.Proofs.YtjbiefneffiogaaGreat
namespace Go.Proofs.YtjbiefneffiogaaGreat
open Go ba
def H4:bL:=
 .seq (.seq (.aj [ae 5 0,b0 6 5,fW 7 6,a7 8 7,ae 9 1,pa 10 8 9])
 (.cond (.t 10)
 (.skip)
 (.exit 0)))
 (.block 1 (.aj [ae 11 0,b0 12 11,hl 13 12,a7 14 13,ae 0 14]))
def H3:bL:=
 .seq (.aj [ng 4])
 (.seq (.block 0 (.loop H4))
 (.seq (.aj [ae 15 0,b0 16 15,dA 17 16,a7 18 17,ae 4 18])
 (.ret)))
theorem Rc:cE 149 19 [.t 4] H3:=cK Tryz.func149 (by kernel_rfl) (by kernel_rfl) rfl (by kernel_rfl) (by kernel_rfl)
def H8:bL:=
 .seq (.aj [ng 6])
 (.seq (.aj [ae 7 1,ae 8 2,ae 9 0,⟨some 10,.build [(.int .i64 0),.cq,.cq] [(0,1,(.t 7)),(1,1,(.t 8)),(2,1,(.t 9))],none,[7,8,9]⟩,eV 11 10,ae 6 11])
 (.ret))
theorem Rf:cE 152 12 [.t 6] H8:=cK Tryz.func152 (by kernel_rfl) (by kernel_rfl) rfl (by kernel_rfl) (by kernel_rfl)
def IY:bL:=
 .seq (.aj [ng 2])
 (.seq (.aj [ae 3 0,⟨some 4,.build [(.int .i64 0),(.int .i64 0),(.str []),.aF,.cq,.cq,(.bool false)] [(0,1,(.c (.int .i64 1))),(1,1,(.t 3))],none,[3]⟩,eV 5 4,ae 2 5])
 (.ret))
theorem RL:cE 79 6 [.t 2] IY:=cK Tryz.func79 (by kernel_rfl) (by kernel_rfl) rfl (by kernel_rfl) (by kernel_rfl)
def HC:bL:=
 .seq (.aj [ng 4])
 (.seq (.aj [ae 5 0,ae 6 1,⟨some 7,.build [(.int .i64 0),(.int .i64 0),(.str []),.aF,.cq,.cq,(.bool false)] [(0,1,(.c (.int .i64 4))),(1,1,(.t 5)),(3,1,(.t 6))],none,[5,6]⟩,eV 8 7,ae 4 8])
 (.ret))
theorem QT:cE 102 9 [.t 4] HC:=cK Tryz.func102 (by kernel_rfl) (by kernel_rfl) rfl (by kernel_rfl) (by kernel_rfl)
def I3:bL:=
 .seq (.aj [ng 2])
 (.seq (.seq (.aj [ae 3 0])
 (.cond (.t 3)
 (.seq (.aj [⟨some 4,.call 102 [(.c (.int .i64 1)),(.c .aF)],none,[]⟩,ae 2 4])
 (.ret))
 (.skip)))
 (.seq (.aj [yZ 5,ae 2 5])
 (.ret)))
theorem RQ:cE 84 6 [.t 2] I3:=cK Tryz.func84 (by kernel_rfl) (by kernel_rfl) rfl (by kernel_rfl) (by kernel_rfl)
def H2:bL:=
 .seq (.aj [ng 2])
 (.seq (.aj [ae 3 0,⟨some 4,.build [(.int .i64 0),(.int .i64 0),(.str []),.aF,.cq,.cq,(.bool false)] [(0,1,(.c (.int .i64 2))),(2,1,(.t 3))],none,[3]⟩,eV 5 4,ae 2 5])
 (.ret))
theorem Rb:cE 148 6 [.t 2] H2:=cK Tryz.func148 (by kernel_rfl) (by kernel_rfl) rfl (by kernel_rfl) (by kernel_rfl)
def IZ:bL:=
 .seq (.aj [eW 2])
 (.seq (.aj [ae 3 0,⟨some 4,.bin .shl (.t 3) (.c (.int .u64 1)),none,[3]⟩,⟨some 5,.hr (.int .i32) (.t 4),none,[4]⟩,⟨some 6,.hr (.int .i64) (.t 5),none,[5]⟩,⟨some 7,.bin .shr (.t 6) (.c (.int .u64 1)),none,[6]⟩,ae 2 7])
 (.ret))
theorem RM:cE 80 8 [.t 2] IZ:=cK Tryz.func80 (by kernel_rfl) (by kernel_rfl) rfl (by kernel_rfl) (by kernel_rfl)
def HD:bL:=
 .aj [ae 4 0,ae 5 0,ae 6 1,b0 7 4,gE 8 7,⟨none,.st 1 (.t 8) (.c (.bool true)),none,[8]⟩,b0 9 5,dA 10 9,fW 11 10,⟨none,.st 1 (.t 11) (.t 6),none,[11,6]⟩]
theorem QU:cE 103 12 [] HD:=cK Tryz.func103 (by kernel_rfl) (by kernel_rfl) rfl (by kernel_rfl) (by kernel_rfl)
def CV:bL:=
 .seq (.aj [y0 2,eP 3])
 (.seq (.aj [ae 6 0,b0 7 6,uF 8 7,a7 9 8,dY 10 9,ae 4 10])
 (.seq (.seq (.aj [ae 11 4,Co 12 11])
 (.cond (.t 12)
 (.seq (.aj [⟨some 13,.build [(.bool false),(.int .i64 0),.cq,.cq] [],none,[]⟩,⟨none,.st 4 (.t 2) (.t 13),none,[2,13]⟩,eP 3])
 (.ret))
 (.skip)))
 (.seq (.aj [ae 14 0,b0 15 14,uF 16 15,a7 17 16,ae 18 4,pc 19 18,⟨some 20,.cl 4 (.t 17) (.t 19),none,[17,19]⟩,⟨some 21,.gd 4 (.t 20),none,[20]⟩,y0 5,⟨none,.st 4 (.t 5) (.t 21),none,[5,21]⟩])
 (.seq (.aj [ae 22 0,ae 23 0,b0 24 23,uF 25 24,a7 26 25,ae 27 4,pc 28 27,⟨some 29,.gZ 4 (.t 26) none (some (.t 28)) none,none,[26,28]⟩,b0 30 22,uF 31 30,⟨none,.st 1 (.t 31) (.t 29),none,[31,29]⟩])
 (.seq (.aj [⟨some 32,.gd 4 (.t 5),none,[5]⟩,⟨none,.st 4 (.t 2) (.t 32),none,[2,32]⟩,uE 3])
 (.ret))))))
theorem H6:cE 150 33 [.pv 2 4,.t 3] CV:=cK Tryz.func150 (by kernel_rfl) (by kernel_rfl) rfl (by kernel_rfl) (by kernel_rfl)
def H7:bL:=
 .seq (.aj [eV 4 1])
 (.draw [ae 6 0,ae 7 0,hl 8 4,a7 9 8,od 10 4,a7 11 10,dA 12 4,a7 13 12,ae 14 2,y1 15 11 13 14,b0 16 6,la 17 16,⟨none,.st 1 (.t 17) (.t 9),none,[17,9]⟩,b0 18 7,oe 19 18,⟨none,.st 1 (.t 19) (.t 15),none,[19,15]⟩] [(3,[9,12]),(5,[9]),(7,[9])])
theorem Re:cE 151 20 [] H7:=cK Tryz.func151 (by kernel_rfl) (by kernel_rfl) rfl (by kernel_rfl) (by kernel_rfl)
def HB:bL:=
 .block 1 (.seq (.aj [ae 7 0,⟨some 8,.call 150 [(.t 7)],none,[7]⟩,ae 6 8,wB 9 6,wC 10 6,y0 4,⟨none,.st 4 (.t 4) (.t 9),none,[4,9]⟩,ae 5 10])
 (.block 2 (.seq (.aj [ae 12 5,g4 13 12,ae 11 13])
 (.cond (.t 11)
 (.seq (.aj [ae 14 0,⟨some 15,.call 103 [(.t 14),(.c (.int .i64 0))],none,[14]⟩])
 (.ret))
 (.seq (.aj [fW 17 4,a7 18 17,g4 19 18,ae 16 19])
 (.cond (.t 16)
 (.seq (.aj [ae 20 0,⟨some 21,.gd 4 (.t 4),none,[4]⟩,ae 22 1,⟨some 23,.call 151 [(.t 20),(.t 21),(.t 22)],none,[20,21,22]⟩])
 (.ret))
 (.skip)))))))
def HA:bL:=
 .block 0 (.loop HB)
theorem QS:cE 101 24 [] HA:=cK Tryz.func101 (by kernel_rfl) (by kernel_rfl) rfl (by kernel_rfl) (by kernel_rfl)
def HL:bL:=
 .block 1 (.seq (.aj [ae 7 0,⟨some 8,.call 150 [(.t 7)],none,[7]⟩,ae 6 8,wB 9 6,wC 10 6,y0 4,⟨none,.st 4 (.t 4) (.t 9),none,[4,9]⟩,ae 5 10])
 (.seq (.block 2 (.seq (.aj [ae 12 5,ae 13 12,⟨some 14,.cf 0 (.t 4),(some (13,true)),[4,13]⟩,e3 15 14 13,ej 16 13 15,ae 11 16])
 (.cond (.t 11)
 (.seq (.aj [ae 17 0,⟨some 18,.gd 4 (.t 4),none,[4]⟩,ae 19 1,⟨some 20,.call 151 [(.t 17),(.t 18),(.t 19)],none,[17,18,19]⟩])
 (.ret))
 (.seq (.aj [ae 22 5,ae 21 22])
 (.cond (.t 21)
 (.exit 1)
 (.seq (.aj [ae 24 1,b0 25 24,fW 26 25,a7 27 26,Cs 28 27,ae 23 28])
 (.cond (.t 23)
 (.seq (.aj [ae 29 0,uG 30 29])
 (.ret))
 (.skip))))))))
 (.seq (.aj [ae 31 0,⟨some 32,.call 103 [(.t 31),(.c (.int .i64 1))],none,[31]⟩])
 (.seq (.aj [ae 33 0,ae 34 1,b0 35 34,dA 36 35,a7 37 36,b0 38 33,dA 39 38,dA 40 39,⟨none,.st 1 (.t 40) (.t 37),none,[40,37]⟩])
 (.ret)))))
def HK:bL:=
 .block 0 (.loop HL)
theorem QZ:cE 108 41 [] HK:=cK Tryz.func108 (by kernel_rfl) (by kernel_rfl) rfl (by kernel_rfl) (by kernel_rfl)
def HZ:bL:=
 .seq (.aj [gD 12 11 10])
 (.seq (.cond (.t 12)
 (.skip)
 (.exit 0))
 (.seq (.block 1 (.seq (.aj [ae 13 11,iy 14 9 11,a7 15 14,ae 7 13,ae 8 15])
 (.seq (.aj [ae 16 1,ae 17 7,iy 18 16 17,a7 19 18,b0 20 19,fW 21 20,a7 22 21,ae 23 8,pa 24 22 23])
 (.cond (.t 24)
 (.seq (.aj [ae 25 0,uG 26 25])
 (.seq (.aj [eP 6])
 (.ret)))
 (.skip)))))
 (.aj [fM 27 11,ae 11 27])))
def HY:bL:=
 .seq (.aj [eP 6])
 (.seq (.seq (.aj [ae 9 2,dY 10 9,eW 11])
 (.block 0 (.loop HZ)))
 (.seq (.aj [uE 6])
 (.ret)))
theorem Q_:cE 146 28 [.t 6] HY:=cK Tryz.func146 (by kernel_rfl) (by kernel_rfl) rfl (by kernel_rfl) (by kernel_rfl)
def IW:bL:=
 .seq (.aj [eV 1 0,⟨some 2,.fz (.c .jl),none,[]⟩])
 (.seq (.aj [⟨some 3,.fn 145 [(.t 1)],none,[1]⟩,ae 2 3])
 (.ret))
theorem RJ:cE 77 4 [.t 2] IW:=cK Tryz.func77 (by kernel_rfl) (by kernel_rfl) rfl (by kernel_rfl) (by kernel_rfl)
def HX:bL:=
 .seq (.aj [ae 5 0,ae 6 1,GS 7,pd 8 5 6 7])
 (.cond (.t 8)
 (.draw [ae 9 0,a7 10 2,ae 11 1,iz 12 11,a7 13 12,b0 14 13,dA 15 14,a7 16 15,ae 17 1,pe 18 17,a7 19 18,b0 20 19,dA 21 20,a7 22 21,Ct 23 10 16 22,jX 24 9 23] [(1,[14]),(4,[14]),(7,[14]),(10,[14]),(13,[14])])
 (.skip))
theorem Q':cE 145 25 [] HX:=cK Tryz.func145 (by kernel_rfl) (by kernel_rfl) rfl (by kernel_rfl) (by kernel_rfl)
def IX:bL:=
 .seq (.aj [ng 4])
 (.seq (.aj [ae 5 0,ae 6 1,oc 7 5 6,wF 8 7,ql 9 8,ae 4 9])
 (.ret))
theorem RK:cE 78 10 [.t 4] IX:=cK Tryz.func78 (by kernel_rfl) (by kernel_rfl) rfl (by kernel_rfl) (by kernel_rfl)
def I0:bL:=
 .seq (.aj [ng 4])
 (.seq (.aj [ae 5 0,ae 6 1,⟨some 7,.bin (.int .sub) (.t 5) (.t 6),none,[5,6]⟩,wF 8 7,ql 9 8,ae 4 9])
 (.ret))
theorem RN:cE 81 10 [.t 4] I0:=cK Tryz.func81 (by kernel_rfl) (by kernel_rfl) rfl (by kernel_rfl) (by kernel_rfl)
def I1:bL:=
 .seq (.aj [ng 4])
 (.seq (.aj [ae 5 0,ae 6 1,⟨some 7,.bin (.int .mul) (.t 5) (.t 6),none,[5,6]⟩,wF 8 7,ql 9 8,ae 4 9])
 (.ret))
theorem RO:cE 82 10 [.t 4] I1:=cK Tryz.func82 (by kernel_rfl) (by kernel_rfl) rfl (by kernel_rfl) (by kernel_rfl)
def I2:bL:=
 .seq (.aj [ng 4])
 (.seq (.aj [ae 5 0,ae 6 1,sM 7 5 6,⟨some 8,.call 84 [(.t 7)],none,[7]⟩,ae 4 8])
 (.ret))
theorem RP:cE 83 9 [.t 4] I2:=cK Tryz.func83 (by kernel_rfl) (by kernel_rfl) rfl (by kernel_rfl) (by kernel_rfl)
def I4:bL:=
 .seq (.aj [ng 4])
 (.seq (.aj [ae 5 0,ae 6 1,gD 7 5 6,⟨some 8,.call 84 [(.t 7)],none,[7]⟩,ae 4 8])
 (.ret))
theorem RR:cE 85 9 [.t 4] I4:=cK Tryz.func85 (by kernel_rfl) (by kernel_rfl) rfl (by kernel_rfl) (by kernel_rfl)
def I5:bL:=
 .seq (.aj [ng 4])
 (.seq (.aj [ae 5 0,ae 6 1,⟨some 7,.bin (.int .leq) (.t 5) (.t 6),none,[5,6]⟩,⟨some 8,.call 84 [(.t 7)],none,[7]⟩,ae 4 8])
 (.ret))
theorem RS:cE 86 9 [.t 4] I5:=cK Tryz.func86 (by kernel_rfl) (by kernel_rfl) rfl (by kernel_rfl) (by kernel_rfl)
def I6:bL:=
 .seq (.aj [eV 1 0,⟨some 2,.fz (.c .jl),none,[]⟩])
 (.seq (.aj [⟨some 3,.fn 147 [(.t 1)],none,[1]⟩,ae 2 3])
 (.ret))
theorem RT:cE 87 4 [.t 2] I6:=cK Tryz.func87 (by kernel_rfl) (by kernel_rfl) rfl (by kernel_rfl) (by kernel_rfl)
def H0:bL:=
 .block 0 (.seq (.aj [ae 24 0,ae 25 1,GS 26,pd 27 24 25 26,g4 28 27,ae 23 28])
 (.cond (.t 23)
 (.skip)
 (.seq (.aj [ae 30 1,pe 31 30,a7 32 31,b0 33 32,dA 34 33,a7 35 34,Co 36 35,ae 29 36])
 (.cond (.t 29)
 (.aj [ae 37 0,⟨some 38,.call 102 [(.c (.int .i64 1)),(.c .aF)],none,[]⟩,wG 39 37 38])
 (.draw [ae 5 0,a7 6 2,ae 7 1,iz 8 7,a7 9 8,b0 10 9,dA 11 10,a7 12 11,ae 13 1,pe 14 13,a7 15 14,b0 16 15,dA 17 16,a7 18 17,Ct 19 6 12 18,wF 20 19,ql 21 20,jX 22 5 21] [(1,[14]),(4,[14]),(7,[14]),(10,[14]),(13,[14])])))))
theorem Ra:cE 147 40 [] H0:=cK Tryz.func147 (by kernel_rfl) (by kernel_rfl) rfl (by kernel_rfl) (by kernel_rfl)
def I7:bL:=
 .seq (.aj [eW 4])
 (.seq (.aj [ae 5 0,ae 6 1,⟨some 7,.bin (.int .quo) (.t 5) (.t 6),none,[5,6]⟩,ae 4 7])
 (.ret))
theorem RU:cE 88 8 [.t 4] I7:=cK Tryz.func88 (by kernel_rfl) (by kernel_rfl) rfl (by kernel_rfl) (by kernel_rfl)
def I8:bL:=
 .seq (.aj [eW 4])
 (.seq (.aj [ae 5 0,ae 6 1,⟨some 7,.bin (.int .rem) (.t 5) (.t 6),none,[5,6]⟩,ae 4 7])
 (.ret))
theorem RV:cE 89 8 [.t 4] I8:=cK Tryz.func89 (by kernel_rfl) (by kernel_rfl) rfl (by kernel_rfl) (by kernel_rfl)
def IF:bL:=
 .seq (.aj [⟨some 0,.fz (.c .hU),none,[]⟩])
 (.seq (.aj [⟨some 1,.o4 none,none,[]⟩,⟨some 2,.call 77 [(.c (.func 78 []))],none,[]⟩,⟨none,.dM .str (.t 1) (.c (.str [97,100,100])) (.t 2),none,[1,2]⟩,⟨some 3,.call 77 [(.c (.func 81 []))],none,[]⟩,⟨none,.dM .str (.t 1) (.c (.str [115,117,98])) (.t 3),none,[1,3]⟩,⟨some 4,.call 77 [(.c (.func 82 []))],none,[]⟩,⟨none,.dM .str (.t 1) (.c (.str [109,117,108])) (.t 4),none,[1,4]⟩,⟨some 5,.call 77 [(.c (.func 83 []))],none,[]⟩,⟨none,.dM .str (.t 1) (.c (.str [101,113])) (.t 5),none,[1,5]⟩,⟨some 6,.call 77 [(.c (.func 85 []))],none,[]⟩,⟨none,.dM .str (.t 1) (.c (.str [108,116])) (.t 6),none,[1,6]⟩,⟨some 7,.call 77 [(.c (.func 86 []))],none,[]⟩,⟨none,.dM .str (.t 1) (.c (.str [108,101])) (.t 7),none,[1,7]⟩,⟨some 8,.call 87 [(.c (.func 88 []))],none,[]⟩,⟨none,.dM .str (.t 1) (.c (.str [100,105,118])) (.t 8),none,[1,8]⟩,⟨some 9,.call 87 [(.c (.func 89 []))],none,[]⟩,⟨none,.dM .str (.t 1) (.c (.str [109,111,100])) (.t 9),none,[1,9]⟩,⟨none,.dM .str (.t 1) (.c (.str [110,101,103])) (.c (.func 90 [])),none,[1]⟩,⟨none,.dM .str (.t 1) (.c (.str [103,101,116,99])) (.c (.func 91 [])),none,[1]⟩,⟨none,.dM .str (.t 1) (.c (.str [112,117,116,99])) (.c (.func 92 [])),none,[1]⟩,⟨none,.dM .str (.t 1) (.c (.str [112,117,116,115])) (.c (.func 93 [])),none,[1]⟩,⟨none,.dM .str (.t 1) (.c (.str [115,105,122,101])) (.c (.func 94 [])),none,[1]⟩,⟨none,.dM .str (.t 1) (.c (.str [99,104,114])) (.c (.func 95 [])),none,[1]⟩,⟨none,.dM .str (.t 1) (.c (.str [98,121,116,101])) (.c (.func 96 [])),none,[1]⟩,⟨none,.dM .str (.t 1) (.c (.str [99,117,116])) (.c (.func 97 [])),none,[1]⟩,⟨none,.dM .str (.t 1) (.c (.str [106,111,105,110])) (.c (.func 98 [])),none,[1]⟩,⟨none,.dM .str (.t 1) (.c (.str [115,101,116])) (.c (.func 99 [])),none,[1]⟩,ae 10 1,ae 0 10])
 (.ret))
theorem RA:cE 58 11 [.t 0] IF:=cK Tryz.func58 (by kernel_rfl) (by kernel_rfl) rfl (by kernel_rfl) (by kernel_rfl)
def I':bL:=
 .seq (.aj [ae 4 0,ae 5 1,Cu 6,pd 7 4 5 6])
 (.cond (.t 7)
 (.aj [ae 8 0,ae 9 1,iz 10 9,a7 11 10,b0 12 11,dA 13 12,a7 14 13,⟨some 15,.un .neg (.t 14),none,[14]⟩,wF 16 15,ql 17 16,jX 18 8 17])
 (.skip))
theorem RW:cE 90 19 [] I':=cK Tryz.func90 (by kernel_rfl) (by kernel_rfl) rfl (by kernel_rfl) (by kernel_rfl)
def I_:bL:=
 .seq (.seq (.draw [ae 4 0,b0 5 4,dA 6 5,hl 7 6,a7 8 7,ae 9 0,b0 10 9,fW 11 10,a7 12 11,dY 13 12,⟨some 14,.bin (.int .geq) (.t 8) (.t 13),none,[8,13]⟩] [])
 (.cond (.t 14)
 (.seq (.aj [ae 15 0,⟨some 16,.call 79 [(.c (.int .i64 (-1)))],none,[]⟩,jX 17 15 16])
 (.ret))
 (.skip)))
 (.seq (.aj [ae 18 0,b0 19 18,dA 20 19,hl 21 20,a7 22 21,fM 23 22,b0 24 18,dA 25 24,hl 26 25,⟨none,.st 1 (.t 26) (.t 23),none,[26,23]⟩])
 (.draw [ae 27 0,ae 28 0,b0 29 28,fW 30 29,a7 31 30,ae 32 0,b0 33 32,dA 34 33,hl 35 34,a7 36 35,pc 37 36,iy 38 31 37,a7 39 38,⟨some 40,.hr (.int .i64) (.t 39),none,[39]⟩,ql 41 40,jX 42 27 41] [(4,[14]),(9,[14]),(12,[14]),(13,[14])]))
theorem RX:cE 91 43 [] I_:=cK Tryz.func91 (by kernel_rfl) (by kernel_rfl) rfl (by kernel_rfl) (by kernel_rfl)
def Ja:bL:=
 .seq (.aj [ae 4 0,ae 5 1,Cu 6,pd 7 4 5 6])
 (.cond (.t 7)
 (.seq (.draw [ae 8 0,ae 9 0,b0 10 9,dA 11 10,kG 12 11,a7 13 12,ae 14 1,iz 15 14,a7 16 15,b0 17 16,dA 18 17,a7 19 18,⟨some 20,.hr (.int .u8) (.t 19),none,[19]⟩,⟨some 21,.g6 1 1 [(.int .u8 0)] [(0,1,(.t 20))],none,[20]⟩,nf 22 13 21,b0 23 8,dA 24 23,kG 25 24,⟨none,.st 1 (.t 25) (.t 22),none,[25,22]⟩] [(5,[14]),(8,[14]),(11,[14]),(12,[14])])
 (.aj [ae 26 0,yZ 27,jX 28 26 27]))
 (.skip))
theorem RY:cE 92 29 [] Ja:=cK Tryz.func92 (by kernel_rfl) (by kernel_rfl) rfl (by kernel_rfl) (by kernel_rfl)
def Jb:bL:=
 .seq (.aj [ae 4 0,ae 5 1,⟨some 6,.g6 1 1 [(.int .i64 0)] [(0,1,(.c (.int .i64 2)))],none,[]⟩,pd 7 4 5 6])
 (.cond (.t 7)
 (.seq (.draw [ae 8 0,ae 9 0,b0 10 9,dA 11 10,kG 12 11,a7 13 12,ae 14 1,iz 15 14,a7 16 15,b0 17 16,hl 18 17,a7 19 18,nf 20 13 19,b0 21 8,dA 22 21,kG 23 22,⟨none,.st 1 (.t 23) (.t 20),none,[23,20]⟩] [(5,[12]),(8,[12]),(11,[12])])
 (.aj [ae 24 0,yZ 25,jX 26 24 25]))
 (.skip))
theorem RZ:cE 93 27 [] Jb:=cK Tryz.func93 (by kernel_rfl) (by kernel_rfl) rfl (by kernel_rfl) (by kernel_rfl)
def Jc:bL:=
 .seq (.aj [ae 4 0,ae 5 1,⟨some 6,.g6 1 1 [(.int .i64 0)] [(0,1,(.c (.int .i64 2)))],none,[]⟩,pd 7 4 5 6])
 (.cond (.t 7)
 (.aj [ae 8 0,ae 9 1,iz 10 9,a7 11 10,b0 12 11,hl 13 12,a7 14 13,wE 15 14,ql 16 15,jX 17 8 16])
 (.skip))
theorem R0:cE 94 18 [] Jc:=cK Tryz.func94 (by kernel_rfl) (by kernel_rfl) rfl (by kernel_rfl) (by kernel_rfl)
def Jd:bL:=
 .seq (.aj [ae 4 0,ae 5 1,Cu 6,pd 7 4 5 6])
 (.cond (.t 7)
 (.aj [ae 8 0,ae 9 1,iz 10 9,a7 11 10,b0 12 11,dA 13 12,a7 14 13,⟨some 15,.hr (.int .u8) (.t 14),none,[14]⟩,⟨some 16,.g6 1 1 [(.int .u8 0)] [(0,1,(.t 15))],none,[15]⟩,⟨some 17,.hr .str (.t 16),none,[16]⟩,⟨some 18,.call 148 [(.t 17)],none,[17]⟩,jX 19 8 18])
 (.skip))
theorem R1:cE 95 20 [] Jd:=cK Tryz.func95 (by kernel_rfl) (by kernel_rfl) rfl (by kernel_rfl) (by kernel_rfl)
def Je:bL:=
 .block 0 (.seq (.aj [ae 22 0,ae 23 1,⟨some 24,.g6 2 1 [(.int .i64 0)] [(0,1,(.c (.int .i64 2))),(1,1,(.c (.int .i64 1)))],none,[]⟩,pd 25 22 23 24,g4 26 25,ae 21 26])
 (.cond (.t 21)
 (.skip)
 (.seq (.draw [ae 28 1,pe 29 28,a7 30 29,b0 31 30,dA 32 31,a7 33 32,Cb 34 33,ae 35 34,gl 36 1 35,⟨some 37,.cl 1 (.t 36) (.c (.int .i64 1)),(some (35,false)),[36,35]⟩,ie 38 37 35,rF 39 38 35,⟨some 40,.cf 1 (.t 39),(some (35,false)),[39,35]⟩,ie 41 40 35,gl 42 1 35,y2 43 42 35,ie 44 43 35,rF 45 44 35,⟨some 46,.cf 2 (.t 45),(some (35,false)),[45,35]⟩,ie 47 46 35,y3 48 47 35,Cv 49 41 48 35,gQ 50 35 49,ae 27 50] [])
 (.cond (.t 27)
 (.aj [ae 51 0,B9 52,wG 53 51 52])
 (.draw [ae 4 0,ae 5 1,iz 6 5,a7 7 6,b0 8 7,hl 9 8,a7 10 9,ae 11 1,pe 12 11,a7 13 12,b0 14 13,dA 15 14,a7 16 15,⟨some 17,.tE (.t 10) (.t 16),none,[10,16]⟩,⟨some 18,.hr (.int .i64) (.t 17),none,[17]⟩,ql 19 18,jX 20 4 19] [(3,[15]),(6,[15]),(9,[15]),(12,[15]),(14,[15])])))))
theorem R2:cE 96 54 [] Je:=cK Tryz.func96 (by kernel_rfl) (by kernel_rfl) rfl (by kernel_rfl) (by kernel_rfl)
def Jf:bL:=
 .seq (.seq (.aj [ae 7 0,ae 8 1,⟨some 9,.g6 3 1 [(.int .i64 0)] [(0,1,(.c (.int .i64 2))),(1,1,(.c (.int .i64 1))),(2,1,(.c (.int .i64 1)))],none,[]⟩,pd 10 7 8 9,g4 11 10])
 (.cond (.t 11)
 (.ret)
 (.skip)))
 (.seq (.draw [ae 12 1,iz 13 12,a7 14 13,b0 15 14,hl 16 15,a7 17 16,ae 18 1,pe 19 18,a7 20 19,b0 21 20,dA 22 21,a7 23 22,ae 24 1,⟨some 25,.cl 1 (.t 24) (.c (.int .i64 2)),none,[24]⟩,a7 26 25,b0 27 26,dA 28 27,a7 29 28,ae 4 17,ae 5 23,ae 6 29] [])
 (.seq (.seq (.aj [ae 30 5,Cb 31 30,ae 32 31,gl 33 6 32,B' 34 33 32,gQ 35 32 34,ae 36 35,gl 37 5 36,gl 38 4 36,y3 39 38 36,Cc 40 37 39 36,gQ 41 36 40,ae 42 41,gl 43 6 42,gl 44 4 42,y3 45 44 42,gl 46 5 42,⟨some 47,.bin (.int .sub) (.t 45) (.t 46),(some (42,false)),[45,46,42]⟩,Cc 48 43 47 42,gQ 49 42 48])
 (.cond (.t 49)
 (.seq (.aj [ae 50 0,B9 51,wG 52 50 51])
 (.ret))
 (.skip)))
 (.aj [ae 53 0,ae 54 4,ae 55 5,ae 56 5,ae 57 6,oc 58 56 57,⟨some 59,.um (.t 54) (some (.t 55)) (some (.t 58)) none,none,[54,55,58]⟩,⟨some 60,.call 148 [(.t 59)],none,[59]⟩,jX 61 53 60])))
theorem R3:cE 97 62 [] Jf:=cK Tryz.func97 (by kernel_rfl) (by kernel_rfl) rfl (by kernel_rfl) (by kernel_rfl)
def Jg:bL:=
 .block 0 (.seq (.aj [ae 21 0,ae 22 1,⟨some 23,.g6 2 1 [(.int .i64 0)] [(0,1,(.c (.int .i64 2))),(1,1,(.c (.int .i64 2)))],none,[]⟩,pd 24 21 22 23,g4 25 24,ae 20 25])
 (.cond (.t 20)
 (.skip)
 (.seq (.draw [ae 27 1,iz 28 27,a7 29 28,b0 30 29,hl 31 30,a7 32 31,wE 33 32,ae 34 1,pe 35 34,a7 36 35,b0 37 36,hl 38 37,a7 39 38,wE 40 39,oc 41 33 40,⟨some 42,.bin (.int .gtr) (.t 41) (.c (.int .i64 4096)),none,[41]⟩,ae 26 42] [])
 (.cond (.t 26)
 (.aj [ae 43 0,B9 44,wG 45 43 44])
 (.draw [ae 4 0,ae 5 1,iz 6 5,a7 7 6,b0 8 7,hl 9 8,a7 10 9,ae 11 1,pe 12 11,a7 13 12,b0 14 13,hl 15 14,a7 16 15,⟨some 17,.bin (.str .add) (.t 10) (.t 16),none,[10,16]⟩,⟨some 18,.call 148 [(.t 17)],none,[17]⟩,jX 19 4 18] [(3,[14]),(6,[14]),(9,[14]),(12,[14])])))))
theorem R4:cE 98 46 [] Jg:=cK Tryz.func98 (by kernel_rfl) (by kernel_rfl) rfl (by kernel_rfl) (by kernel_rfl)
def Jh:bL:=
 .seq (.seq (.aj [ae 4 1,iz 5 4,a7 6 5,b0 7 6,fW 8 7,a7 9 8,Cs 10 9,ae 11 10,gl 12 1 11,y2 13 12 11,ie 14 13 11,rF 15 14 11,⟨some 16,.cf 1 (.t 15),(some (11,false)),[15,11]⟩,ie 17 16 11,⟨some 18,.bin (.int .neq) (.t 17) (.c (.int .i64 0)),(some (11,false)),[17,11]⟩,gQ 19 11 18,ae 20 19,gl 21 1 20,y2 22 21 20,ie 23 22 20,rF 24 23 20,⟨some 25,.cf 3 (.t 24),(some (20,false)),[24,20]⟩,ie 26 25 20,pb 27 26 20,⟨some 28,.bin (.int .neq) (.t 27) (.c (.int .i64 1)),(some (20,false)),[27,20]⟩,gQ 29 20 28])
 (.cond (.t 29)
 (.seq (.aj [ae 30 0,uG 31 30])
 (.ret))
 (.skip)))
 (.seq (.draw [ae 32 1,iz 33 32,a7 34 33,b0 35 34,od 36 35,a7 37 36,ae 38 1,pe 39 38,a7 40 39,iz 41 37,⟨none,.st 1 (.t 41) (.t 40),none,[41,40]⟩] [(2,[10]),(5,[10]),(8,[10])])
 (.aj [ae 42 0,yZ 43,jX 44 42 43]))
theorem R5:cE 99 45 [] Jh:=cK Tryz.func99 (by kernel_rfl) (by kernel_rfl) rfl (by kernel_rfl) (by kernel_rfl)
def HJ:bL:=
 .seq (.aj [gD 26 25 24])
 (.seq (.cond (.t 26)
 (.skip)
 (.exit 0))
 (.seq (.block 1 (.seq (.aj [ae 27 25,iy 28 23 25,a7 29 28,ae 7 27,ae 8 29])
 (.seq (.aj [ae 30 8,ae 31 2,b0 32 31,dA 33 32,a7 34 33,sM 35 30 34])
 (.cond (.t 35)
 (.aj [ae 36 7,ae 6 36])
 (.skip)))))
 (.aj [fM 37 25,ae 25 37])))
def HI:bL:=
 .seq (.aj [ae 9 0,b0 10 9,la 11 10,a7 12 11,b0 13 12,qi 14 13,a7 15 14,dY 16 15,ae 6 16])
 (.seq (.seq (.aj [ae 17 0,b0 18 17,la 19 18,a7 20 19,b0 21 20,qi 22 21,a7 23 22,dY 24 23,eW 25])
 (.block 0 (.loop HJ)))
 (.seq (.seq (.aj [ae 38 2,b0 39 38,fW 40 39,a7 41 40,ae 42 1,pa 43 41 42,ae 44 43,gl 45 6 44,gl 46 0 44,rF 47 46 44,⟨some 48,.cf 7 (.t 47),(some (44,false)),[47,44]⟩,ie 49 48 44,rF 50 49 44,⟨some 51,.cf 6 (.t 50),(some (44,false)),[50,44]⟩,ie 52 51 44,pb 53 52 44,Cv 54 45 53 44,gQ 55 44 54])
 (.cond (.t 55)
 (.seq (.aj [ae 56 0,uG 57 56])
 (.ret))
 (.skip)))
 (.aj [ae 58 0,ae 59 0,b0 60 59,la 61 60,a7 62 61,b0 63 62,gE 64 63,a7 65 64,ae 66 6,lH 67 65 66,b0 68 58,la 69 68,⟨none,.st 1 (.t 69) (.t 67),none,[69,67]⟩])))
theorem QY:cE 107 70 [] HI:=cK Tryz.func107 (by kernel_rfl) (by kernel_rfl) rfl (by kernel_rfl) (by kernel_rfl)
def HG:bL:=
 .seq (.aj [gD 29 28 27])
 (.seq (.cond (.t 29)
 (.skip)
 (.exit 0))
 (.seq (.block 1 (.seq (.aj [ae 30 28,ae 4 30])
 (.seq (.aj [ae 31 0,b0 32 31,la 33 32,a7 34 33,b0 35 34,gE 36 35,a7 37 36,ae 38 4,lH 39 37 38,ae 5 39])
 (.seq (.draw [ae 40 5,b0 41 40,dA 42 41,a7 43 42,ae 44 5,b0 45 44,gE 46 45,a7 47 46,⟨some 48,.cl 7 (.t 47) (.c (.int .i64 0)),none,[47]⟩,⟨some 49,.build [(.int .i64 0),(.int .i64 0),(.str []),.aF,.cq,.cq,(.bool false)] [(0,1,(.c (.int .i64 3))),(1,1,(.t 43)),(4,1,(.t 48))],none,[43,48]⟩,eV 50 49,ae 6 50] [(3,[12]),(7,[12])])
 (.seq (.aj [ae 51 3,ae 52 6,y4 53 52,nf 54 51 53,ae 3 54])
 (.draw [ae 55 0,ae 56 0,b0 57 56,oe 58 57,a7 59 58,ae 60 5,b0 61 60,hl 62 61,a7 63 62,ae 64 6,y1 65 59 63 64,b0 66 55,oe 67 66,⟨none,.st 1 (.t 67) (.t 65),none,[67,65]⟩] [(4,[10]),(8,[10])]))))))
 (.aj [fM 68 28,ae 28 68])))
def HH:bL:=
 .seq (.aj [gD 72 71 70])
 (.seq (.cond (.t 72)
 (.skip)
 (.exit 2))
 (.seq (.block 3 (.seq (.aj [iy 73 69 71,a7 74 73,ae 8 74])
 (.aj [ae 75 8,ae 76 0,b0 77 76,oe 78 77,a7 79 78,b0 80 75,qi 81 80,⟨none,.st 1 (.t 81) (.t 79),none,[81,79]⟩])))
 (.aj [fM 82 71,ae 71 82])))
def HF:bL:=
 .seq (.aj [ae 9 0,b0 10 9,la 11 10,a7 12 11,b0 13 12,gE 14 13,a7 15 14,dY 16 15,pc 17 16,ae 2 17])
 (.seq (.aj [lF 3])
 (.seq (.seq (.aj [ae 18 0,b0 19 18,la 20 19,a7 21 20,b0 22 21,gE 23 22,a7 24 23,ae 25 2,Cd 26 24 25,dY 27 26,eW 28])
 (.block 0 (.loop HG)))
 (.seq (.seq (.aj [ae 69 3,dY 70 69,eW 71])
 (.block 2 (.loop HH)))
 (.aj [ae 83 0,ae 84 0,b0 85 84,la 86 85,a7 87 86,b0 88 87,gE 89 88,a7 90 89,ae 91 2,lH 92 90 91,b0 93 83,la 94 93,⟨none,.st 1 (.t 94) (.t 92),none,[94,92]⟩]))))
theorem QX:cE 105 95 [] HF:=cK Tryz.func105 (by kernel_rfl) (by kernel_rfl) rfl (by kernel_rfl) (by kernel_rfl)
def QW:bL:=
 .seq (.aj [gD 32 31 30])
 (.seq (.cond (.t 32)
 (.skip)
 (.exit 1))
 (.seq (.block 2 (.seq (.aj [ae 33 31,iy 34 29 31,a7 35 34,ae 6 33,ae 7 35])
 (.aj [ae 36 0,ae 37 0,b0 38 37,oe 39 38,a7 40 39,ae 41 6,⟨some 42,.bin (.int .add) (.c (.int .i64 1)) (.t 41),none,[41]⟩,ae 43 7,y1 44 40 42 43,b0 45 36,oe 46 45,⟨none,.st 1 (.t 46) (.t 44),none,[46,44]⟩])))
 (.aj [fM 47 31,ae 31 47])))
def HE:bL:=
 .block 0 (.seq (.aj [ae 49 1,b0 50 49,fW 51 50,a7 52 51,⟨some 53,.bin (.int .neq) (.t 52) (.c (.int .i64 3)),none,[52]⟩,ae 48 53])
 (.cond (.t 48)
 (.aj [ae 54 0,uG 55 54])
 (.seq (.aj [ae 57 1,b0 58 57,gE 59 58,a7 60 59,g4 61 60,ae 56 61])
 (.cond (.t 56)
 (.draw [ae 62 0,ae 63 0,ae 64 1,b0 65 64,kG 66 65,a7 67 66,ae 68 1,b0 69 68,qi 70 69,a7 71 70,ae 72 1,b0 73 72,dA 74 73,a7 75 74,ae 76 2,y1 77 71 75 76,b0 78 62,la 79 78,⟨none,.st 1 (.t 79) (.t 67),none,[79,67]⟩,b0 80 63,oe 81 80,⟨none,.st 1 (.t 81) (.t 77),none,[81,77]⟩] [(5,[15,18]),(9,[15]),(13,[15])])
 (.seq (.draw [ae 8 0,ae 9 0,b0 10 9,⟨some 11,.cf 10 (.t 10),none,[10]⟩,a7 12 11,ae 13 1,b0 14 13,dA 15 14,a7 16 15,⟨some 17,.cl 8 (.t 12) (.t 16),none,[12,16]⟩,dA 18 17,b0 19 8,la 20 19,⟨none,.st 1 (.t 20) (.t 18),none,[20,18]⟩] [(4,[13]),(8,[13])])
 (.seq (.aj [ae 21 0,ae 22 2,⟨some 23,.call 152 [(.c .cq),(.c (.int .i64 0)),(.t 22)],none,[22]⟩,b0 24 21,oe 25 24,⟨none,.st 1 (.t 25) (.t 23),none,[25,23]⟩])
 (.seq (.aj [ae 26 1,b0 27 26,od 28 27,a7 29 28,dY 30 29,eW 31])
 (.block 1 (.loop QW)))))))))
theorem QV:cE 104 82 [] HE:=cK Tryz.func104 (by kernel_rfl) (by kernel_rfl) rfl (by kernel_rfl) (by kernel_rfl)
def Hz:bL:=
 .seq (.aj [gD 15 14 13])
 (.seq (.cond (.t 15)
 (.skip)
 (.exit 0))
 (.seq (.block 1 (.seq (.aj [sN 16 12 14,jy 17 16,uC 5,⟨none,.st 3 (.t 5) (.t 17),none,[5,17]⟩])
 (.seq (.aj [fW 18 5,a7 19 18])
 (.block 2 (.seq (.aj [sO 27 19,ae 26 27])
 (.cond (.t 26)
 (.draw [ae 28 3,ae 29 0,b0 30 29,oe 31 30,a7 32 31,dA 33 5,a7 34 33,⟨some 35,.call 149 [(.t 32),(.t 34)],none,[32,34]⟩,y4 36 35,nf 37 28 36,ae 3 37] [(4,[7]),(6,[7])])
 (.seq (.aj [yV 39 19,ae 38 39])
 (.cond (.t 38)
 (.aj [ae 40 3,dA 41 5,a7 42 41,ql 43 42,y4 44 43,nf 45 40 44,ae 3 45])
 (.aj [ae 20 3,hl 21 5,a7 22 21,⟨some 23,.call 148 [(.t 22)],none,[22]⟩,y4 24 23,nf 25 20 24,ae 3 25])))))))))
 (.aj [fM 46 14,ae 14 46])))
def Hy:bL:=
 .seq (.aj [lF 2])
 (.seq (.aj [lF 3])
 (.seq (.seq (.aj [ae 6 0,b0 7 6,la 8 7,a7 9 8,b0 10 9,kG 11 10,a7 12 11,dY 13 12,eW 14])
 (.block 0 (.loop Hz)))
 (.seq (.aj [ae 47 3,ae 2 47])
 (.ret))))
theorem QR:cE 100 48 [.t 2] Hy:=cK Tryz.func100 (by kernel_rfl) (by kernel_rfl) rfl (by kernel_rfl) (by kernel_rfl)
def mu:bL:=
 .seq (.draw [ae 4 0,b0 5 4,la 6 5,a7 7 6,ae 8 0,⟨some 9,.call 100 [(.t 8)],none,[8]⟩,ae 2 7,ae 3 9] [(3,[5,8])])
 (.seq (.aj [ae 10 2,b0 11 10,fW 12 11,a7 13 12])
 (.block 0 (.seq (.aj [sO 15 13,ae 14 15])
 (.cond (.t 14)
 (.aj [ae 16 0,ae 17 3,iz 18 17,a7 19 18,jX 20 16 19])
 (.seq (.seq (.aj [yV 22 13,ae 21 22])
 (.cond (.t 21)
 (.skip)
 (.aj [Cg 23 13,ae 21 23])))
 (.cond (.t 21)
 (.seq (.draw [ae 24 0,ae 25 0,b0 26 25,uF 27 26,a7 28 27,ae 29 2,b0 30 29,fW 31 30,a7 32 31,Cg 33 32,ae 34 2,b0 35 34,dA 36 35,a7 37 36,ae 38 2,b0 39 38,gE 40 39,a7 41 40,⟨some 42,.cl 7 (.t 41) (.c (.int .i64 1)),none,[41]⟩,ae 43 0,b0 44 43,oe 45 44,a7 46 45,⟨some 47,.build [(.bool false),(.int .i64 0),.cq,.cq] [(0,1,(.t 33)),(1,1,(.t 37)),(2,1,(.t 42)),(3,1,(.t 46))],none,[33,37,42,46]⟩,⟨some 48,.g6 1 4 [(.bool false),(.int .i64 0),.cq,.cq] [(0,4,(.t 47))],none,[47]⟩,⟨some 49,.app 4 (.t 28) (.t 48),none,[28,48]⟩,b0 50 24,uF 51 50,⟨none,.st 1 (.t 51) (.t 49),none,[51,49]⟩] [(4,[25]),(8,[25]),(13,[25]),(17,[25]),(22,[25])])
 (.aj [ae 52 0,ae 53 2,b0 54 53,gE 55 54,a7 56 55,⟨some 57,.cl 7 (.t 56) (.c (.int .i64 0)),none,[56]⟩,b0 58 52,la 59 58,⟨none,.st 1 (.t 59) (.t 57),none,[59,57]⟩]))
 (.seq (.aj [Ck 61 13,ae 60 61])
 (.cond (.t 60)
 (.draw [ae 62 0,b0 63 62,⟨some 64,.cf 11 (.t 63),none,[63]⟩,a7 65 64,ae 66 2,b0 67 66,od 68 67,a7 69 68,⟨some 70,.look .str .jl false (.t 65) (.t 69),none,[65,69]⟩,ae 71 0,ae 72 3,Ct 73 70 71 72] [(3,[11]),(7,[11]),(8,[11])])
 (.seq (.aj [⟨some 75,.bin (.int .eql) (.t 13) (.c (.int .i64 4)),none,[13]⟩,ae 74 75])
 (.cond (.t 74)
 (.aj [ae 76 0,ae 77 2,b0 78 77,hl 79 78,a7 80 79,ae 81 3,⟨some 82,.call 102 [(.t 80),(.t 81)],none,[80,81]⟩,jX 83 76 82])
 (.seq (.aj [⟨some 85,.bin (.int .eql) (.t 13) (.c (.int .i64 5)),none,[13]⟩,ae 84 85])
 (.cond (.t 84)
 (.seq (.seq (.draw [ae 86 3,iz 87 86,a7 88 87,b0 89 88,fW 90 89,a7 91 90,Cs 92 91,ae 93 92,gl 94 2 93,rF 95 94 93,⟨some 96,.cf 2 (.t 95),(some (93,false)),[95,93]⟩,ie 97 96 93,gl 98 3 93,y2 99 98 93,ie 100 99 93,rF 101 100 93,⟨some 102,.cf 3 (.t 101),(some (93,false)),[101,93]⟩,ie 103 102 93,pb 104 103 93,Cv 105 97 104 93,gQ 106 93 105] [])
 (.cond (.t 106)
 (.seq (.aj [ae 107 0,uG 108 107])
 (.ret))
 (.skip)))
 (.draw [ae 109 0,ae 110 3,iz 111 110,a7 112 111,b0 113 112,od 114 113,a7 115 114,ae 116 2,b0 117 116,hl 118 117,a7 119 118,iy 120 115 119,a7 121 120,jX 122 109 121] [(3,[13]),(6,[13]),(10,[13]),(12,[13])]))
 (.seq (.aj [⟨some 124,.bin (.int .eql) (.t 13) (.c (.int .i64 6)),none,[13]⟩,ae 123 124])
 (.cond (.t 123)
 (.draw [ae 125 0,ae 126 3,iz 127 126,a7 128 127,ae 129 3,pe 130 129,a7 131 130,⟨some 132,.call 104 [(.t 125),(.t 128),(.t 131)],none,[125,128,131]⟩] [(3,[7]),(6,[7])])
 (.seq (.aj [Ch 134 13,ae 133 134])
 (.cond (.t 133)
 (.draw [ae 135 0,ae 136 2,b0 137 136,dA 138 137,a7 139 138,ae 140 2,b0 141 140,gE 142 141,a7 143 142,⟨some 144,.cl 7 (.t 143) (.c (.int .i64 0)),none,[143]⟩,ae 145 0,b0 146 145,oe 147 146,a7 148 147,⟨some 149,.build [(.int .i64 0),(.int .i64 0),(.str []),.aF,.cq,.cq,(.bool false)] [(0,1,(.c (.int .i64 3))),(1,1,(.t 139)),(4,1,(.t 144)),(5,1,(.t 148))],none,[139,144,148]⟩,eV 150 149,jX 151 135 150] [(4,[16]),(8,[16]),(13,[16])])
 (.seq (.aj [⟨some 153,.bin (.int .eql) (.t 13) (.c (.int .i64 13)),none,[13]⟩,ae 152 153])
 (.cond (.t 152)
 (.aj [ae 154 0,ae 155 2,b0 156 155,hl 157 156,a7 158 157,ae 159 3,⟨some 160,.build [(.int .i64 0),(.int .i64 0),(.str []),.aF,.cq,.cq,(.bool false)] [(0,1,(.c (.int .i64 3))),(1,1,(.t 158)),(3,1,(.t 159)),(6,1,(.c (.bool true)))],none,[158,159]⟩,eV 161 160,jX 162 154 161])
 (.seq (.aj [Cf 164 13,ae 163 164])
 (.cond (.t 163)
 (.aj [ae 165 0,⟨some 166,.call 105 [(.t 165)],none,[165]⟩])
 (.seq (.aj [Ci 168 13,ae 167 168])
 (.cond (.t 167)
 (.aj [ae 169 0,ae 170 3,⟨some 171,.call 106 [(.t 169),(.t 170)],none,[169,170]⟩])
 (.seq (.aj [⟨some 173,.bin (.int .eql) (.t 13) (.c (.int .i64 9)),none,[13]⟩,ae 172 173])
 (.cond (.t 172)
 (.aj [ae 174 0,ae 175 3,iz 176 175,a7 177 176,⟨some 178,.call 107 [(.t 174),(.c (.int .i64 4)),(.t 177)],none,[174,177]⟩])
 (.seq (.aj [⟨some 180,.bin (.int .eql) (.t 13) (.c (.int .i64 10)),none,[13]⟩,ae 179 180])
 (.cond (.t 179)
 (.aj [ae 181 0,ae 182 3,iz 183 182,a7 184 183,⟨some 185,.call 107 [(.t 181),(.c (.int .i64 1)),(.t 184)],none,[181,184]⟩])
 (.seq (.aj [⟨some 187,.bin (.int .eql) (.t 13) (.c (.int .i64 12)),none,[13]⟩,ae 186 187])
 (.cond (.t 186)
 (.aj [ae 188 0,ae 189 3,iz 190 189,a7 191 190,wG 192 188 191])
 (.skip)))))))))))))))))))))))))))))
theorem np:cE 59 193 [] mu:=cK Tryz.func59 (by kernel_rfl) (by kernel_rfl) rfl (by kernel_rfl) (by kernel_rfl)
def Ip:bL:=
 .seq (.seq (.aj [ae 15 9,b0 16 15,gE 17 16,a7 18 17,g4 19 18,ae 20 19,jW 21 9 20,⟨some 22,.q9 (.t 21),(some (20,true)),[21,20]⟩,qj 23 22 20,sP 24 23 20,e3 25 24 20,jW 26 3 20,⟨some 27,.bin (.int .lss) (.t 25) (.t 26),(some (20,true)),[25,26,20]⟩,ej 28 20 27])
 (.cond (.t 28)
 (.skip)
 (.exit 0)))
 (.block 1 (.seq (.aj [ae 29 9,b0 30 29,dA 31 30,od 32 31,a7 33 32,fM 34 33,b0 35 29,dA 36 35,od 37 36,⟨none,.st 1 (.t 37) (.t 34),none,[37,34]⟩])
 (.aj [ae 38 9,⟨some 39,.call 59 [(.t 38)],none,[38]⟩])))
def Io:bL:=
 .seq (.aj [eV 4 0,uH 8])
 (.seq (.aj [ae 10 2,ae 11 1,⟨some 12,.call 58 [],none,[]⟩,⟨some 13,.build [.aF,(.int .i64 0),(.int .i64 0),(.int .i64 0),(.int .i64 0),.aF,(.bool false),.cq,.cq,.aF,.aF,.hU] [(0,1,(.t 10)),(7,1,(.t 4)),(10,1,(.t 11)),(11,1,(.t 12))],none,[10,4,11,12]⟩,eV 14 13,ae 9 14])
 (.seq (.block 0 (.loop Ip))
 (.seq (.seq (.aj [ae 40 9,b0 41 40,gE 42 41,a7 43 42,g4 44 43])
 (.cond (.t 44)
 (.aj [ae 45 9,b0 46 45,dA 47 46,fW 48 47,⟨none,.st 1 (.t 48) (.c (.int .i64 4)),none,[48]⟩])
 (.skip)))
 (.seq (.aj [ae 49 9,b0 50 49,dA 51 50,wH 52 51,⟨none,.st 5 (.t 8) (.t 52),none,[8,52]⟩])
 (.ret)))))
theorem Rq:cE 40 53 [.pv 8 5] Io:=cK Tryz.func40 (by kernel_rfl) (by kernel_rfl) rfl (by kernel_rfl) (by kernel_rfl)
def HW:bL:=
 .seq (.aj [eV 3 0,uH 6])
 (.seq (.seq (.aj [dP 7 3,⟨some 8,.call 20 [(.t 7)],none,[7]⟩,yU 9 8,ae 10 9,gl 11 2 10,B' 12 11 10,gQ 13 10 12])
 (.cond (.t 13)
 (.seq (.aj [⟨some 14,.build [(.int .i64 0),(.int .i64 0),(.int .i64 0),(.int .i64 0),.aF] [(0,1,(.c (.int .i64 5)))],none,[]⟩,⟨none,.st 5 (.t 6) (.t 14),none,[6,14]⟩])
 (.ret))
 (.skip)))
 (.seq (.aj [dP 15 3,ae 16 1,ae 17 2,⟨some 18,.call 40 [(.t 15),(.c .aF),(.t 16),(.t 17)],none,[15,16,17]⟩,⟨none,.st 5 (.t 6) (.t 18),none,[6,18]⟩])
 (.ret)))
theorem Q9:cE 13 19 [.pv 6 5] HW:=cK Tryz.func13 (by kernel_rfl) (by kernel_rfl) rfl (by kernel_rfl) (by kernel_rfl)
def mn (Y:ld) (ao h:ag) (K:fi) (aD:List aN) (w:List hN) (cz:V):Prop:=
 ∃us:List (List V),ca ao.next h Y.l_ cz w.length us.flatten∧(∀b,cz.a_ b→K b=.gj)∧us.length=w.length∧
  ∀(i:Nat) (a:hN) (u:List V),w.reverse[i]? =some a→us[i]? =some u→u.length=Y.l_∧fg u=true∧∃p,Y.y_ ao a p u∧ei h K aD p a.e
def rI (ao h:ag) (K:fi) (out:List UInt8) (bW:V):Prop:=ca ao.next h 1 bW out.length (dZ out)∧∀b,bW.a_ b→K b=.out
section
variable {Y:ld} {ao h aa:ag} {K bg:fi} {aD bq:List aN} {dJ:ni→Prop}
theorem mn.c8 {w:List hN} {cz:V} (H:mn Y ao h K aD w cz) (t:dQ ao K h aD bg aa bq dJ) (ab:¬dJ .gj) (af:¬dJ .env):mn Y ao aa bg bq w cz:=by
 obtain ⟨us,aG,az,aW,bZ⟩:=H
 refine ⟨us,ca.c8 aG t az (by simp) ab,fun b ah=>by rw [t.role b (by rw [az b ah];simp),az b ah],aW,fun i a u aL bo=>?_⟩
 obtain ⟨bB,bJ,p,a3,a4⟩:=bZ i a u aL bo
 exact ⟨bB,bJ,p,a3,a4.c8 t af⟩
theorem rI.c8 {out:List UInt8} {bW:V} (H:rI ao h K out bW) (t:dQ ao K h aD bg aa bq dJ) (ab:¬dJ .out):rI ao aa bg out bW:=
 ⟨ca.c8 H.1 t H.2 (by simp) ab,fun b ah=>by rw [t.role b (by rw [H.2 b ah];simp),H.2 b ah]⟩
theorem mn.one {w:List hN} {cz:V} (H:mn Y ao h K aD w cz):cz.one=true∧cz.cells=[cz]∧cz.ek=true:=by
 obtain ⟨us,aG,_⟩:=H;exact aG.v.one
theorem mn.len {w:List hN} {cz:V} (H:mn Y ao h K aD w cz):mT cz=some (.int .i64 w.length):=by
 obtain ⟨us,aG,_⟩:=H;exact aG.v.len
theorem rI.one {out:List UInt8} {bW:V} (H:rI ao h K out bW):bW.one=true∧bW.cells=[bW]∧bW.ek=true:=H.1.v.one
end
def gO (ao:ag) (v:V) (c:aw):Prop:=∃b off u,v=.ptr b off∧eF ao c u∧∀aa,Ext ao aa→mR 7 (aa.get b) off=some (.agg u)∧∀j,j<7→h9 (aa.get b) (off+j)=u[j]?
theorem gO.one {ao:ag} {v:V} {c:aw} (H:gO ao v c):v.one=true∧v.cells=[v]∧v.ek=true:=by
 obtain ⟨b,off,u,rfl,_⟩:=H;exact ⟨rfl,rfl,rfl⟩
theorem gO.en {ao:ag} {l:List aw} {v:V} (H:ic ao l v) {k:IntKind} {i:Nat} (ax:i<l.length):∃p,gy 7 v (.int k i)=some p∧gO ao p l[i]:=by
 obtain ⟨b,off,u,aL,bo,c6⟩:=H.rM (k:=k) ax
 exact ⟨_,aL,b,_,u,rfl,bo,c6⟩
theorem gO.open {ao:ag} {v:V} {c:aw} (H:gO ao v c):∃b off bl bs aY,v=.ptr b off∧cF ao 3 bl c.a.length (gG c.a)∧cF ao 1 bs c.t.length (cC c.t)∧ic ao c.l aY∧
 ∀aa,Ext ao aa→h9 (aa.get b) off=some (.int .i64 c.k)∧h9 (aa.get b) (off+1)=some (.int .i64 c.x)∧h9 (aa.get b) (off+2)=some (.int .i64 c.n)∧h9 (aa.get b) (off+3)=some (.str c.s)∧h9 (aa.get b) (off+4)=some bl∧h9 (aa.get b) (off+5)=some bs∧h9 (aa.get b) (off+6)=some aY:=by
 obtain ⟨b,off,u,rfl,H,L⟩:=H
 obtain ⟨bl,bs,aY,rfl,cX,ea,cQ⟩:=H.open
 refine ⟨b,off,bl,bs,aY,rfl,cX,ea,cQ,fun aa e=>?_⟩
 have q:=(L aa e).2
 exact ⟨q 0 (by omega),q 1 (by omega),q 2 (by omega),q 3 (by omega),q 4 (by omega),q 5 (by omega),q 6 (by omega)⟩
def i64 (n:Int):V:=.int .i64 n
def qt:ld where
 G5 ao v cu cN cs:=match v with
  | .int n=>cs=[.int .i64 1,.int .i64 n,.str [],.aF,.cq,.cq,.bool false]
  | .text s=>cs=[.int .i64 2,.int .i64 0,.str s,.aF,.cq,.cq,.bool false]
  | .fn x c _=>∃c1,gO ao c1 c∧cs=[.int .i64 3,.int .i64 x,.str [],.aF,c1,cN,.bool false]
  | .dt t _=>cs=[.int .i64 4,.int .i64 t,.str [],cu,.cq,.cq,.bool false]
 y_ ao a p u:=∃c1,gO ao c1 a.c∧u=[.bool a.ix,.int .i64 a.x,c1,p]
 l_:=4
 hH _ _ _:=True
 lay _ _ _ _ _ _ _ _ _ _ _:=[]
structure dc (ao h:ag) (aE:aN) (K:fi) (aD:List aN) (bp pm:V) (S:av) (steps:Int) (c1 cN cz bW:V):Prop where
 rep:hn qt ao h K aD S.st
 fq:K aE=.tO
 get:h.get aE=.ar [bp,.int .i64 S.h5,.int .i64 S.j2,.int .i64 S.read,.int .i64 steps,bW,.bool S.hF,c1,cN,cz,.aF,pm] 0 false
 co:gO ao c1 S.c
 fX:ei h K aD cN S.e
 wr:mn qt ao h K aD S.w cz
 fB:rI ao h K S.out bW
def cR (ao h:ag) (aE:aN) (K:fi) (aD:List aN) (bp pm:V) (S:av) (steps:Int):Prop:=∃c1 cN cz bW,dc ao h aE K aD bp pm S steps c1 cN cz bW
section
variable {ao h aa:ag} {aE:aN} {K bg:fi} {dJ:ni→Prop} {aD bq:List aN} {bp pm:V} {S fN:av} {steps sy:Int} {c1 cN cz bW ox iE kc m9:V}
theorem dc.next (M:dc ao h aE K aD bp pm S steps c1 cN cz bW) (fN:av) (sy:Int) (ox iE kc m9:V) (cZ:fN.st=S.st) (DL:gO ao ox fN.c) (DP:ei h K aD iE fN.e) (Ev:mn qt ao h K aD fN.w kc) (kp:rI ao h K fN.out m9):
 dc ao (h.set aE (.ar [bp,.int .i64 fN.h5,.int .i64 fN.j2,.int .i64 fN.read,.int .i64 sy,m9,.bool fN.hF,ox,iE,kc,.aF,pm] 0 false)) aE K aD bp pm fN sy ox iE kc m9:=by
 have aX:=M.rep.new aE (by rw [M.fq];simp)
 have t:dQ ao K h aD K (h.set aE (.ar [bp,.int .i64 fN.h5,.int .i64 fN.j2,.int .i64 fN.read,.int .i64 sy,m9,.bool fN.hF,ox,iE,kc,.aF,pm] 0 false)) aD (·=.tO):=dQ.x3 M.fq aX.1
 refine ⟨?_,M.fq,by rw [cM,if_pos rfl],DL,DP.c8 t (by simp),Ev.c8 t (by simp) (by simp),kp.c8 t (by simp)⟩
 rw [cZ]
 exact M.rep.c8 t (by simp) (by simp) (by simp)
theorem dc.c8 (M:dc ao h aE K aD bp pm S steps c1 cN cz bW) (t:dQ ao K h aD bg aa aD dJ) (ab:∀i,¬dJ (.val i)) (af:∀i,¬dJ (.nx i)) (aK:¬dJ .env) (bM:¬dJ .tO) (e8:¬dJ .gj) (fZ:¬dJ .out):dc ao aa aE bg aD bp pm S steps c1 cN cz bW:=by
 have hm:K aE≠.no:=by rw [M.fq];simp
 exact ⟨M.rep.c8 t ab af aK,by rw [t.role aE hm,M.fq],by rw [t.get aE hm (by rw [M.fq];exact bM),M.get],M.co,M.fX.c8 t aK,M.wr.c8 t e8 aK,M.fB.c8 t fZ⟩
theorem dc.b4 (M:dc ao h aE K aD bp pm S steps c1 cN cz bW):ao.next≤cd aE∧cd aE<h.next:=M.rep.new aE (by rw [M.fq];simp)
theorem dc.ext (M:dc ao h aE K aD bp pm S steps c1 cN cz bW) (e:Ext h aa):dc ao aa aE K aD bp pm S steps c1 cN cz bW:=by
 refine M.c8 (dJ:=fun _=>False) (dQ.Mk e (fun b ah=>(M.rep.new b ah).2) M.rep.ext.next) ?_ ?_ ?_ ?_ ?_ ?_<;>simp
theorem hn.ex {st:List dk} {Y:ld} (M:hn Y ao h K aD st) (e:Ext h aa):dQ ao K h aD K aa aD (fun _=>False):=dQ.Mk e (fun b ah=>(M.new b ah).2) M.ext.next
end
theorem Tr (h:ag) (K:fi) (aD:List aN) (n:Int) (p:V) (L:gP) (H:ei h K aD p L) (aX:n ∈ L.map Prod.fst):bR Tryz.prog 149 [p,.int .i64 n] h fun x aa=>x=eh aD (m6 L n)∧aa=h∧m6 L n<aD.length:=by
 refine Rc rfl (b9 ?_)
 unfold H3
 simp +contextual only [↓ai,aq,simprocAttr]
 refine gz (fun r aa=>aa=h∧r 1=.int .i64 n∧∃M,ei h K aD (r 0) M∧n ∈ M.map Prod.fst∧m6 M n=m6 L n) (fun r aa=>uZ h K aD (r 0)) ?_ ?_
 · exact ⟨rfl,by simp only [↓ai,a2,simprocAttr],L,by simpa only [↓ai,a2,simprocAttr] using H,aX,rfl⟩
 · rintro r aa ⟨rfl,bf,M,yT,eY,bk⟩
   unfold H4
   generalize aM:r 0=q at *
   have aB:=yT.uZ
   cases yT with
   | nil=>simp at eY
   | @cons b m j nY uI cV a1 bC aT=>
     have nH:=aT.uZ
     by_cases e:m=n
     · subst e
       simp +contextual only [bf,aM,a1,↓ai,aq,simprocAttr]
       simp only [m6,if_true] at bk
       rw [←bk]
       exact ⟨rfl,bC⟩
     · have fH:=eq_false e
       simp +contextual only [bf,aM,a1,fH,↓ai,aq,simprocAttr]
       simp only [m6,if_neg e] at bk
       simp only [List.map_cons,List.mem_cons] at eY
       refine ⟨⟨uI,aT,?_,bk⟩,?_⟩
       · rcases eY with eY | eY
         · exact absurd eY.symm e
         · exact eY
       · rw [aB,nH,List.length_cons];omega
def jU (h aa:ag) (x:V) (cs:List V):Prop:=∃b,x=.ptr b 0∧Ext h aa∧h.next≤cd b∧Old aa b∧aa.get b=.ar cs 0 false
theorem u7 (h:ag) (cs:List V):jU h (h.new (.ar cs 0 false)) (.ptr (ak h.next) 0) cs:=
 ⟨_,rfl,(Ext.refl h).new _,by rw [cA];exact Nat.le_refl _,t_,gT _⟩
theorem Gl (h:ag) (p v:V) (n:Int) (aH:p.one=true∧p.cells=[p]∧p.ek=true) (a6:v.one=true∧v.cells=[v]∧v.ek=true):bR Tryz.prog 152 [p,.int .i64 n,v] h fun x aa=>jU h aa x [.int .i64 n,v,p]:=by
 refine Rf rfl (b9 ?_)
 unfold H8
 simp +contextual only [aH.1,aH.2.1,aH.2.2,a6.1,a6.2.1,a6.2.2,↓ai,aq,simprocAttr]
 exact u7 _ _
theorem pW (h:ag) (n:Int):bR Tryz.prog 79 [.int .i64 n] h fun x aa=>jU h aa x [.int .i64 1,.int .i64 n,.str [],.aF,.cq,.cq,.bool false]:=by
 refine RL rfl (b9 ?_)
 unfold IY
 simp +contextual only [↓ai,aq,simprocAttr]
 exact u7 _ _
theorem l' (h:ag) (n:Int) (v:V) (a6:v.one=true∧v.cells=[v]∧v.ek=true):bR Tryz.prog 102 [.int .i64 n,v] h fun x aa=>jU h aa x [.int .i64 4,.int .i64 n,.str [],v,.cq,.cq,.bool false]:=by
 refine QT rfl (b9 ?_)
 unfold HC
 simp +contextual only [a6.1,a6.2.1,a6.2.2,↓ai,aq,simprocAttr]
 exact u7 _ _
theorem By (h:ag) (s:List UInt8):bR Tryz.prog 148 [.str s] h fun x aa=>jU h aa x [.int .i64 2,.int .i64 0,.str s,.aF,.cq,.cq,.bool false]:=by
 refine Rb rfl (b9 ?_)
 unfold H2
 simp +contextual only [↓ai,aq,simprocAttr]
 exact u7 _ _
theorem F7 (h:ag) (b:Bool):bR Tryz.prog 84 [.bool b] h fun x aa=>jU h aa x [.int .i64 4,.int .i64 (if b=true then 1 else 0),.str [],.aF,.cq,.cq,.bool false]:=by
 refine RQ rfl (b9 ?_)
 unfold I3
 cases b with
 | true=>
   simp +contextual only [↓ai,aq,simprocAttr]
   refine bm (l' h 1 .aF ⟨rfl,rfl,rfl⟩) ?_
   rintro x ab H
   simp +contextual only [↓ai,aq,simprocAttr]
   exact H
 | false=>
   simp +contextual only [↓ai,aq,simprocAttr]
   refine bm (l' h 0 .aF ⟨rfl,rfl,rfl⟩) ?_
   rintro x ab H
   simp +contextual only [↓ai,aq,simprocAttr]
   exact H
theorem ab2 {P:Program} (n:Int):dO.shl.run P (.int .i64 n) (.int .u64 1)=some (.int .i64 (IntKind.i64.wrap (n * 2))):=by rfl
theorem ab6 {P:Program} (n:Int):dO.shr.run P (.int .i64 n) (.int .u64 1)=some (.int .i64 (n.fdiv 2)):=by rfl
theorem adz (n:Int):(IntKind.i32.wrap (n * 2)).fdiv 2=wr n:=by
 rw [Int.fdiv_eq_ediv_of_nonneg _ (by decide)]
 unfold wr
 have:IntKind.i32.wrap (n * 2)=if n * 2 % 4294967296≥2147483648 then n * 2 % 4294967296-4294967296 else n * 2 % 4294967296:=by simp [IntKind.wrap,IntKind.bits,IntKind.signed]
 rw [this]
 split<;>omega
theorem i32_in (n:Int):-9223372036854775808≤IntKind.i32.wrap n∧IntKind.i32.wrap n≤9223372036854775807:=by
 have:IntKind.i32.wrap n=if n % 4294967296≥2147483648 then n % 4294967296-4294967296 else n % 4294967296:=by simp [IntKind.wrap,IntKind.bits,IntKind.signed]
 rw [this]
 split<;>omega
theorem yE (n:Int) (h:ag) (aX:-2305843009213693952≤n∧n≤2305843009213693952):ma Tryz.prog 80 [.int .i64 n] h (.int .i64 (wr n)) h:=by
 refine A1 (RM rfl (b9 ?_))
 unfold IZ
 have eE:IntKind.i64.wrap (n * 2)=n * 2:=wrap_i64 (by omega) (by omega)
 have di:IntKind.i64.wrap (IntKind.i32.wrap (n * 2))=IntKind.i32.wrap (n * 2):=wrap_i64 (i32_in _).1 (i32_in _).2
 simp +contextual only [ab2,ab6,eE,di,adz,↓ai,aq,simprocAttr]
section
variable {ao h:ag} {aE:aN} {K:fi} {aD:List aN} {bp pm:V} {S:av} {steps:Int}
theorem nt (M:cR ao h aE K aD bp pm S steps) (r_:Int):bR Tryz.prog 103 [.ptr aE 0,.int .i64 r_] h fun x aa=>cR ao aa aE K aD bp pm (S.ends r_) steps:=by
 obtain ⟨c1,cN,cz,bW,M⟩:=M
 have a':=M.next {S with hF:=true} steps c1 cN cz bW rfl M.co M.fX M.wr M.fB
 have M2:=a'.next (S.ends r_) steps c1 cN cz bW rfl a'.co a'.fX a'.wr a'.fB
 have g:=M.get
 have bF:=a'.get
 refine QU rfl (b9 ?_)
 unfold HD
 have ae9:=M.co.one
 simp +contextual only [g,bF,↓ai,aq,simprocAttr]
 exact ⟨_,_,_,_,M2⟩
end
end Go.Proofs.YtjbiefneffiogaaGreat
namespace Go.Proofs.YtjbiefneffiogaaGreat
open Go ba
section
variable {Y:ld} {ao h aa:ag} {K bg:fi} {aD bq:List aN} {dJ:ni→Prop}
theorem dQ.Fg {b:aN} {k:cp} (ah:K b=.no) (fm:ao.next≤cd b):dQ ao K h aD K (h.set b k) aD (fun _=>False):=by
 refine ⟨Nat.le_refl _,fun _ _=>rfl,fun _ h aa=>absurd h aa,fun c aA _=>?_,fun c aA=>?_,[],by simp⟩
 · rw [cM,if_neg]
   rintro rfl
   exact aA ah
 · rw [cM,if_neg]
   rintro rfl
   omega
theorem hn.tmp {st:List dk} (M:hn Y ao h K aD st) {b:aN} (ah:h.next≤cd b):K b=.no:=by
 by_cases q:K b=.no
 · exact q
 · have:=M.new b q;omega
theorem mn.pop {a:hN} {w:List hN} {cz:V} (bk:1≤Y.l_) (H:mn Y ao h K aD (a::w) cz):∃u p b off kc,u.length=Y.l_∧fg u=true∧Y.y_ ao a p u∧ei h K aD p a.e∧K b=.gj∧Old h b∧
 gy Y.l_ cz (.int .i64 w.length)=some (.ptr b off)∧(∀aa:ag,aa.get b=h.get b→mR Y.l_ (aa.get b) off=some (.agg u))∧
 g0 Y.l_ cz none (some (.int .i64 w.length)) none=some kc∧mn Y ao h K aD w kc:=by
 obtain ⟨us,aG,az,aW,bZ⟩:=H
 rw [List.length_cons] at aG aW
 have aS:w.length<us.length:=by omega
 have hu:=List.getElem?_eq_getElem aS
 have aT:(a::w).reverse[w.length]? =some a:=by rw [List.reverse_cons,List.getElem?_append_right (by simp)];simp
 obtain ⟨bB,bJ,p,a3,a4⟩:=bZ _ _ _ aT hu
 have kQ:∀u ∈ us,u.length=Y.l_:=by
  intro u hu
  obtain ⟨i,ax⟩:=List.getElem?_of_mem hu
  have kT:i<us.length:=(List.getElem?_eq_some_iff.1 ax).1
  have U2:i < (a::w).reverse.length:=by rw [List.length_reverse,List.length_cons];omega
  exact (bZ i _ u (List.getElem?_eq_getElem U2) ax).1
 have VX:us=us.take w.length++[us[w.length]]:=by
  conv=>lhs;rw [←List.take_append_drop w.length us]
  rw [List.drop_eq_getElem_cons aS,List.drop_eq_nil_of_le (by omega)]
 have im:us.flatten=(us.take w.length).flatten++us[w.length]:=by
  conv=>lhs;rw [VX]
  rw [List.flatten_append,List.flatten_singleton]
 have tq:(us.take w.length).flatten.length=w.length * Y.l_:=by
  have Up:∀u ∈ us.take w.length,u.length=Y.l_:=fun u hu=>kQ u (List.mem_of_mem_take hu)
  have:=Df Y.l_ (us.take w.length) Up
  rw [this,List.length_take,Nat.min_eq_left (by omega)]
 obtain ⟨b,off,aL,bo,c6⟩:=aG.v.oY (k:=.i64) (i:=w.length) (by omega)
 obtain ⟨kc,ed,fu,jc⟩:=aG.cut (k:=.i64) (m:=w.length) (by omega) (by omega)
 refine ⟨us[w.length],p,b,_,kc,bB,bJ,a3,a4,az b c6,bo.1,aL,fun aa e=>?_,ed,us.take w.length,?_,fun b ah=>az b (jc b ah),?_,?_⟩
 · have xy:=bo.gd (i:=w.length * Y.l_) (n:=Y.l_) (by rw [im,List.length_append,tq,bB];exact Nat.le_refl _)
   rw [e,xy,im,List.drop_left' tq,List.take_of_length_le (by omega)]
 · rw [im,List.take_left' tq] at fu
   exact fu
 · rw [List.length_take];omega
 · intro i c u bf bV
   rw [List.getElem?_take] at bV
   split at bV
   · rename_i ax
     refine bZ i c u ?_ bV
     rw [List.reverse_cons,List.getElem?_append_left (by rw [List.length_reverse];omega)]
     exact bf
   · cases bV
end
section
variable {ao h aa:ag} {aE:aN} {K:fi} {aD:List aN} {bp pm:V} {S:av} {steps:Int} {c1 cN cz bW:V}
theorem dc.tmp (M:dc ao h aE K aD bp pm S steps c1 cN cz bW) {b:aN} {k:cp} (ah:K b=.no) (fm:ao.next≤cd b):dc ao (h.set b k) aE K aD bp pm S steps c1 cN cz bW:=by
 refine M.c8 (dQ.Fg ah fm) ?_ ?_ ?_ ?_ ?_ ?_<;>simp
theorem ei.tmp {p:V} {L:gP} (H:ei h K aD p L) {b:aN} {k:cp} (ah:K b=.no):ei (h.set b k) K aD p L:=
 H.c8 (dQ.Fg (ao:=ag.empty) ah (Nat.zero_le _)) (by simp)
theorem ei.set {p:V} {L:gP} (H:ei h K aD p L) {b:aN} {k:cp} {r:ni} (ah:K b=r) (aT:r≠.env):ei (h.set b k) K aD p L:=
 H.c8 (dQ.x3 (ao:=ag.empty) (dJ:=fun q=>q=r) ah (Nat.zero_le _)) (fun q=>aT q.symm)
theorem ei.ext {p:V} {L:gP} {st:List dk} {Y:ld} (H:ei h K aD p L) (M:hn Y ao h K aD st) (e:Ext h aa):ei aa K aD p L:=H.c8 (M.ex e) (by simp)
theorem MO (M:cR ao h aE K aD bp pm S steps) (hw:S.w=[]):bR Tryz.prog 150 [.ptr aE 0] h fun x aa=>x=.tuple [.agg [.bool false,.int .i64 0,.cq,.cq],.bool false]∧cR ao aa aE K aD bp pm S steps:=by
 obtain ⟨c1,cN,cz,bW,M⟩:=M
 have g:=M.get
 have aB:=M.wr.len
 rw [hw,List.length_nil] at aB
 have z0:(((0:Nat):Int)=0)=True:=eq_true rfl
 have hold:Old h aE:=M.b4.2
 have gK:(ak h.next=aE)=False:=kt hold (Nat.le_refl _)
 refine H6 rfl (b9 ?_)
 unfold CV
 simp +contextual only [g,aB,gK,z0,↓ai,aq,simprocAttr]
 refine ⟨_,_,_,_,(M.ext ((Ext.refl h).new _)).c8 (dQ.Fg (M.rep.tmp ?_) ?_) ?_ ?_ ?_ ?_ ?_ ?_⟩<;>simp [cA]
 exact M.rep.ext.next
theorem MN (M:cR ao h aE K aD bp pm S steps) (du:S.w.length≤4294967296) {a:hN} {w:List hN} (hw:S.w=a::w):bR Tryz.prog 150 [.ptr aE 0] h fun x aa=>∃q p,x=.tuple [.agg [.bool a.ix,.int .i64 a.x,q,p],.bool true]∧cR ao aa aE K aD bp pm {S with w:=w} steps∧gO ao q a.c∧ei aa K aD p a.e:=by
 obtain ⟨c1,cN,cz,bW,M⟩:=M
 have g:=M.get
 have aB:=M.wr.len
 have W:=M.wr
 rw [hw] at aB W
 have hold:Old h aE:=M.b4.2
 have gK:(ak h.next=aE)=False:=kt hold (Nat.le_refl _)
 have gU:(aE=ak h.next)=False:=sg hold (Nat.le_refl _)
 have ZJ:(ak (h.next+1)=aE)=False:=kt hold (by omega)
 have Zy:(aE=ak (h.next+1))=False:=sg hold (by omega)
 obtain ⟨u,p,b,off,kc,bB,bJ,⟨q,a3,rfl⟩,a4,a5,kI,PJ,PL,a9,G6⟩:=W.pop (by decide)
 have kY:(ak h.next=b)=False:=kt kI (Nat.le_refl _)
 have dv:=a3.one
 have op:=a4.one
 have eD:=G6.one
 have b':(((w.length+1:Nat):Int)=0)=False:=eq_false (by omega)
 rw [List.length_cons] at aB
 rw [hw,List.length_cons] at du
 have eE:IntKind.i64.wrap (((w.length+1:Nat):Int)-1)=(w.length:Int):=by rw [wrap_i64 (by omega) (by omega)];omega
 refine H6 rfl (b9 ?_)
 unfold CV
 have PK:gy 4 cz (.int .i64 w.length)=some (.ptr b off):=PJ
 have PM:g0 4 cz none (some (.int .i64 w.length)) none=some kc:=a9
 have c7:mR 4 (h.get b) off=some (.agg [.bool a.ix,.int .i64 a.x,q,p]):=PL h rfl
 simp +contextual only [g,aB,gK,gU,ZJ,Zy,b',eE,PK,PM,kY,c7,dv.1,dv.2.1,op.1,op.2.1,eD.1,eD.2.1,↓ai,aq,simprocAttr]
 have aL:Ext h (((h.new (cp.ar [V.bool false,V.int IntKind.i64 0,V.cq,V.cq] 0 false)).new (cp.ar [V.bool false,V.int IntKind.i64 0,V.cq,V.cq] 0 false)).set (ak (h.next+1)) (cp.ar [V.bool a.ix,V.int IntKind.i64 a.x,q,p] 0 false)):=(((Ext.refl h).new _).new _).set (by omega) _
 have cm:=M.ext aL
 have c0:=cm.next {S with w:=w} steps c1 cN kc bW rfl cm.co cm.fX (G6.c8 (M.rep.ex aL) (by simp) (by simp)) cm.fB
 have lr:K (ak h.next)=.no:=M.rep.tmp (by rw [cA];exact Nat.le_refl _)
 exact ⟨q,p,rfl,⟨_,_,_,_,c0.tmp lr (by rw [cA];exact M.rep.ext.next)⟩,a3,((a4.ext M.rep aL).set M.fq (by simp)).tmp lr⟩
theorem hn.role {Y:ld} {st:List dk} (M:hn Y ao h K aD st) (e:Ext h aa) (p:aN→Prop) (r:ni) (t:List aN) (aH:∀b,p b→h.next≤cd b∧Old aa b):dQ ao K h aD (mf K p r) aa (aD++t) (fun _=>False):=by
 refine ⟨e.next,fun b ah=>?_,fun b ah eI=>?_,fun b ah _=>e.get b (M.new b ah).2,fun b ah=>e.get b (Nat.lt_of_lt_of_le ah M.ext.next),t,rfl⟩
 · refine qn fun q=>ah (M.tmp (aH b q).1)
 · by_cases q:p b
   · exact aH b q
   · rw [qn q] at eI;exact absurd ah eI
theorem dc.env (M:dc ao h aE K aD bp pm S steps c1 cN cz bW) (e:Ext h aa) {b:aN} (ah:h.next≤cd b) (bt:Old aa b) {x:Int} {j:Nat} {p:V} {L:gP} (a1:aa.get b=.ar [.int .i64 x,eh aD j,p] 0 false) (aH:ei h K aD p L) (bC:j<aD.length):
 ∃bg,dc ao aa aE bg aD bp pm S steps c1 cN cz bW∧ei aa bg aD (.ptr b 0) ((x,j)::L)∧dQ ao K h aD bg aa aD (fun _=>False):=by
 have t:=M.rep.role e (fun q=>q=b) .env [] (fun q aM=>by subst aM;exact ⟨ah,bt⟩)
 rw [List.append_nil] at t
 refine ⟨mf K (fun q=>q=b) .env,?_,.cons (rG rfl) a1 bC (aH.c8 t id),t⟩
 refine M.c8 t ?_ ?_ ?_ ?_ ?_ ?_<;>simp
theorem Ki (M:cR ao h aE K aD bp pm S steps) {a:hN} {q p:V} {j:Nat} (aM:gO ao q a.c) (aH:ei h K aD p a.e) (bC:j<aD.length):bR Tryz.prog 151 [.ptr aE 0,.agg [.bool a.ix,.int .i64 a.x,q,p],eh aD j] h fun x aa=>∃bg,cR ao aa aE bg aD bp pm {S with c:=a.c,e:=(a.x,j)::a.e} steps:=by
 obtain ⟨c1,cN,cz,bW,M⟩:=M
 have g:=M.get
 have hold:Old h aE:=M.b4.2
 have gK:(ak h.next=aE)=False:=kt hold (Nat.le_refl _)
 have gU:(aE=ak h.next)=False:=sg hold (Nat.le_refl _)
 have dv:=aM.one
 have op:=aH.one
 have b5:Ext h (h.new (.ar [.bool a.ix,.int .i64 a.x,q,p] 0 false)):=(Ext.refl h).new _
 have kP:(h.new (.ar [.bool a.ix,.int .i64 a.x,q,p] 0 false)).get (ak h.next)=.ar [.bool a.ix,.int .i64 a.x,q,p] 0 false:=gT _
 refine Re rfl (b9 ?_)
 unfold H7
 simp +contextual only [g,gK,gU,dv.1,dv.2.1,op.1,op.2.1,↓ai,aq,simprocAttr]
 refine bm (Gl _ p (eh aD j) a.x op ⟨rfl,rfl,rfl⟩) ?_
 rintro x ab ⟨b,rfl,aL,cJ,ct,eQ⟩
 have Dr:ab.get (ak h.next)=.ar [.bool a.ix,.int .i64 a.x,q,p] 0 false:=by rw [aL.get _ t_];exact kP
 have bF:ab.get aE=_:=(aL.get _ (b5.b4 hold)).trans ((b5.get _ hold).trans g)
 simp +contextual only [g,bF,kP,Dr,gK,gU,dv.1,dv.2.1,op.1,op.2.1,↓ai,aq,simprocAttr]
 have bo:Ext h ab:=b5.trans aL
 obtain ⟨bg,a',hI,t⟩:=M.env bo (b:=b) (by have:=b5.next;omega) ct eQ aH bC
 have M2:=a'.next {S with c:=a.c} steps q cN cz bW rfl aM a'.fX a'.wr a'.fB
 have cm:=M2.next {S with c:=a.c,e:=(a.x,j)::a.e} steps q (.ptr b 0) cz bW rfl aM (hI.set a'.fq (by simp)) M2.wr M2.fB
 exact ⟨bg,_,_,_,_,cm⟩
noncomputable def ru (h:ag) (aE:aN):Nat:=match h9 (h.get aE) 9 with
 | some v=>match mT v with
   | some (.int _ n)=>n.toNat
   | _=>0
 | none=>0
theorem dc.ru (M:dc ao h aE K aD bp pm S steps c1 cN cz bW):ru h aE=S.w.length:=by
 unfold Go.Proofs.YtjbiefneffiogaaGreat.ru
 rw [M.get,sd]
 simp only [List.getElem?_cons_succ,List.getElem?_cons_zero,M.wr.len,Int.toNat_natCast]
set_option maxHeartbeats 1000000 in
theorem kB (M:cR ao h aE K aD bp pm S steps) (du:S.w.length≤4294967296) {j:Nat} (bC:j<aD.length):bR Tryz.prog 101 [.ptr aE 0,eh aD j] h fun x aa=>∃bg,cR ao aa aE bg aD bp pm (S.l9 j) steps:=by
 refine QS rfl (b9 ?_)
 unfold HA
 simp +contextual only [↓ai,aq,simprocAttr]
 refine gz (fun r aa=>r 0=.ptr aE 0∧r 1=eh aD j∧∃w,cR ao aa aE K aD bp pm {S with w:=w} steps∧w.length≤4294967296∧S.qa j w=S.l9 j) (fun r aa=>Go.Proofs.YtjbiefneffiogaaGreat.ru aa aE) ?_ ?_
 · exact ⟨by simp only [↓ai,a2,simprocAttr],by simp only [↓ai,a2,simprocAttr],S.w,M,du,rfl⟩
 · rintro r aa ⟨cj,bf,w,M,du,bk⟩
   unfold HB
   obtain ⟨_,_,_,_,gF⟩:=M
   have ts:=gF.ru
   cases w with
   | nil=>
     simp +contextual only [cj,bf,↓ai,aq,simprocAttr]
     refine bm (MO ⟨_,_,_,_,gF⟩ rfl) ?_
     rintro x ab ⟨rfl,a'⟩
     obtain ⟨_,_,_,_,a'⟩:=a'
     have bF:=a'.get
     have hold:Old ab aE:=a'.b4.2
     have gK:(ak ab.next=aE)=False:=kt hold (Nat.le_refl _)
     have gU:(aE=ak ab.next)=False:=sg hold (Nat.le_refl _)
     have M2:=(a'.ext ((Ext.refl ab).new (.ar [.bool false,.int .i64 0,.cq,.cq] 0 false))).tmp (b:=ak ab.next) (k:=.ar [.bool false,.int .i64 0,.cq,.cq] 0 false) (a'.rep.tmp (by rw [cA];exact Nat.le_refl _)) (by rw [cA];exact a'.rep.ext.next)
     simp +contextual only [cj,bf,gK,gU,↓ai,aq,simprocAttr]
     refine bm (nt ⟨_,_,_,_,M2⟩ 0) ?_
     rintro x af cm
     simp +contextual only [cj,bf,↓ai,aq,simprocAttr]
     rw [←bk]
     exact ⟨K,cm⟩
   | cons a w=>
     simp +contextual only [cj,bf,↓ai,aq,simprocAttr]
     refine bm (MN ⟨_,_,_,_,gF⟩ du rfl) ?_
     rintro x ab ⟨q,p,rfl,a',aM,aH⟩
     obtain ⟨_,_,_,_,a'⟩:=a'
     have bF:=a'.get
     have hold:Old ab aE:=a'.b4.2
     have gK:(ak ab.next=aE)=False:=kt hold (Nat.le_refl _)
     have gU:(aE=ak ab.next)=False:=sg hold (Nat.le_refl _)
     have dv:=aM.one
     have op:=aH.one
     have lr:K (ak ab.next)=.no:=a'.rep.tmp (by rw [cA];exact Nat.le_refl _)
     have aL:Ext ab (ab.new (.ar [.bool false,.int .i64 0,.cq,.cq] 0 false)):=(Ext.refl ab).new _
     have M2:=(a'.ext aL).tmp (b:=ak ab.next) (k:=.ar [.bool a.ix,.int .i64 a.x,q,p] 0 false) lr (by rw [cA];exact a'.rep.ext.next)
     have iL:ei ((ab.new (.ar [.bool false,.int .i64 0,.cq,.cq] 0 false)).set (ak ab.next) (.ar [.bool a.ix,.int .i64 a.x,q,p] 0 false)) K aD p a.e:=(aH.ext a'.rep aL).tmp lr
     cases bH:a.ix with
     | false=>
       rw [bH] at M2 iL
       simp +contextual only [cj,bf,gK,gU,bH,dv.1,dv.2.1,op.1,op.2.1,↓ai,aq,simprocAttr]
       have G:=Ki ⟨_,_,_,_,M2⟩ aM iL bC
       rw [bH] at G
       refine bm G ?_
       rintro x af ⟨bg,cm⟩
       simp +contextual only [cj,bf,↓ai,aq,simprocAttr]
       rw [←bk]
       simp only [av.qa,bH]
       exact ⟨bg,cm⟩
     | true=>
       rw [bH] at M2 iL
       simp +contextual only [cj,bf,gK,gU,bH,dv.1,dv.2.1,op.1,op.2.1,↓ai,aq,simprocAttr]
       simp only [List.length_cons] at du ts
       refine ⟨⟨w,⟨_,_,_,_,M2⟩,by omega,?_⟩,?_⟩
       · rw [←bk];simp only [av.qa,bH,if_true]
       · rw [ts,M2.ru];simp only;omega
end
end Go.Proofs.YtjbiefneffiogaaGreat
namespace Go.Proofs.YtjbiefneffiogaaGreat
open Go ba
def e':dk→Int
 | .int _=>1
 | .text _=>2
 | .fn _ _ _=>3
 | .dt _ _=>4
def g_:dk→Int
 | .int n=>n
 | .text _=>0
 | .fn x _ _=>x
 | .dt t _=>t
def iV:dk→List UInt8
 | .text s=>s
 | _=>[]
section
variable {ao h aa:ag} {aE:aN} {K:fi} {aD:List aN} {bp pm:V} {S:av} {steps:Int} {c1 cN cz bW:V}
theorem av.OC {S:av} {j:Nat} (bC:j<S.st.length):S.st[j]? =some (S.val j):=by
 unfold av.val
 rw [List.getD_eq_getElem?_getD,List.getElem?_eq_getElem bC];rfl
theorem dc.val (M:dc ao h aE K aD bp pm S steps c1 cN cz bW) {j:Nat} (bC:j<aD.length):∃cu hP ly,h.get (e6 aD j)=.ar [.int .i64 (e' (S.val j)),.int .i64 (g_ (S.val j)),.str (iV (S.val j)),cu,hP,ly,.bool false] 0 false∧K (e6 aD j)=.val j∧
 sI ao h K aD j (S.val j) cu∧∀x c e,S.val j=.fn x c e→gO ao hP c∧ei h K aD ly e:=by
 have DY:j<S.st.length:=by rw [←M.rep.len];exact bC
 obtain ⟨k,cu,cN,cs,g,v,f,e⟩:=M.rep.val j _ (av.OC DY)
 generalize a6:S.val j=CG at *
 cases CG with
 | int n=>cases v;exact ⟨_,_,_,g,k,trivial,fun _ _ _ q=>by cases q⟩
 | text s=>cases v;exact ⟨_,_,_,g,k,trivial,fun _ _ _ q=>by cases q⟩
 | fn x c L=>obtain ⟨ox,aG,rfl⟩:=v;exact ⟨_,_,_,g,k,trivial,fun _ _ _ q=>by cases q;exact ⟨aG,e⟩⟩
 | dt t bw=>cases v;exact ⟨_,_,_,g,k,f,fun _ _ _ q=>by cases q⟩
theorem dc.wS (M:dc ao h aE K aD bp pm S steps c1 cN cz bW) {j:Nat} (bC:j<aD.length):Old h (e6 aD j)∧e6 aD j≠aE:=by
 obtain ⟨_,_,_,_,k,_⟩:=M.val bC
 refine ⟨(M.rep.new _ (by rw [k];simp)).2,fun q=>?_⟩
 have:=M.fq
 rw [←q,k] at this
 cases this
set_option maxHeartbeats 1000000 in
theorem ri (M:cR ao h aE K aD bp pm S steps) (du:S.w.length≤4294967296) {j:Nat} (bC:j<aD.length):bR Tryz.prog 108 [.ptr aE 0,eh aD j] h fun x aa=>∃bg,cR ao aa aE bg aD bp pm (S.o8 j) steps:=by
 refine QZ rfl (b9 ?_)
 unfold HK
 simp +contextual only [↓ai,aq,simprocAttr]
 refine gz (fun r aa=>r 0=.ptr aE 0∧r 1=eh aD j∧∃w,cR ao aa aE K aD bp pm {S with w:=w} steps∧w.length≤4294967296∧S.k5 j w=S.o8 j) (fun r aa=>Go.Proofs.YtjbiefneffiogaaGreat.ru aa aE) ?_ ?_
 · exact ⟨by simp only [↓ai,a2,simprocAttr],by simp only [↓ai,a2,simprocAttr],S.w,M,du,rfl⟩
 · rintro r aa ⟨cj,bf,w,M,du,bk⟩
   unfold HL
   obtain ⟨_,_,_,_,gF⟩:=M
   have ts:=gF.ru
   cases w with
   | nil=>
     simp +contextual only [cj,bf,↓ai,aq,simprocAttr]
     refine bm (MO ⟨_,_,_,_,gF⟩ rfl) ?_
     rintro x ab ⟨rfl,a'⟩
     obtain ⟨_,_,_,_,a'⟩:=a'
     have bF:=a'.get
     have hold:Old ab aE:=a'.b4.2
     have gK:(ak ab.next=aE)=False:=kt hold (Nat.le_refl _)
     have gU:(aE=ak ab.next)=False:=sg hold (Nat.le_refl _)
     have M2:=(a'.ext ((Ext.refl ab).new (.ar [.bool false,.int .i64 0,.cq,.cq] 0 false))).tmp (b:=ak ab.next) (k:=.ar [.bool false,.int .i64 0,.cq,.cq] 0 false) (a'.rep.tmp (by rw [cA];exact Nat.le_refl _)) (by rw [cA];exact a'.rep.ext.next)
     obtain ⟨cu,hP,ly,iG,sc,_,_⟩:=a'.val bC
     have Lr:(ak ab.next=e6 aD j)=False:=kt (a'.wS bC).1 (Nat.le_refl _)
     have tr:av.val {S with w:=[]} j=S.val j:=rfl
     rw [tr] at iG
     have aH:eh aD j=.ptr (e6 aD j) 0:=rfl
     rw [aH] at bf
     by_cases bM:e' (S.val j)=4
     · have oI:=eq_true bM
       simp +contextual only [cj,bf,gK,gU,iG,Lr,oI,bM,↓ai,aq,simprocAttr]
       refine bm (nt ⟨_,_,_,_,M2⟩ 1) ?_
       rintro x af ⟨_,_,_,_,cm⟩
       have b6:=cm.get
       obtain ⟨_,_,_,Km,_⟩:=cm.val bC
       have Wc:av.val (av.ends {S with w:=[]} 1) j=S.val j:=rfl
       rw [Wc] at Km
       simp +contextual only [cj,bf,b6,Km,↓ai,aq,simprocAttr]
       rw [←bk]
       cases a6:S.val j with
       | dt t bw=>
         simp only [av.k5,a6]
         have c0:=cm.next {av.ends {S with w:=[]} 1 with j2:=t} steps _ _ _ _ rfl cm.co cm.fX cm.wr cm.fB
         exact ⟨K,_,_,_,_,c0⟩
       | int n=>rw [a6] at bM;cases bM
       | text n=>rw [a6] at bM;cases bM
       | fn _ _ _=>rw [a6] at bM;cases bM
     · have oI:=eq_false bM
       simp +contextual only [cj,bf,gK,gU,iG,Lr,oI,↓ai,aq,simprocAttr]
       refine bm (nt ⟨_,_,_,_,M2⟩ 6) ?_
       rintro x af cm
       simp +contextual only [cj,bf,↓ai,aq,simprocAttr]
       rw [←bk]
       cases a6:S.val j with
       | dt t bw=>rw [a6] at bM;exact absurd rfl bM
       | int n=>simp only [av.k5,a6];exact ⟨K,cm⟩
       | text n=>simp only [av.k5,a6];exact ⟨K,cm⟩
       | fn _ _ _=>simp only [av.k5,a6];exact ⟨K,cm⟩
   | cons a w=>
     simp +contextual only [cj,bf,↓ai,aq,simprocAttr]
     refine bm (MN ⟨_,_,_,_,gF⟩ du rfl) ?_
     rintro x ab ⟨q,p,rfl,a',aM,aH⟩
     obtain ⟨_,_,_,_,a'⟩:=a'
     have bF:=a'.get
     have hold:Old ab aE:=a'.b4.2
     have gK:(ak ab.next=aE)=False:=kt hold (Nat.le_refl _)
     have gU:(aE=ak ab.next)=False:=sg hold (Nat.le_refl _)
     have dv:=aM.one
     have op:=aH.one
     have lr:K (ak ab.next)=.no:=a'.rep.tmp (by rw [cA];exact Nat.le_refl _)
     have aL:Ext ab (ab.new (.ar [.bool false,.int .i64 0,.cq,.cq] 0 false)):=(Ext.refl ab).new _
     have M2:=(a'.ext aL).tmp (b:=ak ab.next) (k:=.ar [.bool a.ix,.int .i64 a.x,q,p] 0 false) lr (by rw [cA];exact a'.rep.ext.next)
     have iL:ei ((ab.new (.ar [.bool false,.int .i64 0,.cq,.cq] 0 false)).set (ak ab.next) (.ar [.bool a.ix,.int .i64 a.x,q,p] 0 false)) K aD p a.e:=(aH.ext a'.rep aL).tmp lr
     cases bH:a.ix with
     | true=>
       rw [bH] at M2 iL
       simp +contextual only [cj,bf,gK,gU,bH,dv.1,dv.2.1,op.1,op.2.1,↓ai,aq,simprocAttr]
       have G:=Ki ⟨_,_,_,_,M2⟩ aM iL bC
       rw [bH] at G
       refine bm G ?_
       rintro x af ⟨bg,cm⟩
       simp +contextual only [cj,bf,↓ai,aq,simprocAttr]
       rw [←bk]
       simp only [av.k5,bH]
       exact ⟨bg,cm⟩
     | false=>
       rw [bH] at M2 iL
       simp +contextual only [cj,bf,gK,gU,bH,dv.1,dv.2.1,op.1,op.2.1,↓ai,aq,simprocAttr]
       simp only [List.length_cons] at du ts
       refine ⟨⟨w,⟨_,_,_,_,M2⟩,by omega,?_⟩,?_⟩
       · rw [←bk];simp only [av.k5,bH];rfl
       · rw [ts,M2.ru];simp only;omega
end
end Go.Proofs.YtjbiefneffiogaaGreat
namespace Go.Proofs.YtjbiefneffiogaaGreat
open Go ba
def e_ (S:av):List Nat→List Int→Bool
 | _,[]=>true
 | [],_::_=>false
 | j::bd,k::ay=>decide (e' (S.val j)=k)&&e_ S bd ay
def nZ:dk→Option (List V)
 | .int n=>some [.int .i64 1,.int .i64 n,.str [],.aF,.cq,.cq,.bool false]
 | .text s=>some [.int .i64 2,.int .i64 0,.str s,.aF,.cq,.cq,.bool false]
 | .dt t []=>some [.int .i64 4,.int .i64 t,.str [],.aF,.cq,.cq,.bool false]
 | _=>none
def fV (h:ag) (aD:List aN) (bd:List Nat) (aY:V):Prop:=cF h 1 aY bd.length (bd.map (eh aD))∧∀j ∈ bd,j<aD.length
theorem fV.ext {h aa:ag} {aD:List aN} {bd:List Nat} {aY:V} (H:fV h aD bd aY) (e:Ext h aa):fV aa aD bd aY:=⟨H.1.ext e,H.2⟩
theorem fV.at {h:ag} {aD:List aN} {bd:List Nat} {aY:V} (H:fV h aD bd aY) {k:IntKind} {i:Nat} (ax:i<bd.length):∃b o,gy 1 aY (.int k i)=some (.ptr b o)∧(∀aa,Ext h aa→h9 (aa.get b) o=some (eh aD (bd.getD i 0)))∧bd.getD i 0<aD.length:=by
 obtain ⟨b,o,aL,bo⟩:=H.1.cl (k:=k) ax
 refine ⟨b,_,aL,fun aa e=>?_,?_⟩
 · rw [Nat.mul_one,(bo.ext e).dq (by rw [List.length_map];exact ax)]
   simp [List.getD_eq_getElem?_getD,List.getElem?_eq_getElem ax]
 · rw [List.getD_eq_getElem?_getD,List.getElem?_eq_getElem ax];exact H.2 _ (List.getElem_mem ax)
structure Ok (S:av):Prop where
 ints:∀j n,S.val j=.int n→-1073741824≤n∧n≤1073741823
 texts:∀j s,S.val j=.text s→s.length≤4096
 w:S.w.length≤4294967296
 out:S.out.length≤8589934592
section
variable {ao h aa:ag} {aE:aN} {K:fi} {aD:List aN} {bp pm:V} {S:av} {steps:Int} {c1 cN cz bW:V}
theorem pQ (M:cR ao h aE K aD bp pm S steps) {bd:List Nat} {aY:V} (A:fV h aD bd aY) {ay:List Int} {Gh:V} (gk:cF h 1 Gh ay.length (cC ay)) (aB:ay.length≤bd.length) (bk:ay.length≤1000):
 bR Tryz.prog 146 [.ptr aE 0,aY,Gh] h fun x aa=>x=.bool (e_ S bd ay)∧(e_ S bd ay=true→aa=h)∧(e_ S bd ay=false→cR ao aa aE K aD bp pm S.gM steps):=by
 refine Q_ rfl (b9 ?_)
 unfold HY
 simp +contextual only [gk.len,↓ai,aq,simprocAttr]
 refine gz (fun r aa=>aa=h∧r 0=.ptr aE 0∧r 1=aY∧r 9=Gh∧r 10=.int .i64 ay.length∧∃i:Nat,r 11=.int .i64 i∧i≤ay.length∧e_ S bd ay=e_ S (bd.drop i) (ay.drop i)) (fun r aa=>ay.length - (r 11).hf) ?_ ?_
 · exact ⟨rfl,by simp only [↓ai,a2,simprocAttr],by simp only [↓ai,a2,simprocAttr],by simp only [↓ai,a2,simprocAttr],by simp only [↓ai,a2,simprocAttr],0,by simp only [↓ai,a2,simprocAttr]<;>rfl,by omega,rfl⟩
 · rintro r aa ⟨rfl,cj,bf,gh,hW,i,jr,ax,b7⟩
   unfold HZ
   by_cases aS:i<ay.length
   · have bP:((i:Int) < (ay.length:Int))=True:=eq_true (by omega)
     obtain ⟨cJ,ff,eZ,dq,bC⟩:=A.at (k:=.i64) (i:=i) (by omega)
     obtain ⟨ct,fT,lx,o0⟩:=ints_at gk (k:=.i64) aS
     have ES:=dq aa (Ext.refl _)
     have gF:=M
     obtain ⟨_,_,_,_,M⟩:=M
     obtain ⟨cu,hP,ly,iG,_⟩:=M.val bC
     have aH:eh aD (bd.getD i 0)=.ptr (e6 aD (bd.getD i 0)) 0:=rfl
     rw [aH] at ES
     rw [List.drop_eq_getElem_cons aS,List.drop_eq_getElem_cons (show i<bd.length by omega)] at b7
     simp only [e_] at b7
     have td:bd[i]=bd.getD i 0:=by rw [List.getD_eq_getElem?_getD,List.getElem?_eq_getElem (by omega)];rfl
     rw [td] at b7
     have w:=hg aS (by omega)
     by_cases al:e' (S.val (bd.getD i 0))=ay[i]
     · have eK:=eq_true al
       simp +contextual only [cj,bf,gh,hW,jr,bP,eZ,lx,o0,ES,iG,eK,w,↓ai,aq,simprocAttr]
       rw [decide_eq_true al,Bool.true_and] at b7
       exact ⟨⟨i+1,rfl,aS,b7⟩,by omega⟩
     · have eK:=eq_false al
       simp +contextual only [cj,bf,gh,hW,jr,bP,eZ,lx,o0,ES,iG,eK,w,↓ai,aq,simprocAttr]
       refine bm (nt gF 6) ?_
       rintro x af cm
       simp +contextual only [cj,bf,↓ai,aq,simprocAttr]
       rw [decide_eq_false al,Bool.false_and] at b7
       rw [b7]
       exact ⟨rfl,(by intro q;cases q),fun _=>cm⟩
   · have bP:((i:Int) < (ay.length:Int))=False:=eq_false (by omega)
     simp +contextual only [cj,bf,gh,hW,jr,bP,↓ai,aq,simprocAttr]
     rw [List.drop_eq_nil_of_le (show ay.length≤i by omega)] at b7
     have:e_ S bd ay=true:=by rw [b7];cases bd.drop i<;>rfl
     rw [this]
     exact ⟨rfl,fun _=>trivial,(by intro q;cases q)⟩
theorem dc.make (M:dc ao h aE K aD bp pm S steps c1 cN cz bW) {x:V} {cs:List V} (F:jU h aa x cs) {v:dk} (a6:nZ v=some cs):
 ∃bg bq,dc ao aa aE bg bq bp pm (S.fa v) steps c1 cN cz bW∧x=eh bq S.st.length∧S.st.length<bq.length∧dQ ao K h aD bg aa bq (fun _=>False):=by
 obtain ⟨b,rfl,e,ah,bt,a1⟩:=F
 have t:=M.rep.role e (fun q=>q=b) (.val S.st.length) [b] (fun q aM=>by subst aM;exact ⟨ah,bt⟩)
 have oL:e6 (aD++[b]) S.st.length=b:=by
  unfold e6
  rw [List.getD_eq_getElem?_getD,List.getElem?_append_right (by rw [M.rep.len];exact Nat.le_refl _),M.rep.len,Nat.sub_self]
  rfl
 have ey:hn qt ao aa (mf K (fun q=>q=b) (.val S.st.length)) (aD++[b]) (S.fa v).st:=by
  refine M.rep.push t (by simp) (by simp) (by simp) ?_
  refine ⟨by rw [oL];exact rG rfl,.aF,.cq,cs,by rw [oL];exact a1,?_,?_,?_⟩
  · cases v with
    | int n=>simp only [nZ,Option.some.injEq] at a6;exact a6.symm
    | text n=>simp only [nZ,Option.some.injEq] at a6;exact a6.symm
    | fn _ _ _=>cases a6
    | dt t bw=>cases bw<;>simp only [nZ,Option.some.injEq,reduceCtorEq] at a6;exact a6.symm
  · cases v<;>first | trivial | skip
    rename_i t bw
    cases bw<;>simp only [nZ,Option.some.injEq,reduceCtorEq] at a6
    exact ⟨⟨rfl,rfl⟩,fun b q=>q.elim,fun j q=>by cases q⟩
  · cases v<;>first | trivial | cases a6
 have hm:K aE≠.no:=by rw [M.fq];simp
 have E:=M.fX.c8 t id
 have W:=M.wr.c8 t id id
 have O:=M.fB.c8 t id
 refine ⟨_,_,⟨ey,by rw [t.role aE hm,M.fq],by rw [t.get aE hm id,M.get];rfl,M.co,E,W,O⟩,by unfold eh;rw [oL],by rw [List.length_append,M.rep.len];simp,t⟩
theorem Ok.fa (H:Ok S) {v:dk} (ab:∀n,v=.int n→-1073741824≤n∧n≤1073741823) (af:∀s,v=.text s→s.length≤4096):Ok (S.fa v):=by
 have key:∀j,(S.fa v).val j=S.val j∨(S.fa v).val j=v:=by
  intro j
  simp only [av.val,av.fa,List.getD_eq_getElem?_getD]
  by_cases q:j<S.st.length
  · rw [List.getElem?_append_left q];exact .inl rfl
  · by_cases az:j=S.st.length
    · subst az;right;simp
    · left;rw [List.getElem?_eq_none (by simp;omega),List.getElem?_eq_none (by omega)]
 refine ⟨fun j n q=>?_,fun j s q=>?_,H.w,H.out⟩
 · rcases key j with k | k
   · exact H.ints j n (k ▸ q)
   · exact ab n (k ▸ q)
 · rcases key j with k | k
   · exact H.texts j s (k ▸ q)
   · exact af s (k ▸ q)
end
end Go.Proofs.YtjbiefneffiogaaGreat
namespace Go.Proofs.YtjbiefneffiogaaGreat
open Go ba
theorem pM (h:ag) (l:List Int):cF (h.new (.ar (cC l) 0 false)) 1 (.slice (ak h.next) 0 l.length l.length) l.length (cC l):=by
 refine ⟨by rw [j6,Nat.mul_one],rfl,dC (by rw [cH];omega),cC l,.inr ⟨0,false,by rw [gT]⟩,by omega,by simp⟩
theorem nR {v:dk} (h:e' v=1):∃n,v=.int n:=by cases v<;>simp only [e'] at h<;>first | exact ⟨_,rfl⟩ | omega
theorem vz {v:dk} (h:e' v=2):∃n,v=.text n:=by cases v<;>simp only [e'] at h<;>first | exact ⟨_,rfl⟩ | omega
theorem As {v:dk} (h:e' v=4):∃t l,v=.dt t l:=by cases v<;>simp only [e'] at h<;>first | exact ⟨_,_,rfl⟩ | omega
def hY (a:Int):Prop:=-1073741824≤a∧a≤1073741823
theorem Md {S:av} {bO c3:Nat} {k:Int→Int→av} (h:e_ S [bO,c3] [1,1]=false):S.gV [bO,c3] k=S.gM:=by
 simp only [e_,Bool.and_true] at h
 simp only [av.gV,List.getD_cons_zero,List.getD_cons_succ]
 cases ao:S.val bO<;>cases ab:S.val c3<;>first | rfl | (rw [ao,ab] at h;simp [e'] at h)
theorem Fc {S:av} {bO:Nat} {k:Int→av} (h:e_ S [bO] [1]=false):S.jm [bO] k=S.gM:=by
 simp only [e_,Bool.and_true] at h
 simp only [av.jm,List.getD_cons_zero]
 cases ao:S.val bO<;>first | rfl | (rw [ao] at h;simp [e'] at h)
theorem Oj {S:av} {bO:Nat} {k:List UInt8→av} (h:e_ S [bO] [2]=false):S.k_ [bO] k=S.gM:=by
 simp only [e_,Bool.and_true] at h
 simp only [av.k_,List.getD_cons_zero]
 cases ao:S.val bO<;>first | rfl | (rw [ao] at h;simp [e'] at h)
theorem wrap_u8 (n:Int):IntKind.u8.wrap n=((av.byteOf n).toNat:Int):=by
 have:IntKind.u8.wrap n=n % 256:=by simp [IntKind.wrap,IntKind.bits,IntKind.signed]
 rw [this]
 unfold av.byteOf
 simp only [UInt8.toNat_ofNat']
 omega
theorem uO {P:Program} {d:Option Nat} {k:IntKind} {x:aZ} {rs:List Nat} {e:fF} {H:ag}:nm P ⟨d,.hr (.int k) x,none,rs⟩ e H=(w3 k (x.a8 (e.r.trim rs))=some e.v):=zc rfl
theorem SQ (l:List UInt8) (h:ag) (aB:l.length≤top):mw.run (.slice (ak h.next) 0 l.length l.length) (h.new (.ar (dZ l) 0 false))=.val (.str l) (h.new (.ar (dZ l) 0 false)):=
 SP (B:=0) ⟨by rw [pr,Nat.mul_one],rfl,Nat.zero_le _,dC (by rw [cH];omega),Nat.le_refl _,aB,_,0,false,gT _,by rw [pr];omega,by simp⟩
section
variable {ao h aa:ag} {aE:aN} {K:fi} {aD:List aN} {bp pm:V} {S:av} {steps:Int} {c1 cN cz bW:V}
theorem dc.arg (M:dc ao h aE K aD bp pm S steps c1 cN cz bW) {bd:List Nat} {aY:V} (A:fV h aD bd aY) (n:Int) (i j:Nat) (aX:n=i) (bC:bd[i]? =some j):
 j<aD.length∧∃b o cu hP ly,gy 1 aY (.int .i64 n)=some (.ptr b o)∧sI ao h K aD j (S.val j) cu∧∀aa,Ext h aa→h9 (aa.get b) o=some (.ptr (e6 aD j) 0)∧aa.get (e6 aD j)=.ar [.int .i64 (e' (S.val j)),.int .i64 (g_ (S.val j)),.str (iV (S.val j)),cu,hP,ly,.bool false] 0 false:=by
 subst aX
 have ax:i<bd.length:=(List.getElem?_eq_some_iff.1 bC).1
 have bE:bd.getD i 0=j:=by rw [List.getD_eq_getElem?_getD,bC];rfl
 obtain ⟨b,o,aL,bo,c6⟩:=A.at (k:=.i64) ax
 rw [bE] at bo c6
 obtain ⟨cu,hP,ly,g,_,q,_⟩:=M.val c6
 refine ⟨c6,b,o,cu,hP,ly,aL,q,fun aa e=>⟨bo aa e,?_⟩⟩
 rw [e.get _ (M.wS c6).1,g]
theorem dc.lay {bg:fi} {bq:List aN} {fN:av} {sy:Int} {ox iE kc m9:V} (R:hn qt ao aa bg bq fN.st) (fq:bg aE=.tO) (DL:gO ao ox fN.c) (DP:ei aa bg bq iE fN.e) (Ev:mn qt ao aa bg bq fN.w kc) (kp:rI ao aa bg fN.out m9):
 dc ao (aa.set aE (.ar [bp,.int .i64 fN.h5,.int .i64 fN.j2,.int .i64 fN.read,.int .i64 sy,m9,.bool fN.hF,ox,iE,kc,.aF,pm] 0 false)) aE bg bq bp pm fN sy ox iE kc m9:=by
 have aX:=R.new aE (by rw [fq];simp)
 have t:dQ ao bg aa bq bg (aa.set aE (.ar [bp,.int .i64 fN.h5,.int .i64 fN.j2,.int .i64 fN.read,.int .i64 sy,m9,.bool fN.hF,ox,iE,kc,.aF,pm] 0 false)) bq (·=.tO):=dQ.x3 fq aX.1
 exact ⟨R.c8 t (by simp) (by simp) (by simp),fq,by rw [cM,if_pos rfl],DL,DP.c8 t (by simp),Ev.c8 t (by simp) (by simp),kp.c8 t (by simp)⟩
theorem dc.wrote (M:dc ao h aE K aD bp pm S steps c1 cN cz bW) {v:V} {out:List UInt8} (ik:ca ao.next aa 1 v out.length (dZ out)) (hm:Mod bW.a_ h aa) (ah:∀b,v.a_ b→bW.a_ b∨h.next≤cd b):
 ∃bg,dc ao (aa.set aE (.ar [bp,.int .i64 S.h5,.int .i64 S.j2,.int .i64 S.read,.int .i64 steps,v,.bool S.hF,c1,cN,cz,.aF,pm] 0 false)) aE bg aD bp pm {S with out:=out} steps c1 cN cz v:=by
 have t:dQ ao K h aD (mf K (fun b=>v.a_ b∧h.next≤cd b) .out) aa aD (·=.out):=by
  refine ⟨hm.next,fun b eI=>?_,fun b eI km=>?_,fun b eI aA=>?_,fun b eI=>?_,[],by simp⟩
  · exact qn fun q=>eI (M.rep.tmp q.2)
  · by_cases q:v.a_ b∧h.next≤cd b
    · exact ⟨q.2,ik.v.b4 q.1⟩
    · rw [qn q] at km;exact absurd eI km
  · exact hm.get b (M.rep.new b eI).2 fun q=>aA (M.fB.2 b q)
  · refine hm.get b (Nat.lt_of_lt_of_le eI M.rep.ext.next) fun q=>?_
    have:=M.fB.1.base q
    omega
 have oS:K aE≠.no:=by rw [M.fq];simp
 refine ⟨_,dc.lay (fN:={S with out:=out}) (M.rep.c8 t (by simp) (by simp) (by simp)) (by rw [t.role aE oS,M.fq]) M.co (M.fX.c8 t (by simp)) (M.wr.c8 t (by simp) (by simp)) ⟨ik,fun b q=>?_⟩⟩
 rcases ah b q with r | r
 · have:=M.fB.2 b r
   rw [t.role b (by rw [this];simp),this]
 · exact rG ⟨q,r⟩
theorem dc.Kf (M:dc ao h aE K aD bp pm S steps c1 cN cz bW) (hm:Mod bW.a_ h aa):aa.get aE=h.get aE:=by
 refine hm.get aE M.b4.2 fun q=>?_
 have:=M.fB.2 aE q
 rw [M.fq] at this
 cases this
theorem dc.abX (M:dc ao h aE K aD bp pm S steps c1 cN cz bW) (hm:Mod bW.a_ h aa) {b:aN} (ah:Old h b) (al:K b≠.out):aa.get b=h.get b:=
 hm.get b ah fun q=>al (M.fB.2 b q)
set_option maxHeartbeats 1000000 in
theorem wh (M:cR ao h aE K aD bp pm S steps) (O:Ok S) {bO c3:Nat} {aY:V} (A:fV h aD [bO,c3] aY) {eb:aN} {f:FuncId} (g:Int→Int→dk) (DJ:ao.get eb=.ar [.func f []] 0 false) (xk:Old ao eb)
 (a1:∀a b h,hY a→hY b→∃cs,nZ (g a b)=some cs∧bR Tryz.prog f [.int .i64 a,.int .i64 b] h fun x aa=>jU h aa x cs):
 bR Tryz.prog 145 [.ptr aE 0,aY,.ptr eb 0] h fun x aa=>∃bg bq,cR ao aa aE bg bq bp pm (S.gV [bO,c3] fun a b=>S.dw (g a b)) steps:=by
 obtain ⟨_,_,_,_,M⟩:=M
 have aL:Ext h (h.new (.ar [.int .i64 1,.int .i64 1] 0 false)):=(Ext.refl h).new _
 have gk:cF (h.new (.ar [.int .i64 1,.int .i64 1] 0 false)) 1 (.slice (ak h.next) 0 2 2) 2 (cC [1,1]):=pM h [1,1]
 have a':=M.ext aL
 have dF:=A.ext aL
 refine Q' rfl (b9 ?_)
 unfold HX
 simp +contextual only [↓ai,aq,simprocAttr]
 refine bm (pQ ⟨_,_,_,_,a'⟩ dF (ay:=[1,1]) gk (Nat.le_refl _) (by decide)) ?_
 rintro x af ⟨rfl,bT,b8⟩
 cases al:e_ S [bO,c3] [1,1] with
 | false=>
   simp +contextual only [↓ai,aq,simprocAttr]
   rw [Md al]
   exact ⟨_,_,b8 al⟩
 | true=>
   obtain rfl:=bT al
   clear bT b8 gk
   generalize h.new (.ar [.int .i64 1,.int .i64 1] 0 false)=H1 at *
   simp only [e_,Bool.and_true,Bool.and_eq_true,decide_eq_true_eq] at al
   have E:=a'.rep.ext
   obtain ⟨a0,eH⟩:=nR al.1
   obtain ⟨hs,eJ,jn,jC,_,_,c_,_,dg⟩:=a'.arg dF 0 0 bO rfl rfl
   rw [eH] at dg
   simp only [e',g_,iV] at dg
   have b':=dg _ (Ext.refl _)
   obtain ⟨bB,g8⟩:=nR al.2
   obtain ⟨pF,cJ,ff,u6,_,_,eZ,_,dq⟩:=a'.arg dF 1 1 c3 rfl rfl
   rw [g8] at dq
   simp only [e',g_,iV] at dq
   have bY:=dq _ (Ext.refl _)
   have ny:H1.get eb=.ar [.func f []] 0 false:=(E.get _ xk).trans DJ
   obtain ⟨cs,j4,C⟩:=a1 a0 bB H1 (O.ints _ _ eH) (O.ints _ _ g8)
   simp +contextual only [ny,c_,eZ,b'.1,bY.1,b'.2,bY.2,↓ai,aq,simprocAttr]
   refine bm C ?_
   rintro x aK F
   obtain ⟨bg,bq,cm,rfl,aX,t⟩:=a'.make F j4
   obtain ⟨_,_,c6,_⟩:=F
   have jJ:=dg _ c6
   have jK:=dq _ c6
   have xe:=(c6.get _ (E.b4 xk)).trans ny
   simp +contextual only [ny,c_,eZ,b'.1,bY.1,b'.2,bY.2,xe,jJ.1,jK.1,jJ.2,jK.2,↓ai,aq,simprocAttr]
   refine bm (kB ⟨_,_,_,_,cm⟩ O.w aX) ?_
   rintro x bM ⟨e4,c0⟩
   simp +contextual only [ny,c_,eZ,b'.1,bY.1,b'.2,bY.2,xe,jJ.1,jK.1,jJ.2,jK.2,↓ai,aq,simprocAttr]
   refine ⟨e4,bq,?_⟩
   simp only [av.gV,List.getD_cons_zero,List.getD_cons_succ,eH,g8]
   exact c0
set_option maxHeartbeats 1000000 in
theorem JB (M:cR ao h aE K aD bp pm S steps) (O:Ok S) {bO c3:Nat} {aY:V} (A:fV h aD [bO,c3] aY) {eb:aN} {f:FuncId} (g:Int→Int→Int) (DJ:ao.get eb=.ar [.func f []] 0 false) (xk:Old ao eb)
 (a1:∀a b h,hY a→hY b→b≠0→ma Tryz.prog f [.int .i64 a,.int .i64 b] h (.int .i64 (g a b)) h∧-2305843009213693952≤g a b∧g a b≤2305843009213693952):
 bR Tryz.prog 147 [.ptr aE 0,aY,.ptr eb 0] h fun x aa=>∃bg bq,cR ao aa aE bg bq bp pm (S.gV [bO,c3] fun a b=>if b=0 then S.k6 (.dt 1 []) else S.dw (.int (wr (g a b)))) steps:=by
 obtain ⟨_,_,_,_,M⟩:=M
 have aL:Ext h (h.new (.ar [.int .i64 1,.int .i64 1] 0 false)):=(Ext.refl h).new _
 have gk:cF (h.new (.ar [.int .i64 1,.int .i64 1] 0 false)) 1 (.slice (ak h.next) 0 2 2) 2 (cC [1,1]):=pM h [1,1]
 have a':=M.ext aL
 have dF:=A.ext aL
 refine Ra rfl (b9 ?_)
 unfold H0
 simp +contextual only [↓ai,aq,simprocAttr]
 refine bm (pQ ⟨_,_,_,_,a'⟩ dF (ay:=[1,1]) gk (Nat.le_refl _) (by decide)) ?_
 rintro x af ⟨rfl,bT,b8⟩
 cases al:e_ S [bO,c3] [1,1] with
 | false=>
   simp +contextual only [↓ai,aq,simprocAttr]
   rw [Md al]
   exact ⟨_,_,b8 al⟩
 | true=>
   obtain rfl:=bT al
   clear bT b8 gk
   generalize h.new (.ar [.int .i64 1,.int .i64 1] 0 false)=H1 at *
   simp only [e_,Bool.and_true,Bool.and_eq_true,decide_eq_true_eq] at al
   have E:=a'.rep.ext
   obtain ⟨a0,eH⟩:=nR al.1
   obtain ⟨hs,eJ,jn,jC,_,_,c_,_,dg⟩:=a'.arg dF 0 0 bO rfl rfl
   rw [eH] at dg
   simp only [e',g_,iV] at dg
   have b':=dg _ (Ext.refl _)
   obtain ⟨bB,g8⟩:=nR al.2
   obtain ⟨pF,cJ,ff,u6,_,_,eZ,_,dq⟩:=a'.arg dF 1 1 c3 rfl rfl
   rw [g8] at dq
   simp only [e',g_,iV] at dq
   have bY:=dq _ (Ext.refl _)
   have ny:H1.get eb=.ar [.func f []] 0 false:=(E.get _ xk).trans DJ
   by_cases aV:bB=0
   · have ga:=eq_true aV
     simp +contextual only [ny,c_,eZ,b'.1,bY.1,b'.2,bY.2,ga,↓ai,aq,simprocAttr]
     refine bm (l' H1 1 .aF ⟨rfl,rfl,rfl⟩) ?_
     rintro x aK F
     obtain ⟨bg,bq,cm,rfl,aX,t⟩:=a'.make (v:=.dt 1 []) F rfl
     simp +contextual only [↓ai,aq,simprocAttr]
     refine bm (ri ⟨_,_,_,_,cm⟩ O.w aX) ?_
     rintro x bM ⟨e4,c0⟩
     simp +contextual only [↓ai,aq,simprocAttr]
     refine ⟨e4,bq,?_⟩
     simp only [av.gV,List.getD_cons_zero,List.getD_cons_succ,eH,g8,aV,if_true]
     exact c0
   · have ga:=eq_false aV
     obtain ⟨C,bf,bV⟩:=a1 a0 bB H1 (O.ints _ _ eH) (O.ints _ _ g8) aV
     simp +contextual only [ny,c_,eZ,b'.1,bY.1,b'.2,bY.2,ga,↓ai,aq,simprocAttr]
     refine qD C ?_
     simp +contextual only [ny,c_,eZ,b'.1,bY.1,b'.2,bY.2,ga,↓ai,aq,simprocAttr]
     refine qD (yE (g a0 bB) H1 ⟨bf,bV⟩) ?_
     simp +contextual only [ny,c_,eZ,b'.1,bY.1,b'.2,bY.2,ga,↓ai,aq,simprocAttr]
     refine bm (pW H1 (wr (g a0 bB))) ?_
     rintro x aK F
     obtain ⟨bg,bq,cm,rfl,aX,t⟩:=a'.make (v:=.int (wr (g a0 bB))) F rfl
     obtain ⟨_,_,c6,_⟩:=F
     have jJ:=dg _ c6
     have jK:=dq _ c6
     have xe:=(c6.get _ (E.b4 xk)).trans ny
     simp +contextual only [ny,c_,eZ,b'.1,bY.1,b'.2,bY.2,xe,jJ.1,jK.1,jJ.2,jK.2,↓ai,aq,simprocAttr]
     refine bm (kB ⟨_,_,_,_,cm⟩ O.w aX) ?_
     rintro x bM ⟨e4,c0⟩
     simp +contextual only [ny,c_,eZ,b'.1,bY.1,b'.2,bY.2,xe,jJ.1,jK.1,jJ.2,jK.2,↓ai,aq,simprocAttr]
     refine ⟨e4,bq,?_⟩
     simp only [av.gV,List.getD_cons_zero,List.getD_cons_succ,eH,g8,if_neg aV]
     exact c0
set_option maxHeartbeats 1000000 in
theorem ZC (M:cR ao h aE K aD bp pm S steps) (O:Ok S) {bO:Nat} {aY:V} (A:fV h aD [bO] aY):
 bR Tryz.prog 90 [.ptr aE 0,aY] h fun x aa=>∃bg bq,cR ao aa aE bg bq bp pm (S.jm [bO] fun a=>S.dw (.int (wr (-a)))) steps:=by
 obtain ⟨_,_,_,_,M⟩:=M
 have aL:Ext h (h.new (.ar [.int .i64 1] 0 false)):=(Ext.refl h).new _
 have gk:cF (h.new (.ar [.int .i64 1] 0 false)) 1 (.slice (ak h.next) 0 1 1) 1 (cC [1]):=pM h [1]
 have a':=M.ext aL
 have dF:=A.ext aL
 refine RW rfl (b9 ?_)
 unfold I'
 simp +contextual only [↓ai,aq,simprocAttr]
 refine bm (pQ ⟨_,_,_,_,a'⟩ dF (ay:=[1]) gk (Nat.le_refl _) (by decide)) ?_
 rintro x af ⟨rfl,bT,b8⟩
 cases al:e_ S [bO] [1] with
 | false=>
   simp +contextual only [↓ai,aq,simprocAttr]
   rw [Fc al]
   exact ⟨_,_,b8 al⟩
 | true=>
   obtain rfl:=bT al
   clear bT b8 gk
   generalize h.new (.ar [.int .i64 1] 0 false)=H1 at *
   simp only [e_,Bool.and_true,Bool.and_eq_true,decide_eq_true_eq] at al
   have E:=a'.rep.ext
   obtain ⟨a0,eH⟩:=nR al
   obtain ⟨hs,eJ,jn,jC,_,_,c_,_,dg⟩:=a'.arg dF 0 0 bO rfl rfl
   rw [eH] at dg
   simp only [e',g_,iV] at dg
   have b':=dg _ (Ext.refl _)
   have aT:=O.ints _ _ eH
   have aJ:IntKind.i64.wrap (0-a0)=-a0:=by rw [wrap_i64 (by omega) (by omega)];omega
   simp +contextual only [c_,b'.1,b'.2,aJ,↓ai,aq,simprocAttr]
   refine qD (yE (-a0) H1 ⟨by omega,by omega⟩) ?_
   simp +contextual only [c_,b'.1,b'.2,aJ,↓ai,aq,simprocAttr]
   refine bm (pW H1 (wr (-a0))) ?_
   rintro x aK F
   obtain ⟨bg,bq,cm,rfl,aX,t⟩:=a'.make (v:=.int (wr (-a0))) F rfl
   simp +contextual only [↓ai,aq,simprocAttr]
   refine bm (kB ⟨_,_,_,_,cm⟩ O.w aX) ?_
   rintro x bM ⟨e4,c0⟩
   simp +contextual only [↓ai,aq,simprocAttr]
   refine ⟨e4,bq,?_⟩
   simp only [av.jm,List.getD_cons_zero,List.getD_cons_succ,eH]
   exact c0
set_option maxHeartbeats 1000000 in
theorem ab9 (M:cR ao h aE K aD bp pm S steps) (O:Ok S) {bO:Nat} {aY:V} (A:fV h aD [bO] aY):
 bR Tryz.prog 94 [.ptr aE 0,aY] h fun x aa=>∃bg bq,cR ao aa aE bg bq bp pm (S.k_ [bO] fun t=>S.dw (.int t.length)) steps:=by
 obtain ⟨_,_,_,_,M⟩:=M
 have aL:Ext h (h.new (.ar [.int .i64 2] 0 false)):=(Ext.refl h).new _
 have gk:cF (h.new (.ar [.int .i64 2] 0 false)) 1 (.slice (ak h.next) 0 1 1) 1 (cC [2]):=pM h [2]
 have a':=M.ext aL
 have dF:=A.ext aL
 refine R0 rfl (b9 ?_)
 unfold Jc
 simp +contextual only [↓ai,aq,simprocAttr]
 refine bm (pQ ⟨_,_,_,_,a'⟩ dF (ay:=[2]) gk (Nat.le_refl _) (by decide)) ?_
 rintro x af ⟨rfl,bT,b8⟩
 cases al:e_ S [bO] [2] with
 | false=>
   simp +contextual only [↓ai,aq,simprocAttr]
   rw [Oj al]
   exact ⟨_,_,b8 al⟩
 | true=>
   obtain rfl:=bT al
   clear bT b8 gk
   generalize h.new (.ar [.int .i64 2] 0 false)=H1 at *
   simp only [e_,Bool.and_true,Bool.and_eq_true,decide_eq_true_eq] at al
   have E:=a'.rep.ext
   obtain ⟨a0,eH⟩:=vz al
   obtain ⟨hs,eJ,jn,jC,_,_,c_,_,dg⟩:=a'.arg dF 0 0 bO rfl rfl
   rw [eH] at dg
   simp only [e',g_,iV] at dg
   have b':=dg _ (Ext.refl _)
   simp +contextual only [c_,b'.1,b'.2,↓ai,aq,simprocAttr]
   refine bm (pW H1 a0.length) ?_
   rintro x aK F
   obtain ⟨bg,bq,cm,rfl,aX,t⟩:=a'.make (v:=.int a0.length) F rfl
   simp +contextual only [↓ai,aq,simprocAttr]
   refine bm (kB ⟨_,_,_,_,cm⟩ O.w aX) ?_
   rintro x bM ⟨e4,c0⟩
   simp +contextual only [↓ai,aq,simprocAttr]
   refine ⟨e4,bq,?_⟩
   simp only [av.k_,List.getD_cons_zero,List.getD_cons_succ,eH]
   exact c0
set_option maxHeartbeats 1000000 in
theorem SB (M:cR ao h aE K aD bp pm S steps) (O:Ok S) {bO:Nat} {aY:V} (A:fV h aD [bO] aY):
 bR Tryz.prog 95 [.ptr aE 0,aY] h fun x aa=>∃bg bq,cR ao aa aE bg bq bp pm (S.jm [bO] fun a=>S.dw (.text [av.byteOf a])) steps:=by
 obtain ⟨_,_,_,_,M⟩:=M
 have aL:Ext h (h.new (.ar [.int .i64 1] 0 false)):=(Ext.refl h).new _
 have gk:cF (h.new (.ar [.int .i64 1] 0 false)) 1 (.slice (ak h.next) 0 1 1) 1 (cC [1]):=pM h [1]
 have a':=M.ext aL
 have dF:=A.ext aL
 refine R1 rfl (b9 ?_)
 unfold Jd
 simp +contextual only [↓ai,aq,simprocAttr]
 refine bm (pQ ⟨_,_,_,_,a'⟩ dF (ay:=[1]) gk (Nat.le_refl _) (by decide)) ?_
 rintro x af ⟨rfl,bT,b8⟩
 cases al:e_ S [bO] [1] with
 | false=>
   simp +contextual only [↓ai,aq,simprocAttr]
   rw [Fc al]
   exact ⟨_,_,b8 al⟩
 | true=>
   obtain rfl:=bT al
   clear bT b8 gk
   generalize h.new (.ar [.int .i64 1] 0 false)=H1 at *
   simp only [e_,Bool.and_true,Bool.and_eq_true,decide_eq_true_eq] at al
   have E:=a'.rep.ext
   obtain ⟨a0,eH⟩:=nR al
   obtain ⟨hs,eJ,jn,jC,_,_,c_,_,dg⟩:=a'.arg dF 0 0 bO rfl rfl
   rw [eH] at dg
   simp only [e',g_,iV] at dg
   have b':=dg _ (Ext.refl _)
   have aJ:IntKind.u8.wrap a0=((av.byteOf a0).toNat:Int):=wrap_u8 a0
   have pv:mw.run (.slice (ak H1.next) 0 1 1) (H1.new (.ar [.int .u8 ((av.byteOf a0).toNat:Int)] 0 false))=.val (.str [av.byteOf a0]) (H1.new (.ar [.int .u8 ((av.byteOf a0).toNat:Int)] 0 false)):=SQ [av.byteOf a0] H1 (show 1≤top by decide)
   have M2:=a'.ext ((Ext.refl H1).new (.ar [.int .u8 ((av.byteOf a0).toNat:Int)] 0 false))
   simp +contextual only [c_,b'.1,b'.2,aJ,pv,↓ai,aq,simprocAttr]
   refine bm (By _ [av.byteOf a0]) ?_
   rintro x aK F
   obtain ⟨bg,bq,cm,rfl,aX,t⟩:=M2.make (v:=.text [av.byteOf a0]) F rfl
   simp +contextual only [↓ai,aq,simprocAttr]
   refine bm (kB ⟨_,_,_,_,cm⟩ O.w aX) ?_
   rintro x bM ⟨e4,c0⟩
   simp +contextual only [↓ai,aq,simprocAttr]
   refine ⟨e4,bq,?_⟩
   simp only [av.jm,List.getD_cons_zero,List.getD_cons_succ,eH]
   exact c0
set_option maxHeartbeats 1000000 in
theorem aaQ (M:cR ao h aE K aD bp pm S steps) (O:Ok S) {bO:Nat} {aY:V} (A:fV h aD [bO] aY):
 bR Tryz.prog 92 [.ptr aE 0,aY] h fun x aa=>∃bg bq,cR ao aa aE bg bq bp pm (S.jm [bO] fun a=>{S with out:=S.out++[av.byteOf a]}.dw (.dt 0 [])) steps:=by
 obtain ⟨_,_,_,_,M⟩:=M
 have aL:Ext h (h.new (.ar [.int .i64 1] 0 false)):=(Ext.refl h).new _
 have gk:cF (h.new (.ar [.int .i64 1] 0 false)) 1 (.slice (ak h.next) 0 1 1) 1 (cC [1]):=pM h [1]
 have a':=M.ext aL
 have dF:=A.ext aL
 refine RY rfl (b9 ?_)
 unfold Ja
 simp +contextual only [↓ai,aq,simprocAttr]
 refine bm (pQ ⟨_,_,_,_,a'⟩ dF (ay:=[1]) gk (Nat.le_refl _) (by decide)) ?_
 rintro x af ⟨rfl,bT,b8⟩
 cases al:e_ S [bO] [1] with
 | false=>
   simp +contextual only [↓ai,aq,simprocAttr]
   rw [Fc al]
   exact ⟨_,_,b8 al⟩
 | true=>
   obtain rfl:=bT al
   clear bT b8 gk
   generalize h.new (.ar [.int .i64 1] 0 false)=H1 at *
   simp only [e_,Bool.and_true,Bool.and_eq_true,decide_eq_true_eq] at al
   have E:=a'.rep.ext
   obtain ⟨a0,eH⟩:=nR al
   obtain ⟨hs,eJ,jn,jC,_,_,c_,_,dg⟩:=a'.arg dF 0 0 bO rfl rfl
   rw [eH] at dg
   simp only [e',g_,iV] at dg
   have b':=dg _ (Ext.refl _)
   have aJ:IntKind.u8.wrap a0=((av.byteOf a0).toNat:Int):=wrap_u8 a0
   have cO:=a'.get
   have C7:Ext H1 (H1.new (.ar [.int .u8 ((av.byteOf a0).toNat:Int)] 0 false)):=(Ext.refl H1).new _
   have lr:=O.out
   have mJ:ao.next≤H1.next:=E.next
   obtain ⟨dE,aK,b_,b1,cy,gB,hV⟩:=oo (cs:=[.int .u8 ((av.byteOf a0).toNat:Int)]) (by omega) a'.fB.1 mJ (by unfold top;omega) rfl rfl
   have Fq:ca ao.next aK 1 dE (S.out++[av.byteOf a0]).length (dZ (S.out++[av.byteOf a0])):=by
    rw [CT,List.length_append];exact b1
   obtain ⟨qm,cm⟩:=a'.wrote Fq cy (fun b q=>by rcases hV b q with r | r;exact .inl r;exact .inr (by omega))
   have mF:aK.get aE=_:=(a'.Kf cy).trans cO
   have eD:=b1.v.one
   have z':Mod (fun b=>False) H1 (H1.new (.ar [.int .u8 ((av.byteOf a0).toNat:Int)] 0 false)):=C7.mod _
   have TM:=(C7.get aE a'.b4.2).trans cO
   have mQ:=dg _ C7
   have oQ:=(a'.val hs).choose_spec.choose_spec.choose_spec.2.1
   have TC:aK.get (e6 aD bO)=H1.get (e6 aD bO):=a'.abX cy (a'.wS hs).1 (by rw [oQ];simp)
   have aeu:=TC.trans b'.2
   have Lz:=mQ.1
   rw [dT] at Lz
   simp +contextual only [uO,cO,TM,mF,c_,b'.1,b'.2,Lz,mQ.1,mQ.2,aJ,b_,eD.1,eD.2.1,↓ai,aq,simprocAttr]
   refine bm (l' _ 0 .aF ⟨rfl,rfl,rfl⟩) ?_
   rintro x bM F
   obtain ⟨bg,bq,c0,rfl,aX,t⟩:=cm.make (v:=.dt 0 []) F rfl
   simp +contextual only [↓ai,aq,simprocAttr]
   refine bm (kB ⟨_,_,_,_,c0⟩ O.w aX) ?_
   rintro x e8 ⟨Cw,CA⟩
   simp +contextual only [↓ai,aq,simprocAttr]
   refine ⟨Cw,bq,?_⟩
   simp only [av.jm,List.getD_cons_zero,eH]
   exact CA
end
end Go.Proofs.YtjbiefneffiogaaGreat
namespace Go.Proofs.YtjbiefneffiogaaGreat
open Go ba
theorem QP {ao:ag} {l:List UInt8} {v:V} (H:cF ao 1 v l.length (dZ l)) {k:IntKind} {i:Nat} (ax:i<l.length):
 ∃b off,gy 1 v (.int k i)=some (.ptr b off)∧∀aa,Ext ao aa→h9 (aa.get b) off=some (.int .u8 (((l[i]?).getD 0).toNat:Int)):=by
 obtain ⟨b,off,aL,bo⟩:=H.cl (k:=k) ax
 refine ⟨b,_,aL,fun aa e=>?_⟩
 have ah:∀(l:List UInt8) (i:Nat) (ax:i < (dZ l).length),(dZ l)[i]=.int .u8 (((l[i]?).getD 0).toNat:Int):=by
  intro l
  induction l with
  | nil=>intro i ax;simp [dZ] at ax
  | cons a l bb=>
    intro i ax
    cases i with
    | zero=>rfl
    | succ i=>
      have:=bb i (by simpa [dZ] using ax)
      simpa [dZ] using this
 rw [Nat.mul_one,(bo.ext e).dq (by rw [pr];exact ax),ah l i]
theorem QO {S:av} {bO c3:Nat} (h:e_ S [bO,c3] [2,1]=false):S.qB [bO,c3]=S.gM:=by
 simp only [e_,Bool.and_true] at h
 simp only [av.qB,List.getD_cons_zero,List.getD_cons_succ]
 cases ao:S.val bO<;>cases ab:S.val c3<;>first | rfl | (rw [ao,ab] at h;simp [e'] at h)
theorem WO {S:av} {bO c3:Nat} (h:e_ S [bO,c3] [2,2]=false):S.join [bO,c3]=S.gM:=by
 simp only [e_,Bool.and_true] at h
 simp only [av.join,List.getD_cons_zero,List.getD_cons_succ]
 cases ao:S.val bO<;>cases ab:S.val c3<;>first | rfl | (rw [ao,ab] at h;simp [e'] at h)
theorem SY {S:av} {bO c3 kW:Nat} (h:e_ S [bO,c3,kW] [2,1,1]=false):S.cut [bO,c3,kW]=S.gM:=by
 simp only [e_,Bool.and_true] at h
 simp only [av.cut,List.getD_cons_zero,List.getD_cons_succ]
 cases ao:S.val bO<;>cases ab:S.val c3<;>cases af:S.val kW<;>first | rfl | (rw [ao,ab,af] at h;simp [e'] at h)
section
variable {ao h aa:ag} {aE:aN} {K:fi} {aD:List aN} {bp pm:V} {S:av} {steps:Int} {c1 cN cz bW:V}
set_option maxHeartbeats 1000000 in
theorem aaR (M:cR ao h aE K aD bp pm S steps) (O:Ok S) {bO:Nat} {aY:V} (A:fV h aD [bO] aY):
 bR Tryz.prog 93 [.ptr aE 0,aY] h fun x aa=>∃bg bq,cR ao aa aE bg bq bp pm (S.k_ [bO] fun t=>{S with out:=S.out++t}.dw (.dt 0 [])) steps:=by
 obtain ⟨_,_,_,_,M⟩:=M
 have aL:Ext h (h.new (.ar [.int .i64 2] 0 false)):=(Ext.refl h).new _
 have gk:cF (h.new (.ar [.int .i64 2] 0 false)) 1 (.slice (ak h.next) 0 1 1) 1 (cC [2]):=pM h [2]
 have a':=M.ext aL
 have dF:=A.ext aL
 refine RZ rfl (b9 ?_)
 unfold Jb
 simp +contextual only [↓ai,aq,simprocAttr]
 refine bm (pQ ⟨_,_,_,_,a'⟩ dF (ay:=[2]) gk (Nat.le_refl _) (by decide)) ?_
 rintro x af ⟨rfl,bT,b8⟩
 cases al:e_ S [bO] [2] with
 | false=>
   simp +contextual only [↓ai,aq,simprocAttr]
   rw [Oj al]
   exact ⟨_,_,b8 al⟩
 | true=>
   obtain rfl:=bT al
   clear bT b8 gk
   generalize h.new (.ar [.int .i64 2] 0 false)=H1 at *
   simp only [e_,Bool.and_true,Bool.and_eq_true,decide_eq_true_eq] at al
   have E:=a'.rep.ext
   obtain ⟨a0,eH⟩:=vz al
   obtain ⟨hs,eJ,jn,jC,_,_,c_,_,dg⟩:=a'.arg dF 0 0 bO rfl rfl
   rw [eH] at dg
   simp only [e',g_,iV] at dg
   have b':=dg _ (Ext.refl _)
   have cO:=a'.get
   have lr:=O.out
   have Es:=O.texts _ _ eH
   have mJ:ao.next≤H1.next:=E.next
   obtain ⟨dE,aK,b_,b1,cy,hV⟩:=Qb a0 a'.fB.1 mJ (by unfold top;omega)
   have Fq:ca ao.next aK 1 dE (S.out++a0).length (dZ (S.out++a0)):=by
    rw [CT,List.length_append];exact b1
   obtain ⟨qm,cm⟩:=a'.wrote Fq cy hV
   have mF:aK.get aE=_:=(a'.Kf cy).trans cO
   have eD:=b1.v.one
   simp +contextual only [uO,cO,mF,c_,b'.1,b'.2,b_,eD.1,eD.2.1,↓ai,aq,simprocAttr]
   refine bm (l' _ 0 .aF ⟨rfl,rfl,rfl⟩) ?_
   rintro x bM F
   obtain ⟨bg,bq,c0,rfl,aX,t⟩:=cm.make (v:=.dt 0 []) F rfl
   simp +contextual only [↓ai,aq,simprocAttr]
   refine bm (kB ⟨_,_,_,_,c0⟩ O.w aX) ?_
   rintro x e8 ⟨Cw,CA⟩
   simp +contextual only [↓ai,aq,simprocAttr]
   refine ⟨Cw,bq,?_⟩
   simp only [av.k_,List.getD_cons_zero,eH]
   exact CA
set_option maxHeartbeats 1000000 in
theorem TK (M:cR ao h aE K aD bp pm S steps) (O:Ok S) {bc:List UInt8} (iX:cF ao 1 bp bc.length (dZ bc)) (hlen:bc.length≤1073741824) (qX:S.read≤bc.length) {aY:V}:
 bR Tryz.prog 91 [.ptr aE 0,aY] h fun x aa=>∃bg bq,cR ao aa aE bg bq bp pm (S.u' bc) steps:=by
 obtain ⟨_,_,_,_,M⟩:=M
 have cO:=M.get
 have aB:=iX.len
 have pX:=iX.one
 refine RX rfl (b9 ?_)
 unfold I_
 by_cases aT:bc.length≤S.read
 · have tl:((bc.length:Int)≤(S.read:Int))=True:=eq_true (by omega)
   simp +contextual only [cO,aB,tl,↓ai,aq,simprocAttr]
   refine bm (pW h (-1)) ?_
   rintro x aK F
   obtain ⟨bg,bq,cm,rfl,aX,t⟩:=M.make (v:=.int (-1)) F rfl
   simp +contextual only [↓ai,aq,simprocAttr]
   refine bm (kB ⟨_,_,_,_,cm⟩ O.w aX) ?_
   rintro x bM ⟨e4,c0⟩
   simp +contextual only [↓ai,aq,simprocAttr]
   refine ⟨e4,bq,?_⟩
   simp only [av.u',if_pos aT]
   exact c0
 · have tl:((bc.length:Int)≤(S.read:Int))=False:=eq_false (by omega)
   have eE:IntKind.i64.wrap ((S.read:Int)+1)=((S.read+1:Nat):Int):=by rw [wrap_i64 (by omega) (by omega)];rfl
   have di:IntKind.i64.wrap (((S.read+1:Nat):Int)-1)=(S.read:Int):=by rw [wrap_i64 (by omega) (by omega)];omega
   have a':=M.next {S with read:=S.read+1} steps _ _ _ _ rfl M.co M.fX M.wr M.fB
   have eR:=a'.get
   obtain ⟨b,o,cl,c7⟩:=QP iX (k:=.i64) (i:=S.read) (by omega)
   have xl:=(bc[S.read]?.getD 0).toNat_lt
   have iW:IntKind.i64.wrap (((bc[S.read]?.getD 0).toNat:Nat):Int)=(((bc[S.read]?.getD 0).toNat:Nat):Int):=wrap_i64 (by omega) (by omega)
   have dq:=c7 _ a'.rep.ext
   simp only [cM] at dq
   simp +contextual only [cO,eR,aB,tl,eE,di,iW,cl,dq,pX.1,pX.2.1,↓ai,aq,simprocAttr]
   refine bm (pW _ (((bc[S.read]?.getD 0).toNat:Nat):Int)) ?_
   rintro x aK F
   obtain ⟨bg,bq,cm,rfl,aX,t⟩:=a'.make (v:=.int (((bc[S.read]?.getD 0).toNat:Nat):Int)) F rfl
   have mF:=cm.get
   have vB:=c7 _ cm.rep.ext
   simp +contextual only [uO,cO,eR,mF,aB,tl,eE,di,iW,cl,dq,vB,pX.1,pX.2.1,↓ai,aq,simprocAttr]
   refine bm (kB ⟨_,_,_,_,cm⟩ O.w aX) ?_
   rintro x bM ⟨e4,c0⟩
   simp +contextual only [uO,cO,eR,mF,aB,tl,eE,di,iW,cl,dq,vB,pX.1,pX.2.1,↓ai,aq,simprocAttr]
   refine ⟨e4,bq,?_⟩
   simp only [av.u',if_neg aT]
   exact c0
set_option maxHeartbeats 1000000 in
theorem QN (M:cR ao h aE K aD bp pm S steps) (O:Ok S) {bO c3:Nat} {aY:V} (A:fV h aD [bO,c3] aY):
 bR Tryz.prog 96 [.ptr aE 0,aY] h fun x aa=>∃bg bq,cR ao aa aE bg bq bp pm (S.qB [bO,c3]) steps:=by
 obtain ⟨_,_,_,_,M⟩:=M
 have aL:Ext h (h.new (.ar [.int .i64 2,.int .i64 1] 0 false)):=(Ext.refl h).new _
 have gk:cF (h.new (.ar [.int .i64 2,.int .i64 1] 0 false)) 1 (.slice (ak h.next) 0 2 2) 2 (cC [2,1]):=pM h [2,1]
 have a':=M.ext aL
 have dF:=A.ext aL
 refine R2 rfl (b9 ?_)
 unfold Je
 simp +contextual only [↓ai,aq,simprocAttr]
 refine bm (pQ ⟨_,_,_,_,a'⟩ dF (ay:=[2,1]) gk (Nat.le_refl _) (by decide)) ?_
 rintro x af ⟨rfl,bT,b8⟩
 cases al:e_ S [bO,c3] [2,1] with
 | false=>
   simp +contextual only [↓ai,aq,simprocAttr]
   rw [QO al]
   exact ⟨_,_,b8 al⟩
 | true=>
   obtain rfl:=bT al
   clear bT b8 gk
   generalize h.new (.ar [.int .i64 2,.int .i64 1] 0 false)=H1 at *
   simp only [e_,Bool.and_true,Bool.and_eq_true,decide_eq_true_eq] at al
   have E:=a'.rep.ext
   obtain ⟨a0,eH⟩:=vz al.1
   obtain ⟨hs,eJ,jn,jC,_,_,c_,_,dg⟩:=a'.arg dF 0 0 bO rfl rfl
   rw [eH] at dg
   simp only [e',g_,iV] at dg
   have b':=dg _ (Ext.refl _)
   obtain ⟨bB,g8⟩:=nR al.2
   obtain ⟨pF,cJ,ff,u6,_,_,eZ,_,dq⟩:=a'.arg dF 1 1 c3 rfl rfl
   rw [g8] at dq
   simp only [e',g_,iV] at dq
   have bY:=dq _ (Ext.refl _)
   have Es:=O.texts _ _ eH
   have eA:=O.ints _ _ g8
   by_cases aV:bB<0
   · have ga:=eq_true aV
     simp +contextual only [c_,eZ,b'.1,bY.1,b'.2,bY.2,ga,↓ai,aq,simprocAttr]
     refine bm (l' H1 2 .aF ⟨rfl,rfl,rfl⟩) ?_
     rintro x aK F
     obtain ⟨bg,bq,cm,rfl,aX,t⟩:=a'.make (v:=.dt 2 []) F rfl
     simp +contextual only [↓ai,aq,simprocAttr]
     refine bm (ri ⟨_,_,_,_,cm⟩ O.w aX) ?_
     rintro x bM ⟨e4,c0⟩
     simp +contextual only [↓ai,aq,simprocAttr]
     refine ⟨e4,bq,?_⟩
     simp only [av.qB,List.getD_cons_zero,List.getD_cons_succ,eH,g8]
     rw [if_neg (by omega)]
     exact c0
   have ga:=eq_false aV
   by_cases br:(a0.length:Int)≤bB
   · have hD:=eq_true br
     simp +contextual only [c_,eZ,b'.1,bY.1,b'.2,bY.2,ga,hD,↓ai,aq,simprocAttr]
     refine bm (l' H1 2 .aF ⟨rfl,rfl,rfl⟩) ?_
     rintro x aK F
     obtain ⟨bg,bq,cm,rfl,aX,t⟩:=a'.make (v:=.dt 2 []) F rfl
     simp +contextual only [↓ai,aq,simprocAttr]
     refine bm (ri ⟨_,_,_,_,cm⟩ O.w aX) ?_
     rintro x bM ⟨e4,c0⟩
     simp +contextual only [↓ai,aq,simprocAttr]
     refine ⟨e4,bq,?_⟩
     simp only [av.qB,List.getD_cons_zero,List.getD_cons_succ,eH,g8]
     rw [if_neg (by omega)]
     exact c0
   have hD:=eq_false br
   have hT:pL.run (.str a0) (.int .i64 bB)=some (.int .u8 (((a0[bB.toNat]?).getD 0).toNat:Int)):=by rw [NS,if_pos (by omega)]
   have xl:=(a0[bB.toNat]?.getD 0).toNat_lt
   have iW:IntKind.i64.wrap (((a0[bB.toNat]?.getD 0).toNat:Nat):Int)=(((a0[bB.toNat]?.getD 0).toNat:Nat):Int):=wrap_i64 (by omega) (by omega)
   simp +contextual only [c_,eZ,b'.1,bY.1,b'.2,bY.2,ga,hD,hT,iW,↓ai,aq,simprocAttr]
   refine bm (pW H1 (((a0[bB.toNat]?.getD 0).toNat:Nat):Int)) ?_
   rintro x aK F
   obtain ⟨bg,bq,cm,rfl,aX,t⟩:=a'.make (v:=.int (((a0[bB.toNat]?.getD 0).toNat:Nat):Int)) F rfl
   obtain ⟨_,_,c6,_⟩:=F
   have jJ:=dg _ c6
   have jK:=dq _ c6
   simp +contextual only [uO,c_,eZ,b'.1,bY.1,b'.2,bY.2,jJ.1,jK.1,jJ.2,jK.2,ga,hD,hT,iW,↓ai,aq,simprocAttr]
   refine bm (kB ⟨_,_,_,_,cm⟩ O.w aX) ?_
   rintro x bM ⟨e4,c0⟩
   simp +contextual only [uO,c_,eZ,b'.1,bY.1,b'.2,bY.2,jJ.1,jK.1,jJ.2,jK.2,ga,hD,hT,iW,↓ai,aq,simprocAttr]
   refine ⟨e4,bq,?_⟩
   simp only [av.qB,List.getD_cons_zero,List.getD_cons_succ,eH,g8]
   rw [if_pos (by omega)]
   exact c0
set_option maxHeartbeats 1000000 in
theorem SX (M:cR ao h aE K aD bp pm S steps) (O:Ok S) {bO c3 kW:Nat} {aY:V} (A:fV h aD [bO,c3,kW] aY):
 bR Tryz.prog 97 [.ptr aE 0,aY] h fun x aa=>∃bg bq,cR ao aa aE bg bq bp pm (S.cut [bO,c3,kW]) steps:=by
 obtain ⟨_,_,_,_,M⟩:=M
 have aL:Ext h (h.new (.ar [.int .i64 2,.int .i64 1,.int .i64 1] 0 false)):=(Ext.refl h).new _
 have gk:cF (h.new (.ar [.int .i64 2,.int .i64 1,.int .i64 1] 0 false)) 1 (.slice (ak h.next) 0 3 3) 3 (cC [2,1,1]):=pM h [2,1,1]
 have a':=M.ext aL
 have dF:=A.ext aL
 refine R3 rfl (b9 ?_)
 unfold Jf
 simp +contextual only [↓ai,aq,simprocAttr]
 refine bm (pQ ⟨_,_,_,_,a'⟩ dF (ay:=[2,1,1]) gk (Nat.le_refl _) (by decide)) ?_
 rintro x af ⟨rfl,bT,b8⟩
 cases al:e_ S [bO,c3,kW] [2,1,1] with
 | false=>
   simp +contextual only [↓ai,aq,simprocAttr]
   rw [SY al]
   exact ⟨_,_,b8 al⟩
 | true=>
   obtain rfl:=bT al
   clear bT b8 gk
   generalize h.new (.ar [.int .i64 2,.int .i64 1,.int .i64 1] 0 false)=H1 at *
   simp only [e_,Bool.and_true,Bool.and_eq_true,decide_eq_true_eq] at al
   have E:=a'.rep.ext
   obtain ⟨a0,eH⟩:=vz al.1
   obtain ⟨hs,eJ,jn,jC,_,_,c_,_,dg⟩:=a'.arg dF 0 0 bO rfl rfl
   rw [eH] at dg
   simp only [e',g_,iV] at dg
   have b':=dg _ (Ext.refl _)
   obtain ⟨bB,g8⟩:=nR al.2.1
   obtain ⟨pF,cJ,ff,u6,_,_,eZ,_,dq⟩:=a'.arg dF 1 1 c3 rfl rfl
   rw [g8] at dq
   simp only [e',g_,iV] at dq
   have bY:=dq _ (Ext.refl _)
   obtain ⟨bJ,qK⟩:=nR al.2.2
   obtain ⟨KK,ct,fT,aeo,_,_,lx,_,o0⟩:=a'.arg dF 2 2 kW rfl rfl
   rw [qK] at o0
   simp only [e',g_,iV] at o0
   have gb:=o0 _ (Ext.refl _)
   have Es:=O.texts _ _ eH
   have eA:=O.ints _ _ g8
   have lr:=O.ints _ _ qK
   by_cases aV:bB<0
   · have ga:=eq_true aV
     simp +contextual only [c_,eZ,lx,b'.1,bY.1,gb.1,b'.2,bY.2,gb.2,ga,↓ai,aq,simprocAttr]
     refine bm (l' H1 2 .aF ⟨rfl,rfl,rfl⟩) ?_
     rintro x aK F
     obtain ⟨bg,bq,cm,rfl,aX,t⟩:=a'.make (v:=.dt 2 []) F rfl
     simp +contextual only [↓ai,aq,simprocAttr]
     refine bm (ri ⟨_,_,_,_,cm⟩ O.w aX) ?_
     rintro x bM ⟨e4,c0⟩
     simp +contextual only [↓ai,aq,simprocAttr]
     refine ⟨e4,bq,?_⟩
     simp only [av.cut,List.getD_cons_zero,List.getD_cons_succ,eH,g8,qK]
     rw [if_neg (by omega)]
     exact c0
   have ga:=eq_false aV
   by_cases br:bJ<0
   · have hD:=eq_true br
     simp +contextual only [c_,eZ,lx,b'.1,bY.1,gb.1,b'.2,bY.2,gb.2,ga,hD,↓ai,aq,simprocAttr]
     refine bm (l' H1 2 .aF ⟨rfl,rfl,rfl⟩) ?_
     rintro x aK F
     obtain ⟨bg,bq,cm,rfl,aX,t⟩:=a'.make (v:=.dt 2 []) F rfl
     simp +contextual only [↓ai,aq,simprocAttr]
     refine bm (ri ⟨_,_,_,_,cm⟩ O.w aX) ?_
     rintro x bM ⟨e4,c0⟩
     simp +contextual only [↓ai,aq,simprocAttr]
     refine ⟨e4,bq,?_⟩
     simp only [av.cut,List.getD_cons_zero,List.getD_cons_succ,eH,g8,qK]
     rw [if_neg (by omega)]
     exact c0
   have hD:=eq_false br
   by_cases an:(a0.length:Int)<bB
   · have Ag:=eq_true an
     simp +contextual only [c_,eZ,lx,b'.1,bY.1,gb.1,b'.2,bY.2,gb.2,ga,hD,Ag,↓ai,aq,simprocAttr]
     refine bm (l' H1 2 .aF ⟨rfl,rfl,rfl⟩) ?_
     rintro x aK F
     obtain ⟨bg,bq,cm,rfl,aX,t⟩:=a'.make (v:=.dt 2 []) F rfl
     simp +contextual only [↓ai,aq,simprocAttr]
     refine bm (ri ⟨_,_,_,_,cm⟩ O.w aX) ?_
     rintro x bM ⟨e4,c0⟩
     simp +contextual only [↓ai,aq,simprocAttr]
     refine ⟨e4,bq,?_⟩
     simp only [av.cut,List.getD_cons_zero,List.getD_cons_succ,eH,g8,qK]
     rw [if_neg (by omega)]
     exact c0
   have Ag:=eq_false an
   have eE:IntKind.i64.wrap ((a0.length:Int)-bB)=(a0.length:Int)-bB:=wrap_i64 (by omega) (by omega)
   have di:IntKind.i64.wrap (bB+bJ)=bB+bJ:=wrap_i64 (by omega) (by omega)
   by_cases hu:(a0.length:Int)-bB<bJ
   · have fI:=eq_true hu
     simp +contextual only [c_,eZ,lx,b'.1,bY.1,gb.1,b'.2,bY.2,gb.2,ga,hD,Ag,eE,fI,↓ai,aq,simprocAttr]
     refine bm (l' H1 2 .aF ⟨rfl,rfl,rfl⟩) ?_
     rintro x aK F
     obtain ⟨bg,bq,cm,rfl,aX,t⟩:=a'.make (v:=.dt 2 []) F rfl
     simp +contextual only [↓ai,aq,simprocAttr]
     refine bm (ri ⟨_,_,_,_,cm⟩ O.w aX) ?_
     rintro x bM ⟨e4,c0⟩
     simp +contextual only [↓ai,aq,simprocAttr]
     refine ⟨e4,bq,?_⟩
     simp only [av.cut,List.getD_cons_zero,List.getD_cons_succ,eH,g8,qK]
     rw [if_neg (by omega)]
     exact c0
   have fI:=eq_false hu
   have gZ:k' (.str a0) (some (.int .i64 bB)) (some (.int .i64 (bB+bJ))) none=some (.str ((a0.drop bB.toNat).take bJ.toNat)):=by
    rw [N4,if_pos (by omega)]
    congr 4
    omega
   simp +contextual only [c_,eZ,lx,b'.1,bY.1,gb.1,b'.2,bY.2,gb.2,ga,hD,Ag,eE,di,fI,gZ,↓ai,aq,simprocAttr]
   refine bm (By H1 ((a0.drop bB.toNat).take bJ.toNat)) ?_
   rintro x aK F
   obtain ⟨bg,bq,cm,rfl,aX,t⟩:=a'.make (v:=.text ((a0.drop bB.toNat).take bJ.toNat)) F rfl
   simp +contextual only [↓ai,aq,simprocAttr]
   refine bm (kB ⟨_,_,_,_,cm⟩ O.w aX) ?_
   rintro x bM ⟨e4,c0⟩
   simp +contextual only [↓ai,aq,simprocAttr]
   refine ⟨e4,bq,?_⟩
   simp only [av.cut,List.getD_cons_zero,List.getD_cons_succ,eH,g8,qK]
   rw [if_pos (by omega)]
   exact c0
set_option maxHeartbeats 1000000 in
theorem WN (M:cR ao h aE K aD bp pm S steps) (O:Ok S) {bO c3:Nat} {aY:V} (A:fV h aD [bO,c3] aY):
 bR Tryz.prog 98 [.ptr aE 0,aY] h fun x aa=>∃bg bq,cR ao aa aE bg bq bp pm (S.join [bO,c3]) steps:=by
 obtain ⟨_,_,_,_,M⟩:=M
 have aL:Ext h (h.new (.ar [.int .i64 2,.int .i64 2] 0 false)):=(Ext.refl h).new _
 have gk:cF (h.new (.ar [.int .i64 2,.int .i64 2] 0 false)) 1 (.slice (ak h.next) 0 2 2) 2 (cC [2,2]):=pM h [2,2]
 have a':=M.ext aL
 have dF:=A.ext aL
 refine R4 rfl (b9 ?_)
 unfold Jg
 simp +contextual only [↓ai,aq,simprocAttr]
 refine bm (pQ ⟨_,_,_,_,a'⟩ dF (ay:=[2,2]) gk (Nat.le_refl _) (by decide)) ?_
 rintro x af ⟨rfl,bT,b8⟩
 cases al:e_ S [bO,c3] [2,2] with
 | false=>
   simp +contextual only [↓ai,aq,simprocAttr]
   rw [WO al]
   exact ⟨_,_,b8 al⟩
 | true=>
   obtain rfl:=bT al
   clear bT b8 gk
   generalize h.new (.ar [.int .i64 2,.int .i64 2] 0 false)=H1 at *
   simp only [e_,Bool.and_true,Bool.and_eq_true,decide_eq_true_eq] at al
   have E:=a'.rep.ext
   obtain ⟨a0,eH⟩:=vz al.1
   obtain ⟨hs,eJ,jn,jC,_,_,c_,_,dg⟩:=a'.arg dF 0 0 bO rfl rfl
   rw [eH] at dg
   simp only [e',g_,iV] at dg
   have b':=dg _ (Ext.refl _)
   obtain ⟨bB,g8⟩:=vz al.2
   obtain ⟨pF,cJ,ff,u6,_,_,eZ,_,dq⟩:=a'.arg dF 1 1 c3 rfl rfl
   rw [g8] at dq
   simp only [e',g_,iV] at dq
   have bY:=dq _ (Ext.refl _)
   have Es:=O.texts _ _ eH
   have eA:=O.texts _ _ g8
   have eE:IntKind.i64.wrap ((a0.length:Int) + (bB.length:Int))=(a0.length:Int) + (bB.length:Int):=wrap_i64 (by omega) (by omega)
   by_cases aV:4096 < (a0.length:Int) + (bB.length:Int)
   · have ga:=eq_true aV
     simp +contextual only [c_,eZ,b'.1,bY.1,b'.2,bY.2,eE,ga,↓ai,aq,simprocAttr]
     refine bm (l' H1 2 .aF ⟨rfl,rfl,rfl⟩) ?_
     rintro x aK F
     obtain ⟨bg,bq,cm,rfl,aX,t⟩:=a'.make (v:=.dt 2 []) F rfl
     simp +contextual only [↓ai,aq,simprocAttr]
     refine bm (ri ⟨_,_,_,_,cm⟩ O.w aX) ?_
     rintro x bM ⟨e4,c0⟩
     simp +contextual only [↓ai,aq,simprocAttr]
     refine ⟨e4,bq,?_⟩
     simp only [av.join,List.getD_cons_zero,List.getD_cons_succ,eH,g8]
     rw [if_neg (by omega)]
     exact c0
   have ga:=eq_false aV
   have PN:(dO.str .add).run Tryz.prog (.str a0) (.str bB)=some (.str (a0++bB)):=by rw [NQ,if_pos (by unfold top;omega)]
   simp +contextual only [c_,eZ,b'.1,bY.1,b'.2,bY.2,eE,ga,PN,↓ai,aq,simprocAttr]
   refine bm (By H1 (a0++bB)) ?_
   rintro x aK F
   obtain ⟨bg,bq,cm,rfl,aX,t⟩:=a'.make (v:=.text (a0++bB)) F rfl
   obtain ⟨_,_,c6,_⟩:=F
   have jJ:=dg _ c6
   have jK:=dq _ c6
   simp +contextual only [c_,eZ,b'.1,bY.1,b'.2,bY.2,jJ.1,jK.1,jJ.2,jK.2,↓ai,aq,simprocAttr]
   refine bm (kB ⟨_,_,_,_,cm⟩ O.w aX) ?_
   rintro x bM ⟨e4,c0⟩
   simp +contextual only [c_,eZ,b'.1,bY.1,b'.2,bY.2,jJ.1,jK.1,jJ.2,jK.2,↓ai,aq,simprocAttr]
   refine ⟨e4,bq,?_⟩
   simp only [av.join,List.getD_cons_zero,List.getD_cons_succ,eH,g8]
   rw [if_pos (by omega)]
   exact c0
end
end Go.Proofs.YtjbiefneffiogaaGreat
namespace Go.Proofs.YtjbiefneffiogaaGreat
open Go ba
section
variable {ao h aa:ag} {aE:aN} {K:fi} {aD:List aN} {bp pm:V} {S:av} {steps:Int} {c1 cN cz bW:V}
set_option maxHeartbeats 1000000 in
theorem abY (M:cR ao h aE K aD bp pm S steps) (O:Ok S) {bO c3:Nat} {aY:V} (A:fV h aD [bO,c3] aY):
 bR Tryz.prog 99 [.ptr aE 0,aY] h fun x aa=>∃bg bq,cR ao aa aE bg bq bp pm (S.su [bO,c3]) steps:=by
 have gF:=M
 obtain ⟨hQ,eq,gu,dv,M⟩:=M
 obtain ⟨hs,eJ,jn,jC,_,_,c_,nc,dg⟩:=M.arg A 0 0 bO rfl rfl
 obtain ⟨pF,cJ,ff,u6,_,_,eZ,_,dq⟩:=M.arg A 1 1 c3 rfl rfl
 have b':=dg _ (Ext.refl _)
 have bY:=dq _ (Ext.refl _)
 refine R5 rfl (b9 ?_)
 unfold Jh
 by_cases xv:e' (S.val bO)=4
 rotate_left
 · have oI:=eq_false xv
   simp +contextual only [c_,eZ,b'.1,bY.1,b'.2,bY.2,oI,↓ai,aq,simprocAttr]
   refine bm (nt gF 6) ?_
   rintro x bM c0
   simp +contextual only [↓ai,aq,simprocAttr]
   refine ⟨K,aD,?_⟩
   have:S.su [bO,c3]=S.gM:=by
    simp only [av.su,List.getD_cons_zero]
    cases a6:S.val bO<;>first | rfl | (rw [a6] at xv;exact absurd rfl xv)
   rw [this]
   exact c0
 obtain ⟨t,bw,a6⟩:=As xv
 rw [a6] at b' dg nc
 simp only [e',g_,iV] at b' dg
 have En:S.su [bO,c3]=if t=0∧bw.length=1 then {S with st:=S.st.set bO (.dt 0 [c3])}.dw (.dt 0 []) else S.gM:=by
  simp only [av.su,List.getD_cons_zero,List.getD_cons_succ,a6]
 by_cases aI:t=0
 rotate_left
 · have VZ:=eq_false aI
   simp +contextual only [c_,eZ,b'.1,bY.1,b'.2,bY.2,VZ,↓ai,aq,simprocAttr]
   refine bm (nt gF 6) ?_
   rintro x bM c0
   simp +contextual only [↓ai,aq,simprocAttr]
   refine ⟨K,aD,?_⟩
   rw [En,if_neg (by omega)]
   exact c0
 subst aI
 obtain ⟨f1,f2,f3⟩:=nc
 have aB:=f1.v.len
 by_cases mK:bw.length=1
 rotate_left
 · have UT:((bw.length:Int)=1)=False:=eq_false (by omega)
   simp +contextual only [c_,eZ,b'.1,bY.1,b'.2,bY.2,aB,UT,↓ai,aq,simprocAttr]
   refine bm (nt gF 6) ?_
   rintro x bM c0
   simp +contextual only [↓ai,aq,simprocAttr]
   refine ⟨K,aD,?_⟩
   rw [En,if_neg (by omega)]
   exact c0
 rw [mK] at aB f1
 obtain ⟨qH,Dh,aL,bo,c6⟩:=f1.v.oY (k:=.i64) (i:=0) (by decide)
 have f':=Hg f1.v (k:=.i64) (i:=0) (by decide) aL
 have S_:gy 1 jC (.int .i64 0)=some (.ptr qH Dh):=by simpa using aL
 obtain ⟨k,b_,_,cy,gB⟩:=f1.MY f' (c:=0) (by simp [mK]) (y:=eh aD c3) rfl rfl
 rw [Nat.add_zero] at b_
 have AW:pR 1 h qH Dh (.ptr (e6 aD c3) 0) (h.get qH)=some (h.set qH k):=b_
 have dN:((((1:Nat):Int))=1)=True:=eq_true rfl
 have bZ:=f2 qH c6
 have t:dQ ao K h aD K (h.set qH k) aD (·=.nx bO):=dQ.x3 bZ (f1.base c6)
 have DY:bO<S.st.length:=by rw [←M.rep.len];exact hs
 have Eu:(bw.map (eh aD)).set 0 (eh aD c3)=[c3].map (eh aD):=by
  match bw,mK with
  | [a],_=>rfl
 rw [Eu] at cy
 have aeA:e6 aD bO≠qH:=fun q=>by
  obtain ⟨_,_,_,_,eu,_⟩:=M.val hs
  rw [q,bZ] at eu;cases eu
 obtain ⟨_,_,_,_,eu,_⟩:=M.val hs
 have a':dc ao (h.set qH k) aE K aD bp pm {S with st:=S.st.set bO (.dt 0 [c3])} steps hQ eq gu dv:=by
  have oS:K aE≠.no:=by rw [M.fq];simp
  refine ⟨M.rep.Ot (i:=bO) (v:=.dt 0 [c3]) t (by simp) (by intro j bC;simpa using bC) (by simp) ?_,M.fq,?_,M.co,M.fX.c8 t (by simp),M.wr.c8 t (by simp) (by simp),M.fB.c8 t (by simp)⟩
  · exact ⟨eu,jC,.cq,_,by rw [t.get _ (by rw [eu];simp) (by rw [eu];simp)];obtain ⟨_,aen,iE,Jz,dK,dE,_⟩:=M.rep.val bO _ (av.OC DY);rw [a6] at dE;have:=Mi (b'.2.symm.trans dK);cases dE;simp only [List.cons.injEq,true_and,and_true] at this;rw [b'.2,this.2.1,this.2.2],rfl,⟨cy,f2,by simpa using pF⟩,trivial⟩
  · rw [t.get aE oS (by rw [M.fq];simp)];exact M.get
 simp +contextual only [c_,eZ,b'.1,bY.1,b'.2,bY.2,aB,dN,S_,AW,↓ai,aq,simprocAttr]
 refine bm (l' _ 0 .aF ⟨rfl,rfl,rfl⟩) ?_
 rintro x aK F
 obtain ⟨bg,bq,cm,rfl,aX,t⟩:=a'.make (v:=.dt 0 []) F rfl
 simp +contextual only [↓ai,aq,simprocAttr]
 refine bm (kB ⟨_,_,_,_,cm⟩ O.w aX) ?_
 rintro x bM ⟨e4,c0⟩
 simp +contextual only [↓ai,aq,simprocAttr]
 refine ⟨e4,bq,?_⟩
 rw [En,if_pos ⟨rfl,mK⟩]
 exact c0
end
end Go.Proofs.YtjbiefneffiogaaGreat
namespace Go.Proofs.YtjbiefneffiogaaGreat
open Go ba
theorem Gf (n:Int) (h:ag):ma Tryz.prog 120 [.int .i64 n] h (.bool (eN n)) h:=by
 refine A1 (Q1 rfl (b9 ?_))
 unfold HM
 simp +contextual only [↓ai,aq,simprocAttr]
 rfl
theorem OO (n a b:Int) (h:ag):bR Tryz.prog 121 [.int .i64 n,.agg [.int .i64 a,.int .i64 b]] h fun x aa=>x=.bool (qe n a b)∧Ext h aa:=by
 refine Q2 rfl (b9 ?_)
 unfold HN
 have t0:((0:Int) < ((2:Nat):Int))=True:=eq_true (by decide)
 have t1:((1:Int) < ((2:Nat):Int))=True:=eq_true (by decide)
 simp +contextual only [nM,t0,t1,Int.toNat_zero,Int.toNat_one,Nat.zero_mul,Nat.add_zero,↓ai,aq,simprocAttr]
 exact ⟨rfl,(Ext.refl h).new _⟩
theorem Qn (a:At) (h:ag):bR Tryz.prog 126 [.agg a.enc] h fun x aa=>x=.bool (e5 a)∧Ext h aa:=by
 obtain ⟨k,n,s⟩:=a
 refine Q7 rfl (b9 ?_)
 unfold HT
 have an:Ext h (h.new (.ar (At.enc ⟨k,n,s⟩) 0 false)):=(Ext.refl h).new _
 have he:At.enc ⟨k,n,s⟩=[.int .i64 k,.int .i64 n,.str s]:=rfl
 rw [he] at an ⊢
 by_cases ab:k=1
 · subst ab
   simp +contextual only [↓ai,aq,simprocAttr]
   refine ⟨?_,an⟩
   simp [e5,eN]
 by_cases af:k=2
 · subst af
   simp +contextual only [↓ai,aq,simprocAttr]
   refine ⟨?_,an⟩
   simp [e5,pV]
 by_cases aK:k=3
 · subst aK
   simp +contextual only [↓ai,aq,simprocAttr]
   refine ⟨?_,an⟩
   simp [e5]
   congr 1
   rw [decide_eq_decide]
   omega
 · have jE:=eq_false ab
   have s8:=eq_false af
   have mH:=eq_false aK
   simp +contextual only [jE,s8,mH,↓ai,aq,simprocAttr]
   refine ⟨?_,an⟩
   simp [e5,ab,af,aK]
theorem aau (a:At) (h:ag):bR Tryz.prog 125 [.agg a.enc] h fun x aa=>x=.bool (!e5 a)∧Ext h aa:=by
 refine Q6 rfl (b9 ?_)
 unfold HS
 have he:(At.enc a).length=3:=rfl
 obtain ⟨k,n,s⟩:=a
 have he:At.enc ⟨k,n,s⟩=[.int .i64 k,.int .i64 n,.str s]:=rfl
 rw [he]
 simp +contextual only [↓ai,aq,simprocAttr]
 refine bm (he ▸ Qn ⟨k,n,s⟩ _) ?_
 rintro x ab ⟨rfl,et⟩
 simp +contextual only [↓ai,aq,simprocAttr]
 exact ((Ext.refl h).new _).trans et
theorem WD (l:List At) (v:V) (h:ag) (H:cF h 3 v l.length (gG l)) (aB:l.length≤4611686018427387904):
 bR Tryz.prog 160 [v,.func 125 []] h fun x aa=>(∃i:Int,x=.int .i64 i∧decide (0≤i)=!l.all e5)∧Ext h aa:=by
 refine Rh rfl (b9 ?_)
 unfold H'
 simp +contextual only [H.len,↓ai,aq,simprocAttr]
 refine gz (fun r aa=>Ext h aa∧r 0=v∧r 1=.func 125 []∧r 7=.int .i64 l.length∧∃i:Nat,r 8=.int .i64 i∧i≤l.length∧l.all e5=(l.drop i).all e5) (fun r aa=>l.length - (r 8).hf) ?_ ?_
 · exact ⟨Ext.refl h,by simp only [↓ai,a2,simprocAttr],by simp only [↓ai,a2,simprocAttr],by simp only [↓ai,a2,simprocAttr],0,by simp only [↓ai,a2,simprocAttr]<;>rfl,by omega,rfl⟩
 · rintro r aa ⟨an,cj,bf,fU,i,iS,ax,b7⟩
   unfold H_
   by_cases aS:i<l.length
   · have bP:((i:Int) < (l.length:Int))=True:=eq_true (by omega)
     obtain ⟨b,o,cl,c7,_⟩:=uS (H.ext an) (k:=.i64) aS
     rw [List.drop_eq_getElem_cons aS,List.all_cons] at b7
     have w:=hg aS aB
     simp +contextual only [cj,bf,fU,iS,bP,cl,c7,↓ai,aq,simprocAttr]
     refine bm (aau l[i] aa) ?_
     rintro x ab ⟨rfl,et⟩
     cases bH:e5 l[i] with
     | true=>
       simp +contextual only [cj,bf,fU,iS,w,↓ai,aq,simprocAttr]
       exact ⟨⟨an.trans et,⟨i+1,rfl,aS,by rw [b7,bH,Bool.true_and]⟩⟩,by omega⟩
     | false=>
       simp +contextual only [cj,bf,fU,iS,w,↓ai,aq,simprocAttr]
       refine ⟨⟨i,rfl,?_⟩,an.trans et⟩
       rw [b7,bH]
       simp
   · have bP:((i:Int) < (l.length:Int))=False:=eq_false (by omega)
     rw [List.drop_eq_nil_of_le (by omega)] at b7
     simp +contextual only [cj,bf,fU,iS,bP,↓ai,aq,simprocAttr]
     exact ⟨⟨-1,rfl,by rw [b7];rfl⟩,an⟩
theorem zr (l:List At) (v:V) (h:ag) (H:cF h 3 v l.length (gG l)) (aB:l.length≤4611686018427387904):
 bR Tryz.prog 124 [v,.func 125 []] h fun x aa=>x=.bool (!l.all e5)∧Ext h aa:=by
 refine Q5 rfl (b9 ?_)
 unfold HR
 simp +contextual only [↓ai,aq,simprocAttr]
 refine bm (WD l v h H aB) ?_
 rintro x ab ⟨⟨i,rfl,ax⟩,et⟩
 simp +contextual only [ax,↓ai,aq,simprocAttr]
 exact et
def h2.enc (r:h2):List V:=[.bool r.x,.bool r.n,.bool r.s,.bool r.tags,.int .i64 r.a0,.int .i64 r.bB,.int .i64 r.b',.int .i64 r.bY]
theorem l7 (h:ag) (aL bo c6 jB:cp):Ext h ((((h.new aL).new bo).set (ak (h.next+1)) c6).set (ak h.next) jB):=((((Ext.refl h).new aL).new bo).set (by omega) c6).set (Nat.le_refl _) jB
set_option maxRecDepth 100000 in
theorem abP (k:Int) (ao:k≤0) (h:ag):bR Tryz.prog 119 [.int .i64 k] h fun x aa=>x=.tuple [.agg ((d_ k).getD h2.none).enc,.bool (d_ k).isSome]∧Ext h aa:=by
 refine lO rfl (b9 ?_)
 unfold lh
 have u_:=eq_true ao
 have aT:d_ k=none:=by unfold d_;repeat rw [if_neg (by omega)]
 simp +contextual (maxSteps:=1000000) only [u_,aT,↓ai,aq,simprocAttr]
 exact ⟨rfl,l7 h _ _ _ _⟩
set_option maxRecDepth 100000 in
theorem abO (k:Int) (ab:13≤k) (h:ag):bR Tryz.prog 119 [.int .i64 k] h fun x aa=>x=.tuple [.agg ((d_ k).getD h2.none).enc,.bool (d_ k).isSome]∧Ext h aa:=by
 refine lO rfl (b9 ?_)
 unfold lh
 have u_:(k≤0)=False:=eq_false (by omega)
 have jE:=eq_true ab
 have aT:d_ k=none:=by unfold d_;repeat rw [if_neg (by omega)]
 simp +contextual (maxSteps:=1000000) only [u_,jE,aT,↓ai,aq,simprocAttr]
 exact ⟨rfl,l7 h _ _ _ _⟩
set_option maxRecDepth 100000 in
theorem abL (h:ag):bR Tryz.prog 119 [.int .i64 8] h fun x aa=>x=.tuple [.agg ((d_ 8).getD h2.none).enc,.bool (d_ 8).isSome]∧Ext h aa:=by
 refine lO rfl (b9 ?_)
 unfold lh
 have aT:d_ 8=none:=by decide
 simp +contextual (maxSteps:=1000000) only [aT,↓ai,aq,simprocAttr]
 exact ⟨rfl,l7 h _ _ _ _⟩
set_option maxRecDepth 100000 in
theorem abB (h:ag):bR Tryz.prog 119 [.int .i64 1] h fun x aa=>x=.tuple [.agg ((d_ 1).getD h2.none).enc,.bool (d_ 1).isSome]∧Ext h aa:=by
 refine lO rfl (b9 ?_)
 unfold lh
 have t0:((1:Int) < ((13:Nat):Int))=True:=eq_true (by decide)
 have t1:(1:Int).toNat=1:=rfl
 simp +contextual (maxSteps:=1000000) only [nM,t0,t1,Nat.reduceMul,Nat.zero_add,↓ai,aq,simprocAttr]
 exact ⟨rfl,l7 h _ _ _ _⟩
set_option maxRecDepth 100000 in
theorem abF (h:ag):bR Tryz.prog 119 [.int .i64 2] h fun x aa=>x=.tuple [.agg ((d_ 2).getD h2.none).enc,.bool (d_ 2).isSome]∧Ext h aa:=by
 refine lO rfl (b9 ?_)
 unfold lh
 have t0:((2:Int) < ((13:Nat):Int))=True:=eq_true (by decide)
 have t1:(2:Int).toNat=2:=rfl
 simp +contextual (maxSteps:=1000000) only [nM,t0,t1,Nat.reduceMul,Nat.zero_add,↓ai,aq,simprocAttr]
 exact ⟨rfl,l7 h _ _ _ _⟩
set_option maxRecDepth 100000 in
theorem abG (h:ag):bR Tryz.prog 119 [.int .i64 3] h fun x aa=>x=.tuple [.agg ((d_ 3).getD h2.none).enc,.bool (d_ 3).isSome]∧Ext h aa:=by
 refine lO rfl (b9 ?_)
 unfold lh
 have t0:((3:Int) < ((13:Nat):Int))=True:=eq_true (by decide)
 have t1:(3:Int).toNat=3:=rfl
 simp +contextual (maxSteps:=1000000) only [nM,t0,t1,Nat.reduceMul,Nat.zero_add,↓ai,aq,simprocAttr]
 exact ⟨rfl,l7 h _ _ _ _⟩
set_option maxRecDepth 100000 in
theorem abH (h:ag):bR Tryz.prog 119 [.int .i64 4] h fun x aa=>x=.tuple [.agg ((d_ 4).getD h2.none).enc,.bool (d_ 4).isSome]∧Ext h aa:=by
 refine lO rfl (b9 ?_)
 unfold lh
 have t0:((4:Int) < ((13:Nat):Int))=True:=eq_true (by decide)
 have t1:(4:Int).toNat=4:=rfl
 simp +contextual (maxSteps:=1000000) only [nM,t0,t1,Nat.reduceMul,Nat.zero_add,↓ai,aq,simprocAttr]
 exact ⟨rfl,l7 h _ _ _ _⟩
set_option maxRecDepth 100000 in
theorem abI (h:ag):bR Tryz.prog 119 [.int .i64 5] h fun x aa=>x=.tuple [.agg ((d_ 5).getD h2.none).enc,.bool (d_ 5).isSome]∧Ext h aa:=by
 refine lO rfl (b9 ?_)
 unfold lh
 have t0:((5:Int) < ((13:Nat):Int))=True:=eq_true (by decide)
 have t1:(5:Int).toNat=5:=rfl
 simp +contextual (maxSteps:=1000000) only [nM,t0,t1,Nat.reduceMul,Nat.zero_add,↓ai,aq,simprocAttr]
 exact ⟨rfl,l7 h _ _ _ _⟩
set_option maxRecDepth 100000 in
theorem abJ (h:ag):bR Tryz.prog 119 [.int .i64 6] h fun x aa=>x=.tuple [.agg ((d_ 6).getD h2.none).enc,.bool (d_ 6).isSome]∧Ext h aa:=by
 refine lO rfl (b9 ?_)
 unfold lh
 have t0:((6:Int) < ((13:Nat):Int))=True:=eq_true (by decide)
 have t1:(6:Int).toNat=6:=rfl
 simp +contextual (maxSteps:=1000000) only [nM,t0,t1,Nat.reduceMul,Nat.zero_add,↓ai,aq,simprocAttr]
 exact ⟨rfl,l7 h _ _ _ _⟩
set_option maxRecDepth 100000 in
theorem abK (h:ag):bR Tryz.prog 119 [.int .i64 7] h fun x aa=>x=.tuple [.agg ((d_ 7).getD h2.none).enc,.bool (d_ 7).isSome]∧Ext h aa:=by
 refine lO rfl (b9 ?_)
 unfold lh
 have t0:((7:Int) < ((13:Nat):Int))=True:=eq_true (by decide)
 have t1:(7:Int).toNat=7:=rfl
 simp +contextual (maxSteps:=1000000) only [nM,t0,t1,Nat.reduceMul,Nat.zero_add,↓ai,aq,simprocAttr]
 exact ⟨rfl,l7 h _ _ _ _⟩
set_option maxRecDepth 100000 in
theorem abM (h:ag):bR Tryz.prog 119 [.int .i64 9] h fun x aa=>x=.tuple [.agg ((d_ 9).getD h2.none).enc,.bool (d_ 9).isSome]∧Ext h aa:=by
 refine lO rfl (b9 ?_)
 unfold lh
 have t0:((9:Int) < ((13:Nat):Int))=True:=eq_true (by decide)
 have t1:(9:Int).toNat=9:=rfl
 simp +contextual (maxSteps:=1000000) only [nM,t0,t1,Nat.reduceMul,Nat.zero_add,↓ai,aq,simprocAttr]
 exact ⟨rfl,l7 h _ _ _ _⟩
set_option maxRecDepth 100000 in
theorem abC (h:ag):bR Tryz.prog 119 [.int .i64 10] h fun x aa=>x=.tuple [.agg ((d_ 10).getD h2.none).enc,.bool (d_ 10).isSome]∧Ext h aa:=by
 refine lO rfl (b9 ?_)
 unfold lh
 have t0:((10:Int) < ((13:Nat):Int))=True:=eq_true (by decide)
 have t1:(10:Int).toNat=10:=rfl
 simp +contextual (maxSteps:=1000000) only [nM,t0,t1,Nat.reduceMul,Nat.zero_add,↓ai,aq,simprocAttr]
 exact ⟨rfl,l7 h _ _ _ _⟩
set_option maxRecDepth 100000 in
theorem abD (h:ag):bR Tryz.prog 119 [.int .i64 11] h fun x aa=>x=.tuple [.agg ((d_ 11).getD h2.none).enc,.bool (d_ 11).isSome]∧Ext h aa:=by
 refine lO rfl (b9 ?_)
 unfold lh
 have t0:((11:Int) < ((13:Nat):Int))=True:=eq_true (by decide)
 have t1:(11:Int).toNat=11:=rfl
 simp +contextual (maxSteps:=1000000) only [nM,t0,t1,Nat.reduceMul,Nat.zero_add,↓ai,aq,simprocAttr]
 exact ⟨rfl,l7 h _ _ _ _⟩
set_option maxRecDepth 100000 in
theorem abE (h:ag):bR Tryz.prog 119 [.int .i64 12] h fun x aa=>x=.tuple [.agg ((d_ 12).getD h2.none).enc,.bool (d_ 12).isSome]∧Ext h aa:=by
 refine lO rfl (b9 ?_)
 unfold lh
 have t0:((12:Int) < ((13:Nat):Int))=True:=eq_true (by decide)
 have t1:(12:Int).toNat=12:=rfl
 simp +contextual (maxSteps:=1000000) only [nM,t0,t1,Nat.reduceMul,Nat.zero_add,↓ai,aq,simprocAttr]
 exact ⟨rfl,l7 h _ _ _ _⟩
theorem abN (k:Int) (h:ag):bR Tryz.prog 119 [.int .i64 k] h fun x aa=>x=.tuple [.agg ((d_ k).getD h2.none).enc,.bool (d_ k).isSome]∧Ext h aa:=by
 by_cases ao:k≤0
 · exact abP k ao h
 by_cases Dv:13≤k
 · exact abO k Dv h
 have:k=1∨k=2∨k=3∨k=4∨k=5∨k=6∨k=7∨k=8∨k=9∨k=10∨k=11∨k=12:=by omega
 rcases this with rfl | rfl | rfl | rfl | rfl | rfl | rfl | rfl | rfl | rfl | rfl | rfl
 · exact abB h
 · exact abF h
 · exact abG h
 · exact abH h
 · exact abI h
 · exact abJ h
 · exact abK h
 · exact abL h
 · exact abM h
 · exact abC h
 · exact abD h
 · exact abE h
def kO (g':List (List UInt8 × Int)) (n:Nat):List ig:=
 match g' with
 | []=>[]
 | x::l=>⟨.str x.1,.int .i64 x.2,n⟩::kO l (n+1)
theorem MR {k:List UInt8} {v:Int} {c:Nat}:∀(g':List (List UInt8 × Int)) (n:Nat),(g'.all fun x=>!decide (k=x.1))=true→
 kx ep.str.eq (.str k) (.int .i64 v) c (kO g' n)=some (kO g' n++[⟨.str k,.int .i64 v,c⟩],true)
 | [],_,_=>rfl
 | x::l,n,h=>by
   simp only [List.all_cons,Bool.and_eq_true,Bool.not_eq_true',decide_eq_false_iff_not] at h
   have bb:=MR (k:=k) (v:=v) (c:=c) l (n+1) (by simpa using h.2)
   have ah:mq k x.1=false:=by rw [sV];exact decide_eq_false h.1
   simp only [kO,kx,ep.eq,oC,ah,cond_false] at bb ⊢
   rw [bb]
   rfl
theorem JP:∀(g':List (List UInt8 × Int)) (n:Nat) (k:List UInt8) (v:Int),kO g' n++[⟨.str k,.int .i64 v,n+g'.length⟩]=kO (g'++[(k,v)]) n
 | [],n,k,v=>rfl
 | x::l,n,k,v=>by
   rw [kO,List.cons_append,List.cons_append,kO,←JP l (n+1) k v,List.length_cons]
   congr 4
   omega
def E7:List (List UInt8 × Int)→List (List UInt8 × Int)→Bool
 | _,[]=>true
 | l,x::m=>(l.all fun y=>!decide (x.1=y.1))&&E7 (l++[x]) m
def F9 (t:Nat) (x:List UInt8 × Int):bu:=⟨none,.dM .str (.t t) (.c (.str x.1)) (.c (.int .i64 x.2)),none,[t]⟩
theorem NX (h:ag) (b:aN) (k bK:cp):(h.set b k).set b bK=h.set b bK:=by
 unfold ag.set
 simp only [T.vW]
theorem Ox {t:Nat} {os:List bu} {ay:List hK} {Q:cr→bD→ag→Prop} {r:bD} {b:aN} (aT:r t=.map b):∀(m l:List (List UInt8 × Int)) (h:ag),E7 l m=true→h.get b=.mp (kO l 0) l.length→
 bx Tryz.prog (.os none os::ay) .normal r (if m=[] then h else h.set b (.mp (kO (l++m) 0) (l.length+m.length))) Q→bx Tryz.prog (.os none (m.map (F9 t)++os)::ay) .normal r h Q
 | [],l,h,_,_,H=>by simpa using H
 | x::m,l,h,aX,a1,H=>by
   simp only [E7,Bool.and_eq_true] at aX
   rw [List.map_cons,List.cons_append]
   unfold F9
   rw [Aq]
   have aH:=MR (k:=x.1) (v:=x.2) (c:=l.length) l 0 aX.1
   have hu:jR ep.str.eq h (.map b) (.str x.1) (.int .i64 x.2)=some (h.set b (.mp (kO (l++[x]) 0) (l.length+1))):=by
    simp only [jR,a1,cp.m0,aH,cond_true,Option.some.injEq]
    rw [←JP l 0 x.1 x.2,Nat.zero_add]
   have aL:(aZ.t t).a8 (r.trim [t])=.map b:=by rw [zB,BB (by simp),aT]
   rw [aL,u2,u2,hu]
   show bx Tryz.prog (.os none (m.map (F9 t)++os)::ay) .normal (r.set none .bad) (h.set b (.mp (kO (l++[x]) 0) (l.length+1))) Q
   refine Ox aT m (l++[x]) _ aX.2 (by rw [cM,if_pos rfl,List.length_append];rfl) ?_
   rw [if_neg (by simp)] at H
   by_cases hm:m=[]
   · subst hm
     simpa using H
   · rw [if_neg hm,NX,List.append_assoc,List.singleton_append,List.length_append,show l.length + [x].length+m.length=l.length + (x::m).length from by simp;omega]
     exact H
def uf:List (List UInt8 × Int):=vV.map (fun s=>(s,2))++vU.map (fun s=>(s,1))++[([99,117,116],3)]
theorem aaK (h:ag):bR Tryz.prog 122 [] h fun x aa=>x=.map (ak h.next)∧aa.get (ak h.next)=.mp (kO uf 0) 18∧Ext h aa:=by
 refine Q3 rfl (b9 ?_)
 unfold HO
 simp +contextual only [↓ai,aq,simprocAttr]
 rw [show nW none h=.val (.map (ak h.next)) (h.new (.mp [] 0)) from rfl,FZ]
 refine Ox (t:=1) (b:=ak h.next) (by simp only [↓ai,a2,simprocAttr]) uf [] _ (by decide) (by rw [gT];rfl) ?_
 rw [if_neg (by decide)]
 simp +contextual only [↓ai,aq,simprocAttr]
 exact ⟨rfl,((Ext.refl h).new _).set (Nat.le_refl _) _⟩
theorem JZ {k:List UInt8}:∀(g':List (List UInt8 × Int)) (n:Nat),ll ep.str.eq (.str k) (kO g' n)=some ((g'.find? fun x=>decide (k=x.1)).map fun x=>.int .i64 x.2)
 | [],_=>rfl
 | x::l,n=>by
   simp only [kO,ll,ep.eq,oC,List.find?_cons]
   rw [sV]
   cases h:decide (k=x.1) with
   | true=>rfl
   | false=>exact JZ l (n+1)
theorem acI (s:List UInt8):(match (uf.find? fun x=>decide (s=x.1)).map (fun x=>x.2) with | some n=>n | none=>0)=ib s:=by
 unfold ib
 by_cases af:s ∈ vV
 · rw [if_pos af]
   simp only [vV,List.mem_cons,List.not_mem_nil,or_false] at af
   rcases af with rfl | rfl | rfl | rfl | rfl | rfl | rfl | rfl | rfl | rfl | rfl<;>rfl
 rw [if_neg af]
 by_cases ab:s ∈ vU
 · rw [if_pos ab]
   simp only [vU,List.mem_cons,List.not_mem_nil,or_false] at ab
   rcases ab with rfl | rfl | rfl | rfl | rfl | rfl<;>rfl
 rw [if_neg ab]
 by_cases aK:s=[99,117,116]
 · subst aK;rfl
 rw [if_neg aK]
 have:(uf.find? fun x=>decide (s=x.1))=none:=by
  rw [List.find?_eq_none]
  intro x an
  simp only [uf,List.mem_append,List.mem_map,List.mem_cons,List.not_mem_nil,or_false] at an
  simp only [decide_eq_true_eq]
  rcases an with (⟨y,br,rfl⟩ | ⟨y,br,rfl⟩) | rfl
  · rintro rfl;exact af br
  · rintro rfl;exact ab br
  · exact aK
 rw [this]
 rfl
theorem Zg {h:ag} {b:aN} (a1:h.get b=.mp (kO uf 0) 18) (s:List UInt8):jL ep.str.eq (.int .i64 0) false h (.map b) (.str s)=some (.int .i64 (ib s)):=by
 simp only [jL,pT,a1,cp.m0,JZ,cond_false]
 rw [←acI s]
 cases (uf.find? fun x=>decide (s=x.1))<;>rfl
theorem aby {a b:Int} (bH:hY a) (ah:hY b):-2305843009213693952≤a * b∧a * b≤2305843009213693952:=by
 obtain ⟨bB,bJ⟩:=bH
 obtain ⟨cJ,ct⟩:=ah
 have ab:(a * b).natAbs≤1073741824 * 1073741824:=by
  rw [Int.natAbs_mul]
  exact Nat.mul_le_mul (by omega) (by omega)
 omega
theorem abw {a b:Int} (bH:hY a) (ah:b≠0):-1073741824≤a.tdiv b∧a.tdiv b≤1073741824:=by
 have ab:(a.tdiv b).natAbs≤a.natAbs:=by rw [Int.natAbs_tdiv];exact Nat.div_le_self _ _
 obtain ⟨bB,bJ⟩:=bH
 omega
theorem abx {a b:Int} (ah:hY b) (ao:b≠0):-1073741824≤a.tmod b∧a.tmod b≤1073741824:=by
 obtain ⟨cJ,ct⟩:=ah
 have ab:(a.tmod b).natAbs<b.natAbs:=by rw [Int.natAbs_tmod];exact Nat.mod_lt _ (by omega)
 omega
theorem YJ (a b:Int) (h:ag) (bH:hY a) (ah:hY b):∃cs,nZ (.int (wr (a+b)))=some cs∧bR Tryz.prog 78 [.int .i64 a,.int .i64 b] h fun x aa=>jU h aa x cs:=by
 refine ⟨_,rfl,?_⟩
 have aT:-2305843009213693952≤a+b∧a+b≤2305843009213693952:=by obtain ⟨bB,bJ⟩:=bH;obtain ⟨cJ,ct⟩:=ah;constructor<;>omega
 have w:IntKind.i64.wrap (a+b)=a+b:=wrap_i64 (by omega) (by omega)
 refine RK rfl (b9 ?_)
 unfold IX
 simp +contextual only [w,↓ai,aq,simprocAttr]
 refine qD (yE (a+b) h aT) ?_
 simp +contextual only [w,↓ai,aq,simprocAttr]
 refine bm (pW h (wr (a+b))) ?_
 rintro x ab F
 simp +contextual only [↓ai,aq,simprocAttr]
 exact F
theorem YQ (a b:Int) (h:ag) (bH:hY a) (ah:hY b):∃cs,nZ (.int (wr (a-b)))=some cs∧bR Tryz.prog 81 [.int .i64 a,.int .i64 b] h fun x aa=>jU h aa x cs:=by
 refine ⟨_,rfl,?_⟩
 have aT:-2305843009213693952≤a-b∧a-b≤2305843009213693952:=by obtain ⟨bB,bJ⟩:=bH;obtain ⟨cJ,ct⟩:=ah;constructor<;>omega
 have w:IntKind.i64.wrap (a-b)=a-b:=wrap_i64 (by omega) (by omega)
 refine RN rfl (b9 ?_)
 unfold I0
 simp +contextual only [w,↓ai,aq,simprocAttr]
 refine qD (yE (a-b) h aT) ?_
 simp +contextual only [w,↓ai,aq,simprocAttr]
 refine bm (pW h (wr (a-b))) ?_
 rintro x ab F
 simp +contextual only [↓ai,aq,simprocAttr]
 exact F
theorem YP (a b:Int) (h:ag) (bH:hY a) (ah:hY b):∃cs,nZ (.int (wr (a * b)))=some cs∧bR Tryz.prog 82 [.int .i64 a,.int .i64 b] h fun x aa=>jU h aa x cs:=by
 refine ⟨_,rfl,?_⟩
 have aT:-2305843009213693952≤a * b∧a * b≤2305843009213693952:=by exact aby bH ah
 have w:IntKind.i64.wrap (a * b)=a * b:=wrap_i64 (by omega) (by omega)
 refine RO rfl (b9 ?_)
 unfold I1
 simp +contextual only [w,↓ai,aq,simprocAttr]
 refine qD (yE (a * b) h aT) ?_
 simp +contextual only [w,↓ai,aq,simprocAttr]
 refine bm (pW h (wr (a * b))) ?_
 rintro x ab F
 simp +contextual only [↓ai,aq,simprocAttr]
 exact F
theorem YL (a b:Int) (h:ag) (bH:hY a) (ah:hY b):∃cs,nZ (av.n4 (decide (a=b)))=some cs∧bR Tryz.prog 83 [.int .i64 a,.int .i64 b] h fun x aa=>jU h aa x cs:=by
 refine ⟨_,rfl,?_⟩
 refine RP rfl (b9 ?_)
 unfold I2
 simp +contextual only [↓ai,aq,simprocAttr]
 refine bm (F7 h (decide (a=b))) ?_
 rintro x ab F
 simp +contextual only [↓ai,aq,simprocAttr]
 exact F
theorem YN (a b:Int) (h:ag) (bH:hY a) (ah:hY b):∃cs,nZ (av.n4 (decide (a<b)))=some cs∧bR Tryz.prog 85 [.int .i64 a,.int .i64 b] h fun x aa=>jU h aa x cs:=by
 refine ⟨_,rfl,?_⟩
 refine RR rfl (b9 ?_)
 unfold I4
 simp +contextual only [↓ai,aq,simprocAttr]
 refine bm (F7 h (decide (a<b))) ?_
 rintro x ab F
 simp +contextual only [↓ai,aq,simprocAttr]
 exact F
theorem YM (a b:Int) (h:ag) (bH:hY a) (ah:hY b):∃cs,nZ (av.n4 (decide (a≤b)))=some cs∧bR Tryz.prog 86 [.int .i64 a,.int .i64 b] h fun x aa=>jU h aa x cs:=by
 refine ⟨_,rfl,?_⟩
 refine RS rfl (b9 ?_)
 unfold I5
 simp +contextual only [↓ai,aq,simprocAttr]
 refine bm (F7 h (decide (a≤b))) ?_
 rintro x ab F
 simp +contextual only [↓ai,aq,simprocAttr]
 exact F
theorem YK (a b:Int) (h:ag) (bH:hY a) (ah:hY b) (ao:b≠0):ma Tryz.prog 88 [.int .i64 a,.int .i64 b] h (.int .i64 (a.tdiv b)) h∧-2305843009213693952≤a.tdiv b∧a.tdiv b≤2305843009213693952:=by
 have aT:=abw bH ao
 refine ⟨A1 (RU rfl (b9 ?_)),by omega,by omega⟩
 unfold I7
 have k:(dO.int .quo).run Tryz.prog (.int .i64 a) (.int .i64 b)=some (.int .i64 (a.tdiv b)):=by
  rw [XM .i64 a b ao,wrap_i64 (by omega) (by omega)]
 simp +contextual only [k,↓ai,aq,simprocAttr]
theorem YO (a b:Int) (h:ag) (bH:hY a) (ah:hY b) (ao:b≠0):ma Tryz.prog 89 [.int .i64 a,.int .i64 b] h (.int .i64 (a.tmod b)) h∧-2305843009213693952≤a.tmod b∧a.tmod b≤2305843009213693952:=by
 have aT:=abx (a:=a) ah ao
 refine ⟨A1 (RV rfl (b9 ?_)),by omega,by omega⟩
 unfold I8
 have k:(dO.int .rem).run Tryz.prog (.int .i64 a) (.int .i64 b)=some (.int .i64 (a.tmod b)):=by
  rw [XO .i64 a b ao]
 simp +contextual only [k,↓ai,aq,simprocAttr]
theorem wg (f:FuncId) (h:ag):bR Tryz.prog 77 [.func f []] h fun x aa=>∃b,x=.func 145 [.ptr b 0]∧Ext h aa∧h.next≤cd b∧Old aa b∧aa.get b=.ar [.func f []] 0 false:=by
 refine RJ rfl (b9 ?_)
 unfold IW
 simp +contextual only [↓ai,aq,simprocAttr]
 exact ⟨_,rfl,(Ext.refl h).new _,by rw [cA];exact Nat.le_refl _,t_,if_pos rfl⟩
theorem JA (f:FuncId) (h:ag):bR Tryz.prog 87 [.func f []] h fun x aa=>∃b,x=.func 147 [.ptr b 0]∧Ext h aa∧h.next≤cd b∧Old aa b∧aa.get b=.ar [.func f []] 0 false:=by
 refine RT rfl (b9 ?_)
 unfold I6
 simp +contextual only [↓ai,aq,simprocAttr]
 exact ⟨_,rfl,(Ext.refl h).new _,by rw [cA];exact Nat.le_refl _,t_,if_pos rfl⟩
def hA (g':List (List UInt8 × V)) (n:Nat):List ig:=
 match g' with
 | []=>[]
 | x::l=>⟨.str x.1,x.2,n⟩::hA l (n+1)
theorem MS {k:List UInt8} {v:V} {c:Nat}:∀(g':List (List UInt8 × V)) (n:Nat),(g'.all fun x=>!decide (k=x.1))=true→
 kx ep.str.eq (.str k) v c (hA g' n)=some (hA g' n++[⟨.str k,v,c⟩],true)
 | [],_,_=>rfl
 | x::l,n,h=>by
   simp only [List.all_cons,Bool.and_eq_true,Bool.not_eq_true',decide_eq_false_iff_not] at h
   have bb:=MS (k:=k) (v:=v) (c:=c) l (n+1) (by simpa using h.2)
   have ah:mq k x.1=false:=by rw [sV];exact decide_eq_false h.1
   simp only [hA,kx,ep.eq,oC,ah,cond_false] at bb ⊢
   rw [bb]
   rfl
theorem JS:∀(g':List (List UInt8 × V)) (n:Nat) (k:List UInt8) (v:V),hA g' n++[⟨.str k,v,n+g'.length⟩]=hA (g'++[(k,v)]) n
 | [],n,k,v=>rfl
 | x::l,n,k,v=>by
   rw [hA,List.cons_append,List.cons_append,hA,←JS l (n+1) k v,List.length_cons]
   congr 4
   omega
theorem Ga {h:ag} {b:aN} {l:List (List UInt8 × V)} {k:List UInt8} {v:V} (a1:h.get b=.mp (hA l 0) l.length) (aX:(l.all fun x=>!decide (k=x.1))=true):
 jR ep.str.eq h (.map b) (.str k) v=some (h.set b (.mp (hA (l++[(k,v)]) 0) (l.length+1))):=by
 have aH:=MS (v:=v) (c:=l.length) l 0 aX
 simp only [jR,a1,cp.m0,aH,cond_true,Option.some.injEq]
 rw [←JS l 0 k v,Nat.zero_add]
def E8:List (List UInt8 × V)→List (List UInt8 × V)→Bool
 | _,[]=>true
 | l,x::m=>(l.all fun y=>!decide (x.1=y.1))&&E8 (l++[x]) m
def F' (t:Nat) (x:List UInt8 × V):bu:=⟨none,.dM .str (.t t) (.c (.str x.1)) (.c x.2),none,[t]⟩
theorem Oy {t:Nat} {os:List bu} {ay:List hK} {Q:cr→bD→ag→Prop} {r:bD} {b:aN} (aT:r t=.map b):∀(m l:List (List UInt8 × V)) (h:ag),E8 l m=true→h.get b=.mp (hA l 0) l.length→
 bx Tryz.prog (.os none os::ay) .normal r (if m=[] then h else h.set b (.mp (hA (l++m) 0) (l.length+m.length))) Q→bx Tryz.prog (.os none (m.map (F' t)++os)::ay) .normal r h Q
 | [],l,h,_,_,H=>by simpa using H
 | x::m,l,h,aX,a1,H=>by
   simp only [E8,Bool.and_eq_true] at aX
   rw [List.map_cons,List.cons_append]
   unfold F'
   rw [Aq]
   have hu:=Ga (v:=x.2) a1 aX.1
   have aL:(aZ.t t).a8 (r.trim [t])=.map b:=by rw [zB,BB (by simp),aT]
   rw [aL,u2,u2,hu]
   show bx Tryz.prog (.os none (m.map (F' t)++os)::ay) .normal (r.set none .bad) (h.set b (.mp (hA (l++[x]) 0) (l.length+1))) Q
   refine Oy aT m (l++[x]) _ aX.2 (by rw [cM,if_pos rfl,List.length_append];rfl) ?_
   rw [if_neg (by simp)] at H
   by_cases hm:m=[]
   · subst hm
     simpa using H
   · rw [if_neg hm,NX,List.append_assoc,List.singleton_append,List.length_append,show l.length + [x].length+m.length=l.length + (x::m).length from by simp;omega]
     exact H
theorem ac2 {t:Nat} {x:aZ} {rs:List Nat} {os:List bu} {ay:List hK} {Q:cr→bD→ag→Prop} {r:bD} {h:ag} {b:aN} {l:List (List UInt8 × V)} {k:List UInt8} {v:V} (aT:(r.trim rs) t=.map b) (an:x.a8 (r.trim rs)=v) (a1:h.get b=.mp (hA l 0) l.length) (aX:(l.all fun x=>!decide (k=x.1))=true)
 (H:bx Tryz.prog (.os none os::ay) .normal r (h.set b (.mp (hA (l++[(k,v)]) 0) (l.length+1))) Q):bx Tryz.prog (.os none (⟨none,.dM .str (.t t) (.c (.str k)) x,none,rs⟩::os)::ay) .normal r h Q:=by
 rw [Aq,zB,u2,aT,an,Ga a1 aX]
 exact H
theorem J2 {k:List UInt8}:∀(g':List (List UInt8 × V)) (n:Nat),ll ep.str.eq (.str k) (hA g' n)=some ((g'.find? fun x=>decide (k=x.1)).map fun x=>x.2)
 | [],_=>rfl
 | x::l,n=>by
   simp only [hA,ll,ep.eq,oC,List.find?_cons]
   rw [sV]
   cases h:decide (k=x.1) with
   | true=>rfl
   | false=>exact J2 l (n+1)
def zh (eJ cJ ct eQ ev dR hO jb:aN):List (List UInt8 × V):=[]++[([97,100,100],.func 145 [.ptr eJ 0])]++[([115,117,98],.func 145 [.ptr cJ 0])]++[([109,117,108],.func 145 [.ptr ct 0])]++[([101,113],.func 145 [.ptr eQ 0])]++[([108,116],.func 145 [.ptr ev 0])]++[([108,101],.func 145 [.ptr dR 0])]++[([100,105,118],.func 147 [.ptr hO 0])]++[([109,111,100],.func 147 [.ptr jb 0])]
def zO:List (List UInt8 × V):=[([110,101,103],.func 90 []),([103,101,116,99],.func 91 []),([112,117,116,99],.func 92 []),([112,117,116,115],.func 93 []),([115,105,122,101],.func 94 []),([99,104,114],.func 95 []),([98,121,116,101],.func 96 []),([99,117,116],.func 97 []),([106,111,105,110],.func 98 []),([115,101,116],.func 99 [])]
def yP (h:ag) (pm:V):Prop:=∃eJ cJ ct eQ ev dR hO jb b,pm=.map b∧Old h b∧h.get b=.mp (hA (zh eJ cJ ct eQ ev dR hO jb++zO) 0) 18∧(Old h eJ∧h.get eJ=.ar [.func 78 []] 0 false)∧(Old h cJ∧h.get cJ=.ar [.func 81 []] 0 false)∧(Old h ct∧h.get ct=.ar [.func 82 []] 0 false)∧(Old h eQ∧h.get eQ=.ar [.func 83 []] 0 false)∧(Old h ev∧h.get ev=.ar [.func 85 []] 0 false)∧(Old h dR∧h.get dR=.ar [.func 86 []] 0 false)∧(Old h hO∧h.get hO=.ar [.func 88 []] 0 false)∧(Old h jb∧h.get jb=.ar [.func 89 []] 0 false)
theorem rO {h g k:ag} {n:Nat} {b:aN} {l:List (List UInt8 × V)} {ho:List (aN × FuncId)} {f:FuncId} (key:List UInt8) (fn:V) (hm:h.next≤n) (x:Ext h g) (m:g.get (ak n)=.mp (hA l 0) l.length) (q:Old g (ak n)) (B:∀p ∈ ho,p.1≠(ak n)∧Old g p.1∧g.get p.1=.ar [.func p.2 []] 0 false) (y:Ext g k) (u:g.next≤cd b) (o:Old k b) (v:k.get b=.ar [.func f []] 0 false) (aX:(l.all fun x=>!decide (key=x.1))=true):
 k.get (ak n)=.mp (hA l 0) l.length∧∃dK,dK=k.set (ak n) (.mp (hA (l++[(key,fn)]) 0) (l.length+1))∧jR ep.str.eq k (.map (ak n)) (.str key) fn=some dK∧dK.get (ak n)=.mp (hA (l++[(key,fn)]) 0) (l++[(key,fn)]).length∧Old dK (ak n)∧Ext h dK∧∀p ∈ (b,f)::ho,p.1≠(ak n)∧Old dK p.1∧dK.get p.1=.ar [.func p.2 []] 0 false:=by
 have w:=(y.get _ q).trans m
 refine ⟨w,_,rfl,Ga w aX,?_,y.b4 q,(x.trans y).set hm _,?_⟩
 · rw [cM,if_pos rfl,List.length_append];rfl
 · have ah:b≠(ak n):=fun e=>by rw [e] at u;unfold Old at q;omega
   intro p aH
   rcases List.mem_cons.mp aH with rfl | aH
   · exact ⟨ah,o,by rw [cM,if_neg (fun e=>ah e.symm),v]⟩
   · obtain ⟨b_,b1,cy⟩:=B p aH
     exact ⟨b_,y.b4 b1,by rw [cM,if_neg (fun e=>b_ e.symm),y.get _ b1,cy]⟩
set_option maxHeartbeats 4000000 in
theorem S3 (h:ag):bR Tryz.prog 58 [] h fun x aa=>yP aa x∧Ext h aa:=by
 refine RA rfl (b9 ?_)
 unfold IF
 simp +contextual only [↓ai,aq,simprocAttr]
 rw [show nW none h=.val (.map (ak h.next)) (h.new (.mp [] 0)) from rfl,FZ]
 have aQ:Ext h (h.new (.mp [] 0)):=(Ext.refl h).new _
 have EX:(h.new (.mp [] 0)).get (ak h.next)=.mp (hA [] 0) ([]:List (List UInt8 × V)).length:=gT _
 have ug:Old (h.new (.mp [] 0)) (ak h.next):=t_
 have hm:h.next≤h.next:=Nat.le_refl _
 have CG:∀p ∈ ([]:List (aN × FuncId)),p.1≠ak h.next∧Old (h.new (.mp [] 0)) p.1∧(h.new (.mp [] 0)).get p.1=.ar [.func p.2 []] 0 false:=fun p aH=>absurd aH (by simp)
 generalize h.new (.mp [] 0)=bP at *
 simp +contextual only [↓ai,aq,simprocAttr]
 refine bm (wg 78 bP) ?_
 rintro x EM ⟨eJ,rfl,adP,acU,jn,v0⟩
 obtain ⟨aJ,bF,bO,d0,nV,aG,bS,eG⟩:=rO [97,100,100] (.func 145 [.ptr eJ 0]) hm aQ EX ug CG adP acU jn v0 (by rfl)
 simp +contextual only [d0,↓ai,aq,simprocAttr]
 refine bm (wg 81 bF) ?_
 rintro x bT ⟨cJ,rfl,kE,m7,ff,v1⟩
 obtain ⟨eE,bz,c3,d1,o3,az,fE,fj⟩:=rO [115,117,98] (.func 145 [.ptr cJ 0]) hm bS nV aG eG kE m7 ff v1 (by rfl)
 simp +contextual only [d1,↓ai,aq,simprocAttr]
 refine bm (wg 82 bz) ?_
 rintro x b8 ⟨ct,rfl,jx,wi,fT,v2⟩
 obtain ⟨di,b6,kW,d2,dV,aW,Gn,h3⟩:=rO [109,117,108] (.func 145 [.ptr ct 0]) hm fE o3 az fj jx wi fT v2 (by rfl)
 simp +contextual only [d2,↓ai,aq,simprocAttr]
 refine bm (wg 83 b6) ?_
 rintro x fp ⟨eQ,rfl,m_,qb,gA,v3⟩
 obtain ⟨iW,fP,aeX,d3,jM,bZ,Gp,PE⟩:=rO [101,113] (.func 145 [.ptr eQ 0]) hm Gn dV aW h3 m_ qb gA v3 (by rfl)
 simp +contextual only [d3,↓ai,aq,simprocAttr]
 refine bm (wg 85 fP) ?_
 rintro x h8 ⟨ev,rfl,qf,yA,sj,v4⟩
 obtain ⟨m',jD,aeY,d4,vD,dW,adD,PF⟩:=rO [108,116] (.func 145 [.ptr ev 0]) hm Gp jM bZ PE qf yA sj v4 (by rfl)
 simp +contextual only [d4,↓ai,aq,simprocAttr]
 refine bm (wg 86 jD) ?_
 rintro x mO ⟨dR,rfl,adQ,wj,vP,v5⟩
 obtain ⟨ade,mC,aeZ,d5,LS,eT,adE,PG⟩:=rO [108,101] (.func 145 [.ptr dR 0]) hm adD vD dW PF adQ wj vP v5 (by rfl)
 simp +contextual only [d5,↓ai,aq,simprocAttr]
 refine bm (JA 88 mC) ?_
 rintro x vx ⟨hO,rfl,adR,acV,xZ,v6⟩
 obtain ⟨adf,Dp,ae0,d6,Zj,fD,adF,PH⟩:=rO [100,105,118] (.func 147 [.ptr hO 0]) hm adE LS eT PG adR acV xZ v6 (by rfl)
 simp +contextual only [d6,↓ai,aq,simprocAttr]
 refine bm (JA 89 Dp) ?_
 rintro x nP ⟨jb,rfl,adS,acW,x0,ac6⟩
 obtain ⟨adg,Dq,WM,d7,Zk,fr,adG,PI⟩:=rO [109,111,100] (.func 147 [.ptr jb 0]) hm adF Zj fD PH adS acW x0 ac6 (by rfl)
 refine ac2 (b:=ak h.next) (v:=.func 147 [.ptr jb 0]) (by simp only [↓ai,a2,simprocAttr]) (by simp only [↓ai,a2,simprocAttr]) adg (by rfl) ?_
 rw [←WM]
 refine Oy (t:=1) (b:=ak h.next) (by simp only [↓ai,a2,simprocAttr]) zO (zh eJ cJ ct eQ ev dR hO jb) Dq (by rfl) Zk ?_
 rw [if_neg (by decide)]
 simp +contextual only [↓ai,aq,simprocAttr]
 have V:∀b f,(b,f) ∈ [(jb,89),(hO,88),(dR,86),(ev,85),(eQ,83),(ct,82),(cJ,81),(eJ,78)]→Old Dq b∧(Dq.set (ak h.next) (.mp (hA (zh eJ cJ ct eQ ev dR hO jb++zO) 0) ((zh eJ cJ ct eQ ev dR hO jb).length+zO.length))).get b=.ar [.func f []] 0 false:=fun b f ah=>by
  obtain ⟨b_,b1,cy⟩:=PI (b,f) ah
  exact ⟨b1,by rw [cM,if_neg (fun e=>b_ e.symm),cy]⟩
 exact ⟨⟨eJ,cJ,ct,eQ,ev,dR,hO,jb,ak h.next,rfl,fr,by rw [cM,if_pos rfl];rfl,V eJ 78 (by simp),V cJ 81 (by simp),V ct 82 (by simp),V eQ 83 (by simp),V ev 85 (by simp),V dR 86 (by simp),V hO 88 (by simp),V jb 89 (by simp)⟩,adG.set (Nat.le_refl _) _⟩
theorem j7 {h:ag} {b:aN} {g':List (List UInt8 × V)} {c:Nat} (a1:h.get b=.mp (hA g' 0) c) (s:List UInt8) {v:V} (au:((g'.find? fun x=>decide (s=x.1)).map fun x=>x.2)=some v):jL ep.str.eq .jl false h (.map b) (.str s)=some v:=by
 simp only [jL,pT,a1,cp.m0,J2,cond_false,au]
theorem Y2 {bd:List Nat} (h:(bd.length:Int)=1):∃bO,bd=[bO]:=by
 match bd,h with
 | [a],_=>exact ⟨a,rfl⟩
 | [],h=>simp at h
 | _::_::_,h=>simp only [List.length_cons] at h;omega
theorem Y3 {bd:List Nat} (h:(bd.length:Int)=2):∃bO c3,bd=[bO,c3]:=by
 match bd,h with
 | [a,b],_=>exact ⟨a,b,rfl⟩
 | [],h=>simp at h
 | [_],h=>simp at h
 | _::_::_::_,h=>simp only [List.length_cons] at h;omega
theorem Y4 {bd:List Nat} (h:(bd.length:Int)=3):∃bO c3 kW,bd=[bO,c3,kW]:=by
 match bd,h with
 | [a,b,c],_=>exact ⟨a,b,c,rfl⟩
 | [],h=>simp at h
 | [_],h=>simp at h
 | [_,_],h=>simp at h
 | _::_::_::_::_,h=>simp only [List.length_cons] at h;omega
section
variable {ao h aa:ag} {aE:aN} {K:fi} {aD:List aN} {bp pm:V} {S:av} {steps:Int} {c1 cN cz bW:V}
theorem aaJ (D:yP ao pm) (M:cR ao h aE K aD bp pm S steps) (O:Ok S) {bc:List UInt8} (iX:cF ao 1 bp bc.length (dZ bc)) (hlen:bc.length≤1073741824) (qX:S.read≤bc.length)
 {bd:List Nat} {aY:V} (A:fV h aD bd aY) {s:List UInt8} (bk:(bd.length:Int)=ib s) (ab:0<ib s):
 ∃f cs,jL ep.str.eq .jl false h pm (.str s)=some (.func f cs)∧bR Tryz.prog f ([.ptr aE 0,aY]++cs) h fun x aa=>∃bg bq,cR ao aa aE bg bq bp pm (S.lC bc s bd) steps:=by
 obtain ⟨eJ,cJ,ct,eQ,ev,dR,hO,jb,b,rfl,jP,kP,⟨jn,bP⟩,⟨ff,bF⟩,⟨fT,bz⟩,⟨gA,b6⟩,⟨sj,fP⟩,⟨vP,jD⟩,⟨xZ,mC⟩,⟨x0,Dp⟩⟩:=D
 have E:Ext ao h:=by obtain ⟨_,_,_,_,M⟩:=M;exact M.rep.ext
 have j3:=(E.get _ jP).trans kP
 by_cases af:s ∈ vV
 · have aI:ib s=2:=by unfold ib;rw [if_pos af]
   rw [aI] at bk
   obtain ⟨bO,c3,rfl⟩:=Y3 bk
   simp only [vV,List.mem_cons,List.not_mem_nil,or_false] at af
   rcases af with rfl | rfl | rfl | rfl | rfl | rfl | rfl | rfl | rfl | rfl | rfl
   · exact ⟨145,[.ptr eJ 0],j7 j3 _ rfl,wh M O A (fun a b=>.int (wr (a+b))) bP jn YJ⟩
   · exact ⟨145,[.ptr cJ 0],j7 j3 _ rfl,wh M O A (fun a b=>.int (wr (a-b))) bF ff YQ⟩
   · exact ⟨145,[.ptr ct 0],j7 j3 _ rfl,wh M O A (fun a b=>.int (wr (a * b))) bz fT YP⟩
   · exact ⟨147,[.ptr hO 0],j7 j3 _ rfl,JB M O A (fun a b=>a.tdiv b) mC xZ YK⟩
   · exact ⟨147,[.ptr jb 0],j7 j3 _ rfl,JB M O A (fun a b=>a.tmod b) Dp x0 YO⟩
   · exact ⟨145,[.ptr eQ 0],j7 j3 _ rfl,wh M O A (fun a b=>av.n4 (decide (a=b))) b6 gA YL⟩
   · exact ⟨145,[.ptr ev 0],j7 j3 _ rfl,wh M O A (fun a b=>av.n4 (decide (a<b))) fP sj YN⟩
   · exact ⟨145,[.ptr dR 0],j7 j3 _ rfl,wh M O A (fun a b=>av.n4 (decide (a≤b))) jD vP YM⟩
   · exact ⟨96,[],j7 j3 _ rfl,QN M O A⟩
   · exact ⟨98,[],j7 j3 _ rfl,WN M O A⟩
   · exact ⟨99,[],j7 j3 _ rfl,abY M O A⟩
 by_cases aK:s ∈ vU
 · have aI:ib s=1:=by unfold ib;rw [if_neg af,if_pos aK]
   rw [aI] at bk
   obtain ⟨bO,rfl⟩:=Y2 bk
   simp only [vU,List.mem_cons,List.not_mem_nil,or_false] at aK
   rcases aK with rfl | rfl | rfl | rfl | rfl | rfl
   · exact ⟨90,[],j7 j3 _ rfl,ZC M O A⟩
   · exact ⟨91,[],j7 j3 _ rfl,TK M O iX hlen qX⟩
   · exact ⟨92,[],j7 j3 _ rfl,aaQ M O A⟩
   · exact ⟨93,[],j7 j3 _ rfl,aaR M O A⟩
   · exact ⟨94,[],j7 j3 _ rfl,ab9 M O A⟩
   · exact ⟨95,[],j7 j3 _ rfl,SB M O A⟩
 by_cases bM:s=[99,117,116]
 · subst bM
   have aI:ib [99,117,116]=3:=by decide
   rw [aI] at bk
   obtain ⟨bO,c3,kW,rfl⟩:=Y4 bk
   · exact ⟨97,[],j7 j3 _ rfl,SX M O A⟩
 · unfold ib at ab
   rw [if_neg af,if_neg aK,if_neg bM] at ab
   omega
end
end Go.Proofs.YtjbiefneffiogaaGreat
namespace Go.Proofs.YtjbiefneffiogaaGreat
open Go ba
section
variable {ao h aa:ag} {aE:aN} {K bg:fi} {aD:List aN} {bp pm:V} {S:av} {steps:Int} {c1 cN cz bW:V}
theorem hn.vH {Y:ld} {st:List dk} (M:hn Y ao h K aD st) {P:aN→Prop} (m:Mod P h aa) (il:∀b,P b→K b=.no∧ao.next≤cd b):dQ ao K h aD K aa aD (fun _=>False):=by
 refine ⟨m.next,fun _ _=>rfl,fun _ q dm=>absurd q dm,fun b ah _=>m.get b (M.new b ah).2 fun q=>ah (il b q).1,fun b ah=>m.get b (Nat.lt_of_lt_of_le ah M.ext.next) fun q=>?_,[],by simp⟩
 have:=(il b q).2
 omega
theorem dc.vH (M:dc ao h aE K aD bp pm S steps c1 cN cz bW) {P:aN→Prop} (m:Mod P h aa) (il:∀b,P b→K b=.no∧ao.next≤cd b):dc ao aa aE K aD bp pm S steps c1 cN cz bW:=by
 refine M.c8 (M.rep.vH m il) ?_ ?_ ?_ ?_ ?_ ?_<;>simp
theorem av.Qr (S:av) (l:List At) {i:Nat} (ax:i<l.length):S.atoms (l.take (i+1))=((((S.atoms (l.take i)).1).atom l[i]).1,(S.atoms (l.take i)).2++[(((S.atoms (l.take i)).1).atom l[i]).2]):=by
 unfold av.atoms
 rw [List.take_succ_eq_append_getElem ax,List.foldl_append]
 rfl
theorem av.Qo (S:av) (a:At):(S.atom a).1.e=S.e∧(S.atom a).1.c=S.c∧(S.atom a).1.w=S.w∧(S.atom a).1.out=S.out∧(S.atom a).1.read=S.read:=by
 unfold av.atom
 split
 · exact ⟨rfl,rfl,rfl,rfl,rfl⟩
 · split<;>exact ⟨rfl,rfl,rfl,rfl,rfl⟩
theorem av.kL (S:av) (l:List At):(S.atoms l).1.e=S.e∧(S.atoms l).1.c=S.c∧(S.atoms l).1.w=S.w∧(S.atoms l).1.out=S.out∧(S.atoms l).1.read=S.read∧(S.atoms l).2.length=l.length:=by
 have key:∀(l:List At) (p:av × List Nat),(l.foldl av.j0 p).1.e=p.1.e∧(l.foldl av.j0 p).1.c=p.1.c∧(l.foldl av.j0 p).1.w=p.1.w∧(l.foldl av.j0 p).1.out=p.1.out∧(l.foldl av.j0 p).1.read=p.1.read∧(l.foldl av.j0 p).2.length=p.2.length+l.length:=by
  intro l
  induction l with
  | nil=>intro p;exact ⟨rfl,rfl,rfl,rfl,rfl,rfl⟩
  | cons a l bb=>
    intro p
    obtain ⟨bB,bJ,a3,a4,a5,kI⟩:=bb (av.j0 p a)
    obtain ⟨cJ,ct,eQ,ev,dR⟩:=av.Qo p.1 a
    rw [List.foldl_cons]
    refine ⟨bB.trans cJ,bJ.trans ct,a3.trans eQ,a4.trans ev,a5.trans dR,?_⟩
    rw [kI];simp only [av.j0,List.length_append,List.length_cons,List.length_nil];omega
 have:=key l (S,[])
 simpa [av.atoms] using this
set_option maxHeartbeats 2000000 in
theorem nn (M:dc ao h aE K aD bp pm S steps c1 cN cz bW) (a6:∀a ∈ S.c.a,a.k=1→a.n ∈ S.e.map Prod.fst) (aB:S.c.a.length≤1048576):
 bR Tryz.prog 100 [.ptr aE 0] h fun x aa=>∃bg bq,dc ao aa aE bg bq bp pm (S.atoms S.c.a).1 steps c1 cN cz bW∧ca h.next aa 1 x (S.atoms S.c.a).2.length ((S.atoms S.c.a).2.map (eh bq))∧(∀j ∈ (S.atoms S.c.a).2,j<bq.length)∧∀b,x.a_ b→bg b=.no:=by
 obtain ⟨gR,co,bl,bs,aY,rfl,cX,ea,cQ,df⟩:=M.co.open
 have Cx:=M.rep.ext.next
 have cO:=M.get
 have lc:=df h M.rep.ext
 have hlen:=cX.len
 refine QR rfl (b9 ?_)
 unfold Hy
 simp +contextual only [cO,lc.2.2.2.2.1,hlen,↓ai,aq,simprocAttr]
 refine gz (fun r aa=>r 0=.ptr aE 0∧r 12=bl∧r 13=.int .i64 S.c.a.length∧∃i:Nat,r 14=.int .i64 i∧i≤S.c.a.length∧∃bg bq v,r 3=v∧dc ao aa aE bg bq bp pm (S.atoms (S.c.a.take i)).1 steps (.ptr gR co) cN cz bW∧h.next≤aa.next∧
  ca h.next aa 1 v i ((S.atoms (S.c.a.take i)).2.map (eh bq))∧(∀j ∈ (S.atoms (S.c.a.take i)).2,j<bq.length)∧∀b,v.a_ b→bg b=.no) (fun r aa=>S.c.a.length - (r 14).hf) ?_ ?_
 · exact ⟨by simp only [↓ai,a2,simprocAttr],by simp only [↓ai,a2,simprocAttr],by simp only [↓ai,a2,simprocAttr],0,by simp only [↓ai,a2,simprocAttr]<;>rfl,by omega,K,aD,.aF,by simp only [↓ai,a2,simprocAttr],M,Nat.le_refl _,⟨rfl,rfl⟩,(by intro j q;cases q),fun b q=>q.elim⟩
 · rintro r aa ⟨cj,h_,ia,i,kA,ax,bg,bq,v,ch,M,aX,eG,fj,h3⟩
   unfold Hz
   by_cases aS:i<S.c.a.length
   · have bP:((i:Int) < (S.c.a.length:Int))=True:=eq_true (by omega)
     have Pc:=(cX.ext M.rep.ext)
     obtain ⟨b,o,cl,c7,_⟩:=uS Pc (k:=.i64) aS
     have w:=hg aS (by omega)
     obtain ⟨ki,ee,lj,my,lR,h4⟩:=av.kL S (S.c.a.take i)
     have f':=av.Qr S S.c.a aS
     have jF:(S.atoms (S.c.a.take i)).2.length=i:=by rw [h4,List.length_take];omega
     have tj:S.c.a[i] ∈ S.c.a:=List.getElem_mem aS
     generalize aeD:S.c.a[i]=a at *
     obtain ⟨nk,ja,kK⟩:=a
     have hold:Old aa aE:=M.b4.2
     have gK:(ak aa.next=aE)=False:=kt hold (Nat.le_refl _)
     have gU:(aE=ak aa.next)=False:=sg hold (Nat.le_refl _)
     have lr:bg (ak aa.next)=.no:=M.rep.tmp (by rw [cA];exact Nat.le_refl _)
     have aL:Ext aa (aa.new (.ar [.int .i64 0,.int .i64 0,.str []] 0 false)):=(Ext.refl aa).new _
     have a':=(M.ext aL).tmp (b:=ak aa.next) (k:=.ar [.int .i64 nk,.int .i64 ja,.str kK] 0 false) lr (by rw [cA];exact M.rep.ext.next)
     have hI:Ext aa ((aa.new (.ar [.int .i64 0,.int .i64 0,.str []] 0 false)).set (ak aa.next) (.ar [.int .i64 nk,.int .i64 ja,.str kK] 0 false)):=aL.set (Nat.le_refl _) _
     have enc:At.enc ⟨nk,ja,kK⟩=[.int .i64 nk,.int .i64 ja,.str kK]:=rfl
     rw [enc] at c7
     have wM:=eG.ext hI
     have rD:((aa.new (.ar [.int .i64 0,.int .i64 0,.str []] 0 false)).set (ak aa.next) (.ar [.int .i64 nk,.int .i64 ja,.str kK] 0 false)).get (ak aa.next)=.ar [.int .i64 nk,.int .i64 ja,.str kK] 0 false:=by rw [cM,if_pos rfl]
     by_cases bT:nk=1
     · subst bT
       have eR:=a'.get
       simp only [cM,dT] at eR
       simp +contextual only [cj,h_,ia,kA,ch,bP,cl,c7,gK,gU,M.get,↓ai,aq,simprocAttr]
       have oP:ja ∈ S.e.map Prod.fst:=a6 ⟨1,ja,kK⟩ tj rfl
       rw [←ki] at oP
       refine bm (Tr _ bg bq ja cN _ a'.fX oP) ?_
       rintro x af ⟨rfl,rfl,bk⟩
       generalize pC:((aa.new (.ar [.int .i64 0,.int .i64 0,.str []] 0 false)).set (ak aa.next) (.ar [.int .i64 1,.int .i64 ja,.str kK] 0 false))=H1 at *
       have pH:=hI.next
       obtain ⟨dE,aK,b_,b1,cy,gB,hV⟩:=oo (cs:=[.ptr (e6 bq (m6 (S.atoms (S.c.a.take i)).1.e ja)) 0]) (by omega) wM (by omega) (by unfold top;omega) rfl rfl
       have s6:=a'.get
       have eD:=b1.v.one
       simp +contextual only [eh,cj,h_,ia,kA,ch,bP,cl,c7,gK,gU,M.get,s6,rD,b_,w,eD.1,eD.2.1,↓ai,aq,simprocAttr]
       rw [ki] at bk
       have xj:(S.atoms (S.c.a.take i)).1.atom ⟨1,ja,kK⟩=((S.atoms (S.c.a.take i)).1,m6 S.e ja):=by simp only [av.atom,if_true,ki]
       rw [xj] at f'
       refine ⟨⟨i+1,rfl,aS,bg,bq,?_⟩,by omega⟩
       rw [f']
       refine ⟨a'.vH cy (fun b q=>⟨h3 b q,by have:=eG.base q;have:=Cx;omega⟩),by omega,?_,?_,?_⟩
       · rw [List.map_append];rw [ki] at b1;exact b1
       · intro j q
         rcases List.mem_append.1 q with q | q
         · exact fj j q
         · simp only [List.mem_cons,List.not_mem_nil,or_false] at q;subst q;exact bk
       · intro b q
         rcases hV b q with q | q
         · exact h3 b q
         · exact a'.rep.tmp (by omega)
     by_cases b8:nk=2
     · have pN:=eq_false bT;have pO:=eq_true b8
       have eR:=a'.get
       simp only [cM,dT] at eR
       simp +contextual only [cj,h_,ia,kA,ch,bP,cl,c7,gK,gU,pN,pO,M.get,↓ai,aq,simprocAttr]
       refine bm (pW _ ja) ?_
       rintro x af F
       generalize pC:((aa.new (.ar [.int .i64 0,.int .i64 0,.str []] 0 false)).set (ak aa.next) (.ar [.int .i64 nk,.int .i64 ja,.str kK] 0 false))=H1 at *
       obtain ⟨g5,i_,M2,rfl,bk,t⟩:=a'.make (v:=.int ja) F rfl
       obtain ⟨_,_,bo,_⟩:=F
       have pH:=hI.next
       have oT:=bo.next
       have wN:=wM.ext bo
       rw [←t.A0 fj] at wN
       obtain ⟨dE,aK,b_,b1,cy,gB,hV⟩:=oo (cs:=[.ptr (e6 i_ (S.atoms (S.c.a.take i)).1.st.length) 0]) (by omega) wN (by omega) (by unfold top;omega) rfl rfl
       have s6:=M2.get
       have eD:=b1.v.one
       simp +contextual only [eh,cj,h_,ia,kA,ch,bP,cl,c7,gK,gU,M.get,s6,rD,pN,pO,b_,w,eD.1,eD.2.1,↓ai,aq,simprocAttr]
       have xj:(S.atoms (S.c.a.take i)).1.atom ⟨nk,ja,kK⟩=((S.atoms (S.c.a.take i)).1.fa (.int ja),(S.atoms (S.c.a.take i)).1.st.length):=by
        simp only [av.atom,if_neg bT,if_pos b8]
       rw [xj] at f'
       refine ⟨⟨i+1,rfl,aS,g5,i_,?_⟩,by omega⟩
       rw [f']
       have qv:∀b,v.a_ b→g5 b=.no:=fun b q=>by
        by_cases az:g5 b=.no
        · exact az
        · have:=t.fresh b (h3 b q) az
          have:=wM.v.b4 q
          unfold Old at this
          omega
       refine ⟨M2.vH cy (fun b q=>⟨qv b q,by have:=eG.base q;have:=Cx;omega⟩),by omega,?_,?_,?_⟩
       · rw [List.map_append];exact b1
       · intro j q
         rcases List.mem_append.1 q with q | q
         · exact Nat.lt_of_lt_of_le (fj j q) t.len
         · simp only [List.mem_cons,List.not_mem_nil,or_false] at q;subst q;exact bk
       · intro b q
         rcases hV b q with q | q
         · exact qv b q
         · exact M2.rep.tmp (by omega)
     · have pN:=eq_false bT;have pO:=eq_false b8
       have eR:=a'.get
       simp only [cM,dT] at eR
       simp +contextual only [cj,h_,ia,kA,ch,bP,cl,c7,gK,gU,pN,pO,M.get,↓ai,aq,simprocAttr]
       refine bm (By _ kK) ?_
       rintro x af F
       generalize pC:((aa.new (.ar [.int .i64 0,.int .i64 0,.str []] 0 false)).set (ak aa.next) (.ar [.int .i64 nk,.int .i64 ja,.str kK] 0 false))=H1 at *
       obtain ⟨g5,i_,M2,rfl,bk,t⟩:=a'.make (v:=.text kK) F rfl
       obtain ⟨_,_,bo,_⟩:=F
       have pH:=hI.next
       have oT:=bo.next
       have wN:=wM.ext bo
       rw [←t.A0 fj] at wN
       obtain ⟨dE,aK,b_,b1,cy,gB,hV⟩:=oo (cs:=[.ptr (e6 i_ (S.atoms (S.c.a.take i)).1.st.length) 0]) (by omega) wN (by omega) (by unfold top;omega) rfl rfl
       have s6:=M2.get
       have eD:=b1.v.one
       simp +contextual only [eh,cj,h_,ia,kA,ch,bP,cl,c7,gK,gU,M.get,s6,rD,pN,pO,b_,w,eD.1,eD.2.1,↓ai,aq,simprocAttr]
       have xj:(S.atoms (S.c.a.take i)).1.atom ⟨nk,ja,kK⟩=((S.atoms (S.c.a.take i)).1.fa (.text kK),(S.atoms (S.c.a.take i)).1.st.length):=by
        simp only [av.atom,if_neg bT,if_neg b8]
       rw [xj] at f'
       refine ⟨⟨i+1,rfl,aS,g5,i_,?_⟩,by omega⟩
       rw [f']
       have qv:∀b,v.a_ b→g5 b=.no:=fun b q=>by
        by_cases az:g5 b=.no
        · exact az
        · have:=t.fresh b (h3 b q) az
          have:=wM.v.b4 q
          unfold Old at this
          omega
       refine ⟨M2.vH cy (fun b q=>⟨qv b q,by have:=eG.base q;have:=Cx;omega⟩),by omega,?_,?_,?_⟩
       · rw [List.map_append];exact b1
       · intro j q
         rcases List.mem_append.1 q with q | q
         · exact Nat.lt_of_lt_of_le (fj j q) t.len
         · simp only [List.mem_cons,List.not_mem_nil,or_false] at q;subst q;exact bk
       · intro b q
         rcases hV b q with q | q
         · exact qv b q
         · exact M2.rep.tmp (by omega)
   · have bP:((i:Int) < (S.c.a.length:Int))=False:=eq_false (by omega)
     obtain rfl:i=S.c.a.length:=by omega
     rw [List.take_length] at M eG fj
     simp +contextual only [cj,h_,ia,kA,ch,bP,↓ai,aq,simprocAttr]
     obtain ⟨_,_,_,_,_,h4⟩:=av.kL S S.c.a
     exact ⟨bg,bq,M,by rw [h4];exact eG,fj,h3⟩
end
end Go.Proofs.YtjbiefneffiogaaGreat
namespace Go.Proofs.YtjbiefneffiogaaGreat
open Go ba
section
variable {ao h aa:ag} {aE:aN} {K bg:fi} {aD:List aN} {bp pm:V} {S:av} {steps:Int} {c1 cN cz bW:V}
set_option maxHeartbeats 1000000 in
theorem Sa (M:cR ao h aE K aD bp pm S steps) {f v:Nat} (au:f<aD.length) (a6:v<aD.length):bR Tryz.prog 104 [.ptr aE 0,eh aD f,eh aD v] h fun x aa=>∃bg bq,cR ao aa aE bg bq bp pm (S.call f v) steps:=by
 have gF:=M
 obtain ⟨hQ,eq,gu,dv,M⟩:=M
 obtain ⟨cu,hP,ly,iG,sc,_,xr⟩:=M.val au
 have cO:=M.get
 have Ft:eh aD f=.ptr (e6 aD f) 0:=rfl
 refine QV rfl (b9 ?_)
 unfold HE
 rw [Ft]
 by_cases aK:e' (S.val f)=3
 · cases hh:S.val f with
   | int n=>rw [hh] at aK;cases aK
   | text n=>rw [hh] at aK;cases aK
   | dt t l=>rw [hh] at aK;cases aK
   | fn x c L=>
     obtain ⟨aA,he⟩:=xr x c L hh
     rw [hh] at iG
     simp only [e',g_,iV] at iG
     have jP:=aA.one
     have iv:=he.one
     simp +contextual only [cO,iG,jP.1,jP.2.1,iv.1,iv.2.1,↓ai,aq,simprocAttr]
     refine bm (Gl h ly (eh aD v) x iv ⟨rfl,rfl,rfl⟩) ?_
     rintro y ab ⟨b,rfl,aL,cJ,ct,eQ⟩
     obtain ⟨bg,a',hI,t⟩:=M.env aL cJ ct eQ he a6
     have eR:=a'.get
     have T4:=(aL.get _ (M.wS au).1).trans iG
     have ne:(aE=e6 aD f)=False:=eq_false fun q=>(M.wS au).2 q.symm
     have M2:=a'.next {S with c:=c} steps hP eq gu dv rfl aA a'.fX a'.wr a'.fB
     have s6:=M2.get
     have cm:=M2.next {S with c:=c,e:=(x,v)::L} steps hP (.ptr b 0) gu dv rfl aA (hI.set a'.fq (by simp)) M2.wr M2.fB
     simp +contextual only [cO,eR,s6,iG,T4,ne,jP.1,jP.2.1,iv.1,iv.2.1,↓ai,aq,simprocAttr]
     refine ⟨bg,aD,?_⟩
     simp only [av.call,hh]
     exact ⟨_,_,_,_,cm⟩
 · have mH:=eq_false aK
   simp +contextual only [cO,iG,mH,↓ai,aq,simprocAttr]
   refine bm (nt gF 6) ?_
   rintro y ab c0
   simp +contextual only [↓ai,aq,simprocAttr]
   refine ⟨K,aD,?_⟩
   have:S.call f v=S.gM:=by
    simp only [av.call]
    cases hh:S.val f<;>first | rfl | (rw [hh] at aK;exact absurd rfl aK)
   rw [this]
   exact c0
def q6 (l:List Int) (n:Int):Nat→Nat
 | 0=>l.length
 | i+1=>if l[i]? =some n then i else q6 l n i
theorem YS {l:List Int} (bE:diff l=true) (n:Int):q6 l n l.length=av.p0 l n:=by
 have aaH:∀(l:List Int),n ∉ l→av.p0 l n=l.length:=by
  intro l
  induction l with
  | nil=>intro _;rfl
  | cons t l bb=>
    intro h
    simp only [List.mem_cons,not_or] at h
    simp only [av.p0,if_neg (fun q:t=n=>h.1 q.symm),bb h.2,List.length_cons]
 have none_:∀(L:List Int) (k:Nat),n ∉ L→q6 L n k=L.length:=by
  intro L k
  induction k with
  | zero=>intro _;rfl
  | succ k bb=>
    intro h
    simp only [q6]
    rw [if_neg (fun q=>h (List.mem_of_getElem? q)),bb h]
 have at_:∀(L:List Int) (p k:Nat),diff L=true→L[p]? =some n→p<k→k≤L.length→q6 L n k=p:=by
  intro L p k c2 aH
  induction k with
  | zero=>intro h;omega
  | succ k bb=>
    intro h al
    simp only [q6]
    by_cases q:L[k]? =some n
    · rw [if_pos q]
      have inj:∀(L:List Int) (a b:Nat),diff L=true→L[a]? =some n→L[b]? =some n→a=b:=by
       intro L
       induction L with
       | nil=>intro a b _ h;simp at h
       | cons t L bb=>
         intro a b bE ab af
         simp only [diff,Bool.and_eq_true,Bool.not_eq_true'] at bE
         have pI:Nat→t ∈ L→False:=fun _ q=>by have:=List.contains_iff_mem.2 q;rw [bE.1] at this;cases this
         cases a with
         | zero=>
           cases b with
           | zero=>rfl
           | succ b=>
             simp only [List.getElem?_cons_zero,Option.some.injEq] at ab
             subst ab
             exact (pI 0 (List.mem_of_getElem? (by simpa using af))).elim
         | succ a=>
           cases b with
           | zero=>
             simp only [List.getElem?_cons_zero,Option.some.injEq] at af
             subst af
             exact (pI 0 (List.mem_of_getElem? (by simpa using ab))).elim
           | succ b=>rw [bb a b bE.2 (by simpa using ab) (by simpa using af)]
      exact inj L k p c2 q aH
    · rw [if_neg q]
      exact bb (by
       by_cases e:p=k
       · subst e;exact absurd aH q
       · omega) (by omega)
 by_cases hm:n ∈ l
 · obtain ⟨p,aH⟩:=List.getElem?_of_mem hm
   have mN:p<l.length:=(List.getElem?_eq_some_iff.1 aH).1
   rw [at_ l p l.length bE aH mN (Nat.le_refl _)]
   have:∀(l:List Int) (p:Nat),diff l=true→l[p]? =some n→av.p0 l n=p:=by
    intro l
    induction l with
    | nil=>intro p _ h;simp at h
    | cons t l bb=>
      intro p bE h
      simp only [diff,Bool.and_eq_true,Bool.not_eq_true'] at bE
      cases p with
      | zero=>
        simp only [List.getElem?_cons_zero,Option.some.injEq] at h
        simp only [av.p0,if_pos h]
      | succ p=>
        have aa:l[p]? =some n:=by simpa using h
        have:t≠n:=by
         rintro rfl
         have:=List.contains_iff_mem.2 (List.mem_of_getElem? aa)
         rw [bE.1] at this;cases this
        simp only [av.p0,if_neg this,bb p bE.2 aa]
   exact (this l p bE aH).symm
 · rw [none_ l _ hm,aaH l hm]
set_option maxHeartbeats 1000000 in
theorem Jq (M:cR ao h aE K aD bp pm S steps) {gW:Bool} {vy:Int} (vk:vy=if gW then 1 else 4) {v:Nat} (a6:v<aD.length) (bE:diff S.c.t=true) (aI:S.c.t.length≤1048576) (aB:S.c.l.length≤1048577):
 bR Tryz.prog 107 [.ptr aE 0,.int .i64 vy,eh aD v] h fun x aa=>cR ao aa aE K aD bp pm (S.iC gW v) steps:=by
 have gF:=M
 obtain ⟨hQ,eq,gu,dv,M⟩:=M
 obtain ⟨cu,hP,ly,iG,sc,_,_⟩:=M.val a6
 obtain ⟨gR,co,bl,bs,aY,rfl,cX,ea,cQ,df⟩:=M.co.open
 have cO:=M.get
 have lc:=df h M.rep.ext
 have K_:=ea.len
 have gx:=cQ.len
 have Ft:eh aD v=.ptr (e6 aD v) 0:=rfl
 refine QY rfl (b9 ?_)
 unfold HI
 rw [Ft]
 simp +contextual only [cO,lc.2.2.2.2.2.1,K_,↓ai,aq,simprocAttr]
 refine gz (fun r aa=>aa=h∧r 0=.ptr aE 0∧r 1=.int .i64 vy∧r 2=.ptr (e6 aD v) 0∧r 23=bs∧r 24=.int .i64 S.c.t.length∧∃i:Nat,r 25=.int .i64 i∧i≤S.c.t.length∧r 6=.int .i64 (q6 S.c.t (g_ (S.val v)) i)) (fun r aa=>S.c.t.length - (r 25).hf) ?_ ?_
 · exact ⟨rfl,by simp only [↓ai,a2,simprocAttr],by simp only [↓ai,a2,simprocAttr],by simp only [↓ai,a2,simprocAttr],by simp only [↓ai,a2,simprocAttr],by simp only [↓ai,a2,simprocAttr],0,by simp only [↓ai,a2,simprocAttr]<;>rfl,by omega,by simp only [↓ai,a2,simprocAttr]<;>rfl⟩
 · rintro r aa ⟨rfl,cj,bf,bV,re,rf,i,rh,ax,m2⟩
   unfold HJ
   by_cases aS:i<S.c.t.length
   · have bP:((i:Int) < (S.c.t.length:Int))=True:=eq_true (by omega)
     obtain ⟨ct,fT,lx,o0⟩:=ints_at (ea.ext M.rep.ext) (k:=.i64) aS
     have w:=hg aS (by omega)
     by_cases aM:S.c.t[i]=g_ (S.val v)
     · have nJ:=eq_true aM
       simp +contextual only [cj,bf,bV,re,rf,rh,m2,bP,lx,o0,iG,nJ,w,↓ai,aq,simprocAttr]
       refine ⟨⟨i+1,rfl,aS,?_⟩,by omega⟩
       simp only [q6]
       rw [if_pos (by rw [List.getElem?_eq_getElem aS,aM])]
     · have nJ:=eq_false aM
       simp +contextual only [cj,bf,bV,re,rf,rh,m2,bP,lx,o0,iG,nJ,w,↓ai,aq,simprocAttr]
       refine ⟨⟨i+1,rfl,aS,?_⟩,by omega⟩
       simp only [q6]
       rw [if_neg (by rw [List.getElem?_eq_getElem aS];simpa using aM)]
   · have bP:((i:Int) < (S.c.t.length:Int))=False:=eq_false (by omega)
     obtain rfl:i=S.c.t.length:=by omega
     rw [YS bE] at m2
     generalize aH:av.p0 S.c.t (g_ (S.val v))=p at *
     by_cases al:e' (S.val v)=vy
     · have eK:=eq_true al
       by_cases KL:(S.c.l.length:Int)≤(p:Int)
       · have D3:=eq_true KL
         simp +contextual only [cO,lc.2.2.2.2.2.1,lc.2.2.2.2.2.2,gx,cj,bf,bV,re,rf,rh,m2,bP,iG,eK,D3,↓ai,aq,simprocAttr]
         refine bm (nt gF 6) ?_
         rintro y ab c0
         simp +contextual only [↓ai,aq,simprocAttr]
         have:S.iC gW v=S.gM:=by
          have fv:S.lW p=S.gM:=by simp only [av.lW];rw [List.getElem?_eq_none (by omega)]
          cases gW<;>simp only [Bool.false_eq_true,if_true,if_false] at vk<;>subst vk
          · obtain ⟨t,l,hh⟩:=As al
            rw [hh] at aH;simp only [g_] at aH
            simp only [av.iC,hh,aH,fv,Bool.false_eq_true,if_false]
          · obtain ⟨t,hh⟩:=nR al
            rw [hh] at aH;simp only [g_] at aH
            simp only [av.iC,hh,aH,fv,if_true]
         rw [this]
         exact c0
       · have D3:=eq_false KL
         obtain ⟨q,cl,aM⟩:=gO.en cQ (k:=.i64) (i:=p) (by omega)
         have q_:=aM.one
         simp +contextual only [cO,lc.2.2.2.2.2.1,lc.2.2.2.2.2.2,gx,cj,bf,bV,re,rf,rh,m2,bP,iG,eK,D3,cl,q_.1,q_.2.1,↓ai,aq,simprocAttr]
         have:S.iC gW v={S with c:=S.c.l[p]}:=by
          have K7:S.lW p={S with c:=S.c.l[p]}:=by simp only [av.lW];rw [List.getElem?_eq_getElem (by omega)]
          cases gW<;>simp only [Bool.false_eq_true,if_true,if_false] at vk<;>subst vk
          · obtain ⟨t,l,hh⟩:=As al
            rw [hh] at aH;simp only [g_] at aH
            simp only [av.iC,hh,aH,K7,Bool.false_eq_true,if_false]
          · obtain ⟨t,hh⟩:=nR al
            rw [hh] at aH;simp only [g_] at aH
            simp only [av.iC,hh,aH,K7,if_true]
         rw [this]
         exact ⟨_,_,_,_,M.next {S with c:=S.c.l[p]} steps q eq gu dv rfl aM M.fX M.wr M.fB⟩
     · have eK:=eq_false al
       simp +contextual only [cO,lc.2.2.2.2.2.1,lc.2.2.2.2.2.2,gx,cj,bf,bV,re,rf,rh,m2,bP,iG,eK,↓ai,aq,simprocAttr]
       refine bm (nt gF 6) ?_
       rintro y ab c0
       simp +contextual only [↓ai,aq,simprocAttr]
       have:S.iC gW v=S.gM:=by
        cases gW<;>simp only [Bool.false_eq_true,if_true,if_false] at vk<;>subst vk<;>
         cases hh:S.val v<;>first | (simp only [av.iC,hh]<;>rfl) | (rw [hh] at al;exact (al rfl).elim)
       rw [this]
       exact c0
end
end Go.Proofs.YtjbiefneffiogaaGreat
namespace Go.Proofs.YtjbiefneffiogaaGreat
open Go ba
theorem av.abh (S:av) (l:List aw) {i:Nat} (ax:i<l.length):S.e1 (l.take (i+1))=(S.e1 (l.take i)).gX l[i]:=by
 unfold av.e1
 rw [List.take_succ_eq_append_getElem ax,List.foldl_append]
 rfl
theorem av.abe (S:av) (l:List aw):(S.e1 l).c=S.c∧(S.e1 l).w=S.w∧(S.e1 l).out=S.out∧(S.e1 l).read=S.read∧(S.e1 l).st.length=S.st.length+l.length:=by
 induction l generalizing S with
 | nil=>exact ⟨rfl,rfl,rfl,rfl,rfl⟩
 | cons f l bb=>
   obtain ⟨bB,bJ,a3,a4,a5⟩:=bb (S.gX f)
   refine ⟨bB,bJ,a3,a4,?_⟩
   show ((S.gX f).e1 l).st.length=_
   rw [a5]
   simp only [av.gX,av.fa,List.length_append,List.length_cons,List.length_nil]
   omega
theorem av.abd (S:av) (l:List aw):∀(i:Nat) (ax:i<l.length),(S.e1 l).st[S.st.length+i]? =some (.fn l[i].x (l[i].l.headD l[i]) []):=by
 have pre:∀(l:List aw) (S:av) (j:Nat),j<S.st.length→(S.e1 l).st[j]? =S.st[j]? :=by
  intro l
  induction l with
  | nil=>intro S j _;rfl
  | cons f l bb=>
    intro S j bC
    show ((S.gX f).e1 l).st[j]? =_
    rw [bb (S.gX f) j (by simp only [av.gX,av.fa,List.length_append];omega)]
    simp only [av.gX,av.fa]
    rw [List.getElem?_append_left bC]
 induction l generalizing S with
 | nil=>intro i ax;simp at ax
 | cons f l bb=>
   intro i ax
   show ((S.gX f).e1 l).st[S.st.length+i]? =_
   cases i with
   | zero=>
     rw [pre l (S.gX f) _ (by simp only [av.gX,av.fa,List.length_append,List.length_cons,List.length_nil];omega)]
     simp [av.gX,av.fa]
   | succ i=>
     have:=bb (S.gX f) i (by simpa using ax)
     have aB:(S.gX f).st.length=S.st.length+1:=by simp [av.gX,av.fa]
     rw [aB] at this
     rw [show S.st.length + (i+1)=S.st.length+1+i from by omega,this]
     rfl
theorem Ny (e:gP) (f:aw):∀(l:List aw) (a:Nat) (st:List dk),av.hX e a st (l++[f])=(av.hX e a st l).set (a+l.length) (.fn f.x (f.l.headD f) e)
 | [],a,st=>rfl
 | g::l,a,st=>by
   rw [List.cons_append,av.hX,av.hX,Ny e f l (a+1),List.length_cons]
   congr 1
   omega
theorem Nw (e:gP):∀(l:List aw) (a:Nat) (st:List dk) (j:Nat),a+l.length≤j→(av.hX e a st l)[j]? =st[j]?
 | [],a,st,j,_=>rfl
 | g::l,a,st,j,h=>by
   rw [List.length_cons] at h
   rw [av.hX,Nw e l (a+1) _ j (by omega),List.getElem?_set_ne (by omega)]
section
variable {ao h aa:ag} {aE:aN} {K bg:fi} {aD:List aN} {bp pm:V} {S:av} {steps:Int} {c1 cN cz bW:V}
theorem dc.LU (M:dc ao h aE K aD bp pm S steps c1 cN cz bW) {x:Int} {hP ly y:V} {c:aw} {e:gP} (F:jU h aa y [.int .i64 3,.int .i64 x,.str [],.aF,hP,ly,.bool false]) (ah:gO ao hP c) (al:ei h K aD ly e):
 ∃bg bq,dc ao aa aE bg bq bp pm (S.fa (.fn x c e)) steps c1 cN cz bW∧y=eh bq S.st.length∧S.st.length<bq.length∧dQ ao K h aD bg aa bq (fun _=>False):=by
 obtain ⟨b,rfl,aL,vc,bt,a1⟩:=F
 have t:=M.rep.role aL (fun q=>q=b) (.val S.st.length) [b] (fun q aM=>by subst aM;exact ⟨vc,bt⟩)
 have oL:e6 (aD++[b]) S.st.length=b:=by
  unfold e6
  rw [List.getD_eq_getElem?_getD,List.getElem?_append_right (by rw [M.rep.len];exact Nat.le_refl _),M.rep.len,Nat.sub_self]
  rfl
 have ey:hn qt ao aa (mf K (fun q=>q=b) (.val S.st.length)) (aD++[b]) (S.fa (.fn x c e)).st:=by
  refine M.rep.push t (by simp) (by simp) (by simp) ?_
  exact ⟨by rw [oL];exact rG rfl,.aF,ly,_,by rw [oL];exact a1,⟨hP,ah,rfl⟩,trivial,al.c8 t id⟩
 have hm:K aE≠.no:=by rw [M.fq];simp
 have E:=M.fX.c8 t id
 have W:=M.wr.c8 t id id
 have O:=M.fB.c8 t id
 refine ⟨_,_,⟨ey,by rw [t.role aE hm,M.fq],by rw [t.get aE hm id,M.get];rfl,M.co,E,W,O⟩,by unfold eh;rw [oL],by rw [List.length_append,M.rep.len];simp,t⟩
theorem Nh {n i:Nat} {aD:List aN} (h:n+i≤aD.length):∀j ∈ List.range' n i,j<aD.length:=by
 intro j bC
 have:=List.mem_range'_1.1 bC
 omega
set_option maxHeartbeats 4000000 in
theorem abi (M:cR ao h aE K aD bp pm S steps) (h7:1≤S.c.l.length) (aB:S.c.l.length≤1048577) (al:∀f ∈ S.c.l.dropLast,1≤f.l.length):
 bR Tryz.prog 105 [.ptr aE 0] h fun x aa=>∃bg bq,cR ao aa aE bg bq bp pm S.n0 steps:=by
 obtain ⟨hQ,eq,gu,dv,M⟩:=M
 obtain ⟨gR,co,bl,bs,aY,rfl,cX,ea,cQ,df⟩:=M.co.open
 have cO:=M.get
 have lc:=df h M.rep.ext
 have hlen:=cQ.len
 have du:=M.rep.ext.next
 have vf:S.c.l.dropLast.length=S.c.l.length-1:=List.length_dropLast
 have eE:IntKind.i64.wrap ((S.c.l.length:Int)-1)=((S.c.l.dropLast.length:Nat):Int):=by rw [wrap_i64 (by omega) (by omega)];omega
 obtain ⟨OG,oM,DK⟩:=cQ.cut (k:=.i64) (m:=S.c.l.dropLast.length) (by omega)
 have kn:=DK.len
 rw [List.length_take,Nat.min_eq_left (by omega)] at kn
 generalize mK:S.c.l.dropLast=bw at *
 refine QX rfl (b9 ?_)
 unfold HF
 simp +contextual only [cO,lc.2.2.2.2.2.2,hlen,eE,oM,kn,↓ai,aq,simprocAttr]
 refine gz (fun r aa=>r 0=.ptr aE 0∧r 2=.int .i64 bw.length∧r 27=.int .i64 bw.length∧∃i:Nat,r 28=.int .i64 i∧i≤bw.length∧∃bg bq iE,dc ao aa aE bg bq bp pm (S.e1 (bw.take i)) steps (.ptr gR co) iE gu dv∧h.next≤aa.next∧
  ca h.next aa 1 (r 3) i ((List.range' S.st.length i).map (eh bq))∧∀b,(r 3).a_ b→bg b=.no) (fun r aa=>bw.length - (r 28).hf) ?_ ?_
 · exact ⟨by simp only [↓ai,a2,simprocAttr],by simp only [↓ai,a2,simprocAttr],by simp only [↓ai,a2,simprocAttr],0,by simp only [↓ai,a2,simprocAttr]<;>rfl,by omega,K,aD,eq,M,Nat.le_refl _,by simp only [↓ai,a2,simprocAttr];exact ⟨rfl,rfl⟩,by simp only [↓ai,a2,simprocAttr];exact fun b q=>q.elim⟩
 · rintro r aa ⟨cj,bV,A3,i,A4,ax,bg,bq,iE,M,aX,eG,h3⟩
   unfold HG
   generalize Aa:r 3=v at *
   obtain ⟨afb,afe,afc,afd,yh⟩:=av.abe S (bw.take i)
   have cO:=M.get
   have lc:=df aa M.rep.ext
   by_cases aS:i<bw.length
   · have bP:((i:Int) < (bw.length:Int))=True:=eq_true (by omega)
     have w:=hg aS (by omega)
     have vr:=av.abh S bw aS
     have g9:S.c.l[i]'(by omega)=bw[i]:=by
      have:S.c.l.dropLast[i]? =bw[i]? :=by rw [mK]
      rw [List.getElem?_dropLast,if_pos (by omega),List.getElem?_eq_getElem (by omega),List.getElem?_eq_getElem aS] at this
      simpa using this
     obtain ⟨aep,Wv,au⟩:=gO.en cQ (k:=.i64) (i:=i) (by omega)
     rw [g9] at au
     have kU:=al bw[i] (List.getElem_mem aS)
     generalize bw[i]=f at *
     obtain ⟨qH,Dh,aeq,aer,Tz,rfl,_,_,Pd,Aw⟩:=au.open
     obtain ⟨hP,Wt,ah⟩:=gO.en Pd (k:=.i64) (i:=0) (by omega)
     have Wu:gy 7 Tz (.int .i64 0)=some hP:=Wt
     have Fe:=ah.one
     have Ay:=Aw aa M.rep.ext
     have UY:f.l.headD f=f.l[0]'(by omega):=by
      rw [List.headD_eq_head?_getD,List.head?_eq_getElem?,List.getElem?_eq_getElem (by omega)];rfl
     have F:jU aa (aa.new (.ar [.int .i64 3,.int .i64 f.x,.str [],.aF,hP,.cq,.bool false] 0 false)) (.ptr (ak aa.next) 0) [.int .i64 3,.int .i64 f.x,.str [],.aF,hP,.cq,.bool false]:=u7 _ _
     obtain ⟨g5,i_,M2,br,bk,t⟩:=M.LU F ah .nil
     obtain ⟨_,_,bo,_⟩:=F
     have Zb:=Aw _ M2.rep.ext
     have EW:=Zb
     simp only [dT] at EW
     have YW:=df _ M2.rep.ext
     have YX:=YW
     simp only [dT] at YX
     have DA:S.st.length+i≤bq.length:=by rw [M.rep.len,yh,List.length_take];omega
     have fj:=eG.ext bo
     rw [←t.A0 (Nh DA)] at fj
     rw [yh,List.length_take,Nat.min_eq_left (by omega)] at br bk
     have oT:=bo.next
     obtain ⟨dE,aK,b_,b1,cy,gB,hV⟩:=oo (cs:=[.ptr (ak aa.next) 0]) (by omega) fj (by omega) (by unfold top;omega) rfl rfl
     have qv:∀b,v.a_ b→g5 b=.no:=fun b q=>by
      by_cases az:g5 b=.no
      · exact az
      · have:=t.fresh b (h3 b q) az
        have:=eG.v.b4 q
        unfold Old at this
        omega
     have cm:=M2.vH cy (fun b q=>⟨qv b q,by have:=eG.base q;omega⟩)
     have mF:=cm.get
     have LK:=Aw _ cm.rep.ext
     have AW:=b_
     simp only [cH] at AW
     simp +contextual only [cj,bV,A3,A4,Aa,bP,cO,lc.2.2.2.2.2.2,Wv,Ay.1,Ay.2.1,Ay.2.2.1,Ay.2.2.2.2.2.2,EW.2.1,EW.2.2.2.2.2.2,Wu,Fe.1,Fe.2.1,Fe.2.2,b_,AW,mF,LK.2.2.1,↓ai,aq,simprocAttr]
     have W:=Gl aK iE (eh i_ (S.st.length+i)) f.n cm.fX.one ⟨rfl,rfl,rfl⟩
     rw [←br] at W
     refine bm W ?_
     rintro y bM ⟨b,rfl,jB,cJ,ct,eQ⟩
     rw [br] at eQ
     obtain ⟨e4,c0,n_,t4⟩:=cm.env jB cJ ct eQ cm.fX bk
     have TL:=c0.get
     have Zc:=Aw _ c0.rep.ext
     have Vl:=gB
     have aeK:=jB.next
     simp +contextual only [cj,bV,A3,A4,Aa,bP,TL,Zc.2.2.1,mF,LK.2.2.1,w,↓ai,aq,simprocAttr]
     refine ⟨⟨i+1,rfl,aS,e4,i_,.ptr b 0,?_,by omega,?_,?_⟩,by omega⟩
     · rw [vr]
       have Vb:(S.e1 (bw.take i)).st.length=S.st.length+i:=by rw [yh,List.length_take];omega
       have:=c0.next ((S.e1 (bw.take i)).gX f) steps (.ptr gR co) (.ptr b 0) gu dv (by simp only [av.gX,av.fa,UY]) c0.co (by simp only [av.gX];rw [Vb];exact n_) c0.wr c0.fB
       exact this
     · rw [List.range'_1_concat,List.map_append]
       have m:Mod (fun b=>b=aE) bM (bM.set aE (.ar [bp,.int .i64 (S.e1 (bw.take i)).h5,.int .i64 (S.e1 (bw.take i)).j2,.int .i64 (S.e1 (bw.take i)).read,.int .i64 steps,dv,.bool (S.e1 (bw.take i)).hF,.ptr gR co,.ptr b 0,gu,.aF,pm] 0 false)):=(Mod.refl (fun b=>b=aE) bM).set (fun _=>rfl) _
       rw [br] at b1
       refine (b1.ext jB).mod m fun b q e=>?_
       rw [e] at q
       have Kt:g5 aE=.tO:=cm.fq
       rcases hV aE q with q | q
       · rw [qv aE q] at Kt;cases Kt
       · have:=M2.b4.2;omega
     · intro b q
       have az:g5 b=.no:=by
        rcases hV b q with q | q
        · exact qv b q
        · exact M2.rep.tmp (by omega)
       by_cases aW:e4 b=.no
       · exact aW
       · have:=t4.fresh b az aW
         have:=b1.v.b4 q
         unfold Old at this
         omega
   · have bP:((i:Int) < (bw.length:Int))=False:=eq_false (by omega)
     obtain rfl:i=bw.length:=by omega
     rw [List.take_length] at M cO yh
     have adb:=eG.v.len
     simp +contextual only [cj,bV,A3,A4,Aa,bP,adb,↓ai,aq,simprocAttr]
     clear bP A3 A4
     generalize eg:S.e1 bw=T at *
     refine gz (fun r e7=>r 0=.ptr aE 0∧r 2=.int .i64 bw.length∧r 69=v∧r 70=.int .i64 bw.length∧∃j:Nat,r 71=.int .i64 j∧j≤bw.length∧dc ao e7 aE bg bq bp pm {T with st:=av.hX T.e S.st.length T.st (bw.take j)} steps (.ptr gR co) iE gu dv∧
      ca h.next e7 1 v bw.length ((List.range' S.st.length bw.length).map (eh bq))) (fun r e7=>bw.length - (r 71).hf) ?_ ?_
     · exact ⟨by simp only [cj,↓ai,a2,simprocAttr],by simp only [bV,↓ai,a2,simprocAttr],by simp only [↓ai,a2,simprocAttr],by simp only [↓ai,a2,simprocAttr],0,by simp only [↓ai,a2,simprocAttr]<;>rfl,by omega,M,eG⟩
     · clear cj bV Aa cO lc M eG
       rintro r aa ⟨cj,bV,Na,Nb,j,Nc,bC,M,eG⟩
       unfold HH
       have cO:=M.get
       have lc:=df aa M.rep.ext
       by_cases aS:j<bw.length
       · have bP:((j:Int) < (bw.length:Int))=True:=eq_true (by omega)
         have w:=hg aS (by omega)
         have DA:S.st.length+bw.length≤bq.length:=by
          rw [M.rep.len]
          show _≤(av.hX T.e S.st.length T.st (bw.take j)).length
          have:∀(l:List aw) (a:Nat) (st:List dk),(av.hX T.e a st l).length=st.length:=by
           intro l
           induction l with
           | nil=>intro a st;rfl
           | cons g l bb=>intro a st;rw [av.hX,bb,List.length_set]
          rw [this,yh]
          exact Nat.le_refl _
         have A:fV aa bq (List.range' S.st.length bw.length) v:=⟨by rw [List.length_range'];exact eG.v,Nh DA⟩
         obtain ⟨b,o,cl,c7,jF⟩:=A.at (k:=.i64) (i:=j) (by rw [List.length_range'];exact aS)
         have jf:(List.range' S.st.length bw.length).getD j 0=S.st.length+j:=by
          rw [List.getD_eq_getElem?_getD,List.getElem?_eq_getElem (by rw [List.length_range'];exact aS),List.getElem_range']
          simp
         rw [jf] at c7 jF
         have bY:=c7 aa (Ext.refl _)
         have tr:(av.hX T.e S.st.length T.st (bw.take j))[S.st.length+j]? =some (.fn bw[j].x (bw[j].l.headD bw[j]) []):=by
          rw [Nw _ _ _ _ _ (by rw [List.length_take];omega),←eg]
          exact av.abd S bw j aS
         obtain ⟨sc,cu,aeg,cs,iG,⟨hP,KB,rfl⟩,_,_⟩:=M.rep.val _ _ tr
         have iv:=M.fX.one
         have fm:=(M.rep.new (e6 bq (S.st.length+j)) (by rw [sc];simp)).1
         have jP:=KB.one
         simp +contextual only [eh,cj,bV,Na,Nb,Nc,bP,cO,cl,bY,iG,iv.1,iv.2.1,w,↓ai,aq,simprocAttr]
         refine ⟨⟨j+1,rfl,aS,?_,?_⟩,by omega⟩
         · have t:dQ ao bg aa bq bg (aa.set (e6 bq (S.st.length+j)) (.ar [.int .i64 3,.int .i64 bw[j].x,.str [],.aF,hP,iE,.bool false] 0 false)) bq (·=.val (S.st.length+j)):=dQ.x3 sc fm
           have oS:bg aE≠.no:=by rw [M.fq];simp
           have cZ:av.hX T.e S.st.length T.st (bw.take (j+1))=(av.hX T.e S.st.length T.st (bw.take j)).set (S.st.length+j) (.fn bw[j].x (bw[j].l.headD bw[j]) T.e):=by
            rw [List.take_succ_eq_append_getElem aS,Ny,List.length_take,Nat.min_eq_left (by omega)]
           rw [cZ]
           have Te:ei aa bg bq iE T.e:=M.fX
           refine ⟨M.rep.Ot (i:=S.st.length+j) t (by intro k al;simpa using al) (by simp) (by simp) ?_,M.fq,?_,M.co,M.fX.c8 t (by simp),M.wr.c8 t (by simp) (by simp),M.fB.c8 t (by simp)⟩
           · exact ⟨sc,cu,iE,_,by rw [cM,if_pos rfl],⟨hP,KB,rfl⟩,trivial,Te.c8 t (by simp)⟩
           · rw [t.get aE oS (by rw [M.fq];simp)];exact M.get
         · have m:Mod (fun b=>b=e6 bq (S.st.length+j)) aa (aa.set (e6 bq (S.st.length+j)) (.ar [.int .i64 3,.int .i64 bw[j].x,.str [],.aF,hP,iE,.bool false] 0 false)):=(Mod.refl (fun b=>b=e6 bq (S.st.length+j)) aa).set (fun _=>rfl) _
           refine eG.mod m fun b q e=>?_
           rw [e] at q
           rw [h3 _ q] at sc
           cases sc
       · have bP:((j:Int) < (bw.length:Int))=False:=eq_false (by omega)
         obtain rfl:j=bw.length:=by omega
         rw [List.take_length] at M
         obtain ⟨q,ED,aM⟩:=gO.en cQ (k:=.i64) (i:=bw.length) (by omega)
         have q_:=aM.one
         simp +contextual only [cj,bV,Na,Nb,Nc,bP,cO,lc.2.2.2.2.2.2,ED,q_.1,q_.2.1,↓ai,aq,simprocAttr]
         have VF:S.n0={T with st:=av.hX T.e S.st.length T.st bw,c:=S.c.l[bw.length]'(by omega)}:=by
          simp only [av.n0,mK,eg]
          congr 1
          rw [List.getLastD_eq_getLast?,List.getLast?_eq_getElem?,List.getElem?_eq_getElem (by omega)]
          simp only [Option.getD_some]
          congr 1
          omega
         rw [VF]
         exact ⟨bg,bq,_,_,_,_,M.next {T with st:=av.hX T.e S.st.length T.st bw,c:=S.c.l[bw.length]'(by omega)} steps q iE gu dv rfl aM M.fX M.wr M.fB⟩
end
end Go.Proofs.YtjbiefneffiogaaGreat
namespace Go.Proofs.YtjbiefneffiogaaGreat
open Go ba
structure Shape (c:aw):Prop where
 n2:c.a.length≤1048576
 st:c.t.length≤1048576
 gZ:c.l.length≤1048576
 at_:∀a ∈ c.a,e5 a=true
 bB:c.k=1∨c.k=5∨c.k=9∨c.k=10∨c.k=12→c.a.length=1
 bJ:c.k=6→c.a.length=2
 gb:c.k=2∨c.k=11→c.l.length=2
 cy:c.k=3→(c.a.length:Int)=ib c.s∧0<ib c.s
 n5:c.k=5→0≤c.n∧c.n≤1048575
 EO:c.k=7→c.l.length=1
 Ly:c.k=8→2≤c.l.length∧∀f ∈ c.l.dropLast,f.l.length=1
 t9:c.k=9∨c.k=10→diff c.t=true
 no:c.k≠13∧c.k≠14
theorem Tw (us:List (List V)) (u:List V):(us++[u]).flatten=us.flatten++u:=by simp
theorem Ok.atoms {S:av} (O:Ok S) (l:List At) (h:∀a ∈ l,e5 a=true):Ok (S.atoms l).1:=by
 have key:∀(l:List At) (p:av × List Nat),(∀a ∈ l,e5 a=true)→Ok p.1→Ok (l.foldl av.j0 p).1:=by
  intro l
  induction l with
  | nil=>intro p _ h;exact h
  | cons a l bb=>
    intro p bH aH
    rw [List.foldl_cons]
    refine bb _ (fun b ah=>bH b (by simp [ah])) ?_
    have f':=bH a (by simp)
    simp only [av.j0,av.atom]
    by_cases bT:a.k=1
    · rw [if_pos bT];exact aH
    · rw [if_neg bT]
      by_cases b8:a.k=2
      · rw [if_pos b8]
        refine aH.fa (fun n q=>?_) (fun s q=>by cases q)
        cases q
        simp only [e5,if_neg bT,if_pos b8,Bool.and_eq_true,pV,decide_eq_true_eq] at f'
        omega
      · rw [if_neg b8]
        refine aH.fa (fun n q=>by cases q) (fun s q=>?_)
        cases q
        simp only [e5,if_neg bT,if_neg b8] at f'
        by_cases fp:a.k=3
        · rw [if_pos fp] at f'
          simp only [Bool.and_eq_true,decide_eq_true_eq] at f'
          omega
        · rw [if_neg fp] at f';cases f'
 exact key l (S,[]) h O
section
variable {ao h aa:ag} {aE:aN} {K bg:fi} {aD:List aN} {bp pm:V} {S:av} {steps:Int} {c1 cN cz bW:V} {Y:ld}
theorem ei.cD (cV:∀b,K b≠.no→bg b=K b) {p:V} {L:gP} (H:ei h K aD p L):ei h bg aD p L:=by
 induction H with
 | nil=>exact .nil
 | cons q a1 bC aT bb=>exact .cons (by rw [cV _ (by rw [q];simp),q]) a1 bC bb
theorem hn.cD (cV:∀b,K b≠.no→bg b=K b) (aX:∀b,bg b≠.no→ao.next≤cd b∧cd b<h.next) {st:List dk} (H:hn Y ao h K aD st):hn Y ao h bg aD st:=by
 refine ⟨H.ext,aX,H.len,fun i v q=>?_⟩
 obtain ⟨k,cu,cN,cs,g,aW,bZ,dW⟩:=H.val i v q
 refine ⟨by rw [cV _ (by rw [k];simp),k],cu,cN,cs,g,aW,?_,?_⟩
 · cases v<;>first | trivial | skip
   exact ⟨bZ.1,fun b ah=>by rw [cV _ (by rw [bZ.2.1 b ah];simp),bZ.2.1 b ah],bZ.2.2⟩
 · cases v<;>first | trivial | exact ei.cD cV dW
theorem dc.cD (M:dc ao h aE K aD bp pm S steps c1 cN cz bW) (cV:∀b,K b≠.no→bg b=K b) (aX:∀b,bg b≠.no→ao.next≤cd b∧cd b<h.next):dc ao h aE bg aD bp pm S steps c1 cN cz bW:=by
 obtain ⟨us,aG,az,aW,bZ⟩:=M.wr
 refine ⟨M.rep.cD cV aX,by rw [cV _ (by rw [M.fq];simp),M.fq],M.get,M.co,M.fX.cD cV,⟨us,aG,fun b ah=>by rw [cV _ (by rw [az b ah];simp),az b ah],aW,fun i a u aL bo=>?_⟩,M.fB.1,fun b ah=>by rw [cV _ (by rw [M.fB.2 b ah];simp),M.fB.2 b ah]⟩
 obtain ⟨bB,bJ,p,a3,a4⟩:=bZ i a u aL bo
 exact ⟨bB,bJ,p,a3,a4.cD cV⟩
theorem dc.Zn (M:dc ao h aE K aD bp pm S steps c1 cN cz bW) {t:Int} {bw:List Nat} {cu y:V} (F:jU h aa y [.int .i64 4,.int .i64 t,.str [],cu,.cq,.cq,.bool false]) (im:ca ao.next h 1 cu bw.length (bw.map (eh aD))) (lr:∀b,cu.a_ b→K b=.no) (mK:∀j ∈ bw,j<aD.length):
 ∃bg bq,dc ao aa aE bg bq bp pm (S.fa (.dt t bw)) steps c1 cN cz bW∧y=eh bq S.st.length∧S.st.length<bq.length:=by
 obtain ⟨b,rfl,aL,vc,bt,a1⟩:=F
 have gF:dc ao h aE (mf K (fun q=>cu.a_ q) (.nx S.st.length)) aD bp pm S steps c1 cN cz bW:=by
  refine M.cD (fun c aA=>qn fun q=>aA (lr c q)) fun c aA=>?_
  by_cases q:cu.a_ c
  · exact ⟨im.base q,im.v.b4 q⟩
  · rw [qn q] at aA;exact M.rep.new c aA
 have US:∀c,cu.a_ c→(mf K (fun q=>cu.a_ q) (.nx S.st.length)) c=.nx S.st.length:=fun c q=>rG q
 generalize mf K (fun q=>cu.a_ q) (.nx S.st.length)=iY at *
 have t1:=gF.rep.role aL (fun q=>q=b) (.val S.st.length) [b] (fun q aM=>by subst aM;exact ⟨vc,bt⟩)
 have oL:e6 (aD++[b]) S.st.length=b:=by
  unfold e6
  rw [List.getD_eq_getElem?_getD,List.getElem?_append_right (by rw [M.rep.len];exact Nat.le_refl _),M.rep.len,Nat.sub_self]
  rfl
 have ey:hn qt ao aa (mf iY (fun q=>q=b) (.val S.st.length)) (aD++[b]) (S.fa (.dt t bw)).st:=by
  refine gF.rep.push t1 (by simp) (by simp) (by simp) ?_
  have rY:sI ao h iY aD S.st.length (.dt t bw) cu:=⟨im,US,mK⟩
  exact ⟨by rw [oL];exact rG rfl,cu,.cq,_,by rw [oL];exact a1,rfl,rY.c8 t1 id,trivial⟩
 have hm:iY aE≠.no:=by rw [gF.fq];simp
 have E:=gF.fX.c8 t1 id
 have W:=gF.wr.c8 t1 id id
 have O:=gF.fB.c8 t1 id
 exact ⟨_,_,⟨ey,by rw [t1.role aE hm,gF.fq],by rw [t1.get aE hm id,gF.get];rfl,gF.co,E,W,O⟩,by unfold eh;rw [oL],by rw [List.length_append,M.rep.len];simp⟩
theorem dc.waited (M:dc ao h aE K aD bp pm S steps c1 cN cz bW) {v p q:V} {a:hN} {us:List V} (aM:gO ao q a.c) (aH:ei h K aD p a.e) (V6:ca ao.next h 4 cz S.w.length us)
 (ik:ca ao.next aa 4 v (S.w.length+1) (us++[.bool a.ix,.int .i64 a.x,q,p])) (hm:Mod cz.a_ h aa) (ah:∀b,v.a_ b→cz.a_ b∨h.next≤cd b) (hu:∃ur:List (List V),us=ur.flatten∧ur.length=S.w.length∧∀(i:Nat) (a:hN) (u:List V),S.w.reverse[i]? =some a→ur[i]? =some u→u.length=4∧fg u=true∧∃p,qt.y_ ao a p u∧ei h K aD p a.e):
 ∃bg,dc ao (aa.set aE (.ar [bp,.int .i64 S.h5,.int .i64 S.j2,.int .i64 S.read,.int .i64 steps,bW,.bool S.hF,c1,cN,v,.aF,pm] 0 false)) aE bg aD bp pm {S with w:=a::S.w} steps c1 cN v bW:=by
 have Lc:∀b,cz.a_ b→K b=.gj:=by obtain ⟨_,_,az,_⟩:=M.wr;exact az
 have t:dQ ao K h aD (mf K (fun b=>v.a_ b∧h.next≤cd b) .gj) aa aD (·=.gj):=by
  refine ⟨hm.next,fun b eI=>?_,fun b eI km=>?_,fun b eI aA=>?_,fun b eI=>?_,[],by simp⟩
  · exact qn fun q=>eI (M.rep.tmp q.2)
  · by_cases q:v.a_ b∧h.next≤cd b
    · exact ⟨q.2,ik.v.b4 q.1⟩
    · rw [qn q] at km;exact absurd eI km
  · exact hm.get b (M.rep.new b eI).2 fun q=>aA (Lc b q)
  · refine hm.get b (Nat.lt_of_lt_of_le eI M.rep.ext.next) fun q=>?_
    have:=V6.base q
    omega
 have oS:K aE≠.no:=by rw [M.fq];simp
 obtain ⟨ur,rfl,wi,qb⟩:=hu
 have op:=aH.one
 have dv:=aM.one
 refine ⟨_,dc.lay (fN:={S with w:=a::S.w}) (M.rep.c8 t (by simp) (by simp) (by simp)) (by rw [t.role aE oS,M.fq]) M.co (M.fX.c8 t (by simp)) ⟨ur++[[.bool a.ix,.int .i64 a.x,q,p]],?_,fun b r=>?_,by simp [wi],fun i cc u aL bo=>?_⟩ (M.fB.c8 t (by simp))⟩
 · rw [Tw];exact ik
 · rcases ah b r with s | s
   · have:=Lc b s
     rw [t.role b (by rw [this];simp),this]
   · exact rG ⟨r,s⟩
 · simp only [List.reverse_cons] at aL
   by_cases ax:i<ur.length
   · rw [List.getElem?_append_left ax] at bo
     rw [List.getElem?_append_left (by rw [List.length_reverse];omega)] at aL
     obtain ⟨bS,fE,nY,Gn,Gp⟩:=qb i cc u aL bo
     exact ⟨bS,fE,nY,Gn,Gp.c8 t (by simp)⟩
   · have nG:i=ur.length:=by
      have:=(List.getElem?_eq_some_iff.1 bo).1
      simp only [List.length_append,List.length_cons,List.length_nil] at this
      omega
     subst nG
     rw [List.getElem?_append_right (Nat.le_refl _),Nat.sub_self] at bo
     rw [List.getElem?_append_right (by rw [List.length_reverse];omega),List.length_reverse,wi,Nat.sub_self] at aL
     simp only [List.getElem?_cons_zero,Option.some.injEq] at aL bo
     subst aL bo
     exact ⟨rfl,by simp only [fg,dv.1,op.1,Bool.and_self];rfl,p,⟨q,aM,rfl⟩,aH.c8 t (by simp)⟩
end
end Go.Proofs.YtjbiefneffiogaaGreat
