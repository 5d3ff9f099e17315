/- The chapter's functions, walked by the abstract machine: plain lemmas, no condition. Printed by a program from longer texts: names made short. -/
import Derived.Test.YtjbiefneffiogaaGreatM4
import Derived.Test.YtjbiefneffiogaaGreatM6
import Derived.Test.YtjbiefneffiogaaGreatM7
set_option linter.unusedSectionVars false
set_option linter.unusedSimpArgs false
set_option linter.unusedVariables false
namespace Go.Proofs.YtjbiefneffiogaaGreat
open Go bs
theorem tk {f:FuncId} {args:List V} {h:ai} {v:V} (c:bB Tryz.prog f args h fun x J=>x=v∧J=h):lr Tryz.prog f args h v h:=by
 obtain ⟨x,J,q,rfl,rfl⟩:=c
 exact q
def At.enc (a:At):List V:=[.int .i64 a.k,.int .i64 a.n,.str a.s]
def j9:List At→List V
 | []=>[]
 | a::l=>a.enc++j9 l
theorem Fv:∀l:List At,(j9 l).length=l.length * 3
 | []=>rfl
 | a::l=>by rw [j9,List.length_append,Fv l,List.length_cons];simp only [At.enc,List.length_cons,List.length_nil];omega
theorem Fu:∀(l:List At) (i:Nat) (aH:i<l.length),((j9 l).drop (i * 3)).take 3=l[i].enc
 | [],i,aH=>by simp at aH
 | a::l,0,_=>by simp [j9,At.enc]
 | a::l,i+1,aH=>by
   rw [j9,show (i+1) * 3=a.enc.length+i * 3 from by simp only [At.enc,List.length_cons,List.length_nil];omega,List.drop_append,List.drop_eq_nil_of_le (by omega),List.nil_append,Nat.add_sub_cancel_left]
   exact Fu l i (by simpa using aH)
theorem k_ (l:List Int):(cd l).length=l.length:=by simp [cd]
inductive ef (h:ai):aU→List V→Prop
 | mk {k x n:Int} {s:List UInt8} {a:List At} {t:List Int} {l:List aU} {aX a6 az:V} {us:List (List V)} (bT:cj h 3 aX a.length (j9 a)) (aF:cj h 1 a6 t.length (cd t))
   (ba:wU az) (aL:cj h 7 az l.length us.flatten) (hu:us.length=l.length) (kids:∀(i:Nat) (c:aU) (u:List V),l[i]? =some c→us[i]? =some u→ef h c u):
   ef h (.mk k x n s a t l) [.int .i64 k,.int .i64 x,.int .i64 n,.str s,aX,a6,az]
def i_ (h:ai) (l:List aU) (az:V):Prop:=wU az∧∃us:List (List V),cj h 7 az l.length us.flatten∧us.length=l.length∧∀(i:Nat) (c:aU) (u:List V),l[i]? =some c→us[i]? =some u→ef h c u
theorem ef.ext {h J:ai} (e:Ext h J) {c:aU} {ah:List V} (H:ef h c ah):ef J c ah:=by
 induction H with
 | mk bT aF ba aL hu kids bJ=>exact .mk (bT.ext e) (aF.ext e) ba (aL.ext e) hu bJ
theorem i_.ext {h J:ai} (e:Ext h J) {l:List aU} {v:V} (H:i_ h l v):i_ J l v:=by
 obtain ⟨ba,us,ad,ak,aB⟩:=H
 exact ⟨ba,us,ad.ext e,ak,fun i c u aP aA=>(aB i c u aP aA).ext e⟩
theorem ef.len {h:ai} {c:aU} {ah:List V} (H:ef h c ah):ah.length=7:=by cases H;rfl
theorem ef.open {h:ai} {c:aU} {ah:List V} (H:ef h c ah):∃aX a6 az,ah=[.int .i64 c.k,.int .i64 c.x,.int .i64 c.n,.str c.s,aX,a6,az]∧cj h 3 aX c.a.length (j9 c.a)∧cj h 1 a6 c.t.length (cd c.t)∧i_ h c.l az:=by
 cases H with
 | mk bT aF ba aL hu kids=>exact ⟨_,_,_,rfl,bT,aF,ba,_,aL,hu,kids⟩
theorem CJ:∀(us:List (List V)) (i:Nat) (u:List V),(∀u ∈ us,u.length=7)→us[i]? =some u→(us.flatten.drop (i * 7)).take 7=u
 | [],i,u,_,h=>by simp at h
 | w::us,0,u,aL,h=>by
   simp only [List.getElem?_cons_zero,Option.some.injEq] at h
   subst h
   rw [Nat.zero_mul,List.drop_zero,List.flatten_cons,List.take_left' (aL _ (by simp))]
 | w::us,i+1,u,aL,h=>by
   rw [show (i+1) * 7=7+i * 7 from by omega,←List.drop_drop,List.flatten_cons,List.drop_left' (aL _ (by simp))]
   exact CJ us i u (fun u hu=>aL u (by simp [hu])) (by simpa using h)
theorem xT:∀(us:List (List V)),(∀u ∈ us,u.length=7)→us.flatten.length=us.length * 7
 | [],_=>rfl
 | w::us,aL=>by rw [List.flatten_cons,List.length_append,aL w (by simp),xT us (fun u hu=>aL u (by simp [hu])),List.length_cons];omega
theorem i_.len {h:ai} {l:List aU} {v:V} (H:i_ h l v):oZ v=some (.int .i64 l.length):=by
 obtain ⟨_,us,ad,_⟩:=H
 exact ad.len
theorem i_.one {h:ai} {l:List aU} {v:V} (H:i_ h l v):v.one=true∧v.cells=[v]∧v.e7=true:=by
 obtain ⟨_,us,ad,_⟩:=H
 exact ad.one
theorem i_.at {h:ai} {l:List aU} {v:V} (H:i_ h l v) {k:IntKind} {i:Nat} (aH:i<l.length):
 ∃b off u,e8 7 v (.int k i)=some (.ptr b (off+i * 7))∧ef h l[i] u∧jl 7 (h.get b) (off+i * 7)=some (.agg u)∧∀j,j<7→hU (h.get b) (off+i * 7+j)=u[j]? :=by
 obtain ⟨ba,us,ad,ak,aB⟩:=H
 have oT:∀u ∈ us,u.length=7:=by
  intro u hu
  obtain ⟨j,bQ⟩:=List.getElem?_of_mem hu
  have jM:j<l.length:=by rw [←ak];exact (List.getElem?_eq_some_iff.1 bQ).1
  exact (aB j l[j] u (List.getElem?_eq_getElem jM) bQ).len
 have Ad:i<us.length:=by omega
 have hu:=List.getElem?_eq_getElem Ad
 obtain ⟨b,off,aI,bo⟩:=ad.b9 (k:=k) aH
 have ar:=CJ us i _ oT hu
 have hJ:=xT us oT
 refine ⟨b,off,us[i],aI,aB i _ _ (List.getElem?_eq_getElem aH) hu,?_,fun j bQ=>?_⟩
 · rw [bo.gT (i:=i * 7) (n:=7) (by omega),ar]
 · exact bo.cell ar (by omega) bQ
theorem i_.m9 {h:ai} {l:List aU} {v:V} (H:i_ h l v) {k:IntKind} {i:Nat} (aH:i<l.length):
 ∃b off u,e8 7 v (.int k i)=some (.ptr b (off+i * 7))∧ef h l[i] u∧∀J,Ext h J→jl 7 (J.get b) (off+i * 7)=some (.agg u)∧∀j,j<7→hU (J.get b) (off+i * 7+j)=u[j]? :=by
 obtain ⟨ba,us,ad,ak,aB⟩:=H
 have oT:∀u ∈ us,u.length=7:=by
  intro u hu
  obtain ⟨j,bQ⟩:=List.getElem?_of_mem hu
  have jM:j<l.length:=by rw [←ak];exact (List.getElem?_eq_some_iff.1 bQ).1
  exact (aB j l[j] u (List.getElem?_eq_getElem jM) bQ).len
 have Ad:i<us.length:=by omega
 have hu:=List.getElem?_eq_getElem Ad
 obtain ⟨b,off,aI,bo⟩:=ad.b9 (k:=k) aH
 have ar:=CJ us i _ oT hu
 have hJ:=xT us oT
 refine ⟨b,off,us[i],aI,aB i _ _ (List.getElem?_eq_getElem aH) hu,fun J e=>⟨?_,fun j bQ=>?_⟩⟩
 · rw [(bo.ext e).gT (i:=i * 7) (n:=7) (by omega),ar]
 · exact (bo.ext e).cell ar (by omega) bQ
theorem i_.lens {h:ai} {l:List aU} {us:List (List V)} (ak:us.length=l.length) (aB:∀(i:Nat) (c:aU) (u:List V),l[i]? =some c→us[i]? =some u→ef h c u):∀u ∈ us,u.length=7:=by
 intro u hu
 obtain ⟨j,bQ⟩:=List.getElem?_of_mem hu
 have jM:j<l.length:=by rw [←ak];exact (List.getElem?_eq_some_iff.1 bQ).1
 exact (aB j l[j] u (List.getElem?_eq_getElem jM) bQ).len
theorem i_.cut {h:ai} {l:List aU} {v:V} (H:i_ h l v) {k:IntKind} {m:Nat} (hm:m≤l.length):∃db,gI 7 v none (some (.int k m)) none=some db∧i_ h (l.take m) db:=by
 obtain ⟨ba,us,ad,ak,aB⟩:=H
 have oT:=i_.lens ak aB
 obtain ⟨db,aI,bo,cp⟩:=ad.cut (k:=k) (cb:=k) (cm:=0) (aH:=m) (Nat.zero_le _) hm none (some (.int k m)) (.inr ⟨rfl,rfl⟩) (.inl rfl) ba
 refine ⟨db,aI,?_,us.take m,?_,?_,?_⟩
 · intro b off hd nJ e
   subst e
   cases v<;>simp only [gI] at aI
   case aw=>unfold wY at aI;simp only [mI] at aI;split at aI<;>cases aI
   case slice cQ PG wE Vd=>
    have aC:=ba _ _ _ _ rfl
    have hlen:wE=l.length:=ad.2.1
    unfold p' at aI
    simp only [m' (k:=k) (d:=wE) (y:=Vd) (m:=m) (by omega),mI,Option.some.injEq,V.slice.injEq] at aI
    omega
   case ei cQ PG wE Zj=>
    unfold pg at aI
    have hlen:wE=l.length:=ad.2.1
    simp only [m' (k:=k) (d:=wE) (y:=wE) (m:=m) (by omega),mI] at aI
    cases aC:Nat.blt 0 wE with
    | true=>rw [aC] at aI;cases aI
    | false=>rw [aC] at aI;cases aI
   case h4 cQ PG aip Zj=>
    unfold yG at aI
    simp only [mI] at aI
    split at aI<;>cases aI
   all_goals cases aI
 · rw [List.length_take,Nat.min_eq_left hm]
   have hJ:=xT us oT
   have:(us.take m).flatten=us.flatten.take (m * 7):=by
    have aM:us=us.take m++us.drop m:=(List.take_append_drop m us).symm
    have YO:∀u ∈ us.take m,u.length=7:=fun u hu=>oT u (List.mem_of_mem_take hu)
    have qO:=xT (us.take m) YO
    conv=>rhs;rw [aM,List.flatten_append]
    rw [List.take_left' (by rw [qO,List.length_take,ak,Nat.min_eq_left hm])]
   rw [this]
   simpa using bo
 · rw [List.length_take,List.length_take,ak]
 · intro i c u aP aA
   rw [List.getElem?_take] at aP aA
   split at aP
   · rename_i aH
     rw [if_pos aH] at aA
     exact aB i c u aP aA
   · cases aP
theorem xB {h:ai} {l:List At} {v:V} (H:cj h 3 v l.length (j9 l)) {k:IntKind} {i:Nat} (aH:i<l.length):
 ∃b off,e8 3 v (.int k i)=some (.ptr b (off+i * 3))∧jl 3 (h.get b) (off+i * 3)=some (.agg l[i].enc)∧∀j,j<3→hU (h.get b) (off+i * 3+j)=(l[i].enc)[j]? :=by
 obtain ⟨b,off,aI,bo⟩:=H.b9 (k:=k) aH
 refine ⟨b,off,aI,?_,fun j bQ=>bo.cell (Fu l i aH) (by rw [Fv];omega) bQ⟩
 rw [bo.gT (i:=i * 3) (n:=3) (by rw [Fv];omega),Fu l i aH]
theorem ints_at {h:ai} {l:List Int} {v:V} (H:cj h 1 v l.length (cd l)) {k:IntKind} {i:Nat} (aH:i<l.length):
 ∃b off,e8 1 v (.int k i)=some (.ptr b (off+i * 1))∧hU (h.get b) (off+i * 1)=some (.int .i64 l[i]):=by
 obtain ⟨b,off,aI,bo⟩:=H.b9 (k:=k) aH
 refine ⟨b,off,aI,?_⟩
 rw [Nat.mul_one,bo.b7 (by rw [k_];exact aH)]
 simp [cd]
theorem pV (n s:Nat) (b:aV) (o:Nat) (k:IntKind) (i:Int):(s6 n s).run (.ptr b o) (.int k i)=if 0≤i∧i < (n:Int) then some (.ptr b (o+i.toNat * s)) else none:=by
 simp only [s6,V.eX,V.n4,s5,oY]
 by_cases ad:0≤i<;>by_cases ak:i < (n:Int)
 · have:¬(n:Int)≤i:=by omega
   simp [ad,ak,this]
 · have:(n:Int)≤i:=by omega
   simp [ad,ak,this]
 · simp [ad]
 · simp [ad]
theorem Fs {P:Program} {d:Option Nat} {k:fH} {z:V} {ok:Bool} {x i:bp} {j:Nat} {want:Bool} {rs:List Nat} {e:g5} {H:ai}:pw P ⟨d,.look k z ok x i,some (j,want),rs⟩ e H=
 (gR (e.r.trim rs j)∧gx (dG (e.r.trim rs j) want) ((lb k.eq z ok H (x.br (e.r.trim rs)) (i.br (e.r.trim rs))).isSome=true)∧V.opt (dG (e.r.trim rs j) want) ((lb k.eq z ok H (x.br (e.r.trim rs)) (i.br (e.r.trim rs))).getD .bad)=e.v):=Fq rfl
theorem g4 {i n:Nat} (h:i<n) (a1:n≤4611686018427387904):IntKind.i64.wrap ((i:Int)+1)=((i+1:Nat):Int):=by
 rw [wrap_i64 (by omega) (by omega)]
 rfl
inductive oB where
 | no | env | n2 | jU | out
 | val (i:Nat)
 | lE (i:Nat)
abbrev fl:=aV→oB
open Classical in
noncomputable def jF (K:fl) (p:aV→Prop) (r:oB):fl:=fun b=>if p b then r else K b
theorem mD {K:fl} {p:aV→Prop} {r:oB} {b:aV} (h:p b):jF K p r b=r:=if_pos h
theorem mC {K:fl} {p:aV→Prop} {r:oB} {b:aV} (h:¬p b):jF K p r b=K b:=if_neg h
def dX (aq:List aV) (j:Nat):aV:=aq.getD j .z
def cV (aq:List aV) (j:Nat):V:=.ptr (dX aq j) 0
inductive ev (h:ai) (K:fl) (aq:List aV):V→ig→Prop
 | nil:ev h K aq .cc []
 | cons {b:aV} {n:Int} {j:Nat} {p:V} {L:ig} (dd:K b=.env) (bl:h.get b=.au [.int .i64 n,cV aq j,p] 0 false) (bQ:j<aq.length) (ba:ev h K aq p L):ev h K aq (.ptr b 0) ((n,j)::L)
structure c8 (aj:ai) (K:fl) (h:ai) (aq:List aV) (aK:fl) (J:ai) (aJ:List aV) (d_:oB→Prop):Prop where
 next:h.next≤J.next
 role:∀b,K b≠.no→aK b=K b
 fresh:∀b,K b=.no→aK b≠.no→h.next≤cx b∧cx b<J.next
 get:∀b,K b≠.no→¬d_ (K b)→J.get b=h.get b
 low:∀b,cx b<aj.next→J.get b=h.get b
 aq:∃t,aJ=aq++t
theorem Kk {aq t:List aV} {j:Nat} (bQ:j<aq.length):dX (aq++t) j=dX aq j:=by
 unfold dX
 rw [List.getD_eq_getElem?_getD,List.getD_eq_getElem?_getD,List.getElem?_append_left bQ]
theorem P8 {aq t:List aV} {j:Nat} (bQ:j<aq.length):cV (aq++t) j=cV aq j:=by
 unfold cV;rw [Kk bQ]
theorem adB {aq t:List aV} {bg:List Nat} (h:∀j ∈ bg,j<aq.length):bg.map (cV (aq++t))=bg.map (cV aq):=
 List.map_congr_left fun j bQ=>P8 (h j bQ)
section
variable {aj h J fh:ai} {K aK JX:fl} {aq aJ J5:List aV} {d_ ahp:oB→Prop}
theorem c8.trans (t:c8 aj K h aq aK J aJ d_) (ph:c8 aj aK J aJ JX fh J5 d_):c8 aj K h aq JX fh J5 d_:=by
 obtain ⟨u,hu⟩:=t.aq
 obtain ⟨lo,fQ⟩:=ph.aq
 refine ⟨Nat.le_trans t.next ph.next,fun b af=>?_,fun b af ew=>?_,fun b af aC=>?_,fun b af=>(ph.low b af).trans (t.low b af),u++lo,by rw [fQ,hu,List.append_assoc]⟩
 · rw [ph.role b (by rw [t.role b af];exact af),t.role b af]
 · by_cases q:aK b=.no
   · have:=ph.fresh b q ew;have:=t.next;omega
   · have:=t.fresh b af q;have:=ph.next;omega
 · rw [ph.get b (by rw [t.role b af];exact af) (by rw [t.role b af];exact aC),t.get b af aC]
theorem c8.len (t:c8 aj K h aq aK J aJ d_):aq.length≤aJ.length:=by
 obtain ⟨u,rfl⟩:=t.aq;simp
theorem c8.bb (t:c8 aj K h aq aK J aJ d_) {j:Nat} (bQ:j<aq.length):dX aJ j=dX aq j:=by
 obtain ⟨u,rfl⟩:=t.aq;exact Kk bQ
theorem c8.ptr (t:c8 aj K h aq aK J aJ d_) {j:Nat} (bQ:j<aq.length):cV aJ j=cV aq j:=by
 obtain ⟨u,rfl⟩:=t.aq;exact P8 bQ
theorem c8.yD (t:c8 aj K h aq aK J aJ d_) {bg:List Nat} (bQ:∀j ∈ bg,j<aq.length):bg.map (cV aJ)=bg.map (cV aq):=by
 obtain ⟨u,rfl⟩:=t.aq;exact adB bQ
theorem c8.Ia (e:Ext h J) (a1:∀b,K b≠.no→cx b<h.next) (NM:aj.next≤h.next):c8 aj K h aq K J aq d_:=
 ⟨e.next,fun _ _=>rfl,fun _ h J=>absurd h J,fun b af _=>e.get b (a1 b af),fun b af=>e.get b (Nat.lt_of_lt_of_le af NM),[],by simp⟩
theorem c8.td {b:aV} {k:cL} (af:d_ (K b)) (fj:aj.next≤cx b):c8 aj K h aq K (h.set b k) aq d_:=by
 refine ⟨Nat.le_refl _,fun _ _=>rfl,fun _ h J=>absurd h J,fun c aC a1=>?_,fun c aC=>?_,[],by simp⟩
 · rw [dB,if_neg]
   rintro rfl
   exact a1 af
 · rw [dB,if_neg]
   rintro rfl
   omega
theorem ev.cu {p:V} {L:ig} (H:ev h K aq p L) (t:c8 aj K h aq aK J aJ d_) (aC:¬d_ .env):ev J aK aJ p L:=by
 induction H with
 | nil=>exact .nil
 | @cons b _ _ _ _ dd bl bQ ba bJ=>
   have af:K b≠.no:=by rw [dd];exact fun q=>by cases q
   refine .cons (by rw [t.role _ af];exact dd) ?_ (Nat.lt_of_lt_of_le bQ t.len) bJ
   rw [t.get _ af (by rw [dd];exact aC),bl,t.ptr bQ]
theorem H_ {ah ws:List V} {a cC:Nat} {b b2:Bool} (e:cL.au ah a b=cL.au ws cC b2):ah=ws:=by
 apply List.ext_getElem?
 intro i
 rw [←qU ah a b i,←qU ws cC b2 i,e]
theorem ev.same {p:V} {L:ig} (H:ev h K aq p L):∀{tP:ig},ev h K aq p tP→tP.length=L.length:=by
 induction H with
 | nil=>intro tP jn;cases jn;rfl
 | cons dd bl bQ ba bJ=>
   intro tP jn
   cases jn with
   | cons ahM N7 C6 oW=>
     rw [bl] at N7
     have:=H_ N7
     simp only [List.cons.injEq] at this
     obtain ⟨_,_,rfl,_⟩:=this
     rw [List.length_cons,List.length_cons,bJ oW]
open Classical in
noncomputable def sN (h:ai) (K:fl) (aq:List aV) (p:V):Nat:=if H:∃L,ev h K aq p L then H.choose.length else 0
theorem ev.sN {p:V} {L:ig} (H:ev h K aq p L):sN h K aq p=L.length:=by
 unfold Go.Proofs.YtjbiefneffiogaaGreat.sN
 rw [dif_pos ⟨L,H⟩]
 exact H.same (Exists.choose_spec (⟨L,H⟩:∃L,ev h K aq p L))
theorem ev.one {p:V} {L:ig} (H:ev h K aq p L):p.one=true∧p.cells=[p]∧p.e7=true:=by
 cases H<;>exact ⟨rfl,rfl,rfl⟩
theorem c8.mod (t:c8 aj K h aq aK J aJ d_):Mod (fun b=>K b=.no∨d_ (K b)) h J:=
 ⟨t.next,fun b _ af=>t.get b (fun q=>af (.inl q)) (fun q=>af (.inr q))⟩
theorem cn.cu {B size n:Nat} {v:V} {ah:List V} (H:cn B h size v n ah) (t:c8 aj K h aq aK J aJ d_) {r:oB} (ba:∀b,v.bb b→K b=r) (ad:r≠.no) (ak:¬d_ r):cn B J size v n ah:=
 H.mod t.mod fun b q e=>by
  have:=ba b q
  rw [this] at e
  rcases e with e | e
  · exact ad e
  · exact ak e
structure mF where
 Fk:ai→eF→V→V→List V→Prop
 xu:ai→jZ→V→List V→Prop
 nA:Nat
 i':ai→aU→List V→Prop
 lay:V→V→Int→Int→V→Int→Int→Bool→List V→V→V→List V
def ri (aj h:ai) (K:fl) (aq:List aV) (i:Nat) (v:eF) (cw:V):Prop:=
 match v with
 | .df _ bg=>cn aj.next h 1 cw bg.length (bg.map (cV aq))∧(∀b,cw.bb b→K b=.lE i)∧∀j ∈ bg,j<aq.length
 | _=>True
def BD (h:ai) (K:fl) (aq:List aV) (v:eF) (bZ:V):Prop:=
 match v with
 | .fn _ _ e=>ev h K aq bZ e
 | _=>True
theorem ri.cu {i:Nat} {v:eF} {cw:V} (H:ri aj h K aq i v cw) (t:c8 aj K h aq aK J aJ d_) (aC:¬d_ (.lE i)):ri aj J aK aJ i v cw:=by
 cases v<;>first | trivial | skip
 obtain ⟨aP,aA,a2⟩:=H
 refine ⟨?_,fun b af=>?_,fun j bQ=>Nat.lt_of_lt_of_le (a2 j bQ) t.len⟩
 · rw [t.yD a2]
   exact cn.cu aP t aA (by simp) aC
 · rw [t.role b (by rw [aA b af];simp),aA b af]
theorem BD.cu {v:eF} {bZ:V} (H:BD h K aq v bZ) (t:c8 aj K h aq aK J aJ d_) (aC:¬d_ .env):BD J aK aJ v bZ:=by
 cases v<;>first | trivial | exact ev.cu H t aC
def xt (Y:mF) (aj h:ai) (K:fl) (aq:List aV) (i:Nat) (v:eF):Prop:=
 K (dX aq i)=.val i∧∃cw bZ cs,h.get (dX aq i)=.au cs 0 false∧Y.Fk aj v cw bZ cs∧ri aj h K aq i v cw∧BD h K aq v bZ
theorem xt.cu {Y:mF} {i:Nat} {v:eF} (H:xt Y aj h K aq i v) (aH:i<aq.length) (t:c8 aj K h aq aK J aJ d_) (ad:¬d_ (.val i)) (ak:¬d_ (.lE i)) (aB:¬d_ .env):xt Y aj J aK aJ i v:=by
 obtain ⟨aP,cw,bZ,cs,aA,a2,b',da⟩:=H
 have af:K (dX aq i)≠.no:=by rw [aP];simp
 refine ⟨by rw [t.bb aH,t.role _ af,aP],cw,bZ,cs,?_,a2,b'.cu t ak,da.cu t aB⟩
 rw [t.bb aH,t.get _ af (by rw [aP];exact ad),aA]
structure hR (Y:mF) (aj h:ai) (K:fl) (aq:List aV) (st:List eF):Prop where
 ext:Ext aj h
 new:∀b,K b≠.no→aj.next≤cx b∧cx b<h.next
 len:aq.length=st.length
 val:∀i v,st[i]? =some v→xt Y aj h K aq i v
theorem c8.ext (t:c8 aj K h aq aK J aJ d_) (e:Ext aj h):Ext aj J:=⟨Nat.le_trans e.next t.next,fun b af=>(t.low b af).trans (e.get b af)⟩
theorem c8.news (t:c8 aj K h aq aK J aJ d_) (e:Ext aj h) (n:∀b,K b≠.no→aj.next≤cx b∧cx b<h.next):∀b,aK b≠.no→aj.next≤cx b∧cx b<J.next:=by
 intro b af
 have a1:=t.next
 have NM:=e.next
 by_cases q:K b=.no
 · have:=t.fresh b q af;omega
 · have:=n b q;omega
theorem hR.cu {Y:mF} {st:List eF} (H:hR Y aj h K aq st) (t:c8 aj K h aq aK J aq d_) (ad:∀i,¬d_ (.val i)) (ak:∀i,¬d_ (.lE i)) (aB:¬d_ .env):hR Y aj J aK aq st:=
 ⟨t.ext H.ext,t.news H.ext H.new,H.len,fun i v q=>(H.val i v q).cu (by rw [H.len];exact (List.getElem?_eq_some_iff.1 q).1) t (ad i) (ak i) aB⟩
theorem hR.El {Y:mF} {st:List eF} (H:hR Y aj h K aq st) {i:Nat} {v:eF} (t:c8 aj K h aq aK J aq d_) (ad:∀j,j≠i→¬d_ (.val j)) (ak:∀j,j≠i→¬d_ (.lE j)) (aB:¬d_ .env) (bh:xt Y aj J aK aq i v):hR Y aj J aK aq (st.set i v):=by
 refine ⟨t.ext H.ext,t.news H.ext H.new,by rw [List.length_set];exact H.len,fun j u q=>?_⟩
 by_cases bQ:j=i
 · subst bQ
   rw [List.getElem?_set_self'] at q
   cases aM:st[j]? with
   | none=>rw [aM] at q;cases q
   | some w=>rw [aM] at q;simp at q;subst q;exact bh
 · rw [List.getElem?_set_ne (by omega)] at q
   exact (H.val j u q).cu (by rw [H.len];exact (List.getElem?_eq_some_iff.1 q).1) t (ad j bQ) (ak j bQ) aB
theorem hR.push {Y:mF} {st:List eF} (H:hR Y aj h K aq st) {b:aV} {v:eF} (t:c8 aj K h aq aK J (aq++[b]) d_) (ad:∀j,¬d_ (.val j)) (ak:∀j,¬d_ (.lE j)) (aB:¬d_ .env) (bh:xt Y aj J aK (aq++[b]) st.length v):hR Y aj J aK (aq++[b]) (st++[v]):=by
 refine ⟨t.ext H.ext,t.news H.ext H.new,by simp [H.len],fun j u q=>?_⟩
 by_cases bQ:j<st.length
 · rw [List.getElem?_append_left bQ] at q
   exact (H.val j u q).cu (by rw [H.len];exact bQ) t (ad j) (ak j) aB
 · have jM:j < (st++[v]).length:=(List.getElem?_eq_some_iff.1 q).1
   rw [List.length_append] at jM
   simp only [List.length_cons,List.length_nil] at jM
   obtain rfl:j=st.length:=by omega
   simp at q
   subst q
   exact bh
end
end Go.Proofs.YtjbiefneffiogaaGreat
namespace Go.Proofs.YtjbiefneffiogaaGreat
open Go bs
def Li:bK:=
 .seq (.seq (.ag [aa 5 0,bC 6 5,eP 7 6,aG 8 7,aa 9 1,tJ 10 8 9])
 (.cond (.t 10)
 (.skip)
 (.exit 0)))
 (.block 1 (.ag [aa 11 0,bC 12 11,e' 13 12,aG 14 13,aa 0 14]))
def Lh:bK:=
 .seq (.ag [kA 4])
 (.seq (.block 0 (.loop Li))
 (.seq (.ag [aa 15 0,bC 16 15,cO 17 16,aG 18 17,aa 4 18])
 (.ret)))
theorem TZ:cz 149 19 [.t 4] Lh:=cA Tryz.func149 (by kernel_rfl) (by kernel_rfl) rfl (by kernel_rfl) (by kernel_rfl)
def Lm:bK:=
 .seq (.ag [kA 6])
 (.seq (.ag [aa 7 1,aa 8 2,aa 9 0,xj 10 7 8 9,eo 11 10,aa 6 11])
 (.ret))
theorem T2:cz 152 12 [.t 6] Lm:=cA Tryz.func152 (by kernel_rfl) (by kernel_rfl) rfl (by kernel_rfl) (by kernel_rfl)
def Mq:bK:=
 .seq (.ag [kA 2])
 (.seq (.ag [aa 3 0,⟨some 4,.build [(.int .i64 0),(.int .i64 0),(.str []),.aw,.cc,.cc,(.bool false)] [(0,1,(.c (.int .i64 1))),(1,1,(.t 3))],none,[3]⟩,eo 5 4,aa 2 5])
 (.ret))
theorem UL:cz 79 6 [.t 2] Mq:=cA Tryz.func79 (by kernel_rfl) (by kernel_rfl) rfl (by kernel_rfl) (by kernel_rfl)
def Kz:bK:=
 .seq (.ag [kA 4])
 (.seq (.ag [aa 5 0,aa 6 1,⟨some 7,.build [(.int .i64 0),(.int .i64 0),(.str []),.aw,.cc,.cc,(.bool false)] [(0,1,(.c (.int .i64 4))),(1,1,(.t 5)),(3,1,(.t 6))],none,[5,6]⟩,eo 8 7,aa 4 8])
 (.ret))
theorem Ts:cz 102 9 [.t 4] Kz:=cA Tryz.func102 (by kernel_rfl) (by kernel_rfl) rfl (by kernel_rfl) (by kernel_rfl)
def Mv:bK:=
 .seq (.ag [kA 2])
 (.seq (.seq (.ag [aa 3 0])
 (.cond (.t 3)
 (.seq (.ag [⟨some 4,.call 102 [(.c (.int .i64 1)),(.c .aw)],none,[]⟩,aa 2 4])
 (.ret))
 (.skip)))
 (.seq (.ag [BZ 5,aa 2 5])
 (.ret)))
theorem UQ:cz 84 6 [.t 2] Mv:=cA Tryz.func84 (by kernel_rfl) (by kernel_rfl) rfl (by kernel_rfl) (by kernel_rfl)
def Lg:bK:=
 .seq (.ag [kA 2])
 (.seq (.ag [aa 3 0,⟨some 4,.build [(.int .i64 0),(.int .i64 0),(.str []),.aw,.cc,.cc,(.bool false)] [(0,1,(.c (.int .i64 2))),(2,1,(.t 3))],none,[3]⟩,eo 5 4,aa 2 5])
 (.ret))
theorem TY:cz 148 6 [.t 2] Lg:=cA Tryz.func148 (by kernel_rfl) (by kernel_rfl) rfl (by kernel_rfl) (by kernel_rfl)
def Mr:bK:=
 .seq (.ag [fg 2])
 (.seq (.ag [aa 3 0,⟨some 4,.bin .shl (.t 3) (.c (.int .u64 1)),none,[3]⟩,⟨some 5,.ju (.int .i32) (.t 4),none,[4]⟩,y' 6 5,⟨some 7,.bin .shr (.t 6) (.c (.int .u64 1)),none,[6]⟩,aa 2 7])
 (.ret))
theorem UM:cz 80 8 [.t 2] Mr:=cA Tryz.func80 (by kernel_rfl) (by kernel_rfl) rfl (by kernel_rfl) (by kernel_rfl)
def KA:bK:=
 .ag [aa 4 0,aa 5 0,aa 6 1,bC 7 4,eQ 8 7,⟨none,.st 1 (.t 8) (.c (.bool true)),none,[8]⟩,bC 9 5,cO 10 9,eP 11 10,⟨none,.st 1 (.t 11) (.t 6),none,[11,6]⟩]
theorem Tt:cz 103 12 [] KA:=cA Tryz.func103 (by kernel_rfl) (by kernel_rfl) rfl (by kernel_rfl) (by kernel_rfl)
def FG:bK:=
 .seq (.ag [B0 2,e9 3])
 (.seq (.ag [aa 6 0,bC 7 6,xk 8 7,aG 9 8,dQ 10 9,aa 4 10])
 (.seq (.seq (.ag [aa 11 4,y3 12 11])
 (.cond (.t 12)
 (.seq (.ag [⟨some 13,.build [(.bool false),(.int .i64 0),.cc,.cc] [],none,[]⟩,⟨none,.st 4 (.t 2) (.t 13),none,[2,13]⟩,e9 3])
 (.ret))
 (.skip)))
 (.seq (.ag [aa 14 0,bC 15 14,xk 16 15,aG 17 16,aa 18 4,jo 19 18,⟨some 20,.b9 4 (.t 17) (.t 19),none,[17,19]⟩,⟨some 21,.gT 4 (.t 20),none,[20]⟩,B0 5,⟨none,.st 4 (.t 5) (.t 21),none,[5,21]⟩])
 (.seq (.ag [aa 22 0,aa 23 0,bC 24 23,xk 25 24,aG 26 25,aa 27 4,jo 28 27,⟨some 29,.g2 4 (.t 26) none (some (.t 28)) none,none,[26,28]⟩,bC 30 22,xk 31 30,⟨none,.st 1 (.t 31) (.t 29),none,[31,29]⟩])
 (.seq (.ag [⟨some 32,.gT 4 (.t 5),none,[5]⟩,⟨none,.st 4 (.t 2) (.t 32),none,[2,32]⟩,m7 3])
 (.ret))))))
theorem Lk:cz 150 33 [.k1 2 4,.t 3] FG:=cA Tryz.func150 (by kernel_rfl) (by kernel_rfl) rfl (by kernel_rfl) (by kernel_rfl)
def Ll:bK:=
 .seq (.ag [eo 4 1])
 (.draw [aa 6 0,aa 7 0,e' 8 4,aG 9 8,ov 10 4,aG 11 10,cO 12 4,aG 13 12,aa 14 2,B1 15 11 13 14,bC 16 6,kB 17 16,⟨none,.st 1 (.t 17) (.t 9),none,[17,9]⟩,bC 18 7,kV 19 18,⟨none,.st 1 (.t 19) (.t 15),none,[19,15]⟩] [(3,[9,12]),(5,[9]),(7,[9])])
theorem T1:cz 151 20 [] Ll:=cA Tryz.func151 (by kernel_rfl) (by kernel_rfl) rfl (by kernel_rfl) (by kernel_rfl)
def Ky:bK:=
 .block 1 (.seq (.ag [aa 7 0,⟨some 8,.call 150 [(.t 7)],none,[7]⟩,aa 6 8,⟨some 9,.ext (.t 6) 0,none,[6]⟩,⟨some 10,.ext (.t 6) 1,none,[6]⟩,B0 4,⟨none,.st 4 (.t 4) (.t 9),none,[4,9]⟩,aa 5 10])
 (.block 2 (.seq (.ag [aa 12 5,gD 13 12,aa 11 13])
 (.cond (.t 11)
 (.seq (.ag [aa 14 0,⟨some 15,.call 103 [(.t 14),(.c (.int .i64 0))],none,[14]⟩])
 (.ret))
 (.seq (.ag [eP 17 4,aG 18 17,gD 19 18,aa 16 19])
 (.cond (.t 16)
 (.seq (.ag [aa 20 0,⟨some 21,.gT 4 (.t 4),none,[4]⟩,aa 22 1,⟨some 23,.call 151 [(.t 20),(.t 21),(.t 22)],none,[20,21,22]⟩])
 (.ret))
 (.skip)))))))
def Kx:bK:=
 .block 0 (.loop Ky)
theorem Tr:cz 101 24 [] Kx:=cA Tryz.func101 (by kernel_rfl) (by kernel_rfl) rfl (by kernel_rfl) (by kernel_rfl)
def KI:bK:=
 .block 1 (.seq (.ag [aa 7 0,⟨some 8,.call 150 [(.t 7)],none,[7]⟩,aa 6 8,⟨some 9,.ext (.t 6) 0,none,[6]⟩,⟨some 10,.ext (.t 6) 1,none,[6]⟩,B0 4,⟨none,.st 4 (.t 4) (.t 9),none,[4,9]⟩,aa 5 10])
 (.seq (.block 2 (.seq (.ag [aa 12 5,aa 13 12,BL 14 4 13,dg 15 14 13,c3 16 13 15,aa 11 16])
 (.cond (.t 11)
 (.seq (.ag [aa 17 0,⟨some 18,.gT 4 (.t 4),none,[4]⟩,aa 19 1,⟨some 20,.call 151 [(.t 17),(.t 18),(.t 19)],none,[17,18,19]⟩])
 (.ret))
 (.seq (.ag [aa 22 5,aa 21 22])
 (.cond (.t 21)
 (.exit 1)
 (.seq (.ag [aa 24 1,bC 25 24,eP 26 25,aG 27 26,y_ 28 27,aa 23 28])
 (.cond (.t 23)
 (.seq (.ag [aa 29 0,xl 30 29])
 (.ret))
 (.skip))))))))
 (.seq (.ag [aa 31 0,⟨some 32,.call 103 [(.t 31),(.c (.int .i64 1))],none,[31]⟩])
 (.seq (.ag [aa 33 0,aa 34 1,bC 35 34,cO 36 35,aG 37 36,bC 38 33,cO 39 38,cO 40 39,⟨none,.st 1 (.t 40) (.t 37),none,[40,37]⟩])
 (.ret)))))
def KH:bK:=
 .block 0 (.loop KI)
theorem Ty:cz 108 41 [] KH:=cA Tryz.func108 (by kernel_rfl) (by kernel_rfl) rfl (by kernel_rfl) (by kernel_rfl)
def Le:bK:=
 .seq (.ag [gn 12 11 10])
 (.seq (.cond (.t 12)
 (.skip)
 (.exit 0))
 (.seq (.block 1 (.seq (.ag [aa 13 11,iB 14 9 11,aG 15 14,aa 7 13,aa 8 15])
 (.seq (.ag [aa 16 1,aa 17 7,iB 18 16 17,aG 19 18,bC 20 19,eP 21 20,aG 22 21,aa 23 8,tJ 24 22 23])
 (.cond (.t 24)
 (.seq (.ag [aa 25 0,xl 26 25])
 (.seq (.ag [e9 6])
 (.ret)))
 (.skip)))))
 (.ag [fK 27 11,aa 11 27])))
def Ld:bK:=
 .seq (.ag [e9 6])
 (.seq (.seq (.ag [aa 9 2,dQ 10 9,fg 11])
 (.block 0 (.loop Le)))
 (.seq (.ag [m7 6])
 (.ret)))
theorem TW:cz 146 28 [.t 6] Ld:=cA Tryz.func146 (by kernel_rfl) (by kernel_rfl) rfl (by kernel_rfl) (by kernel_rfl)
def Mo:bK:=
 .seq (.ag [eo 1 0,⟨some 2,.gu (.c .kN),none,[]⟩])
 (.seq (.ag [⟨some 3,.fn 145 [(.t 1)],none,[1]⟩,aa 2 3])
 (.ret))
theorem UJ:cz 77 4 [.t 2] Mo:=cA Tryz.func77 (by kernel_rfl) (by kernel_rfl) rfl (by kernel_rfl) (by kernel_rfl)
def Lc:bK:=
 .seq (.ag [aa 5 0,aa 6 1,JP 7,rk 8 5 6 7])
 (.cond (.t 8)
 (.draw [aa 9 0,aG 10 2,aa 11 1,fL 12 11,aG 13 12,bC 14 13,cO 15 14,aG 16 15,aa 17 1,lZ 18 17,aG 19 18,bC 20 19,cO 21 20,aG 22 21,E6 23 10 16 22,ly 24 9 23] [(1,[14]),(4,[14]),(7,[14]),(10,[14]),(13,[14])])
 (.skip))
theorem TV:cz 145 25 [] Lc:=cA Tryz.func145 (by kernel_rfl) (by kernel_rfl) rfl (by kernel_rfl) (by kernel_rfl)
def Mp:bK:=
 .seq (.ag [kA 4])
 (.seq (.ag [aa 5 0,aa 6 1,vi 7 5 6,za 8 7,sr 9 8,aa 4 9])
 (.ret))
theorem UK:cz 78 10 [.t 4] Mp:=cA Tryz.func78 (by kernel_rfl) (by kernel_rfl) rfl (by kernel_rfl) (by kernel_rfl)
def Ms:bK:=
 .seq (.ag [kA 4])
 (.seq (.ag [aa 5 0,aa 6 1,⟨some 7,.bin (.int .sub) (.t 5) (.t 6),none,[5,6]⟩,za 8 7,sr 9 8,aa 4 9])
 (.ret))
theorem UN:cz 81 10 [.t 4] Ms:=cA Tryz.func81 (by kernel_rfl) (by kernel_rfl) rfl (by kernel_rfl) (by kernel_rfl)
def Mt:bK:=
 .seq (.ag [kA 4])
 (.seq (.ag [aa 5 0,aa 6 1,⟨some 7,.bin (.int .mul) (.t 5) (.t 6),none,[5,6]⟩,za 8 7,sr 9 8,aa 4 9])
 (.ret))
theorem UO:cz 82 10 [.t 4] Mt:=cA Tryz.func82 (by kernel_rfl) (by kernel_rfl) rfl (by kernel_rfl) (by kernel_rfl)
def Mu:bK:=
 .seq (.ag [kA 4])
 (.seq (.ag [aa 5 0,aa 6 1,pq 7 5 6,⟨some 8,.call 84 [(.t 7)],none,[7]⟩,aa 4 8])
 (.ret))
theorem UP:cz 83 9 [.t 4] Mu:=cA Tryz.func83 (by kernel_rfl) (by kernel_rfl) rfl (by kernel_rfl) (by kernel_rfl)
def Mw:bK:=
 .seq (.ag [kA 4])
 (.seq (.ag [aa 5 0,aa 6 1,gn 7 5 6,⟨some 8,.call 84 [(.t 7)],none,[7]⟩,aa 4 8])
 (.ret))
theorem UR:cz 85 9 [.t 4] Mw:=cA Tryz.func85 (by kernel_rfl) (by kernel_rfl) rfl (by kernel_rfl) (by kernel_rfl)
def Mx:bK:=
 .seq (.ag [kA 4])
 (.seq (.ag [aa 5 0,aa 6 1,⟨some 7,.bin (.int .leq) (.t 5) (.t 6),none,[5,6]⟩,⟨some 8,.call 84 [(.t 7)],none,[7]⟩,aa 4 8])
 (.ret))
theorem US:cz 86 9 [.t 4] Mx:=cA Tryz.func86 (by kernel_rfl) (by kernel_rfl) rfl (by kernel_rfl) (by kernel_rfl)
def My:bK:=
 .seq (.ag [eo 1 0,⟨some 2,.gu (.c .kN),none,[]⟩])
 (.seq (.ag [⟨some 3,.fn 147 [(.t 1)],none,[1]⟩,aa 2 3])
 (.ret))
theorem UT:cz 87 4 [.t 2] My:=cA Tryz.func87 (by kernel_rfl) (by kernel_rfl) rfl (by kernel_rfl) (by kernel_rfl)
def Lf:bK:=
 .block 0 (.seq (.ag [aa 24 0,aa 25 1,JP 26,rk 27 24 25 26,gD 28 27,aa 23 28])
 (.cond (.t 23)
 (.skip)
 (.seq (.ag [aa 30 1,lZ 31 30,aG 32 31,bC 33 32,cO 34 33,aG 35 34,y3 36 35,aa 29 36])
 (.cond (.t 29)
 (.ag [aa 37 0,⟨some 38,.call 102 [(.c (.int .i64 1)),(.c .aw)],none,[]⟩,zb 39 37 38])
 (.draw [aa 5 0,aG 6 2,aa 7 1,fL 8 7,aG 9 8,bC 10 9,cO 11 10,aG 12 11,aa 13 1,lZ 14 13,aG 15 14,bC 16 15,cO 17 16,aG 18 17,E6 19 6 12 18,za 20 19,sr 21 20,ly 22 5 21] [(1,[14]),(4,[14]),(7,[14]),(10,[14]),(13,[14])])))))
theorem TX:cz 147 40 [] Lf:=cA Tryz.func147 (by kernel_rfl) (by kernel_rfl) rfl (by kernel_rfl) (by kernel_rfl)
def Mz:bK:=
 .seq (.ag [fg 4])
 (.seq (.ag [aa 5 0,aa 6 1,⟨some 7,.bin (.int .quo) (.t 5) (.t 6),none,[5,6]⟩,aa 4 7])
 (.ret))
theorem UU:cz 88 8 [.t 4] Mz:=cA Tryz.func88 (by kernel_rfl) (by kernel_rfl) rfl (by kernel_rfl) (by kernel_rfl)
def MA:bK:=
 .seq (.ag [fg 4])
 (.seq (.ag [aa 5 0,aa 6 1,⟨some 7,.bin (.int .rem) (.t 5) (.t 6),none,[5,6]⟩,aa 4 7])
 (.ret))
theorem UW:cz 89 8 [.t 4] MA:=cA Tryz.func89 (by kernel_rfl) (by kernel_rfl) rfl (by kernel_rfl) (by kernel_rfl)
def L3:bK:=
 .seq (.ag [⟨some 0,.gu (.c .lN),none,[]⟩])
 (.seq (.ag [⟨some 1,.r2 none,none,[]⟩,⟨some 2,.call 77 [(.c (.func 78 []))],none,[]⟩,⟨none,.fc .str (.t 1) (.c (.str [97,100,100])) (.t 2),none,[1,2]⟩,⟨some 3,.call 77 [(.c (.func 81 []))],none,[]⟩,⟨none,.fc .str (.t 1) (.c (.str [115,117,98])) (.t 3),none,[1,3]⟩,⟨some 4,.call 77 [(.c (.func 82 []))],none,[]⟩,⟨none,.fc .str (.t 1) (.c (.str [109,117,108])) (.t 4),none,[1,4]⟩,⟨some 5,.call 77 [(.c (.func 83 []))],none,[]⟩,⟨none,.fc .str (.t 1) (.c (.str [101,113])) (.t 5),none,[1,5]⟩,⟨some 6,.call 77 [(.c (.func 85 []))],none,[]⟩,⟨none,.fc .str (.t 1) (.c (.str [108,116])) (.t 6),none,[1,6]⟩,⟨some 7,.call 77 [(.c (.func 86 []))],none,[]⟩,⟨none,.fc .str (.t 1) (.c (.str [108,101])) (.t 7),none,[1,7]⟩,⟨some 8,.call 87 [(.c (.func 88 []))],none,[]⟩,⟨none,.fc .str (.t 1) (.c (.str [100,105,118])) (.t 8),none,[1,8]⟩,⟨some 9,.call 87 [(.c (.func 89 []))],none,[]⟩,⟨none,.fc .str (.t 1) (.c (.str [109,111,100])) (.t 9),none,[1,9]⟩,⟨none,.fc .str (.t 1) (.c (.str [110,101,103])) (.c (.func 90 [])),none,[1]⟩,⟨none,.fc .str (.t 1) (.c (.str [103,101,116,99])) (.c (.func 91 [])),none,[1]⟩,⟨none,.fc .str (.t 1) (.c (.str [112,117,116,99])) (.c (.func 92 [])),none,[1]⟩,⟨none,.fc .str (.t 1) (.c (.str [112,117,116,115])) (.c (.func 93 [])),none,[1]⟩,⟨none,.fc .str (.t 1) (.c (.str [115,105,122,101])) (.c (.func 94 [])),none,[1]⟩,⟨none,.fc .str (.t 1) (.c (.str [99,104,114])) (.c (.func 95 [])),none,[1]⟩,⟨none,.fc .str (.t 1) (.c (.str [98,121,116,101])) (.c (.func 96 [])),none,[1]⟩,⟨none,.fc .str (.t 1) (.c (.str [99,117,116])) (.c (.func 97 [])),none,[1]⟩,⟨none,.fc .str (.t 1) (.c (.str [106,111,105,110])) (.c (.func 98 [])),none,[1]⟩,⟨none,.fc .str (.t 1) (.c (.str [115,101,116])) (.c (.func 99 [])),none,[1]⟩,aa 10 1,aa 0 10])
 (.ret))
theorem Uu:cz 58 11 [.t 0] L3:=cA Tryz.func58 (by kernel_rfl) (by kernel_rfl) rfl (by kernel_rfl) (by kernel_rfl)
def MB:bK:=
 .seq (.ag [aa 4 0,aa 5 1,E7 6,rk 7 4 5 6])
 (.cond (.t 7)
 (.ag [aa 8 0,aa 9 1,fL 10 9,aG 11 10,bC 12 11,cO 13 12,aG 14 13,⟨some 15,.un .neg (.t 14),none,[14]⟩,za 16 15,sr 17 16,ly 18 8 17])
 (.skip))
theorem UX:cz 90 19 [] MB:=cA Tryz.func90 (by kernel_rfl) (by kernel_rfl) rfl (by kernel_rfl) (by kernel_rfl)
def MC:bK:=
 .seq (.seq (.draw [aa 4 0,bC 5 4,cO 6 5,e' 7 6,aG 8 7,aa 9 0,bC 10 9,eP 11 10,aG 12 11,dQ 13 12,⟨some 14,.bin (.int .geq) (.t 8) (.t 13),none,[8,13]⟩] [])
 (.cond (.t 14)
 (.seq (.ag [aa 15 0,⟨some 16,.call 79 [(.c (.int .i64 (-1)))],none,[]⟩,ly 17 15 16])
 (.ret))
 (.skip)))
 (.seq (.ag [aa 18 0,bC 19 18,cO 20 19,e' 21 20,aG 22 21,fK 23 22,bC 24 18,cO 25 24,e' 26 25,⟨none,.st 1 (.t 26) (.t 23),none,[26,23]⟩])
 (.draw [aa 27 0,aa 28 0,bC 29 28,eP 30 29,aG 31 30,aa 32 0,bC 33 32,cO 34 33,e' 35 34,aG 36 35,jo 37 36,iB 38 31 37,aG 39 38,y' 40 39,sr 41 40,ly 42 27 41] [(4,[14]),(9,[14]),(12,[14]),(13,[14])]))
theorem UY:cz 91 43 [] MC:=cA Tryz.func91 (by kernel_rfl) (by kernel_rfl) rfl (by kernel_rfl) (by kernel_rfl)
def MD:bK:=
 .seq (.ag [aa 4 0,aa 5 1,E7 6,rk 7 4 5 6])
 (.cond (.t 7)
 (.seq (.draw [aa 8 0,aa 9 0,bC 10 9,cO 11 10,kU 12 11,aG 13 12,aa 14 1,fL 15 14,aG 16 15,bC 17 16,cO 18 17,aG 19 18,B2 20 19,B3 21 20,iC 22 13 21,bC 23 8,cO 24 23,kU 25 24,⟨none,.st 1 (.t 25) (.t 22),none,[25,22]⟩] [(5,[14]),(8,[14]),(11,[14]),(12,[14])])
 (.ag [aa 26 0,BZ 27,ly 28 26 27]))
 (.skip))
theorem UZ:cz 92 29 [] MD:=cA Tryz.func92 (by kernel_rfl) (by kernel_rfl) rfl (by kernel_rfl) (by kernel_rfl)
def ME:bK:=
 .seq (.ag [aa 4 0,aa 5 1,⟨some 6,.h9 1 1 [(.int .i64 0)] [(0,1,(.c (.int .i64 2)))],none,[]⟩,rk 7 4 5 6])
 (.cond (.t 7)
 (.seq (.draw [aa 8 0,aa 9 0,bC 10 9,cO 11 10,kU 12 11,aG 13 12,aa 14 1,fL 15 14,aG 16 15,bC 17 16,e' 18 17,aG 19 18,iC 20 13 19,bC 21 8,cO 22 21,kU 23 22,⟨none,.st 1 (.t 23) (.t 20),none,[23,20]⟩] [(5,[12]),(8,[12]),(11,[12])])
 (.ag [aa 24 0,BZ 25,ly 26 24 25]))
 (.skip))
theorem U0:cz 93 27 [] ME:=cA Tryz.func93 (by kernel_rfl) (by kernel_rfl) rfl (by kernel_rfl) (by kernel_rfl)
def MF:bK:=
 .seq (.ag [aa 4 0,aa 5 1,⟨some 6,.h9 1 1 [(.int .i64 0)] [(0,1,(.c (.int .i64 2)))],none,[]⟩,rk 7 4 5 6])
 (.cond (.t 7)
 (.ag [aa 8 0,aa 9 1,fL 10 9,aG 11 10,bC 12 11,e' 13 12,aG 14 13,⟨some 15,.len .str (.t 14),none,[14]⟩,sr 16 15,ly 17 8 16])
 (.skip))
theorem U1:cz 94 18 [] MF:=cA Tryz.func94 (by kernel_rfl) (by kernel_rfl) rfl (by kernel_rfl) (by kernel_rfl)
def MG:bK:=
 .seq (.ag [aa 4 0,aa 5 1,E7 6,rk 7 4 5 6])
 (.cond (.t 7)
 (.ag [aa 8 0,aa 9 1,fL 10 9,aG 11 10,bC 12 11,cO 13 12,aG 14 13,B2 15 14,B3 16 15,⟨some 17,.ju .str (.t 16),none,[16]⟩,⟨some 18,.call 148 [(.t 17)],none,[17]⟩,ly 19 8 18])
 (.skip))
theorem U2:cz 95 20 [] MG:=cA Tryz.func95 (by kernel_rfl) (by kernel_rfl) rfl (by kernel_rfl) (by kernel_rfl)
def MH:bK:=
 .block 0 (.seq (.ag [aa 22 0,aa 23 1,⟨some 24,.h9 2 1 [(.int .i64 0)] [(0,1,(.c (.int .i64 2))),(1,1,(.c (.int .i64 1)))],none,[]⟩,rk 25 22 23 24,gD 26 25,aa 21 26])
 (.cond (.t 21)
 (.skip)
 (.seq (.draw [aa 28 1,lZ 29 28,aG 30 29,bC 31 30,cO 32 31,aG 33 32,B4 34 33,aa 35 34,hj 36 1 35,⟨some 37,.b9 1 (.t 36) (.c (.int .i64 1)),(some (35,false)),[36,35]⟩,gK 38 37 35,rl 39 38 35,⟨some 40,.cX 1 (.t 39),(some (35,false)),[39,35]⟩,gK 41 40 35,hj 42 1 35,xm 43 42 35,gK 44 43 35,rl 45 44 35,w_ 46 45 35,gK 47 46 35,B5 48 47 35,zc 49 41 48 35,g6 50 35 49,aa 27 50] [])
 (.cond (.t 27)
 (.ag [aa 51 0,E8 52,zb 53 51 52])
 (.draw [aa 4 0,aa 5 1,fL 6 5,aG 7 6,bC 8 7,e' 9 8,aG 10 9,aa 11 1,lZ 12 11,aG 13 12,bC 14 13,cO 15 14,aG 16 15,⟨some 17,.uE (.t 10) (.t 16),none,[10,16]⟩,y' 18 17,sr 19 18,ly 20 4 19] [(3,[15]),(6,[15]),(9,[15]),(12,[15]),(14,[15])])))))
theorem U3:cz 96 54 [] MH:=cA Tryz.func96 (by kernel_rfl) (by kernel_rfl) rfl (by kernel_rfl) (by kernel_rfl)
def MI:bK:=
 .seq (.seq (.ag [aa 7 0,aa 8 1,⟨some 9,.h9 3 1 [(.int .i64 0)] [(0,1,(.c (.int .i64 2))),(1,1,(.c (.int .i64 1))),(2,1,(.c (.int .i64 1)))],none,[]⟩,rk 10 7 8 9,gD 11 10])
 (.cond (.t 11)
 (.ret)
 (.skip)))
 (.seq (.draw [aa 12 1,fL 13 12,aG 14 13,bC 15 14,e' 16 15,aG 17 16,aa 18 1,lZ 19 18,aG 20 19,bC 21 20,cO 22 21,aG 23 22,aa 24 1,⟨some 25,.b9 1 (.t 24) (.c (.int .i64 2)),none,[24]⟩,aG 26 25,bC 27 26,cO 28 27,aG 29 28,aa 4 17,aa 5 23,aa 6 29] [])
 (.seq (.seq (.ag [aa 30 5,B4 31 30,aa 32 31,hj 33 6 32,E9 34 33 32,g6 35 32 34,aa 36 35,hj 37 5 36,hj 38 4 36,B5 39 38 36,⟨some 40,.bin (.int .gtr) (.t 37) (.t 39),(some (36,false)),[37,39,36]⟩,g6 41 36 40,aa 42 41,hj 43 6 42,hj 44 4 42,B5 45 44 42,hj 46 5 42,⟨some 47,.bin (.int .sub) (.t 45) (.t 46),(some (42,false)),[45,46,42]⟩,⟨some 48,.bin (.int .gtr) (.t 43) (.t 47),(some (42,false)),[43,47,42]⟩,g6 49 42 48])
 (.cond (.t 49)
 (.seq (.ag [aa 50 0,E8 51,zb 52 50 51])
 (.ret))
 (.skip)))
 (.ag [aa 53 0,aa 54 4,aa 55 5,aa 56 5,aa 57 6,vi 58 56 57,⟨some 59,.u3 (.t 54) (some (.t 55)) (some (.t 58)) none,none,[54,55,58]⟩,⟨some 60,.call 148 [(.t 59)],none,[59]⟩,ly 61 53 60])))
theorem U4:cz 97 62 [] MI:=cA Tryz.func97 (by kernel_rfl) (by kernel_rfl) rfl (by kernel_rfl) (by kernel_rfl)
def MJ:bK:=
 .block 0 (.seq (.ag [aa 21 0,aa 22 1,⟨some 23,.h9 2 1 [(.int .i64 0)] [(0,1,(.c (.int .i64 2))),(1,1,(.c (.int .i64 2)))],none,[]⟩,rk 24 21 22 23,gD 25 24,aa 20 25])
 (.cond (.t 20)
 (.skip)
 (.seq (.draw [aa 27 1,fL 28 27,aG 29 28,bC 30 29,e' 31 30,aG 32 31,⟨some 33,.len .str (.t 32),none,[32]⟩,aa 34 1,lZ 35 34,aG 36 35,bC 37 36,e' 38 37,aG 39 38,⟨some 40,.len .str (.t 39),none,[39]⟩,vi 41 33 40,⟨some 42,.bin (.int .gtr) (.t 41) (.c (.int .i64 4096)),none,[41]⟩,aa 26 42] [])
 (.cond (.t 26)
 (.ag [aa 43 0,E8 44,zb 45 43 44])
 (.draw [aa 4 0,aa 5 1,fL 6 5,aG 7 6,bC 8 7,e' 9 8,aG 10 9,aa 11 1,lZ 12 11,aG 13 12,bC 14 13,e' 15 14,aG 16 15,⟨some 17,.bin (.str .add) (.t 10) (.t 16),none,[10,16]⟩,⟨some 18,.call 148 [(.t 17)],none,[17]⟩,ly 19 4 18] [(3,[14]),(6,[14]),(9,[14]),(12,[14])])))))
theorem U5:cz 98 46 [] MJ:=cA Tryz.func98 (by kernel_rfl) (by kernel_rfl) rfl (by kernel_rfl) (by kernel_rfl)
def MK:bK:=
 .seq (.seq (.ag [aa 4 1,fL 5 4,aG 6 5,bC 7 6,eP 8 7,aG 9 8,y_ 10 9,aa 11 10,hj 12 1 11,xm 13 12 11,gK 14 13 11,rl 15 14 11,⟨some 16,.cX 1 (.t 15),(some (11,false)),[15,11]⟩,gK 17 16 11,⟨some 18,.bin (.int .neq) (.t 17) (.c (.int .i64 0)),(some (11,false)),[17,11]⟩,g6 19 11 18,aa 20 19,hj 21 1 20,xm 22 21 20,gK 23 22 20,rl 24 23 20,BH 25 24 20,gK 26 25 20,m5 27 26 20,⟨some 28,.bin (.int .neq) (.t 27) (.c (.int .i64 1)),(some (20,false)),[27,20]⟩,g6 29 20 28])
 (.cond (.t 29)
 (.seq (.ag [aa 30 0,xl 31 30])
 (.ret))
 (.skip)))
 (.seq (.draw [aa 32 1,fL 33 32,aG 34 33,bC 35 34,ov 36 35,aG 37 36,aa 38 1,lZ 39 38,aG 40 39,fL 41 37,⟨none,.st 1 (.t 41) (.t 40),none,[41,40]⟩] [(2,[10]),(5,[10]),(8,[10])])
 (.ag [aa 42 0,BZ 43,ly 44 42 43]))
theorem U6:cz 99 45 [] MK:=cA Tryz.func99 (by kernel_rfl) (by kernel_rfl) rfl (by kernel_rfl) (by kernel_rfl)
def KG:bK:=
 .seq (.ag [gn 26 25 24])
 (.seq (.cond (.t 26)
 (.skip)
 (.exit 0))
 (.seq (.block 1 (.seq (.ag [aa 27 25,iB 28 23 25,aG 29 28,aa 7 27,aa 8 29])
 (.seq (.ag [aa 30 8,aa 31 2,bC 32 31,cO 33 32,aG 34 33,pq 35 30 34])
 (.cond (.t 35)
 (.ag [aa 36 7,aa 6 36])
 (.skip)))))
 (.ag [fK 37 25,aa 25 37])))
def KF:bK:=
 .seq (.ag [aa 9 0,bC 10 9,kB 11 10,aG 12 11,bC 13 12,sq 14 13,aG 15 14,dQ 16 15,aa 6 16])
 (.seq (.seq (.ag [aa 17 0,bC 18 17,kB 19 18,aG 20 19,bC 21 20,sq 22 21,aG 23 22,dQ 24 23,fg 25])
 (.block 0 (.loop KG)))
 (.seq (.seq (.ag [aa 38 2,bC 39 38,eP 40 39,aG 41 40,aa 42 1,tJ 43 41 42,aa 44 43,hj 45 6 44,hj 46 0 44,rl 47 46 44,⟨some 48,.cX 7 (.t 47),(some (44,false)),[47,44]⟩,gK 49 48 44,rl 50 49 44,vf 51 50 44,gK 52 51 44,m5 53 52 44,zc 54 45 53 44,g6 55 44 54])
 (.cond (.t 55)
 (.seq (.ag [aa 56 0,xl 57 56])
 (.ret))
 (.skip)))
 (.ag [aa 58 0,aa 59 0,bC 60 59,kB 61 60,aG 62 61,bC 63 62,eQ 64 63,aG 65 64,aa 66 6,j6 67 65 66,bC 68 58,kB 69 68,⟨none,.st 1 (.t 69) (.t 67),none,[69,67]⟩])))
theorem Tx:cz 107 70 [] KF:=cA Tryz.func107 (by kernel_rfl) (by kernel_rfl) rfl (by kernel_rfl) (by kernel_rfl)
def KD:bK:=
 .seq (.ag [gn 29 28 27])
 (.seq (.cond (.t 29)
 (.skip)
 (.exit 0))
 (.seq (.block 1 (.seq (.ag [aa 30 28,aa 4 30])
 (.seq (.ag [aa 31 0,bC 32 31,kB 33 32,aG 34 33,bC 35 34,eQ 36 35,aG 37 36,aa 38 4,j6 39 37 38,aa 5 39])
 (.seq (.draw [aa 40 5,bC 41 40,cO 42 41,aG 43 42,aa 44 5,bC 45 44,eQ 46 45,aG 47 46,tN 48 47,⟨some 49,.build [(.int .i64 0),(.int .i64 0),(.str []),.aw,.cc,.cc,(.bool false)] [(0,1,(.c (.int .i64 3))),(1,1,(.t 43)),(4,1,(.t 48))],none,[43,48]⟩,eo 50 49,aa 6 50] [(3,[12]),(7,[12])])
 (.seq (.ag [aa 51 3,aa 52 6,xn 53 52,iC 54 51 53,aa 3 54])
 (.draw [aa 55 0,aa 56 0,bC 57 56,kV 58 57,aG 59 58,aa 60 5,bC 61 60,e' 62 61,aG 63 62,aa 64 6,B1 65 59 63 64,bC 66 55,kV 67 66,⟨none,.st 1 (.t 67) (.t 65),none,[67,65]⟩] [(4,[10]),(8,[10])]))))))
 (.ag [fK 68 28,aa 28 68])))
def KE:bK:=
 .seq (.ag [gn 72 71 70])
 (.seq (.cond (.t 72)
 (.skip)
 (.exit 2))
 (.seq (.block 3 (.seq (.ag [iB 73 69 71,aG 74 73,aa 8 74])
 (.ag [aa 75 8,aa 76 0,bC 77 76,kV 78 77,aG 79 78,bC 80 75,sq 81 80,⟨none,.st 1 (.t 81) (.t 79),none,[81,79]⟩])))
 (.ag [fK 82 71,aa 71 82])))
def KC:bK:=
 .seq (.ag [aa 9 0,bC 10 9,kB 11 10,aG 12 11,bC 13 12,eQ 14 13,aG 15 14,dQ 16 15,jo 17 16,aa 2 17])
 (.seq (.ag [jX 3])
 (.seq (.seq (.ag [aa 18 0,bC 19 18,kB 20 19,aG 21 20,bC 22 21,eQ 23 22,aG 24 23,aa 25 2,EN 26 24 25,dQ 27 26,fg 28])
 (.block 0 (.loop KD)))
 (.seq (.seq (.ag [aa 69 3,dQ 70 69,fg 71])
 (.block 2 (.loop KE)))
 (.ag [aa 83 0,aa 84 0,bC 85 84,kB 86 85,aG 87 86,bC 88 87,eQ 89 88,aG 90 89,aa 91 2,j6 92 90 91,bC 93 83,kB 94 93,⟨none,.st 1 (.t 94) (.t 92),none,[94,92]⟩]))))
theorem Tw:cz 105 95 [] KC:=cA Tryz.func105 (by kernel_rfl) (by kernel_rfl) rfl (by kernel_rfl) (by kernel_rfl)
def Tv:bK:=
 .seq (.ag [gn 32 31 30])
 (.seq (.cond (.t 32)
 (.skip)
 (.exit 1))
 (.seq (.block 2 (.seq (.ag [aa 33 31,iB 34 29 31,aG 35 34,aa 6 33,aa 7 35])
 (.ag [aa 36 0,aa 37 0,bC 38 37,kV 39 38,aG 40 39,aa 41 6,⟨some 42,.bin (.int .add) (.c (.int .i64 1)) (.t 41),none,[41]⟩,aa 43 7,B1 44 40 42 43,bC 45 36,kV 46 45,⟨none,.st 1 (.t 46) (.t 44),none,[46,44]⟩])))
 (.ag [fK 47 31,aa 31 47])))
def KB:bK:=
 .block 0 (.seq (.ag [aa 49 1,bC 50 49,eP 51 50,aG 52 51,⟨some 53,.bin (.int .neq) (.t 52) (.c (.int .i64 3)),none,[52]⟩,aa 48 53])
 (.cond (.t 48)
 (.ag [aa 54 0,xl 55 54])
 (.seq (.ag [aa 57 1,bC 58 57,eQ 59 58,aG 60 59,gD 61 60,aa 56 61])
 (.cond (.t 56)
 (.draw [aa 62 0,aa 63 0,aa 64 1,bC 65 64,kU 66 65,aG 67 66,aa 68 1,bC 69 68,sq 70 69,aG 71 70,aa 72 1,bC 73 72,cO 74 73,aG 75 74,aa 76 2,B1 77 71 75 76,bC 78 62,kB 79 78,⟨none,.st 1 (.t 79) (.t 67),none,[79,67]⟩,bC 80 63,kV 81 80,⟨none,.st 1 (.t 81) (.t 77),none,[81,77]⟩] [(5,[15,18]),(9,[15]),(13,[15])])
 (.seq (.draw [aa 8 0,aa 9 0,bC 10 9,⟨some 11,.cX 10 (.t 10),none,[10]⟩,aG 12 11,aa 13 1,bC 14 13,cO 15 14,aG 16 15,B6 17 12 16,cO 18 17,bC 19 8,kB 20 19,⟨none,.st 1 (.t 20) (.t 18),none,[20,18]⟩] [(4,[13]),(8,[13])])
 (.seq (.ag [aa 21 0,aa 22 2,⟨some 23,.call 152 [(.c .cc),(.c (.int .i64 0)),(.t 22)],none,[22]⟩,bC 24 21,kV 25 24,⟨none,.st 1 (.t 25) (.t 23),none,[25,23]⟩])
 (.seq (.ag [aa 26 1,bC 27 26,ov 28 27,aG 29 28,dQ 30 29,fg 31])
 (.block 1 (.loop Tv)))))))))
theorem Tu:cz 104 82 [] KB:=cA Tryz.func104 (by kernel_rfl) (by kernel_rfl) rfl (by kernel_rfl) (by kernel_rfl)
def Kw:bK:=
 .seq (.ag [gn 15 14 13])
 (.seq (.cond (.t 15)
 (.skip)
 (.exit 0))
 (.seq (.block 1 (.seq (.ag [vj 16 12 14,lx 17 16,xe 5,⟨none,.st 3 (.t 5) (.t 17),none,[5,17]⟩])
 (.seq (.ag [eP 18 5,aG 19 18])
 (.block 2 (.seq (.ag [ox 27 19,aa 26 27])
 (.cond (.t 26)
 (.draw [aa 28 3,aa 29 0,bC 30 29,kV 31 30,aG 32 31,cO 33 5,aG 34 33,⟨some 35,.call 149 [(.t 32),(.t 34)],none,[32,34]⟩,xn 36 35,iC 37 28 36,aa 3 37] [(4,[7]),(6,[7])])
 (.seq (.ag [nF 39 19,aa 38 39])
 (.cond (.t 38)
 (.ag [aa 40 3,cO 41 5,aG 42 41,sr 43 42,xn 44 43,iC 45 40 44,aa 3 45])
 (.ag [aa 20 3,e' 21 5,aG 22 21,⟨some 23,.call 148 [(.t 22)],none,[22]⟩,xn 24 23,iC 25 20 24,aa 3 25])))))))))
 (.ag [fK 46 14,aa 14 46])))
def Kv:bK:=
 .seq (.ag [jX 2])
 (.seq (.ag [jX 3])
 (.seq (.seq (.ag [aa 6 0,bC 7 6,kB 8 7,aG 9 8,bC 10 9,kU 11 10,aG 12 11,dQ 13 12,fg 14])
 (.block 0 (.loop Kw)))
 (.seq (.ag [aa 47 3,aa 2 47])
 (.ret))))
theorem Tq:cz 100 48 [.t 2] Kv:=cA Tryz.func100 (by kernel_rfl) (by kernel_rfl) rfl (by kernel_rfl) (by kernel_rfl)
def oL:bK:=
 .seq (.draw [aa 4 0,bC 5 4,kB 6 5,aG 7 6,aa 8 0,⟨some 9,.call 100 [(.t 8)],none,[8]⟩,aa 2 7,aa 3 9] [(3,[5,8])])
 (.seq (.ag [aa 10 2,bC 11 10,eP 12 11,aG 13 12])
 (.block 0 (.seq (.ag [ox 15 13,aa 14 15])
 (.cond (.t 14)
 (.ag [aa 16 0,aa 17 3,fL 18 17,aG 19 18,ly 20 16 19])
 (.seq (.seq (.ag [nF 22 13,aa 21 22])
 (.cond (.t 21)
 (.skip)
 (.ag [vk 23 13,aa 21 23])))
 (.cond (.t 21)
 (.seq (.draw [aa 24 0,aa 25 0,bC 26 25,xk 27 26,aG 28 27,aa 29 2,bC 30 29,eP 31 30,aG 32 31,vk 33 32,aa 34 2,bC 35 34,cO 36 35,aG 37 36,aa 38 2,bC 39 38,eQ 40 39,aG 41 40,y5 42 41,aa 43 0,bC 44 43,kV 45 44,aG 46 45,⟨some 47,.build [(.bool false),(.int .i64 0),.cc,.cc] [(0,1,(.t 33)),(1,1,(.t 37)),(2,1,(.t 42)),(3,1,(.t 46))],none,[33,37,42,46]⟩,⟨some 48,.h9 1 4 [(.bool false),(.int .i64 0),.cc,.cc] [(0,4,(.t 47))],none,[47]⟩,⟨some 49,.app 4 (.t 28) (.t 48),none,[28,48]⟩,bC 50 24,xk 51 50,⟨none,.st 1 (.t 51) (.t 49),none,[51,49]⟩] [(4,[25]),(8,[25]),(13,[25]),(17,[25]),(22,[25])])
 (.ag [aa 52 0,aa 53 2,bC 54 53,eQ 55 54,aG 56 55,tN 57 56,bC 58 52,kB 59 58,⟨none,.st 1 (.t 59) (.t 57),none,[59,57]⟩]))
 (.seq (.ag [xb 61 13,aa 60 61])
 (.cond (.t 60)
 (.draw [aa 62 0,bC 63 62,zd 64 63,aG 65 64,aa 66 2,bC 67 66,ov 68 67,aG 69 68,⟨some 70,.look .str .kN false (.t 65) (.t 69),none,[65,69]⟩,aa 71 0,aa 72 3,E6 73 70 71 72] [(3,[11]),(7,[11]),(8,[11])])
 (.seq (.ag [BR 75 13,aa 74 75])
 (.cond (.t 74)
 (.ag [aa 76 0,aa 77 2,bC 78 77,e' 79 78,aG 80 79,aa 81 3,⟨some 82,.call 102 [(.t 80),(.t 81)],none,[80,81]⟩,ly 83 76 82])
 (.seq (.ag [BK 85 13,aa 84 85])
 (.cond (.t 84)
 (.seq (.seq (.draw [aa 86 3,fL 87 86,aG 88 87,bC 89 88,eP 90 89,aG 91 90,y_ 92 91,aa 93 92,hj 94 2 93,rl 95 94 93,w_ 96 95 93,gK 97 96 93,hj 98 3 93,xm 99 98 93,gK 100 99 93,rl 101 100 93,BH 102 101 93,gK 103 102 93,m5 104 103 93,zc 105 97 104 93,g6 106 93 105] [])
 (.cond (.t 106)
 (.seq (.ag [aa 107 0,xl 108 107])
 (.ret))
 (.skip)))
 (.draw [aa 109 0,aa 110 3,fL 111 110,aG 112 111,bC 113 112,ov 114 113,aG 115 114,aa 116 2,bC 117 116,e' 118 117,aG 119 118,iB 120 115 119,aG 121 120,ly 122 109 121] [(3,[13]),(6,[13]),(10,[13]),(12,[13])]))
 (.seq (.ag [E3 124 13,aa 123 124])
 (.cond (.t 123)
 (.draw [aa 125 0,aa 126 3,fL 127 126,aG 128 127,aa 129 3,lZ 130 129,aG 131 130,⟨some 132,.call 104 [(.t 125),(.t 128),(.t 131)],none,[125,128,131]⟩] [(3,[7]),(6,[7])])
 (.seq (.ag [xc 134 13,aa 133 134])
 (.cond (.t 133)
 (.draw [aa 135 0,aa 136 2,bC 137 136,cO 138 137,aG 139 138,aa 140 2,bC 141 140,eQ 142 141,aG 143 142,tN 144 143,aa 145 0,bC 146 145,kV 147 146,aG 148 147,⟨some 149,.build [(.int .i64 0),(.int .i64 0),(.str []),.aw,.cc,.cc,(.bool false)] [(0,1,(.c (.int .i64 3))),(1,1,(.t 139)),(4,1,(.t 144)),(5,1,(.t 148))],none,[139,144,148]⟩,eo 150 149,ly 151 135 150] [(4,[16]),(8,[16]),(13,[16])])
 (.seq (.ag [⟨some 153,.bin (.int .eql) (.t 13) (.c (.int .i64 13)),none,[13]⟩,aa 152 153])
 (.cond (.t 152)
 (.ag [aa 154 0,aa 155 2,bC 156 155,e' 157 156,aG 158 157,aa 159 3,⟨some 160,.build [(.int .i64 0),(.int .i64 0),(.str []),.aw,.cc,.cc,(.bool false)] [(0,1,(.c (.int .i64 3))),(1,1,(.t 158)),(3,1,(.t 159)),(6,1,(.c (.bool true)))],none,[158,159]⟩,eo 161 160,ly 162 154 161])
 (.seq (.ag [xd 164 13,aa 163 164])
 (.cond (.t 163)
 (.ag [aa 165 0,⟨some 166,.call 105 [(.t 165)],none,[165]⟩])
 (.seq (.ag [EP 168 13,aa 167 168])
 (.cond (.t 167)
 (.ag [aa 169 0,aa 170 3,⟨some 171,.call 106 [(.t 169),(.t 170)],none,[169,170]⟩])
 (.seq (.ag [E4 173 13,aa 172 173])
 (.cond (.t 172)
 (.ag [aa 174 0,aa 175 3,fL 176 175,aG 177 176,⟨some 178,.call 107 [(.t 174),(.c (.int .i64 4)),(.t 177)],none,[174,177]⟩])
 (.seq (.ag [y2 180 13,aa 179 180])
 (.cond (.t 179)
 (.ag [aa 181 0,aa 182 3,fL 183 182,aG 184 183,⟨some 185,.call 107 [(.t 181),(.c (.int .i64 1)),(.t 184)],none,[181,184]⟩])
 (.seq (.ag [E1 187 13,aa 186 187])
 (.cond (.t 186)
 (.ag [aa 188 0,aa 189 3,fL 190 189,aG 191 190,zb 192 188 191])
 (.skip)))))))))))))))))))))))))))))
theorem pz:cz 59 193 [] oL:=cA Tryz.func59 (by kernel_rfl) (by kernel_rfl) rfl (by kernel_rfl) (by kernel_rfl)
def LI:bK:=
 .seq (.seq (.ag [aa 15 9,bC 16 15,eQ 17 16,aG 18 17,gD 19 18,aa 20 19,ep 21 9 20,ss 22 21 20,mB 23 22 20,tK 24 23 20,dg 25 24 20,ep 26 3 20,BP 27 25 26 20,c3 28 20 27])
 (.cond (.t 28)
 (.skip)
 (.exit 0)))
 (.block 1 (.seq (.ag [aa 29 9,bC 30 29,cO 31 30,ov 32 31,aG 33 32,fK 34 33,bC 35 29,cO 36 35,ov 37 36,⟨none,.st 1 (.t 37) (.t 34),none,[37,34]⟩])
 (.ag [aa 38 9,⟨some 39,.call 59 [(.t 38)],none,[38]⟩])))
def LH:bK:=
 .seq (.ag [eo 4 0,tO 8])
 (.seq (.ag [aa 10 2,aa 11 1,⟨some 12,.call 58 [],none,[]⟩,⟨some 13,.build [.aw,(.int .i64 0),(.int .i64 0),(.int .i64 0),(.int .i64 0),.aw,(.bool false),.cc,.cc,.aw,.aw,.lN] [(0,1,(.t 10)),(7,1,(.t 4)),(10,1,(.t 11)),(11,1,(.t 12))],none,[10,4,11,12]⟩,eo 14 13,aa 9 14])
 (.seq (.block 0 (.loop LI))
 (.seq (.seq (.ag [aa 40 9,bC 41 40,eQ 42 41,aG 43 42,gD 44 43])
 (.cond (.t 44)
 (.ag [aa 45 9,bC 46 45,cO 47 46,eP 48 47,⟨none,.st 1 (.t 48) (.c (.int .i64 4)),none,[48]⟩])
 (.skip)))
 (.seq (.ag [aa 49 9,bC 50 49,cO 51 50,xo 52 51,⟨none,.st 5 (.t 8) (.t 52),none,[8,52]⟩])
 (.ret)))))
theorem Ui:cz 40 53 [.k1 8 5] LH:=cA Tryz.func40 (by kernel_rfl) (by kernel_rfl) rfl (by kernel_rfl) (by kernel_rfl)
def K6:bK:=
 .seq (.ag [eo 3 0,tO 6])
 (.seq (.seq (.ag [dc 7 3,⟨some 8,.call 20 [(.t 7)],none,[7]⟩,BG 9 8,aa 10 9,hj 11 2 10,E9 12 11 10,g6 13 10 12])
 (.cond (.t 13)
 (.seq (.ag [JQ 14,⟨none,.st 5 (.t 6) (.t 14),none,[6,14]⟩])
 (.ret))
 (.skip)))
 (.seq (.ag [dc 15 3,aa 16 1,aa 17 2,⟨some 18,.call 40 [(.t 15),(.c .aw),(.t 16),(.t 17)],none,[15,16,17]⟩,⟨none,.st 5 (.t 6) (.t 18),none,[6,18]⟩])
 (.ret)))
theorem TU:cz 13 19 [.k1 6 5] K6:=cA Tryz.func13 (by kernel_rfl) (by kernel_rfl) rfl (by kernel_rfl) (by kernel_rfl)
def mH (Y:mF) (aj h:ai) (K:fl) (aq:List aV) (w:List jZ) (b4:V):Prop:=
 ∃us:List (List V),cn aj.next h Y.nA b4 w.length us.flatten∧(∀b,b4.bb b→K b=.jU)∧us.length=w.length∧
  ∀(i:Nat) (a:jZ) (u:List V),w.reverse[i]? =some a→us[i]? =some u→u.length=Y.nA∧gv u=true∧∃p,Y.xu aj a p u∧ev h K aq p a.e
def qh (aj h:ai) (K:fl) (out:List UInt8) (bj:V):Prop:=cn aj.next h 1 bj out.length (dt out)∧∀b,bj.bb b→K b=.out
section
variable {Y:mF} {aj h J:ai} {K aK:fl} {aq aJ:List aV} {d_:oB→Prop}
theorem mH.cu {w:List jZ} {b4:V} (H:mH Y aj h K aq w b4) (t:c8 aj K h aq aK J aJ d_) (ad:¬d_ .jU) (ak:¬d_ .env):mH Y aj J aK aJ w b4:=by
 obtain ⟨us,aP,aA,a2,b'⟩:=H
 refine ⟨us,cn.cu aP t aA (by simp) ad,fun b af=>by rw [t.role b (by rw [aA b af];simp),aA b af],a2,fun i a u aI bo=>?_⟩
 obtain ⟨bt,b1,p,a3,a4⟩:=b' i a u aI bo
 exact ⟨bt,b1,p,a3,a4.cu t ak⟩
theorem qh.cu {out:List UInt8} {bj:V} (H:qh aj h K out bj) (t:c8 aj K h aq aK J aJ d_) (ad:¬d_ .out):qh aj J aK out bj:=
 ⟨cn.cu H.1 t H.2 (by simp) ad,fun b af=>by rw [t.role b (by rw [H.2 b af];simp),H.2 b af]⟩
theorem mH.one {w:List jZ} {b4:V} (H:mH Y aj h K aq w b4):b4.one=true∧b4.cells=[b4]∧b4.e7=true:=by
 obtain ⟨us,aP,_⟩:=H;exact aP.v.one
theorem mH.len {w:List jZ} {b4:V} (H:mH Y aj h K aq w b4):oZ b4=some (.int .i64 w.length):=by
 obtain ⟨us,aP,_⟩:=H;exact aP.v.len
theorem qh.one {out:List UInt8} {bj:V} (H:qh aj h K out bj):bj.one=true∧bj.cells=[bj]∧bj.e7=true:=H.1.v.one
end
def h5 (aj:ai) (v:V) (c:aU):Prop:=∃b off u,v=.ptr b off∧ef aj c u∧∀J,Ext aj J→jl 7 (J.get b) off=some (.agg u)∧∀j,j<7→hU (J.get b) (off+j)=u[j]?
theorem h5.one {aj:ai} {v:V} {c:aU} (H:h5 aj v c):v.one=true∧v.cells=[v]∧v.e7=true:=by
 obtain ⟨b,off,u,rfl,_⟩:=H;exact ⟨rfl,rfl,rfl⟩
theorem h5.eg {aj:ai} {l:List aU} {v:V} (H:i_ aj l v) {k:IntKind} {i:Nat} (aH:i<l.length):∃p,e8 7 v (.int k i)=some p∧h5 aj p l[i]:=by
 obtain ⟨b,off,u,aI,bo,cp⟩:=H.m9 (k:=k) aH
 exact ⟨_,aI,b,_,u,rfl,bo,cp⟩
theorem h5.open {aj:ai} {v:V} {c:aU} (H:h5 aj v c):∃b off aX a6 az,v=.ptr b off∧cj aj 3 aX c.a.length (j9 c.a)∧cj aj 1 a6 c.t.length (cd c.t)∧i_ aj c.l az∧
 ∀J,Ext aj J→hU (J.get b) off=some (.int .i64 c.k)∧hU (J.get b) (off+1)=some (.int .i64 c.x)∧hU (J.get b) (off+2)=some (.int .i64 c.n)∧hU (J.get b) (off+3)=some (.str c.s)∧hU (J.get b) (off+4)=some aX∧hU (J.get b) (off+5)=some a6∧hU (J.get b) (off+6)=some az:=by
 obtain ⟨b,off,u,rfl,H,L⟩:=H
 obtain ⟨aX,a6,az,rfl,dv,eL,cJ⟩:=H.open
 refine ⟨b,off,aX,a6,az,rfl,dv,eL,cJ,fun J e=>?_⟩
 have q:=(L J e).2
 exact ⟨q 0 (by omega),q 1 (by omega),q 2 (by omega),q 3 (by omega),q 4 (by omega),q 5 (by omega),q 6 (by omega)⟩
def i64 (n:Int):V:=.int .i64 n
def sz:mF where
 Fk aj v cw bZ cs:=match v with
  | .int n=>cs=[.int .i64 1,.int .i64 n,.str [],.aw,.cc,.cc,.bool false]
  | .text s=>cs=[.int .i64 2,.int .i64 0,.str s,.aw,.cc,.cc,.bool false]
  | .fn x c _=>∃dS,h5 aj dS c∧cs=[.int .i64 3,.int .i64 x,.str [],.aw,dS,bZ,.bool false]
  | .df t _=>cs=[.int .i64 4,.int .i64 t,.str [],cw,.cc,.cc,.bool false]
 xu aj a p u:=∃dS,h5 aj dS a.c∧u=[.bool a.jT,.int .i64 a.x,dS,p]
 nA:=4
 i' _ _ _:=True
 lay _ _ _ _ _ _ _ _ _ _ _:=[]
structure ed (aj h:ai) (an:aV) (K:fl) (aq:List aV) (aO pm:V) (S:av) (steps:Int) (dS bZ b4 bj:V):Prop where
 rep:hR sz aj h K aq S.st
 dp:K an=.n2
 get:h.get an=.au [aO,.int .i64 S.e6,.int .i64 S.fp,.int .i64 S.read,.int .i64 steps,bj,.bool S.fJ,dS,bZ,b4,.aw,pm] 0 false
 co:h5 aj dS S.c
 dy:ev h K aq bZ S.e
 wr:mH sz aj h K aq S.w b4
 de:qh aj h K S.out bj
def dr (aj h:ai) (an:aV) (K:fl) (aq:List aV) (aO pm:V) (S:av) (steps:Int):Prop:=∃dS bZ b4 bj,ed aj h an K aq aO pm S steps dS bZ b4 bj
section
variable {aj h J:ai} {an:aV} {K aK:fl} {d_:oB→Prop} {aq aJ:List aV} {aO pm:V} {S cR:av} {steps mq:Int} {dS bZ b4 bj qs fS ft jA:V}
theorem ed.next (M:ed aj h an K aq aO pm S steps dS bZ b4 bj) (cR:av) (mq:Int) (qs fS ft jA:V) (di:cR.st=S.st) (vM:h5 aj qs cR.c) (vO:ev h K aq fS cR.e) (wb:mH sz aj h K aq cR.w ft) (km:qh aj h K cR.out jA):
 ed aj (h.set an (.au [aO,.int .i64 cR.e6,.int .i64 cR.fp,.int .i64 cR.read,.int .i64 mq,jA,.bool cR.fJ,qs,fS,ft,.aw,pm] 0 false)) an K aq aO pm cR mq qs fS ft jA:=by
 have a1:=M.rep.new an (by rw [M.dp];simp)
 have t:c8 aj K h aq K (h.set an (.au [aO,.int .i64 cR.e6,.int .i64 cR.fp,.int .i64 cR.read,.int .i64 mq,jA,.bool cR.fJ,qs,fS,ft,.aw,pm] 0 false)) aq (·=.n2):=c8.td M.dp a1.1
 refine ⟨?_,M.dp,by rw [dB,if_pos rfl],vM,vO.cu t (by simp),wb.cu t (by simp) (by simp),km.cu t (by simp)⟩
 rw [di]
 exact M.rep.cu t (by simp) (by simp) (by simp)
theorem ed.cu (M:ed aj h an K aq aO pm S steps dS bZ b4 bj) (t:c8 aj K h aq aK J aq d_) (ad:∀i,¬d_ (.val i)) (ak:∀i,¬d_ (.lE i)) (aB:¬d_ .env) (bw:¬d_ .n2) (ej:¬d_ .jU) (gA:¬d_ .out):ed aj J an aK aq aO pm S steps dS bZ b4 bj:=by
 have hm:K an≠.no:=by rw [M.dp];simp
 exact ⟨M.rep.cu t ad ak aB,by rw [t.role an hm,M.dp],by rw [t.get an hm (by rw [M.dp];exact bw),M.get],M.co,M.dy.cu t aB,M.wr.cu t ej aB,M.de.cu t gA⟩
theorem ed.b5 (M:ed aj h an K aq aO pm S steps dS bZ b4 bj):aj.next≤cx an∧cx an<h.next:=M.rep.new an (by rw [M.dp];simp)
theorem ed.ext (M:ed aj h an K aq aO pm S steps dS bZ b4 bj) (e:Ext h J):ed aj J an K aq aO pm S steps dS bZ b4 bj:=by
 refine M.cu (d_:=fun _=>False) (c8.Ia e (fun b af=>(M.rep.new b af).2) M.rep.ext.next) ?_ ?_ ?_ ?_ ?_ ?_<;>simp
theorem hR.ex {st:List eF} {Y:mF} (M:hR Y aj h K aq st) (e:Ext h J):c8 aj K h aq K J aq (fun _=>False):=c8.Ia e (fun b af=>(M.new b af).2) M.ext.next
end
theorem Wl (h:ai) (K:fl) (aq:List aV) (n:Int) (p:V) (L:ig) (H:ev h K aq p L) (a1:n ∈ L.map Prod.fst):bB Tryz.prog 149 [p,.int .i64 n] h fun x J=>x=cV aq (mn L n)∧J=h∧mn L n<aq.length:=by
 refine TZ rfl (bO ?_)
 unfold Lh
 simp +contextual only [↓ab,ae,simprocAttr]
 refine fV (fun r J=>J=h∧r 1=.int .i64 n∧∃M,ev h K aq (r 0) M∧n ∈ M.map Prod.fst∧mn M n=mn L n) (fun r J=>sN h K aq (r 0)) ?_ ?_
 · exact ⟨rfl,by simp only [↓ab,bf,simprocAttr],L,by simpa only [↓ab,bf,simprocAttr] using H,a1,rfl⟩
 · rintro r J ⟨rfl,aY,M,yY,eS,aM⟩
   unfold Li
   generalize aZ:r 0=q at *
   have aL:=yY.sN
   cases yY with
   | nil=>simp at eS
   | @cons b m j nt tP dd bl bQ ba=>
     have nW:=ba.sN
     by_cases e:m=n
     · subst e
       simp +contextual only [aY,aZ,bl,↓ab,ae,simprocAttr]
       simp only [mn,if_true] at aM
       rw [←aM]
       exact ⟨rfl,bQ⟩
     · have fM:=eq_false e
       simp +contextual only [aY,aZ,bl,fM,↓ab,ae,simprocAttr]
       simp only [mn,if_neg e] at aM
       simp only [List.map_cons,List.mem_cons] at eS
       refine ⟨⟨tP,ba,?_,aM⟩,?_⟩
       · rcases eS with eS | eS
         · exact absurd eS.symm e
         · exact eS
       · rw [aL,nW,List.length_cons];omega
def gX (h J:ai) (x:V) (cs:List V):Prop:=∃b,x=.ptr b 0∧Ext h J∧h.next≤cx b∧Old J b∧J.get b=.au cs 0 false
theorem pI (h:ai) (cs:List V):gX h (h.new (.au cs 0 false)) (.ptr (ao h.next) 0) cs:=
 ⟨_,rfl,(Ext.refl h).new _,by rw [c'];exact Nat.le_refl _,uQ,gz _⟩
theorem Jf (h:ai) (p v:V) (n:Int) (aQ:p.one=true∧p.cells=[p]∧p.e7=true) (bh:v.one=true∧v.cells=[v]∧v.e7=true):bB Tryz.prog 152 [p,.int .i64 n,v] h fun x J=>gX h J x [.int .i64 n,v,p]:=by
 refine T2 rfl (bO ?_)
 unfold Lm
 simp +contextual only [aQ.1,aQ.2.1,aQ.2.2,bh.1,bh.2.1,bh.2.2,↓ab,ae,simprocAttr]
 exact pI _ _
theorem r6 (h:ai) (n:Int):bB Tryz.prog 79 [.int .i64 n] h fun x J=>gX h J x [.int .i64 1,.int .i64 n,.str [],.aw,.cc,.cc,.bool false]:=by
 refine UL rfl (bO ?_)
 unfold Mq
 simp +contextual only [↓ab,ae,simprocAttr]
 exact pI _ _
theorem oh (h:ai) (n:Int) (v:V) (bh:v.one=true∧v.cells=[v]∧v.e7=true):bB Tryz.prog 102 [.int .i64 n,v] h fun x J=>gX h J x [.int .i64 4,.int .i64 n,.str [],v,.cc,.cc,.bool false]:=by
 refine Ts rfl (bO ?_)
 unfold Kz
 simp +contextual only [bh.1,bh.2.1,bh.2.2,↓ab,ae,simprocAttr]
 exact pI _ _
theorem Eh (h:ai) (s:List UInt8):bB Tryz.prog 148 [.str s] h fun x J=>gX h J x [.int .i64 2,.int .i64 0,.str s,.aw,.cc,.cc,.bool false]:=by
 refine TY rfl (bO ?_)
 unfold Lg
 simp +contextual only [↓ab,ae,simprocAttr]
 exact pI _ _
theorem I3 (h:ai) (b:Bool):bB Tryz.prog 84 [.bool b] h fun x J=>gX h J x [.int .i64 4,.int .i64 (if b=true then 1 else 0),.str [],.aw,.cc,.cc,.bool false]:=by
 refine UQ rfl (bO ?_)
 unfold Mv
 cases b with
 | true=>
   simp +contextual only [↓ab,ae,simprocAttr]
   refine aS (oh h 1 .aw ⟨rfl,rfl,rfl⟩) ?_
   rintro x ad H
   simp +contextual only [↓ab,ae,simprocAttr]
   exact H
 | false=>
   simp +contextual only [↓ab,ae,simprocAttr]
   refine aS (oh h 0 .aw ⟨rfl,rfl,rfl⟩) ?_
   rintro x ad H
   simp +contextual only [↓ab,ae,simprocAttr]
   exact H
theorem afv {P:Program} (n:Int):e4.shl.run P (.int .i64 n) (.int .u64 1)=some (.int .i64 (IntKind.i64.wrap (n * 2))):=by rfl
theorem afz {P:Program} (n:Int):e4.shr.run P (.int .i64 n) (.int .u64 1)=some (.int .i64 (n.fdiv 2)):=by rfl
theorem agR (n:Int):(IntKind.i32.wrap (n * 2)).fdiv 2=wr n:=by
 rw [Int.fdiv_eq_ediv_of_nonneg _ (by decide)]
 unfold wr
 have:IntKind.i32.wrap (n * 2)=if n * 2 % 4294967296≥2147483648 then n * 2 % 4294967296-4294967296 else n * 2 % 4294967296:=by simp [IntKind.wrap,IntKind.bits,IntKind.signed]
 rw [this]
 split<;>omega
theorem i32_in (n:Int):-9223372036854775808≤IntKind.i32.wrap n∧IntKind.i32.wrap n≤9223372036854775807:=by
 have:IntKind.i32.wrap n=if n % 4294967296≥2147483648 then n % 4294967296-4294967296 else n % 4294967296:=by simp [IntKind.wrap,IntKind.bits,IntKind.signed]
 rw [this]
 split<;>omega
theorem Br (n:Int) (h:ai) (a1:-2305843009213693952≤n∧n≤2305843009213693952):lr Tryz.prog 80 [.int .i64 n] h (.int .i64 (wr n)) h:=by
 refine tk (UM rfl (bO ?_))
 unfold Mr
 have dH:IntKind.i64.wrap (n * 2)=n * 2:=wrap_i64 (by omega) (by omega)
 have dq:IntKind.i64.wrap (IntKind.i32.wrap (n * 2))=IntKind.i32.wrap (n * 2):=wrap_i64 (i32_in _).1 (i32_in _).2
 simp +contextual only [afv,afz,dH,dq,agR,↓ab,ae,simprocAttr]
section
variable {aj h:ai} {an:aV} {K:fl} {aq:List aV} {aO pm:V} {S:av} {steps:Int}
theorem pD (M:dr aj h an K aq aO pm S steps) (qK:Int):bB Tryz.prog 103 [.ptr an 0,.int .i64 qK] h fun x J=>dr aj J an K aq aO pm (S.ends qK) steps:=by
 obtain ⟨dS,bZ,b4,bj,M⟩:=M
 have aD:=M.next {S with fJ:=true} steps dS bZ b4 bj rfl M.co M.dy M.wr M.de
 have M2:=aD.next (S.ends qK) steps dS bZ b4 bj rfl aD.co aD.dy aD.wr aD.de
 have g:=M.get
 have bH:=aD.get
 refine Tt rfl (bO ?_)
 unfold KA
 have aio:=M.co.one
 simp +contextual only [g,bH,↓ab,ae,simprocAttr]
 exact ⟨_,_,_,_,M2⟩
end
end Go.Proofs.YtjbiefneffiogaaGreat
namespace Go.Proofs.YtjbiefneffiogaaGreat
open Go bs
section
variable {Y:mF} {aj h J:ai} {K aK:fl} {aq aJ:List aV} {d_:oB→Prop}
theorem c8.uP {b:aV} {k:cL} (af:K b=.no) (fj:aj.next≤cx b):c8 aj K h aq K (h.set b k) aq (fun _=>False):=by
 refine ⟨Nat.le_refl _,fun _ _=>rfl,fun _ h J=>absurd h J,fun c aC _=>?_,fun c aC=>?_,[],by simp⟩
 · rw [dB,if_neg]
   rintro rfl
   exact aC af
 · rw [dB,if_neg]
   rintro rfl
   omega
theorem hR.tmp {st:List eF} (M:hR Y aj h K aq st) {b:aV} (af:h.next≤cx b):K b=.no:=by
 by_cases q:K b=.no
 · exact q
 · have:=M.new b q;omega
theorem mH.pop {a:jZ} {w:List jZ} {b4:V} (aM:1≤Y.nA) (H:mH Y aj h K aq (a::w) b4):∃u p b off ft,u.length=Y.nA∧gv u=true∧Y.xu aj a p u∧ev h K aq p a.e∧K b=.jU∧Old h b∧
 e8 Y.nA b4 (.int .i64 w.length)=some (.ptr b off)∧(∀J:ai,J.get b=h.get b→jl Y.nA (J.get b) off=some (.agg u))∧
 gI Y.nA b4 none (some (.int .i64 w.length)) none=some ft∧mH Y aj h K aq w ft:=by
 obtain ⟨us,aP,aA,a2,b'⟩:=H
 rw [List.length_cons] at aP a2
 have a7:w.length<us.length:=by omega
 have hu:=List.getElem?_eq_getElem a7
 have ba:(a::w).reverse[w.length]? =some a:=by rw [List.reverse_cons,List.getElem?_append_right (by simp)];simp
 obtain ⟨bt,b1,p,a3,a4⟩:=b' _ _ _ ba hu
 have jh:∀u ∈ us,u.length=Y.nA:=by
  intro u hu
  obtain ⟨i,aH⟩:=List.getElem?_of_mem hu
  have nV:i<us.length:=(List.getElem?_eq_some_iff.1 aH).1
  have XR:i < (a::w).reverse.length:=by rw [List.length_reverse,List.length_cons];omega
  exact (b' i _ u (List.getElem?_eq_getElem XR) aH).1
 have YL:us=us.take w.length++[us[w.length]]:=by
  conv=>lhs;rw [←List.take_append_drop w.length us]
  rw [List.drop_eq_getElem_cons a7,List.drop_eq_nil_of_le (by omega)]
 have hJ:us.flatten=(us.take w.length).flatten++us[w.length]:=by
  conv=>lhs;rw [YL]
  rw [List.flatten_append,List.flatten_singleton]
 have qO:(us.take w.length).flatten.length=w.length * Y.nA:=by
  have Xj:∀u ∈ us.take w.length,u.length=Y.nA:=fun u hu=>jh u (List.mem_of_mem_take hu)
  have:=F5 Y.nA (us.take w.length) Xj
  rw [this,List.length_take,Nat.min_eq_left (by omega)]
 obtain ⟨b,off,aI,bo,cp⟩:=aP.v.k' (k:=.i64) (i:=w.length) (by omega)
 obtain ⟨ft,cg,dk,jc⟩:=aP.cut (k:=.i64) (m:=w.length) (by omega) (by omega)
 refine ⟨us[w.length],p,b,_,ft,bt,b1,a3,a4,aA b cp,bo.1,aI,fun J e=>?_,cg,us.take w.length,?_,fun b af=>aA b (jc b af),?_,?_⟩
 · have X2:=bo.gT (i:=w.length * Y.nA) (n:=Y.nA) (by rw [hJ,List.length_append,qO,bt];exact Nat.le_refl _)
   rw [e,X2,hJ,List.drop_left' qO,List.take_of_length_le (by omega)]
 · rw [hJ,List.take_left' qO] at dk
   exact dk
 · rw [List.length_take];omega
 · intro i c u aY bn
   rw [List.getElem?_take] at bn
   split at bn
   · rename_i aH
     refine b' i c u ?_ bn
     rw [List.reverse_cons,List.getElem?_append_left (by rw [List.length_reverse];omega)]
     exact aY
   · cases bn
end
section
variable {aj h J:ai} {an:aV} {K:fl} {aq:List aV} {aO pm:V} {S:av} {steps:Int} {dS bZ b4 bj:V}
theorem ed.tmp (M:ed aj h an K aq aO pm S steps dS bZ b4 bj) {b:aV} {k:cL} (af:K b=.no) (fj:aj.next≤cx b):ed aj (h.set b k) an K aq aO pm S steps dS bZ b4 bj:=by
 refine M.cu (c8.uP af fj) ?_ ?_ ?_ ?_ ?_ ?_<;>simp
theorem ev.tmp {p:V} {L:ig} (H:ev h K aq p L) {b:aV} {k:cL} (af:K b=.no):ev (h.set b k) K aq p L:=
 H.cu (c8.uP (aj:=ai.empty) af (Nat.zero_le _)) (by simp)
theorem ev.set {p:V} {L:ig} (H:ev h K aq p L) {b:aV} {k:cL} {r:oB} (af:K b=r) (ba:r≠.env):ev (h.set b k) K aq p L:=
 H.cu (c8.td (aj:=ai.empty) (d_:=fun q=>q=r) af (Nat.zero_le _)) (fun q=>ba q.symm)
theorem ev.ext {p:V} {L:ig} {st:List eF} {Y:mF} (H:ev h K aq p L) (M:hR Y aj h K aq st) (e:Ext h J):ev J K aq p L:=H.cu (M.ex e) (by simp)
theorem P6 (M:dr aj h an K aq aO pm S steps) (hw:S.w=[]):bB Tryz.prog 150 [.ptr an 0] h fun x J=>x=.tuple [.agg [.bool false,.int .i64 0,.cc,.cc],.bool false]∧dr aj J an K aq aO pm S steps:=by
 obtain ⟨dS,bZ,b4,bj,M⟩:=M
 have g:=M.get
 have aL:=M.wr.len
 rw [hw,List.length_nil] at aL
 have z0:(((0:Nat):Int)=0)=True:=eq_true rfl
 have hold:Old h an:=M.b5.2
 have eB:(ao h.next=an)=False:=gi hold (Nat.le_refl _)
 refine Lk rfl (bO ?_)
 unfold FG
 simp +contextual only [g,aL,eB,z0,↓ab,ae,simprocAttr]
 refine ⟨_,_,_,_,(M.ext ((Ext.refl h).new _)).cu (c8.uP (M.rep.tmp ?_) ?_) ?_ ?_ ?_ ?_ ?_ ?_⟩<;>simp [c']
 exact M.rep.ext.next
theorem P5 (M:dr aj h an K aq aO pm S steps) (dF:S.w.length≤4294967296) {a:jZ} {w:List jZ} (hw:S.w=a::w):bB Tryz.prog 150 [.ptr an 0] h fun x J=>∃q p,x=.tuple [.agg [.bool a.jT,.int .i64 a.x,q,p],.bool true]∧dr aj J an K aq aO pm {S with w:=w} steps∧h5 aj q a.c∧ev J K aq p a.e:=by
 obtain ⟨dS,bZ,b4,bj,M⟩:=M
 have g:=M.get
 have aL:=M.wr.len
 have W:=M.wr
 rw [hw] at aL W
 have hold:Old h an:=M.b5.2
 have eB:(ao h.next=an)=False:=gi hold (Nat.le_refl _)
 have gr:(an=ao h.next)=False:=lM hold (Nat.le_refl _)
 have acy:(ao (h.next+1)=an)=False:=gi hold (by omega)
 have acg:(an=ao (h.next+1))=False:=lM hold (by omega)
 obtain ⟨u,p,b,off,ft,bt,b1,⟨q,a3,rfl⟩,a4,a5,jH,vo,tS,a9,ru⟩:=W.pop (by decide)
 have lL:(ao h.next=b)=False:=gi jH (Nat.le_refl _)
 have c5:=a3.one
 have op:=a4.one
 have dx:=ru.one
 have a8:(((w.length+1:Nat):Int)=0)=False:=eq_false (by omega)
 rw [List.length_cons] at aL
 rw [hw,List.length_cons] at dF
 have dH:IntKind.i64.wrap (((w.length+1:Nat):Int)-1)=(w.length:Int):=by rw [wrap_i64 (by omega) (by omega)];omega
 refine Lk rfl (bO ?_)
 unfold FG
 have vp:e8 4 b4 (.int .i64 w.length)=some (.ptr b off):=vo
 have vq:gI 4 b4 none (some (.int .i64 w.length)) none=some ft:=a9
 have cG:jl 4 (h.get b) off=some (.agg [.bool a.jT,.int .i64 a.x,q,p]):=tS h rfl
 simp +contextual only [g,aL,eB,gr,acy,acg,a8,dH,vp,vq,lL,cG,c5.1,c5.2.1,op.1,op.2.1,dx.1,dx.2.1,↓ab,ae,simprocAttr]
 have aI:Ext h (((h.new (cL.au [V.bool false,V.int IntKind.i64 0,V.cc,V.cc] 0 false)).new (cL.au [V.bool false,V.int IntKind.i64 0,V.cc,V.cc] 0 false)).set (ao (h.next+1)) (cL.au [V.bool a.jT,V.int IntKind.i64 a.x,q,p] 0 false)):=(((Ext.refl h).new _).new _).set (by omega) _
 have bI:=M.ext aI
 have bz:=bI.next {S with w:=w} steps dS bZ ft bj rfl bI.co bI.dy (ru.cu (M.rep.ex aI) (by simp) (by simp)) bI.de
 have hn:K (ao h.next)=.no:=M.rep.tmp (by rw [c'];exact Nat.le_refl _)
 exact ⟨q,p,rfl,⟨_,_,_,_,bz.tmp hn (by rw [c'];exact M.rep.ext.next)⟩,a3,((a4.ext M.rep aI).set M.dp (by simp)).tmp hn⟩
theorem hR.role {Y:mF} {st:List eF} (M:hR Y aj h K aq st) (e:Ext h J) (p:aV→Prop) (r:oB) (t:List aV) (aQ:∀b,p b→h.next≤cx b∧Old J b):c8 aj K h aq (jF K p r) J (aq++t) (fun _=>False):=by
 refine ⟨e.next,fun b af=>?_,fun b af ew=>?_,fun b af _=>e.get b (M.new b af).2,fun b af=>e.get b (Nat.lt_of_lt_of_le af M.ext.next),t,rfl⟩
 · refine mC fun q=>af (M.tmp (aQ b q).1)
 · by_cases q:p b
   · exact aQ b q
   · rw [mC q] at ew;exact absurd af ew
theorem ed.env (M:ed aj h an K aq aO pm S steps dS bZ b4 bj) (e:Ext h J) {b:aV} (af:h.next≤cx b) (bA:Old J b) {x:Int} {j:Nat} {p:V} {L:ig} (bl:J.get b=.au [.int .i64 x,cV aq j,p] 0 false) (aQ:ev h K aq p L) (bQ:j<aq.length):
 ∃aK,ed aj J an aK aq aO pm S steps dS bZ b4 bj∧ev J aK aq (.ptr b 0) ((x,j)::L)∧c8 aj K h aq aK J aq (fun _=>False):=by
 have t:=M.rep.role e (fun q=>q=b) .env [] (fun q aZ=>by subst aZ;exact ⟨af,bA⟩)
 rw [List.append_nil] at t
 refine ⟨jF K (fun q=>q=b) .env,?_,.cons (mD rfl) bl bQ (aQ.cu t id),t⟩
 refine M.cu t ?_ ?_ ?_ ?_ ?_ ?_<;>simp
theorem NJ (M:dr aj h an K aq aO pm S steps) {a:jZ} {q p:V} {j:Nat} (aZ:h5 aj q a.c) (aQ:ev h K aq p a.e) (bQ:j<aq.length):bB Tryz.prog 151 [.ptr an 0,.agg [.bool a.jT,.int .i64 a.x,q,p],cV aq j] h fun x J=>∃aK,dr aj J an aK aq aO pm {S with c:=a.c,e:=(a.x,j)::a.e} steps:=by
 obtain ⟨dS,bZ,b4,bj,M⟩:=M
 have g:=M.get
 have hold:Old h an:=M.b5.2
 have eB:(ao h.next=an)=False:=gi hold (Nat.le_refl _)
 have gr:(an=ao h.next)=False:=lM hold (Nat.le_refl _)
 have c5:=aZ.one
 have op:=aQ.one
 have ck:Ext h (h.new (.au [.bool a.jT,.int .i64 a.x,q,p] 0 false)):=(Ext.refl h).new _
 have ik:(h.new (.au [.bool a.jT,.int .i64 a.x,q,p] 0 false)).get (ao h.next)=.au [.bool a.jT,.int .i64 a.x,q,p] 0 false:=gz _
 refine T1 rfl (bO ?_)
 unfold Ll
 simp +contextual only [g,eB,gr,c5.1,c5.2.1,op.1,op.2.1,↓ab,ae,simprocAttr]
 refine aS (Jf _ p (cV aq j) a.x op ⟨rfl,rfl,rfl⟩) ?_
 rintro x ad ⟨b,rfl,aI,bX,cD,e5⟩
 have WC:ad.get (ao h.next)=.au [.bool a.jT,.int .i64 a.x,q,p] 0 false:=by rw [aI.get _ uQ];exact ik
 have bH:ad.get an=_:=(aI.get _ (ck.b5 hold)).trans ((ck.get _ hold).trans g)
 simp +contextual only [g,bH,ik,WC,eB,gr,c5.1,c5.2.1,op.1,op.2.1,↓ab,ae,simprocAttr]
 have bo:Ext h ad:=ck.trans aI
 obtain ⟨aK,aD,h6,t⟩:=M.env bo (b:=b) (by have:=ck.next;omega) cD e5 aQ bQ
 have M2:=aD.next {S with c:=a.c} steps q bZ b4 bj rfl aZ aD.dy aD.wr aD.de
 have bI:=M2.next {S with c:=a.c,e:=(a.x,j)::a.e} steps q (.ptr b 0) b4 bj rfl aZ (h6.set aD.dp (by simp)) M2.wr M2.de
 exact ⟨aK,_,_,_,_,bI⟩
noncomputable def oj (h:ai) (an:aV):Nat:=match hU (h.get an) 9 with
 | some v=>match oZ v with
   | some (.int _ n)=>n.toNat
   | _=>0
 | none=>0
theorem ed.oj (M:ed aj h an K aq aO pm S steps dS bZ b4 bj):oj h an=S.w.length:=by
 unfold Go.Proofs.YtjbiefneffiogaaGreat.oj
 rw [M.get,qU]
 simp only [List.getElem?_cons_succ,List.getElem?_cons_zero,M.wr.len,Int.toNat_natCast]
set_option maxHeartbeats 1000000 in
theorem mr (M:dr aj h an K aq aO pm S steps) (dF:S.w.length≤4294967296) {j:Nat} (bQ:j<aq.length):bB Tryz.prog 101 [.ptr an 0,cV aq j] h fun x J=>∃aK,dr aj J an aK aq aO pm (S.m1 j) steps:=by
 refine Tr rfl (bO ?_)
 unfold Kx
 simp +contextual only [↓ab,ae,simprocAttr]
 refine fV (fun r J=>r 0=.ptr an 0∧r 1=cV aq j∧∃w,dr aj J an K aq aO pm {S with w:=w} steps∧w.length≤4294967296∧S.si j w=S.m1 j) (fun r J=>Go.Proofs.YtjbiefneffiogaaGreat.oj J an) ?_ ?_
 · exact ⟨by simp only [↓ab,bf,simprocAttr],by simp only [↓ab,bf,simprocAttr],S.w,M,dF,rfl⟩
 · rintro r J ⟨bm,aY,w,M,dF,aM⟩
   unfold Ky
   obtain ⟨_,_,_,_,gf⟩:=M
   have oX:=gf.oj
   cases w with
   | nil=>
     simp +contextual only [bm,aY,↓ab,ae,simprocAttr]
     refine aS (P6 ⟨_,_,_,_,gf⟩ rfl) ?_
     rintro x ad ⟨rfl,aD⟩
     obtain ⟨_,_,_,_,aD⟩:=aD
     have bH:=aD.get
     have hold:Old ad an:=aD.b5.2
     have eB:(ao ad.next=an)=False:=gi hold (Nat.le_refl _)
     have gr:(an=ao ad.next)=False:=lM hold (Nat.le_refl _)
     have M2:=(aD.ext ((Ext.refl ad).new (.au [.bool false,.int .i64 0,.cc,.cc] 0 false))).tmp (b:=ao ad.next) (k:=.au [.bool false,.int .i64 0,.cc,.cc] 0 false) (aD.rep.tmp (by rw [c'];exact Nat.le_refl _)) (by rw [c'];exact aD.rep.ext.next)
     simp +contextual only [bm,aY,eB,gr,↓ab,ae,simprocAttr]
     refine aS (pD ⟨_,_,_,_,M2⟩ 0) ?_
     rintro x ak bI
     simp +contextual only [bm,aY,↓ab,ae,simprocAttr]
     rw [←aM]
     exact ⟨K,bI⟩
   | cons a w=>
     simp +contextual only [bm,aY,↓ab,ae,simprocAttr]
     refine aS (P5 ⟨_,_,_,_,gf⟩ dF rfl) ?_
     rintro x ad ⟨q,p,rfl,aD,aZ,aQ⟩
     obtain ⟨_,_,_,_,aD⟩:=aD
     have bH:=aD.get
     have hold:Old ad an:=aD.b5.2
     have eB:(ao ad.next=an)=False:=gi hold (Nat.le_refl _)
     have gr:(an=ao ad.next)=False:=lM hold (Nat.le_refl _)
     have c5:=aZ.one
     have op:=aQ.one
     have hn:K (ao ad.next)=.no:=aD.rep.tmp (by rw [c'];exact Nat.le_refl _)
     have aI:Ext ad (ad.new (.au [.bool false,.int .i64 0,.cc,.cc] 0 false)):=(Ext.refl ad).new _
     have M2:=(aD.ext aI).tmp (b:=ao ad.next) (k:=.au [.bool a.jT,.int .i64 a.x,q,p] 0 false) hn (by rw [c'];exact aD.rep.ext.next)
     have kn:ev ((ad.new (.au [.bool false,.int .i64 0,.cc,.cc] 0 false)).set (ao ad.next) (.au [.bool a.jT,.int .i64 a.x,q,p] 0 false)) K aq p a.e:=(aQ.ext aD.rep aI).tmp hn
     cases bT:a.jT with
     | false=>
       rw [bT] at M2 kn
       simp +contextual only [bm,aY,eB,gr,bT,c5.1,c5.2.1,op.1,op.2.1,↓ab,ae,simprocAttr]
       have G:=NJ ⟨_,_,_,_,M2⟩ aZ kn bQ
       rw [bT] at G
       refine aS G ?_
       rintro x ak ⟨aK,bI⟩
       simp +contextual only [bm,aY,↓ab,ae,simprocAttr]
       rw [←aM]
       simp only [av.si,bT]
       exact ⟨aK,bI⟩
     | true=>
       rw [bT] at M2 kn
       simp +contextual only [bm,aY,eB,gr,bT,c5.1,c5.2.1,op.1,op.2.1,↓ab,ae,simprocAttr]
       simp only [List.length_cons] at dF oX
       refine ⟨⟨w,⟨_,_,_,_,M2⟩,by omega,?_⟩,?_⟩
       · rw [←aM];simp only [av.si,bT,if_true]
       · rw [oX,M2.oj];simp only;omega
end
end Go.Proofs.YtjbiefneffiogaaGreat
namespace Go.Proofs.YtjbiefneffiogaaGreat
open Go bs
def cP:eF→Int
 | .int _=>1
 | .text _=>2
 | .fn _ _ _=>3
 | .df _ _=>4
def dD:eF→Int
 | .int n=>n
 | .text _=>0
 | .fn x _ _=>x
 | .df t _=>t
def e3:eF→List UInt8
 | .text s=>s
 | _=>[]
section
variable {aj h J:ai} {an:aV} {K:fl} {aq:List aV} {aO pm:V} {S:av} {steps:Int} {dS bZ b4 bj:V}
theorem av.Ep {S:av} {j:Nat} (bQ:j<S.st.length):S.st[j]? =some (S.val j):=by
 unfold av.val
 rw [List.getD_eq_getElem?_getD,List.getElem?_eq_getElem bQ];rfl
theorem ed.val (M:ed aj h an K aq aO pm S steps dS bZ b4 bj) {j:Nat} (bQ:j<aq.length):∃cw js hT,h.get (dX aq j)=.au [.int .i64 (cP (S.val j)),.int .i64 (dD (S.val j)),.str (e3 (S.val j)),cw,js,hT,.bool false] 0 false∧K (dX aq j)=.val j∧
 ri aj h K aq j (S.val j) cw∧∀x c e,S.val j=.fn x c e→h5 aj js c∧ev h K aq hT e:=by
 have vS:j<S.st.length:=by rw [←M.rep.len];exact bQ
 obtain ⟨k,cw,bZ,cs,g,v,f,e⟩:=M.rep.val j _ (av.Ep vS)
 generalize bh:S.val j=zj at *
 cases zj with
 | int n=>cases v;exact ⟨_,_,_,g,k,trivial,fun _ _ _ q=>by cases q⟩
 | text s=>cases v;exact ⟨_,_,_,g,k,trivial,fun _ _ _ q=>by cases q⟩
 | fn x c L=>obtain ⟨qs,aP,rfl⟩:=v;exact ⟨_,_,_,g,k,trivial,fun _ _ _ q=>by cases q;exact ⟨aP,e⟩⟩
 | df t bg=>cases v;exact ⟨_,_,_,g,k,f,fun _ _ _ q=>by cases q⟩
theorem ed.oH (M:ed aj h an K aq aO pm S steps dS bZ b4 bj) {j:Nat} (bQ:j<aq.length):Old h (dX aq j)∧dX aq j≠an:=by
 obtain ⟨_,_,_,_,k,_⟩:=M.val bQ
 refine ⟨(M.rep.new _ (by rw [k];simp)).2,fun q=>?_⟩
 have:=M.dp
 rw [←q,k] at this
 cases this
set_option maxHeartbeats 1000000 in
theorem tq (M:dr aj h an K aq aO pm S steps) (dF:S.w.length≤4294967296) {j:Nat} (bQ:j<aq.length):bB Tryz.prog 108 [.ptr an 0,cV aq j] h fun x J=>∃aK,dr aj J an aK aq aO pm (S.p7 j) steps:=by
 refine Ty rfl (bO ?_)
 unfold KH
 simp +contextual only [↓ab,ae,simprocAttr]
 refine fV (fun r J=>r 0=.ptr an 0∧r 1=cV aq j∧∃w,dr aj J an K aq aO pm {S with w:=w} steps∧w.length≤4294967296∧S.ln j w=S.p7 j) (fun r J=>Go.Proofs.YtjbiefneffiogaaGreat.oj J an) ?_ ?_
 · exact ⟨by simp only [↓ab,bf,simprocAttr],by simp only [↓ab,bf,simprocAttr],S.w,M,dF,rfl⟩
 · rintro r J ⟨bm,aY,w,M,dF,aM⟩
   unfold KI
   obtain ⟨_,_,_,_,gf⟩:=M
   have oX:=gf.oj
   cases w with
   | nil=>
     simp +contextual only [bm,aY,↓ab,ae,simprocAttr]
     refine aS (P6 ⟨_,_,_,_,gf⟩ rfl) ?_
     rintro x ad ⟨rfl,aD⟩
     obtain ⟨_,_,_,_,aD⟩:=aD
     have bH:=aD.get
     have hold:Old ad an:=aD.b5.2
     have eB:(ao ad.next=an)=False:=gi hold (Nat.le_refl _)
     have gr:(an=ao ad.next)=False:=lM hold (Nat.le_refl _)
     have M2:=(aD.ext ((Ext.refl ad).new (.au [.bool false,.int .i64 0,.cc,.cc] 0 false))).tmp (b:=ao ad.next) (k:=.au [.bool false,.int .i64 0,.cc,.cc] 0 false) (aD.rep.tmp (by rw [c'];exact Nat.le_refl _)) (by rw [c'];exact aD.rep.ext.next)
     obtain ⟨cw,js,hT,fs,kM,_,_⟩:=aD.val bQ
     have OP:(ao ad.next=dX aq j)=False:=gi (aD.oH bQ).1 (Nat.le_refl _)
     have qP:av.val {S with w:=[]} j=S.val j:=rfl
     rw [qP] at fs
     have aQ:cV aq j=.ptr (dX aq j) 0:=rfl
     rw [aQ] at aY
     by_cases bw:cP (S.val j)=4
     · have l8:=eq_true bw
       simp +contextual only [bm,aY,eB,gr,fs,OP,l8,bw,↓ab,ae,simprocAttr]
       refine aS (pD ⟨_,_,_,_,M2⟩ 1) ?_
       rintro x ak ⟨_,_,_,_,bI⟩
       have cT:=bI.get
       obtain ⟨_,_,_,zU,_⟩:=bI.val bQ
       have Hk:av.val (av.ends {S with w:=[]} 1) j=S.val j:=rfl
       rw [Hk] at zU
       simp +contextual only [bm,aY,cT,zU,↓ab,ae,simprocAttr]
       rw [←aM]
       cases bh:S.val j with
       | df t bg=>
         simp only [av.ln,bh]
         have bz:=bI.next {av.ends {S with w:=[]} 1 with fp:=t} steps _ _ _ _ rfl bI.co bI.dy bI.wr bI.de
         exact ⟨K,_,_,_,_,bz⟩
       | int n=>rw [bh] at bw;cases bw
       | text n=>rw [bh] at bw;cases bw
       | fn _ _ _=>rw [bh] at bw;cases bw
     · have l8:=eq_false bw
       simp +contextual only [bm,aY,eB,gr,fs,OP,l8,↓ab,ae,simprocAttr]
       refine aS (pD ⟨_,_,_,_,M2⟩ 6) ?_
       rintro x ak bI
       simp +contextual only [bm,aY,↓ab,ae,simprocAttr]
       rw [←aM]
       cases bh:S.val j with
       | df t bg=>rw [bh] at bw;exact absurd rfl bw
       | int n=>simp only [av.ln,bh];exact ⟨K,bI⟩
       | text n=>simp only [av.ln,bh];exact ⟨K,bI⟩
       | fn _ _ _=>simp only [av.ln,bh];exact ⟨K,bI⟩
   | cons a w=>
     simp +contextual only [bm,aY,↓ab,ae,simprocAttr]
     refine aS (P5 ⟨_,_,_,_,gf⟩ dF rfl) ?_
     rintro x ad ⟨q,p,rfl,aD,aZ,aQ⟩
     obtain ⟨_,_,_,_,aD⟩:=aD
     have bH:=aD.get
     have hold:Old ad an:=aD.b5.2
     have eB:(ao ad.next=an)=False:=gi hold (Nat.le_refl _)
     have gr:(an=ao ad.next)=False:=lM hold (Nat.le_refl _)
     have c5:=aZ.one
     have op:=aQ.one
     have hn:K (ao ad.next)=.no:=aD.rep.tmp (by rw [c'];exact Nat.le_refl _)
     have aI:Ext ad (ad.new (.au [.bool false,.int .i64 0,.cc,.cc] 0 false)):=(Ext.refl ad).new _
     have M2:=(aD.ext aI).tmp (b:=ao ad.next) (k:=.au [.bool a.jT,.int .i64 a.x,q,p] 0 false) hn (by rw [c'];exact aD.rep.ext.next)
     have kn:ev ((ad.new (.au [.bool false,.int .i64 0,.cc,.cc] 0 false)).set (ao ad.next) (.au [.bool a.jT,.int .i64 a.x,q,p] 0 false)) K aq p a.e:=(aQ.ext aD.rep aI).tmp hn
     cases bT:a.jT with
     | true=>
       rw [bT] at M2 kn
       simp +contextual only [bm,aY,eB,gr,bT,c5.1,c5.2.1,op.1,op.2.1,↓ab,ae,simprocAttr]
       have G:=NJ ⟨_,_,_,_,M2⟩ aZ kn bQ
       rw [bT] at G
       refine aS G ?_
       rintro x ak ⟨aK,bI⟩
       simp +contextual only [bm,aY,↓ab,ae,simprocAttr]
       rw [←aM]
       simp only [av.ln,bT]
       exact ⟨aK,bI⟩
     | false=>
       rw [bT] at M2 kn
       simp +contextual only [bm,aY,eB,gr,bT,c5.1,c5.2.1,op.1,op.2.1,↓ab,ae,simprocAttr]
       simp only [List.length_cons] at dF oX
       refine ⟨⟨w,⟨_,_,_,_,M2⟩,by omega,?_⟩,?_⟩
       · rw [←aM];simp only [av.ln,bT];rfl
       · rw [oX,M2.oj];simp only;omega
end
end Go.Proofs.YtjbiefneffiogaaGreat
namespace Go.Proofs.YtjbiefneffiogaaGreat
open Go bs
def dw (S:av):List Nat→List Int→Bool
 | _,[]=>true
 | [],_::_=>false
 | j::bu,k::aE=>decide (cP (S.val j)=k)&&dw S bu aE
def p4:eF→Option (List V)
 | .int n=>some [.int .i64 1,.int .i64 n,.str [],.aw,.cc,.cc,.bool false]
 | .text s=>some [.int .i64 2,.int .i64 0,.str s,.aw,.cc,.cc,.bool false]
 | .df t []=>some [.int .i64 4,.int .i64 t,.str [],.aw,.cc,.cc,.bool false]
 | _=>none
def ek (h:ai) (aq:List aV) (bu:List Nat) (az:V):Prop:=cj h 1 az bu.length (bu.map (cV aq))∧∀j ∈ bu,j<aq.length
theorem ek.ext {h J:ai} {aq:List aV} {bu:List Nat} {az:V} (H:ek h aq bu az) (e:Ext h J):ek J aq bu az:=⟨H.1.ext e,H.2⟩
theorem ek.at {h:ai} {aq:List aV} {bu:List Nat} {az:V} (H:ek h aq bu az) {k:IntKind} {i:Nat} (aH:i<bu.length):∃b o,e8 1 az (.int k i)=some (.ptr b o)∧(∀J,Ext h J→hU (J.get b) o=some (cV aq (bu.getD i 0)))∧bu.getD i 0<aq.length:=by
 obtain ⟨b,o,aI,bo⟩:=H.1.b9 (k:=k) aH
 refine ⟨b,_,aI,fun J e=>?_,?_⟩
 · rw [Nat.mul_one,(bo.ext e).b7 (by rw [List.length_map];exact aH)]
   simp [List.getD_eq_getElem?_getD,List.getElem?_eq_getElem aH]
 · rw [List.getD_eq_getElem?_getD,List.getElem?_eq_getElem aH];exact H.2 _ (List.getElem_mem aH)
structure Ok (S:av):Prop where
 ints:∀j n,S.val j=.int n→-1073741824≤n∧n≤1073741823
 texts:∀j s,S.val j=.text s→s.length≤4096
 w:S.w.length≤4294967296
 out:S.out.length≤8589934592
section
variable {aj h J:ai} {an:aV} {K:fl} {aq:List aV} {aO pm:V} {S:av} {steps:Int} {dS bZ b4 bj:V}
theorem rV (M:dr aj h an K aq aO pm S steps) {bu:List Nat} {az:V} (A:ek h aq bu az) {aE:List Int} {Jb:V} (hC:cj h 1 Jb aE.length (cd aE)) (aL:aE.length≤bu.length) (aM:aE.length≤1000):
 bB Tryz.prog 146 [.ptr an 0,az,Jb] h fun x J=>x=.bool (dw S bu aE)∧(dw S bu aE=true→J=h)∧(dw S bu aE=false→dr aj J an K aq aO pm S.gb steps):=by
 refine TW rfl (bO ?_)
 unfold Ld
 simp +contextual only [hC.len,↓ab,ae,simprocAttr]
 refine fV (fun r J=>J=h∧r 0=.ptr an 0∧r 1=az∧r 9=Jb∧r 10=.int .i64 aE.length∧∃i:Nat,r 11=.int .i64 i∧i≤aE.length∧dw S bu aE=dw S (bu.drop i) (aE.drop i)) (fun r J=>aE.length - (r 11).gV) ?_ ?_
 · exact ⟨rfl,by simp only [↓ab,bf,simprocAttr],by simp only [↓ab,bf,simprocAttr],by simp only [↓ab,bf,simprocAttr],by simp only [↓ab,bf,simprocAttr],0,by simp only [↓ab,bf,simprocAttr]<;>rfl,by omega,rfl⟩
 · rintro r J ⟨rfl,bm,aY,iI,jm,i,kQ,aH,b8⟩
   unfold Le
   by_cases a7:i<aE.length
   · have bV:((i:Int) < (aE.length:Int))=True:=eq_true (by omega)
     obtain ⟨bX,dj,cB,b7,bQ⟩:=A.at (k:=.i64) (i:=i) (by omega)
     obtain ⟨cD,eW,ib,jN⟩:=ints_at hC (k:=.i64) a7
     have HK:=b7 J (Ext.refl _)
     have gf:=M
     obtain ⟨_,_,_,_,M⟩:=M
     obtain ⟨cw,js,hT,fs,_⟩:=M.val bQ
     have aQ:cV aq (bu.getD i 0)=.ptr (dX aq (bu.getD i 0)) 0:=rfl
     rw [aQ] at HK
     rw [List.drop_eq_getElem_cons a7,List.drop_eq_getElem_cons (show i<bu.length by omega)] at b8
     simp only [dw] at b8
     have XS:bu[i]=bu.getD i 0:=by rw [List.getD_eq_getElem?_getD,List.getElem?_eq_getElem (by omega)];rfl
     rw [XS] at b8
     have w:=g4 a7 (by omega)
     by_cases al:cP (S.val (bu.getD i 0))=aE[i]
     · have dJ:=eq_true al
       simp +contextual only [bm,aY,iI,jm,kQ,bV,cB,ib,jN,HK,fs,dJ,w,↓ab,ae,simprocAttr]
       rw [decide_eq_true al,Bool.true_and] at b8
       exact ⟨⟨i+1,rfl,a7,b8⟩,by omega⟩
     · have dJ:=eq_false al
       simp +contextual only [bm,aY,iI,jm,kQ,bV,cB,ib,jN,HK,fs,dJ,w,↓ab,ae,simprocAttr]
       refine aS (pD gf 6) ?_
       rintro x ak bI
       simp +contextual only [bm,aY,↓ab,ae,simprocAttr]
       rw [decide_eq_false al,Bool.false_and] at b8
       rw [b8]
       exact ⟨rfl,(by intro q;cases q),fun _=>bI⟩
   · have bV:((i:Int) < (aE.length:Int))=False:=eq_false (by omega)
     simp +contextual only [bm,aY,iI,jm,kQ,bV,↓ab,ae,simprocAttr]
     rw [List.drop_eq_nil_of_le (show aE.length≤i by omega)] at b8
     have:dw S bu aE=true:=by rw [b8];cases bu.drop i<;>rfl
     rw [this]
     exact ⟨rfl,fun _=>trivial,(by intro q;cases q)⟩
theorem ed.make (M:ed aj h an K aq aO pm S steps dS bZ b4 bj) {x:V} {cs:List V} (F:gX h J x cs) {v:eF} (bh:p4 v=some cs):
 ∃aK aJ,ed aj J an aK aJ aO pm (S.fW v) steps dS bZ b4 bj∧x=cV aJ S.st.length∧S.st.length<aJ.length∧c8 aj K h aq aK J aJ (fun _=>False):=by
 obtain ⟨b,rfl,e,af,bA,bl⟩:=F
 have t:=M.rep.role e (fun q=>q=b) (.val S.st.length) [b] (fun q aZ=>by subst aZ;exact ⟨af,bA⟩)
 have ji:dX (aq++[b]) S.st.length=b:=by
  unfold dX
  rw [List.getD_eq_getElem?_getD,List.getElem?_append_right (by rw [M.rep.len];exact Nat.le_refl _),M.rep.len,Nat.sub_self]
  rfl
 have fi:hR sz aj J (jF K (fun q=>q=b) (.val S.st.length)) (aq++[b]) (S.fW v).st:=by
  refine M.rep.push t (by simp) (by simp) (by simp) ?_
  refine ⟨by rw [ji];exact mD rfl,.aw,.cc,cs,by rw [ji];exact bl,?_,?_,?_⟩
  · cases v with
    | int n=>simp only [p4,Option.some.injEq] at bh;exact bh.symm
    | text n=>simp only [p4,Option.some.injEq] at bh;exact bh.symm
    | fn _ _ _=>cases bh
    | df t bg=>cases bg<;>simp only [p4,Option.some.injEq,reduceCtorEq] at bh;exact bh.symm
  · cases v<;>first | trivial | skip
    rename_i t bg
    cases bg<;>simp only [p4,Option.some.injEq,reduceCtorEq] at bh
    exact ⟨⟨rfl,rfl⟩,fun b q=>q.elim,fun j q=>by cases q⟩
  · cases v<;>first | trivial | cases bh
 have hm:K an≠.no:=by rw [M.dp];simp
 have E:=M.dy.cu t id
 have W:=M.wr.cu t id id
 have O:=M.de.cu t id
 refine ⟨_,_,⟨fi,by rw [t.role an hm,M.dp],by rw [t.get an hm id,M.get];rfl,M.co,E,W,O⟩,by unfold cV;rw [ji],by rw [List.length_append,M.rep.len];simp,t⟩
theorem Ok.fW (H:Ok S) {v:eF} (ad:∀n,v=.int n→-1073741824≤n∧n≤1073741823) (ak:∀s,v=.text s→s.length≤4096):Ok (S.fW v):=by
 have key:∀j,(S.fW v).val j=S.val j∨(S.fW v).val j=v:=by
  intro j
  simp only [av.val,av.fW,List.getD_eq_getElem?_getD]
  by_cases q:j<S.st.length
  · rw [List.getElem?_append_left q];exact .inl rfl
  · by_cases aA:j=S.st.length
    · subst aA;right;simp
    · left;rw [List.getElem?_eq_none (by simp;omega),List.getElem?_eq_none (by omega)]
 refine ⟨fun j n q=>?_,fun j s q=>?_,H.w,H.out⟩
 · rcases key j with k | k
   · exact H.ints j n (k ▸ q)
   · exact ad n (k ▸ q)
 · rcases key j with k | k
   · exact H.texts j s (k ▸ q)
   · exact ak s (k ▸ q)
end
end Go.Proofs.YtjbiefneffiogaaGreat
namespace Go.Proofs.YtjbiefneffiogaaGreat
open Go bs
theorem rT (h:ai) (l:List Int):cj (h.new (.au (cd l) 0 false)) 1 (.slice (ao h.next) 0 l.length l.length) l.length (cd l):=by
 refine ⟨by rw [k_,Nat.mul_one],rfl,dP (by rw [cY];omega),cd l,.inr ⟨0,false,by rw [gz]⟩,by omega,by simp⟩
theorem hc {v:eF} (h:cP v=1):∃n,v=.int n:=by cases v<;>simp only [cP] at h<;>first | exact ⟨_,rfl⟩ | omega
theorem pZ {v:eF} (h:cP v=2):∃n,v=.text n:=by cases v<;>simp only [cP] at h<;>first | exact ⟨_,rfl⟩ | omega
theorem wz {v:eF} (h:cP v=4):∃t l,v=.df t l:=by cases v<;>simp only [cP] at h<;>first | exact ⟨_,_,rfl⟩ | omega
def gw (a:Int):Prop:=-1073741824≤a∧a≤1073741823
theorem r5 {S:av} {aW bU:Nat} {k:Int→Int→av} (h:dw S [aW,bU] [1,1]=false):S.fX [aW,bU] k=S.gb:=by
 simp only [dw,Bool.and_true] at h
 simp only [av.fX,List.getD_cons_zero,List.getD_cons_succ]
 cases aj:S.val aW<;>cases ad:S.val bU<;>first | rfl | (rw [aj,ad] at h;simp [cP] at h)
theorem yw {S:av} {aW:Nat} {k:Int→av} (h:dw S [aW] [1]=false):S.jP [aW] k=S.gb:=by
 simp only [dw,Bool.and_true] at h
 simp only [av.jP,List.getD_cons_zero]
 cases aj:S.val aW<;>first | rfl | (rw [aj] at h;simp [cP] at h)
theorem Eg {S:av} {aW:Nat} {k:List UInt8→av} (h:dw S [aW] [2]=false):S.mu [aW] k=S.gb:=by
 simp only [dw,Bool.and_true] at h
 simp only [av.mu,List.getD_cons_zero]
 cases aj:S.val aW<;>first | rfl | (rw [aj] at h;simp [cP] at h)
theorem wrap_u8 (n:Int):IntKind.u8.wrap n=((av.byteOf n).toNat:Int):=by
 have:IntKind.u8.wrap n=n % 256:=by simp [IntKind.wrap,IntKind.bits,IntKind.signed]
 rw [this]
 unfold av.byteOf
 simp only [UInt8.toNat_ofNat']
 omega
theorem rv {P:Program} {d:Option Nat} {k:IntKind} {x:bp} {rs:List Nat} {e:g5} {H:ai}:pw P ⟨d,.ju (.int k) x,none,rs⟩ e H=(zG k (x.br (e.r.trim rs))=some e.v):=Cf rfl
theorem MV (l:List UInt8) (h:ai) (aL:l.length≤top):nM.run (.slice (ao h.next) 0 l.length l.length) (h.new (.au (dt l) 0 false))=.val (.str l) (h.new (.au (dt l) 0 false)):=
 VJ (B:=0) ⟨by rw [ry,Nat.mul_one],rfl,Nat.zero_le _,dP (by rw [cY];omega),Nat.le_refl _,aL,_,0,false,gz _,by rw [ry];omega,by simp⟩
section
variable {aj h J:ai} {an:aV} {K:fl} {aq:List aV} {aO pm:V} {S:av} {steps:Int} {dS bZ b4 bj:V}
theorem ed.arg (M:ed aj h an K aq aO pm S steps dS bZ b4 bj) {bu:List Nat} {az:V} (A:ek h aq bu az) (n:Int) (i j:Nat) (a1:n=i) (bQ:bu[i]? =some j):
 j<aq.length∧∃b o cw js hT,e8 1 az (.int .i64 n)=some (.ptr b o)∧ri aj h K aq j (S.val j) cw∧∀J,Ext h J→hU (J.get b) o=some (.ptr (dX aq j) 0)∧J.get (dX aq j)=.au [.int .i64 (cP (S.val j)),.int .i64 (dD (S.val j)),.str (e3 (S.val j)),cw,js,hT,.bool false] 0 false:=by
 subst a1
 have aH:i<bu.length:=(List.getElem?_eq_some_iff.1 bQ).1
 have ca:bu.getD i 0=j:=by rw [List.getD_eq_getElem?_getD,bQ];rfl
 obtain ⟨b,o,aI,bo,cp⟩:=A.at (k:=.i64) aH
 rw [ca] at bo cp
 obtain ⟨cw,js,hT,g,_,q,_⟩:=M.val cp
 refine ⟨cp,b,o,cw,js,hT,aI,q,fun J e=>⟨bo J e,?_⟩⟩
 rw [e.get _ (M.oH cp).1,g]
theorem ed.lay {aK:fl} {aJ:List aV} {cR:av} {mq:Int} {qs fS ft jA:V} (R:hR sz aj J aK aJ cR.st) (dp:aK an=.n2) (vM:h5 aj qs cR.c) (vO:ev J aK aJ fS cR.e) (wb:mH sz aj J aK aJ cR.w ft) (km:qh aj J aK cR.out jA):
 ed aj (J.set an (.au [aO,.int .i64 cR.e6,.int .i64 cR.fp,.int .i64 cR.read,.int .i64 mq,jA,.bool cR.fJ,qs,fS,ft,.aw,pm] 0 false)) an aK aJ aO pm cR mq qs fS ft jA:=by
 have a1:=R.new an (by rw [dp];simp)
 have t:c8 aj aK J aJ aK (J.set an (.au [aO,.int .i64 cR.e6,.int .i64 cR.fp,.int .i64 cR.read,.int .i64 mq,jA,.bool cR.fJ,qs,fS,ft,.aw,pm] 0 false)) aJ (·=.n2):=c8.td dp a1.1
 exact ⟨R.cu t (by simp) (by simp) (by simp),dp,by rw [dB,if_pos rfl],vM,vO.cu t (by simp),wb.cu t (by simp) (by simp),km.cu t (by simp)⟩
theorem ed.wrote (M:ed aj h an K aq aO pm S steps dS bZ b4 bj) {v:V} {out:List UInt8} (c0:cn aj.next J 1 v out.length (dt out)) (hm:Mod bj.bb h J) (af:∀b,v.bb b→bj.bb b∨h.next≤cx b):
 ∃aK,ed aj (J.set an (.au [aO,.int .i64 S.e6,.int .i64 S.fp,.int .i64 S.read,.int .i64 steps,v,.bool S.fJ,dS,bZ,b4,.aw,pm] 0 false)) an aK aq aO pm {S with out:=out} steps dS bZ b4 v:=by
 have t:c8 aj K h aq (jF K (fun b=>v.bb b∧h.next≤cx b) .out) J aq (·=.out):=by
  refine ⟨hm.next,fun b ew=>?_,fun b ew iR=>?_,fun b ew aC=>?_,fun b ew=>?_,[],by simp⟩
  · exact mC fun q=>ew (M.rep.tmp q.2)
  · by_cases q:v.bb b∧h.next≤cx b
    · exact ⟨q.2,c0.v.b5 q.1⟩
    · rw [mC q] at iR;exact absurd ew iR
  · exact hm.get b (M.rep.new b ew).2 fun q=>aC (M.de.2 b q)
  · refine hm.get b (Nat.lt_of_lt_of_le ew M.rep.ext.next) fun q=>?_
    have:=M.de.1.base q
    omega
 have kK:K an≠.no:=by rw [M.dp];simp
 refine ⟨_,ed.lay (cR:={S with out:=out}) (M.rep.cu t (by simp) (by simp) (by simp)) (by rw [t.role an kK,M.dp]) M.co (M.dy.cu t (by simp)) (M.wr.cu t (by simp) (by simp)) ⟨c0,fun b q=>?_⟩⟩
 rcases af b q with r | r
 · have:=M.de.2 b r
   rw [t.role b (by rw [this];simp),this]
 · exact mD ⟨q,r⟩
theorem ed.zS (M:ed aj h an K aq aO pm S steps dS bZ b4 bj) (hm:Mod bj.bb h J):J.get an=h.get an:=by
 refine hm.get an M.b5.2 fun q=>?_
 have:=M.de.2 an q
 rw [M.dp] at this
 cases this
theorem ed.afq (M:ed aj h an K aq aO pm S steps dS bZ b4 bj) (hm:Mod bj.bb h J) {b:aV} (af:Old h b) (al:K b≠.out):J.get b=h.get b:=
 hm.get b af fun q=>al (M.de.2 b q)
set_option maxHeartbeats 1000000 in
theorem yM (M:dr aj h an K aq aO pm S steps) (O:Ok S) {aW bU:Nat} {az:V} (A:ek h aq [aW,bU] az) {dR:aV} {f:FuncId} (g:Int→Int→eF) (Gx:aj.get dR=.au [.func f []] 0 false) (z2:Old aj dR)
 (bl:∀a b h,gw a→gw b→∃cs,p4 (g a b)=some cs∧bB Tryz.prog f [.int .i64 a,.int .i64 b] h fun x J=>gX h J x cs):
 bB Tryz.prog 145 [.ptr an 0,az,.ptr dR 0] h fun x J=>∃aK aJ,dr aj J an aK aJ aO pm (S.fX [aW,bU] fun a b=>S.dN (g a b)) steps:=by
 obtain ⟨_,_,_,_,M⟩:=M
 have aI:Ext h (h.new (.au [.int .i64 1,.int .i64 1] 0 false)):=(Ext.refl h).new _
 have hC:cj (h.new (.au [.int .i64 1,.int .i64 1] 0 false)) 1 (.slice (ao h.next) 0 2 2) 2 (cd [1,1]):=rT h [1,1]
 have aD:=M.ext aI
 have cr:=A.ext aI
 refine TV rfl (bO ?_)
 unfold Lc
 simp +contextual only [↓ab,ae,simprocAttr]
 refine aS (rV ⟨_,_,_,_,aD⟩ cr (aE:=[1,1]) hC (Nat.le_refl _) (by decide)) ?_
 rintro x ak ⟨rfl,bS,cF⟩
 cases al:dw S [aW,bU] [1,1] with
 | false=>
   simp +contextual only [↓ab,ae,simprocAttr]
   rw [r5 al]
   exact ⟨_,_,cF al⟩
 | true=>
   obtain rfl:=bS al
   clear bS cF hC
   generalize h.new (.au [.int .i64 1,.int .i64 1] 0 false)=H1 at *
   simp only [dw,Bool.and_true,Bool.and_eq_true,decide_eq_true_eq] at al
   have E:=aD.rep.ext
   obtain ⟨a0,cv⟩:=hc al.1
   obtain ⟨eU,cQ,ey,fN,_,_,b3,_,bY⟩:=aD.arg cr 0 0 aW rfl rfl
   rw [cv] at bY
   simp only [cP,dD,e3] at bY
   have a8:=bY _ (Ext.refl _)
   obtain ⟨bt,dh⟩:=hc al.2
   obtain ⟨jk,bX,dj,k3,_,_,cB,_,b7⟩:=aD.arg cr 1 1 bU rfl rfl
   rw [dh] at b7
   simp only [cP,dD,e3] at b7
   have bc:=b7 _ (Ext.refl _)
   have pJ:H1.get dR=.au [.func f []] 0 false:=(E.get _ z2).trans Gx
   obtain ⟨cs,g_,C⟩:=bl a0 bt H1 (O.ints _ _ cv) (O.ints _ _ dh)
   simp +contextual only [pJ,b3,cB,a8.1,bc.1,a8.2,bc.2,↓ab,ae,simprocAttr]
   refine aS C ?_
   rintro x aB F
   obtain ⟨aK,aJ,bI,rfl,a1,t⟩:=aD.make F g_
   obtain ⟨_,_,cp,_⟩:=F
   have fZ:=bY _ cp
   have f':=b7 _ cp
   have zV:=(cp.get _ (E.b5 z2)).trans pJ
   simp +contextual only [pJ,b3,cB,a8.1,bc.1,a8.2,bc.2,zV,fZ.1,f'.1,fZ.2,f'.2,↓ab,ae,simprocAttr]
   refine aS (mr ⟨_,_,_,_,bI⟩ O.w a1) ?_
   rintro x bw ⟨cK,bz⟩
   simp +contextual only [pJ,b3,cB,a8.1,bc.1,a8.2,bc.2,zV,fZ.1,f'.1,fZ.2,f'.2,↓ab,ae,simprocAttr]
   refine ⟨cK,aJ,?_⟩
   simp only [av.fX,List.getD_cons_zero,List.getD_cons_succ,cv,dh]
   exact bz
set_option maxHeartbeats 1000000 in
theorem M3 (M:dr aj h an K aq aO pm S steps) (O:Ok S) {aW bU:Nat} {az:V} (A:ek h aq [aW,bU] az) {dR:aV} {f:FuncId} (g:Int→Int→Int) (Gx:aj.get dR=.au [.func f []] 0 false) (z2:Old aj dR)
 (bl:∀a b h,gw a→gw b→b≠0→lr Tryz.prog f [.int .i64 a,.int .i64 b] h (.int .i64 (g a b)) h∧-2305843009213693952≤g a b∧g a b≤2305843009213693952):
 bB Tryz.prog 147 [.ptr an 0,az,.ptr dR 0] h fun x J=>∃aK aJ,dr aj J an aK aJ aO pm (S.fX [aW,bU] fun a b=>if b=0 then S.nv (.df 1 []) else S.dN (.int (wr (g a b)))) steps:=by
 obtain ⟨_,_,_,_,M⟩:=M
 have aI:Ext h (h.new (.au [.int .i64 1,.int .i64 1] 0 false)):=(Ext.refl h).new _
 have hC:cj (h.new (.au [.int .i64 1,.int .i64 1] 0 false)) 1 (.slice (ao h.next) 0 2 2) 2 (cd [1,1]):=rT h [1,1]
 have aD:=M.ext aI
 have cr:=A.ext aI
 refine TX rfl (bO ?_)
 unfold Lf
 simp +contextual only [↓ab,ae,simprocAttr]
 refine aS (rV ⟨_,_,_,_,aD⟩ cr (aE:=[1,1]) hC (Nat.le_refl _) (by decide)) ?_
 rintro x ak ⟨rfl,bS,cF⟩
 cases al:dw S [aW,bU] [1,1] with
 | false=>
   simp +contextual only [↓ab,ae,simprocAttr]
   rw [r5 al]
   exact ⟨_,_,cF al⟩
 | true=>
   obtain rfl:=bS al
   clear bS cF hC
   generalize h.new (.au [.int .i64 1,.int .i64 1] 0 false)=H1 at *
   simp only [dw,Bool.and_true,Bool.and_eq_true,decide_eq_true_eq] at al
   have E:=aD.rep.ext
   obtain ⟨a0,cv⟩:=hc al.1
   obtain ⟨eU,cQ,ey,fN,_,_,b3,_,bY⟩:=aD.arg cr 0 0 aW rfl rfl
   rw [cv] at bY
   simp only [cP,dD,e3] at bY
   have a8:=bY _ (Ext.refl _)
   obtain ⟨bt,dh⟩:=hc al.2
   obtain ⟨jk,bX,dj,k3,_,_,cB,_,b7⟩:=aD.arg cr 1 1 bU rfl rfl
   rw [dh] at b7
   simp only [cP,dD,e3] at b7
   have bc:=b7 _ (Ext.refl _)
   have pJ:H1.get dR=.au [.func f []] 0 false:=(E.get _ z2).trans Gx
   by_cases bD:bt=0
   · have e1:=eq_true bD
     simp +contextual only [pJ,b3,cB,a8.1,bc.1,a8.2,bc.2,e1,↓ab,ae,simprocAttr]
     refine aS (oh H1 1 .aw ⟨rfl,rfl,rfl⟩) ?_
     rintro x aB F
     obtain ⟨aK,aJ,bI,rfl,a1,t⟩:=aD.make (v:=.df 1 []) F rfl
     simp +contextual only [↓ab,ae,simprocAttr]
     refine aS (tq ⟨_,_,_,_,bI⟩ O.w a1) ?_
     rintro x bw ⟨cK,bz⟩
     simp +contextual only [↓ab,ae,simprocAttr]
     refine ⟨cK,aJ,?_⟩
     simp only [av.fX,List.getD_cons_zero,List.getD_cons_succ,cv,dh,bD,if_true]
     exact bz
   · have e1:=eq_false bD
     obtain ⟨C,aY,bn⟩:=bl a0 bt H1 (O.ints _ _ cv) (O.ints _ _ dh) bD
     simp +contextual only [pJ,b3,cB,a8.1,bc.1,a8.2,bc.2,e1,↓ab,ae,simprocAttr]
     refine ih C ?_
     simp +contextual only [pJ,b3,cB,a8.1,bc.1,a8.2,bc.2,e1,↓ab,ae,simprocAttr]
     refine ih (Br (g a0 bt) H1 ⟨aY,bn⟩) ?_
     simp +contextual only [pJ,b3,cB,a8.1,bc.1,a8.2,bc.2,e1,↓ab,ae,simprocAttr]
     refine aS (r6 H1 (wr (g a0 bt))) ?_
     rintro x aB F
     obtain ⟨aK,aJ,bI,rfl,a1,t⟩:=aD.make (v:=.int (wr (g a0 bt))) F rfl
     obtain ⟨_,_,cp,_⟩:=F
     have fZ:=bY _ cp
     have f':=b7 _ cp
     have zV:=(cp.get _ (E.b5 z2)).trans pJ
     simp +contextual only [pJ,b3,cB,a8.1,bc.1,a8.2,bc.2,zV,fZ.1,f'.1,fZ.2,f'.2,↓ab,ae,simprocAttr]
     refine aS (mr ⟨_,_,_,_,bI⟩ O.w a1) ?_
     rintro x bw ⟨cK,bz⟩
     simp +contextual only [pJ,b3,cB,a8.1,bc.1,a8.2,bc.2,zV,fZ.1,f'.1,fZ.2,f'.2,↓ab,ae,simprocAttr]
     refine ⟨cK,aJ,?_⟩
     simp only [av.fX,List.getD_cons_zero,List.getD_cons_succ,cv,dh,if_neg bD]
     exact bz
set_option maxHeartbeats 1000000 in
theorem acp (M:dr aj h an K aq aO pm S steps) (O:Ok S) {aW:Nat} {az:V} (A:ek h aq [aW] az):
 bB Tryz.prog 90 [.ptr an 0,az] h fun x J=>∃aK aJ,dr aj J an aK aJ aO pm (S.jP [aW] fun a=>S.dN (.int (wr (-a)))) steps:=by
 obtain ⟨_,_,_,_,M⟩:=M
 have aI:Ext h (h.new (.au [.int .i64 1] 0 false)):=(Ext.refl h).new _
 have hC:cj (h.new (.au [.int .i64 1] 0 false)) 1 (.slice (ao h.next) 0 1 1) 1 (cd [1]):=rT h [1]
 have aD:=M.ext aI
 have cr:=A.ext aI
 refine UX rfl (bO ?_)
 unfold MB
 simp +contextual only [↓ab,ae,simprocAttr]
 refine aS (rV ⟨_,_,_,_,aD⟩ cr (aE:=[1]) hC (Nat.le_refl _) (by decide)) ?_
 rintro x ak ⟨rfl,bS,cF⟩
 cases al:dw S [aW] [1] with
 | false=>
   simp +contextual only [↓ab,ae,simprocAttr]
   rw [yw al]
   exact ⟨_,_,cF al⟩
 | true=>
   obtain rfl:=bS al
   clear bS cF hC
   generalize h.new (.au [.int .i64 1] 0 false)=H1 at *
   simp only [dw,Bool.and_true,Bool.and_eq_true,decide_eq_true_eq] at al
   have E:=aD.rep.ext
   obtain ⟨a0,cv⟩:=hc al
   obtain ⟨eU,cQ,ey,fN,_,_,b3,_,bY⟩:=aD.arg cr 0 0 aW rfl rfl
   rw [cv] at bY
   simp only [cP,dD,e3] at bY
   have a8:=bY _ (Ext.refl _)
   have ba:=O.ints _ _ cv
   have aR:IntKind.i64.wrap (0-a0)=-a0:=by rw [wrap_i64 (by omega) (by omega)];omega
   simp +contextual only [b3,a8.1,a8.2,aR,↓ab,ae,simprocAttr]
   refine ih (Br (-a0) H1 ⟨by omega,by omega⟩) ?_
   simp +contextual only [b3,a8.1,a8.2,aR,↓ab,ae,simprocAttr]
   refine aS (r6 H1 (wr (-a0))) ?_
   rintro x aB F
   obtain ⟨aK,aJ,bI,rfl,a1,t⟩:=aD.make (v:=.int (wr (-a0))) F rfl
   simp +contextual only [↓ab,ae,simprocAttr]
   refine aS (mr ⟨_,_,_,_,bI⟩ O.w a1) ?_
   rintro x bw ⟨cK,bz⟩
   simp +contextual only [↓ab,ae,simprocAttr]
   refine ⟨cK,aJ,?_⟩
   simp only [av.jP,List.getD_cons_zero,List.getD_cons_succ,cv]
   exact bz
set_option maxHeartbeats 1000000 in
theorem afC (M:dr aj h an K aq aO pm S steps) (O:Ok S) {aW:Nat} {az:V} (A:ek h aq [aW] az):
 bB Tryz.prog 94 [.ptr an 0,az] h fun x J=>∃aK aJ,dr aj J an aK aJ aO pm (S.mu [aW] fun t=>S.dN (.int t.length)) steps:=by
 obtain ⟨_,_,_,_,M⟩:=M
 have aI:Ext h (h.new (.au [.int .i64 2] 0 false)):=(Ext.refl h).new _
 have hC:cj (h.new (.au [.int .i64 2] 0 false)) 1 (.slice (ao h.next) 0 1 1) 1 (cd [2]):=rT h [2]
 have aD:=M.ext aI
 have cr:=A.ext aI
 refine U1 rfl (bO ?_)
 unfold MF
 simp +contextual only [↓ab,ae,simprocAttr]
 refine aS (rV ⟨_,_,_,_,aD⟩ cr (aE:=[2]) hC (Nat.le_refl _) (by decide)) ?_
 rintro x ak ⟨rfl,bS,cF⟩
 cases al:dw S [aW] [2] with
 | false=>
   simp +contextual only [↓ab,ae,simprocAttr]
   rw [Eg al]
   exact ⟨_,_,cF al⟩
 | true=>
   obtain rfl:=bS al
   clear bS cF hC
   generalize h.new (.au [.int .i64 2] 0 false)=H1 at *
   simp only [dw,Bool.and_true,Bool.and_eq_true,decide_eq_true_eq] at al
   have E:=aD.rep.ext
   obtain ⟨a0,cv⟩:=pZ al
   obtain ⟨eU,cQ,ey,fN,_,_,b3,_,bY⟩:=aD.arg cr 0 0 aW rfl rfl
   rw [cv] at bY
   simp only [cP,dD,e3] at bY
   have a8:=bY _ (Ext.refl _)
   simp +contextual only [b3,a8.1,a8.2,↓ab,ae,simprocAttr]
   refine aS (r6 H1 a0.length) ?_
   rintro x aB F
   obtain ⟨aK,aJ,bI,rfl,a1,t⟩:=aD.make (v:=.int a0.length) F rfl
   simp +contextual only [↓ab,ae,simprocAttr]
   refine aS (mr ⟨_,_,_,_,bI⟩ O.w a1) ?_
   rintro x bw ⟨cK,bz⟩
   simp +contextual only [↓ab,ae,simprocAttr]
   refine ⟨cK,aJ,?_⟩
   simp only [av.mu,List.getD_cons_zero,List.getD_cons_succ,cv]
   exact bz
set_option maxHeartbeats 1000000 in
theorem Vw (M:dr aj h an K aq aO pm S steps) (O:Ok S) {aW:Nat} {az:V} (A:ek h aq [aW] az):
 bB Tryz.prog 95 [.ptr an 0,az] h fun x J=>∃aK aJ,dr aj J an aK aJ aO pm (S.jP [aW] fun a=>S.dN (.text [av.byteOf a])) steps:=by
 obtain ⟨_,_,_,_,M⟩:=M
 have aI:Ext h (h.new (.au [.int .i64 1] 0 false)):=(Ext.refl h).new _
 have hC:cj (h.new (.au [.int .i64 1] 0 false)) 1 (.slice (ao h.next) 0 1 1) 1 (cd [1]):=rT h [1]
 have aD:=M.ext aI
 have cr:=A.ext aI
 refine U2 rfl (bO ?_)
 unfold MG
 simp +contextual only [↓ab,ae,simprocAttr]
 refine aS (rV ⟨_,_,_,_,aD⟩ cr (aE:=[1]) hC (Nat.le_refl _) (by decide)) ?_
 rintro x ak ⟨rfl,bS,cF⟩
 cases al:dw S [aW] [1] with
 | false=>
   simp +contextual only [↓ab,ae,simprocAttr]
   rw [yw al]
   exact ⟨_,_,cF al⟩
 | true=>
   obtain rfl:=bS al
   clear bS cF hC
   generalize h.new (.au [.int .i64 1] 0 false)=H1 at *
   simp only [dw,Bool.and_true,Bool.and_eq_true,decide_eq_true_eq] at al
   have E:=aD.rep.ext
   obtain ⟨a0,cv⟩:=hc al
   obtain ⟨eU,cQ,ey,fN,_,_,b3,_,bY⟩:=aD.arg cr 0 0 aW rfl rfl
   rw [cv] at bY
   simp only [cP,dD,e3] at bY
   have a8:=bY _ (Ext.refl _)
   have aR:IntKind.u8.wrap a0=((av.byteOf a0).toNat:Int):=wrap_u8 a0
   have k1:nM.run (.slice (ao H1.next) 0 1 1) (H1.new (.au [.int .u8 ((av.byteOf a0).toNat:Int)] 0 false))=.val (.str [av.byteOf a0]) (H1.new (.au [.int .u8 ((av.byteOf a0).toNat:Int)] 0 false)):=MV [av.byteOf a0] H1 (show 1≤top by decide)
   have M2:=aD.ext ((Ext.refl H1).new (.au [.int .u8 ((av.byteOf a0).toNat:Int)] 0 false))
   simp +contextual only [b3,a8.1,a8.2,aR,k1,↓ab,ae,simprocAttr]
   refine aS (Eh _ [av.byteOf a0]) ?_
   rintro x aB F
   obtain ⟨aK,aJ,bI,rfl,a1,t⟩:=M2.make (v:=.text [av.byteOf a0]) F rfl
   simp +contextual only [↓ab,ae,simprocAttr]
   refine aS (mr ⟨_,_,_,_,bI⟩ O.w a1) ?_
   rintro x bw ⟨cK,bz⟩
   simp +contextual only [↓ab,ae,simprocAttr]
   refine ⟨cK,aJ,?_⟩
   simp only [av.jP,List.getD_cons_zero,List.getD_cons_succ,cv]
   exact bz
set_option maxHeartbeats 1000000 in
theorem adG (M:dr aj h an K aq aO pm S steps) (O:Ok S) {aW:Nat} {az:V} (A:ek h aq [aW] az):
 bB Tryz.prog 92 [.ptr an 0,az] h fun x J=>∃aK aJ,dr aj J an aK aJ aO pm (S.jP [aW] fun a=>{S with out:=S.out++[av.byteOf a]}.dN (.df 0 [])) steps:=by
 obtain ⟨_,_,_,_,M⟩:=M
 have aI:Ext h (h.new (.au [.int .i64 1] 0 false)):=(Ext.refl h).new _
 have hC:cj (h.new (.au [.int .i64 1] 0 false)) 1 (.slice (ao h.next) 0 1 1) 1 (cd [1]):=rT h [1]
 have aD:=M.ext aI
 have cr:=A.ext aI
 refine UZ rfl (bO ?_)
 unfold MD
 simp +contextual only [↓ab,ae,simprocAttr]
 refine aS (rV ⟨_,_,_,_,aD⟩ cr (aE:=[1]) hC (Nat.le_refl _) (by decide)) ?_
 rintro x ak ⟨rfl,bS,cF⟩
 cases al:dw S [aW] [1] with
 | false=>
   simp +contextual only [↓ab,ae,simprocAttr]
   rw [yw al]
   exact ⟨_,_,cF al⟩
 | true=>
   obtain rfl:=bS al
   clear bS cF hC
   generalize h.new (.au [.int .i64 1] 0 false)=H1 at *
   simp only [dw,Bool.and_true,Bool.and_eq_true,decide_eq_true_eq] at al
   have E:=aD.rep.ext
   obtain ⟨a0,cv⟩:=hc al
   obtain ⟨eU,cQ,ey,fN,_,_,b3,_,bY⟩:=aD.arg cr 0 0 aW rfl rfl
   rw [cv] at bY
   simp only [cP,dD,e3] at bY
   have a8:=bY _ (Ext.refl _)
   have aR:IntKind.u8.wrap a0=((av.byteOf a0).toNat:Int):=wrap_u8 a0
   have cE:=aD.get
   have xN:Ext H1 (H1.new (.au [.int .u8 ((av.byteOf a0).toNat:Int)] 0 false)):=(Ext.refl H1).new _
   have hn:=O.out
   have sT:aj.next≤H1.next:=E.next
   obtain ⟨db,aB,b_,ch,cI,ga,fG⟩:=ja (cs:=[.int .u8 ((av.byteOf a0).toNat:Int)]) (by omega) aD.de.1 sT (by unfold top;omega) rfl rfl
   have r9:cn aj.next aB 1 db (S.out++[av.byteOf a0]).length (dt (S.out++[av.byteOf a0])):=by
    rw [zA,List.length_append];exact ch
   obtain ⟨kW,bI⟩:=aD.wrote r9 cI (fun b q=>by rcases fG b q with r | r;exact .inl r;exact .inr (by omega))
   have iQ:aB.get an=_:=(aD.zS cI).trans cE
   have dx:=ch.v.one
   have Ob:Mod (fun b=>False) H1 (H1.new (.au [.int .u8 ((av.byteOf a0).toNat:Int)] 0 false)):=xN.mod _
   have Ge:=(xN.get an aD.b5.2).trans cE
   have me:=bY _ xN
   have np:=(aD.val eU).choose_spec.choose_spec.choose_spec.2.1
   have Ww:aB.get (dX aq aW)=H1.get (dX aq aW):=aD.afq cI (aD.oH eU).1 (by rw [np];simp)
   have ahE:=Ww.trans a8.2
   have AF:=me.1
   rw [eG] at AF
   simp +contextual only [rv,cE,Ge,iQ,b3,a8.1,a8.2,AF,me.1,me.2,aR,b_,dx.1,dx.2.1,↓ab,ae,simprocAttr]
   refine aS (oh _ 0 .aw ⟨rfl,rfl,rfl⟩) ?_
   rintro x bw F
   obtain ⟨aK,aJ,bz,rfl,a1,t⟩:=bI.make (v:=.df 0 []) F rfl
   simp +contextual only [↓ab,ae,simprocAttr]
   refine aS (mr ⟨_,_,_,_,bz⟩ O.w a1) ?_
   rintro x ej ⟨vl,oz⟩
   simp +contextual only [↓ab,ae,simprocAttr]
   refine ⟨vl,aJ,?_⟩
   simp only [av.jP,List.getD_cons_zero,cv]
   exact oz
end
end Go.Proofs.YtjbiefneffiogaaGreat
namespace Go.Proofs.YtjbiefneffiogaaGreat
open Go bs
theorem Ku {aj:ai} {l:List UInt8} {v:V} (H:cj aj 1 v l.length (dt l)) {k:IntKind} {i:Nat} (aH:i<l.length):
 ∃b off,e8 1 v (.int k i)=some (.ptr b off)∧∀J,Ext aj J→hU (J.get b) off=some (.int .u8 (((l[i]?).getD 0).toNat:Int)):=by
 obtain ⟨b,off,aI,bo⟩:=H.b9 (k:=k) aH
 refine ⟨b,_,aI,fun J e=>?_⟩
 have af:∀(l:List UInt8) (i:Nat) (aH:i < (dt l).length),(dt l)[i]=.int .u8 (((l[i]?).getD 0).toNat:Int):=by
  intro l
  induction l with
  | nil=>intro i aH;simp [dt] at aH
  | cons a l bJ=>
    intro i aH
    cases i with
    | zero=>rfl
    | succ i=>
      have:=bJ i (by simpa [dt] using aH)
      simpa [dt] using this
 rw [Nat.mul_one,(bo.ext e).b7 (by rw [ry];exact aH),af l i]
theorem Kq {S:av} {aW bU:Nat} (h:dw S [aW,bU] [2,1]=false):S.oK [aW,bU]=S.gb:=by
 simp only [dw,Bool.and_true] at h
 simp only [av.oK,List.getD_cons_zero,List.getD_cons_succ]
 cases aj:S.val aW<;>cases ad:S.val bU<;>first | rfl | (rw [aj,ad] at h;simp [cP] at h)
theorem OQ {S:av} {aW bU:Nat} (h:dw S [aW,bU] [2,2]=false):S.join [aW,bU]=S.gb:=by
 simp only [dw,Bool.and_true] at h
 simp only [av.join,List.getD_cons_zero,List.getD_cons_succ]
 cases aj:S.val aW<;>cases ad:S.val bU<;>first | rfl | (rw [aj,ad] at h;simp [cP] at h)
theorem M0 {S:av} {aW bU gH:Nat} (h:dw S [aW,bU,gH] [2,1,1]=false):S.cut [aW,bU,gH]=S.gb:=by
 simp only [dw,Bool.and_true] at h
 simp only [av.cut,List.getD_cons_zero,List.getD_cons_succ]
 cases aj:S.val aW<;>cases ad:S.val bU<;>cases ak:S.val gH<;>first | rfl | (rw [aj,ad,ak] at h;simp [cP] at h)
section
variable {aj h J:ai} {an:aV} {K:fl} {aq:List aV} {aO pm:V} {S:av} {steps:Int} {dS bZ b4 bj:V}
set_option maxHeartbeats 1000000 in
theorem adH (M:dr aj h an K aq aO pm S steps) (O:Ok S) {aW:Nat} {az:V} (A:ek h aq [aW] az):
 bB Tryz.prog 93 [.ptr an 0,az] h fun x J=>∃aK aJ,dr aj J an aK aJ aO pm (S.mu [aW] fun t=>{S with out:=S.out++t}.dN (.df 0 [])) steps:=by
 obtain ⟨_,_,_,_,M⟩:=M
 have aI:Ext h (h.new (.au [.int .i64 2] 0 false)):=(Ext.refl h).new _
 have hC:cj (h.new (.au [.int .i64 2] 0 false)) 1 (.slice (ao h.next) 0 1 1) 1 (cd [2]):=rT h [2]
 have aD:=M.ext aI
 have cr:=A.ext aI
 refine U0 rfl (bO ?_)
 unfold ME
 simp +contextual only [↓ab,ae,simprocAttr]
 refine aS (rV ⟨_,_,_,_,aD⟩ cr (aE:=[2]) hC (Nat.le_refl _) (by decide)) ?_
 rintro x ak ⟨rfl,bS,cF⟩
 cases al:dw S [aW] [2] with
 | false=>
   simp +contextual only [↓ab,ae,simprocAttr]
   rw [Eg al]
   exact ⟨_,_,cF al⟩
 | true=>
   obtain rfl:=bS al
   clear bS cF hC
   generalize h.new (.au [.int .i64 2] 0 false)=H1 at *
   simp only [dw,Bool.and_true,Bool.and_eq_true,decide_eq_true_eq] at al
   have E:=aD.rep.ext
   obtain ⟨a0,cv⟩:=pZ al
   obtain ⟨eU,cQ,ey,fN,_,_,b3,_,bY⟩:=aD.arg cr 0 0 aW rfl rfl
   rw [cv] at bY
   simp only [cP,dD,e3] at bY
   have a8:=bY _ (Ext.refl _)
   have cE:=aD.get
   have hn:=O.out
   have v_:=O.texts _ _ cv
   have sT:aj.next≤H1.next:=E.next
   obtain ⟨db,aB,b_,ch,cI,fG⟩:=J9 a0 aD.de.1 sT (by unfold top;omega)
   have r9:cn aj.next aB 1 db (S.out++a0).length (dt (S.out++a0)):=by
    rw [zA,List.length_append];exact ch
   obtain ⟨kW,bI⟩:=aD.wrote r9 cI fG
   have iQ:aB.get an=_:=(aD.zS cI).trans cE
   have dx:=ch.v.one
   simp +contextual only [rv,cE,iQ,b3,a8.1,a8.2,b_,dx.1,dx.2.1,↓ab,ae,simprocAttr]
   refine aS (oh _ 0 .aw ⟨rfl,rfl,rfl⟩) ?_
   rintro x bw F
   obtain ⟨aK,aJ,bz,rfl,a1,t⟩:=bI.make (v:=.df 0 []) F rfl
   simp +contextual only [↓ab,ae,simprocAttr]
   refine aS (mr ⟨_,_,_,_,bz⟩ O.w a1) ?_
   rintro x ej ⟨vl,oz⟩
   simp +contextual only [↓ab,ae,simprocAttr]
   refine ⟨vl,aJ,?_⟩
   simp only [av.mu,List.getD_cons_zero,cv]
   exact oz
set_option maxHeartbeats 1000000 in
theorem WH (M:dr aj h an K aq aO pm S steps) (O:Ok S) {aN:List UInt8} (en:cj aj 1 aO aN.length (dt aN)) (hlen:aN.length≤1073741824) (fx:S.read≤aN.length) {az:V}:
 bB Tryz.prog 91 [.ptr an 0,az] h fun x J=>∃aK aJ,dr aj J an aK aJ aO pm (S.uh aN) steps:=by
 obtain ⟨_,_,_,_,M⟩:=M
 have cE:=M.get
 have aL:=en.len
 have ku:=en.one
 refine UY rfl (bO ?_)
 unfold MC
 by_cases ba:aN.length≤S.read
 · have oW:((aN.length:Int)≤(S.read:Int))=True:=eq_true (by omega)
   simp +contextual only [cE,aL,oW,↓ab,ae,simprocAttr]
   refine aS (r6 h (-1)) ?_
   rintro x aB F
   obtain ⟨aK,aJ,bI,rfl,a1,t⟩:=M.make (v:=.int (-1)) F rfl
   simp +contextual only [↓ab,ae,simprocAttr]
   refine aS (mr ⟨_,_,_,_,bI⟩ O.w a1) ?_
   rintro x bw ⟨cK,bz⟩
   simp +contextual only [↓ab,ae,simprocAttr]
   refine ⟨cK,aJ,?_⟩
   simp only [av.uh,if_pos ba]
   exact bz
 · have oW:((aN.length:Int)≤(S.read:Int))=False:=eq_false (by omega)
   have dH:IntKind.i64.wrap ((S.read:Int)+1)=((S.read+1:Nat):Int):=by rw [wrap_i64 (by omega) (by omega)];rfl
   have dq:IntKind.i64.wrap (((S.read+1:Nat):Int)-1)=(S.read:Int):=by rw [wrap_i64 (by omega) (by omega)];omega
   have aD:=M.next {S with read:=S.read+1} steps _ _ _ _ rfl M.co M.dy M.wr M.de
   have dY:=aD.get
   obtain ⟨b,o,b9,cG⟩:=Ku en (k:=.i64) (i:=S.read) (by omega)
   have vL:=(aN[S.read]?.getD 0).toNat_lt
   have hA:IntKind.i64.wrap (((aN[S.read]?.getD 0).toNat:Nat):Int)=(((aN[S.read]?.getD 0).toNat:Nat):Int):=wrap_i64 (by omega) (by omega)
   have b7:=cG _ aD.rep.ext
   simp only [dB] at b7
   simp +contextual only [cE,dY,aL,oW,dH,dq,hA,b9,b7,ku.1,ku.2.1,↓ab,ae,simprocAttr]
   refine aS (r6 _ (((aN[S.read]?.getD 0).toNat:Nat):Int)) ?_
   rintro x aB F
   obtain ⟨aK,aJ,bI,rfl,a1,t⟩:=aD.make (v:=.int (((aN[S.read]?.getD 0).toNat:Nat):Int)) F rfl
   have iQ:=bI.get
   have rW:=cG _ bI.rep.ext
   simp +contextual only [rv,cE,dY,iQ,aL,oW,dH,dq,hA,b9,b7,rW,ku.1,ku.2.1,↓ab,ae,simprocAttr]
   refine aS (mr ⟨_,_,_,_,bI⟩ O.w a1) ?_
   rintro x bw ⟨cK,bz⟩
   simp +contextual only [rv,cE,dY,iQ,aL,oW,dH,dq,hA,b9,b7,rW,ku.1,ku.2.1,↓ab,ae,simprocAttr]
   refine ⟨cK,aJ,?_⟩
   simp only [av.uh,if_neg ba]
   exact bz
set_option maxHeartbeats 1000000 in
theorem To (M:dr aj h an K aq aO pm S steps) (O:Ok S) {aW bU:Nat} {az:V} (A:ek h aq [aW,bU] az):
 bB Tryz.prog 96 [.ptr an 0,az] h fun x J=>∃aK aJ,dr aj J an aK aJ aO pm (S.oK [aW,bU]) steps:=by
 obtain ⟨_,_,_,_,M⟩:=M
 have aI:Ext h (h.new (.au [.int .i64 2,.int .i64 1] 0 false)):=(Ext.refl h).new _
 have hC:cj (h.new (.au [.int .i64 2,.int .i64 1] 0 false)) 1 (.slice (ao h.next) 0 2 2) 2 (cd [2,1]):=rT h [2,1]
 have aD:=M.ext aI
 have cr:=A.ext aI
 refine U3 rfl (bO ?_)
 unfold MH
 simp +contextual only [↓ab,ae,simprocAttr]
 refine aS (rV ⟨_,_,_,_,aD⟩ cr (aE:=[2,1]) hC (Nat.le_refl _) (by decide)) ?_
 rintro x ak ⟨rfl,bS,cF⟩
 cases al:dw S [aW,bU] [2,1] with
 | false=>
   simp +contextual only [↓ab,ae,simprocAttr]
   rw [Kq al]
   exact ⟨_,_,cF al⟩
 | true=>
   obtain rfl:=bS al
   clear bS cF hC
   generalize h.new (.au [.int .i64 2,.int .i64 1] 0 false)=H1 at *
   simp only [dw,Bool.and_true,Bool.and_eq_true,decide_eq_true_eq] at al
   have E:=aD.rep.ext
   obtain ⟨a0,cv⟩:=pZ al.1
   obtain ⟨eU,cQ,ey,fN,_,_,b3,_,bY⟩:=aD.arg cr 0 0 aW rfl rfl
   rw [cv] at bY
   simp only [cP,dD,e3] at bY
   have a8:=bY _ (Ext.refl _)
   obtain ⟨bt,dh⟩:=hc al.2
   obtain ⟨jk,bX,dj,k3,_,_,cB,_,b7⟩:=aD.arg cr 1 1 bU rfl rfl
   rw [dh] at b7
   simp only [cP,dD,e3] at b7
   have bc:=b7 _ (Ext.refl _)
   have v_:=O.texts _ _ cv
   have fw:=O.ints _ _ dh
   by_cases bD:bt<0
   · have e1:=eq_true bD
     simp +contextual only [b3,cB,a8.1,bc.1,a8.2,bc.2,e1,↓ab,ae,simprocAttr]
     refine aS (oh H1 2 .aw ⟨rfl,rfl,rfl⟩) ?_
     rintro x aB F
     obtain ⟨aK,aJ,bI,rfl,a1,t⟩:=aD.make (v:=.df 2 []) F rfl
     simp +contextual only [↓ab,ae,simprocAttr]
     refine aS (tq ⟨_,_,_,_,bI⟩ O.w a1) ?_
     rintro x bw ⟨cK,bz⟩
     simp +contextual only [↓ab,ae,simprocAttr]
     refine ⟨cK,aJ,?_⟩
     simp only [av.oK,List.getD_cons_zero,List.getD_cons_succ,cv,dh]
     rw [if_neg (by omega)]
     exact bz
   have e1:=eq_false bD
   by_cases bG:(a0.length:Int)≤bt
   · have hp:=eq_true bG
     simp +contextual only [b3,cB,a8.1,bc.1,a8.2,bc.2,e1,hp,↓ab,ae,simprocAttr]
     refine aS (oh H1 2 .aw ⟨rfl,rfl,rfl⟩) ?_
     rintro x aB F
     obtain ⟨aK,aJ,bI,rfl,a1,t⟩:=aD.make (v:=.df 2 []) F rfl
     simp +contextual only [↓ab,ae,simprocAttr]
     refine aS (tq ⟨_,_,_,_,bI⟩ O.w a1) ?_
     rintro x bw ⟨cK,bz⟩
     simp +contextual only [↓ab,ae,simprocAttr]
     refine ⟨cK,aJ,?_⟩
     simp only [av.oK,List.getD_cons_zero,List.getD_cons_succ,cv,dh]
     rw [if_neg (by omega)]
     exact bz
   have hp:=eq_false bG
   have iT:qR.run (.str a0) (.int .i64 bt)=some (.int .u8 (((a0[bt.toNat]?).getD 0).toNat:Int)):=by rw [IM,if_pos (by omega)]
   have vL:=(a0[bt.toNat]?.getD 0).toNat_lt
   have hA:IntKind.i64.wrap (((a0[bt.toNat]?.getD 0).toNat:Nat):Int)=(((a0[bt.toNat]?.getD 0).toNat:Nat):Int):=wrap_i64 (by omega) (by omega)
   simp +contextual only [b3,cB,a8.1,bc.1,a8.2,bc.2,e1,hp,iT,hA,↓ab,ae,simprocAttr]
   refine aS (r6 H1 (((a0[bt.toNat]?.getD 0).toNat:Nat):Int)) ?_
   rintro x aB F
   obtain ⟨aK,aJ,bI,rfl,a1,t⟩:=aD.make (v:=.int (((a0[bt.toNat]?.getD 0).toNat:Nat):Int)) F rfl
   obtain ⟨_,_,cp,_⟩:=F
   have fZ:=bY _ cp
   have f':=b7 _ cp
   simp +contextual only [rv,b3,cB,a8.1,bc.1,a8.2,bc.2,fZ.1,f'.1,fZ.2,f'.2,e1,hp,iT,hA,↓ab,ae,simprocAttr]
   refine aS (mr ⟨_,_,_,_,bI⟩ O.w a1) ?_
   rintro x bw ⟨cK,bz⟩
   simp +contextual only [rv,b3,cB,a8.1,bc.1,a8.2,bc.2,fZ.1,f'.1,fZ.2,f'.2,e1,hp,iT,hA,↓ab,ae,simprocAttr]
   refine ⟨cK,aJ,?_⟩
   simp only [av.oK,List.getD_cons_zero,List.getD_cons_succ,cv,dh]
   rw [if_pos (by omega)]
   exact bz
set_option maxHeartbeats 1000000 in
theorem VQ (M:dr aj h an K aq aO pm S steps) (O:Ok S) {aW bU gH:Nat} {az:V} (A:ek h aq [aW,bU,gH] az):
 bB Tryz.prog 97 [.ptr an 0,az] h fun x J=>∃aK aJ,dr aj J an aK aJ aO pm (S.cut [aW,bU,gH]) steps:=by
 obtain ⟨_,_,_,_,M⟩:=M
 have aI:Ext h (h.new (.au [.int .i64 2,.int .i64 1,.int .i64 1] 0 false)):=(Ext.refl h).new _
 have hC:cj (h.new (.au [.int .i64 2,.int .i64 1,.int .i64 1] 0 false)) 1 (.slice (ao h.next) 0 3 3) 3 (cd [2,1,1]):=rT h [2,1,1]
 have aD:=M.ext aI
 have cr:=A.ext aI
 refine U4 rfl (bO ?_)
 unfold MI
 simp +contextual only [↓ab,ae,simprocAttr]
 refine aS (rV ⟨_,_,_,_,aD⟩ cr (aE:=[2,1,1]) hC (Nat.le_refl _) (by decide)) ?_
 rintro x ak ⟨rfl,bS,cF⟩
 cases al:dw S [aW,bU,gH] [2,1,1] with
 | false=>
   simp +contextual only [↓ab,ae,simprocAttr]
   rw [M0 al]
   exact ⟨_,_,cF al⟩
 | true=>
   obtain rfl:=bS al
   clear bS cF hC
   generalize h.new (.au [.int .i64 2,.int .i64 1,.int .i64 1] 0 false)=H1 at *
   simp only [dw,Bool.and_true,Bool.and_eq_true,decide_eq_true_eq] at al
   have E:=aD.rep.ext
   obtain ⟨a0,cv⟩:=pZ al.1
   obtain ⟨eU,cQ,ey,fN,_,_,b3,_,bY⟩:=aD.arg cr 0 0 aW rfl rfl
   rw [cv] at bY
   simp only [cP,dD,e3] at bY
   have a8:=bY _ (Ext.refl _)
   obtain ⟨bt,dh⟩:=hc al.2.1
   obtain ⟨jk,bX,dj,k3,_,_,cB,_,b7⟩:=aD.arg cr 1 1 bU rfl rfl
   rw [dh] at b7
   simp only [cP,dD,e3] at b7
   have bc:=b7 _ (Ext.refl _)
   obtain ⟨b1,nT⟩:=hc al.2.2
   obtain ⟨Ae,cD,eW,Wp,_,_,ib,_,jN⟩:=aD.arg cr 2 2 gH rfl rfl
   rw [nT] at jN
   simp only [cP,dD,e3] at jN
   have eI:=jN _ (Ext.refl _)
   have v_:=O.texts _ _ cv
   have fw:=O.ints _ _ dh
   have hn:=O.ints _ _ nT
   by_cases bD:bt<0
   · have e1:=eq_true bD
     simp +contextual only [b3,cB,ib,a8.1,bc.1,eI.1,a8.2,bc.2,eI.2,e1,↓ab,ae,simprocAttr]
     refine aS (oh H1 2 .aw ⟨rfl,rfl,rfl⟩) ?_
     rintro x aB F
     obtain ⟨aK,aJ,bI,rfl,a1,t⟩:=aD.make (v:=.df 2 []) F rfl
     simp +contextual only [↓ab,ae,simprocAttr]
     refine aS (tq ⟨_,_,_,_,bI⟩ O.w a1) ?_
     rintro x bw ⟨cK,bz⟩
     simp +contextual only [↓ab,ae,simprocAttr]
     refine ⟨cK,aJ,?_⟩
     simp only [av.cut,List.getD_cons_zero,List.getD_cons_succ,cv,dh,nT]
     rw [if_neg (by omega)]
     exact bz
   have e1:=eq_false bD
   by_cases bG:b1<0
   · have hp:=eq_true bG
     simp +contextual only [b3,cB,ib,a8.1,bc.1,eI.1,a8.2,bc.2,eI.2,e1,hp,↓ab,ae,simprocAttr]
     refine aS (oh H1 2 .aw ⟨rfl,rfl,rfl⟩) ?_
     rintro x aB F
     obtain ⟨aK,aJ,bI,rfl,a1,t⟩:=aD.make (v:=.df 2 []) F rfl
     simp +contextual only [↓ab,ae,simprocAttr]
     refine aS (tq ⟨_,_,_,_,bI⟩ O.w a1) ?_
     rintro x bw ⟨cK,bz⟩
     simp +contextual only [↓ab,ae,simprocAttr]
     refine ⟨cK,aJ,?_⟩
     simp only [av.cut,List.getD_cons_zero,List.getD_cons_succ,cv,dh,nT]
     rw [if_neg (by omega)]
     exact bz
   have hp:=eq_false bG
   by_cases ax:(a0.length:Int)<bt
   · have mS:=eq_true ax
     simp +contextual only [b3,cB,ib,a8.1,bc.1,eI.1,a8.2,bc.2,eI.2,e1,hp,mS,↓ab,ae,simprocAttr]
     refine aS (oh H1 2 .aw ⟨rfl,rfl,rfl⟩) ?_
     rintro x aB F
     obtain ⟨aK,aJ,bI,rfl,a1,t⟩:=aD.make (v:=.df 2 []) F rfl
     simp +contextual only [↓ab,ae,simprocAttr]
     refine aS (tq ⟨_,_,_,_,bI⟩ O.w a1) ?_
     rintro x bw ⟨cK,bz⟩
     simp +contextual only [↓ab,ae,simprocAttr]
     refine ⟨cK,aJ,?_⟩
     simp only [av.cut,List.getD_cons_zero,List.getD_cons_succ,cv,dh,nT]
     rw [if_neg (by omega)]
     exact bz
   have mS:=eq_false ax
   have dH:IntKind.i64.wrap ((a0.length:Int)-bt)=(a0.length:Int)-bt:=wrap_i64 (by omega) (by omega)
   have dq:IntKind.i64.wrap (bt+b1)=bt+b1:=wrap_i64 (by omega) (by omega)
   by_cases hu:(a0.length:Int)-bt<b1
   · have fQ:=eq_true hu
     simp +contextual only [b3,cB,ib,a8.1,bc.1,eI.1,a8.2,bc.2,eI.2,e1,hp,mS,dH,fQ,↓ab,ae,simprocAttr]
     refine aS (oh H1 2 .aw ⟨rfl,rfl,rfl⟩) ?_
     rintro x aB F
     obtain ⟨aK,aJ,bI,rfl,a1,t⟩:=aD.make (v:=.df 2 []) F rfl
     simp +contextual only [↓ab,ae,simprocAttr]
     refine aS (tq ⟨_,_,_,_,bI⟩ O.w a1) ?_
     rintro x bw ⟨cK,bz⟩
     simp +contextual only [↓ab,ae,simprocAttr]
     refine ⟨cK,aJ,?_⟩
     simp only [av.cut,List.getD_cons_zero,List.getD_cons_succ,cv,dh,nT]
     rw [if_neg (by omega)]
     exact bz
   have fQ:=eq_false hu
   have g2:mo (.str a0) (some (.int .i64 bt)) (some (.int .i64 (bt+b1))) none=some (.str ((a0.drop bt.toNat).take b1.toNat)):=by
    rw [IU,if_pos (by omega)]
    congr 4
    omega
   simp +contextual only [b3,cB,ib,a8.1,bc.1,eI.1,a8.2,bc.2,eI.2,e1,hp,mS,dH,dq,fQ,g2,↓ab,ae,simprocAttr]
   refine aS (Eh H1 ((a0.drop bt.toNat).take b1.toNat)) ?_
   rintro x aB F
   obtain ⟨aK,aJ,bI,rfl,a1,t⟩:=aD.make (v:=.text ((a0.drop bt.toNat).take b1.toNat)) F rfl
   simp +contextual only [↓ab,ae,simprocAttr]
   refine aS (mr ⟨_,_,_,_,bI⟩ O.w a1) ?_
   rintro x bw ⟨cK,bz⟩
   simp +contextual only [↓ab,ae,simprocAttr]
   refine ⟨cK,aJ,?_⟩
   simp only [av.cut,List.getD_cons_zero,List.getD_cons_succ,cv,dh,nT]
   rw [if_pos (by omega)]
   exact bz
set_option maxHeartbeats 1000000 in
theorem ZC (M:dr aj h an K aq aO pm S steps) (O:Ok S) {aW bU:Nat} {az:V} (A:ek h aq [aW,bU] az):
 bB Tryz.prog 98 [.ptr an 0,az] h fun x J=>∃aK aJ,dr aj J an aK aJ aO pm (S.join [aW,bU]) steps:=by
 obtain ⟨_,_,_,_,M⟩:=M
 have aI:Ext h (h.new (.au [.int .i64 2,.int .i64 2] 0 false)):=(Ext.refl h).new _
 have hC:cj (h.new (.au [.int .i64 2,.int .i64 2] 0 false)) 1 (.slice (ao h.next) 0 2 2) 2 (cd [2,2]):=rT h [2,2]
 have aD:=M.ext aI
 have cr:=A.ext aI
 refine U5 rfl (bO ?_)
 unfold MJ
 simp +contextual only [↓ab,ae,simprocAttr]
 refine aS (rV ⟨_,_,_,_,aD⟩ cr (aE:=[2,2]) hC (Nat.le_refl _) (by decide)) ?_
 rintro x ak ⟨rfl,bS,cF⟩
 cases al:dw S [aW,bU] [2,2] with
 | false=>
   simp +contextual only [↓ab,ae,simprocAttr]
   rw [OQ al]
   exact ⟨_,_,cF al⟩
 | true=>
   obtain rfl:=bS al
   clear bS cF hC
   generalize h.new (.au [.int .i64 2,.int .i64 2] 0 false)=H1 at *
   simp only [dw,Bool.and_true,Bool.and_eq_true,decide_eq_true_eq] at al
   have E:=aD.rep.ext
   obtain ⟨a0,cv⟩:=pZ al.1
   obtain ⟨eU,cQ,ey,fN,_,_,b3,_,bY⟩:=aD.arg cr 0 0 aW rfl rfl
   rw [cv] at bY
   simp only [cP,dD,e3] at bY
   have a8:=bY _ (Ext.refl _)
   obtain ⟨bt,dh⟩:=pZ al.2
   obtain ⟨jk,bX,dj,k3,_,_,cB,_,b7⟩:=aD.arg cr 1 1 bU rfl rfl
   rw [dh] at b7
   simp only [cP,dD,e3] at b7
   have bc:=b7 _ (Ext.refl _)
   have v_:=O.texts _ _ cv
   have fw:=O.texts _ _ dh
   have dH:IntKind.i64.wrap ((a0.length:Int) + (bt.length:Int))=(a0.length:Int) + (bt.length:Int):=wrap_i64 (by omega) (by omega)
   by_cases bD:4096 < (a0.length:Int) + (bt.length:Int)
   · have e1:=eq_true bD
     simp +contextual only [b3,cB,a8.1,bc.1,a8.2,bc.2,dH,e1,↓ab,ae,simprocAttr]
     refine aS (oh H1 2 .aw ⟨rfl,rfl,rfl⟩) ?_
     rintro x aB F
     obtain ⟨aK,aJ,bI,rfl,a1,t⟩:=aD.make (v:=.df 2 []) F rfl
     simp +contextual only [↓ab,ae,simprocAttr]
     refine aS (tq ⟨_,_,_,_,bI⟩ O.w a1) ?_
     rintro x bw ⟨cK,bz⟩
     simp +contextual only [↓ab,ae,simprocAttr]
     refine ⟨cK,aJ,?_⟩
     simp only [av.join,List.getD_cons_zero,List.getD_cons_succ,cv,dh]
     rw [if_neg (by omega)]
     exact bz
   have e1:=eq_false bD
   have Fm:(e4.str .add).run Tryz.prog (.str a0) (.str bt)=some (.str (a0++bt)):=by rw [IL,if_pos (by unfold top;omega)]
   simp +contextual only [b3,cB,a8.1,bc.1,a8.2,bc.2,dH,e1,Fm,↓ab,ae,simprocAttr]
   refine aS (Eh H1 (a0++bt)) ?_
   rintro x aB F
   obtain ⟨aK,aJ,bI,rfl,a1,t⟩:=aD.make (v:=.text (a0++bt)) F rfl
   obtain ⟨_,_,cp,_⟩:=F
   have fZ:=bY _ cp
   have f':=b7 _ cp
   simp +contextual only [b3,cB,a8.1,bc.1,a8.2,bc.2,fZ.1,f'.1,fZ.2,f'.2,↓ab,ae,simprocAttr]
   refine aS (mr ⟨_,_,_,_,bI⟩ O.w a1) ?_
   rintro x bw ⟨cK,bz⟩
   simp +contextual only [b3,cB,a8.1,bc.1,a8.2,bc.2,fZ.1,f'.1,fZ.2,f'.2,↓ab,ae,simprocAttr]
   refine ⟨cK,aJ,?_⟩
   simp only [av.join,List.getD_cons_zero,List.getD_cons_succ,cv,dh]
   rw [if_pos (by omega)]
   exact bz
end
end Go.Proofs.YtjbiefneffiogaaGreat
namespace Go.Proofs.YtjbiefneffiogaaGreat
open Go bs
section
variable {aj h J:ai} {an:aV} {K:fl} {aq:List aV} {aO pm:V} {S:av} {steps:Int} {dS bZ b4 bj:V}
set_option maxHeartbeats 1000000 in
theorem afr (M:dr aj h an K aq aO pm S steps) (O:Ok S) {aW bU:Nat} {az:V} (A:ek h aq [aW,bU] az):
 bB Tryz.prog 99 [.ptr an 0,az] h fun x J=>∃aK aJ,dr aj J an aK aJ aO pm (S.pe [aW,bU]) steps:=by
 have gf:=M
 obtain ⟨jt,eq,fB,c5,M⟩:=M
 obtain ⟨eU,cQ,ey,fN,_,_,b3,jE,bY⟩:=M.arg A 0 0 aW rfl rfl
 obtain ⟨jk,bX,dj,k3,_,_,cB,_,b7⟩:=M.arg A 1 1 bU rfl rfl
 have a8:=bY _ (Ext.refl _)
 have bc:=b7 _ (Ext.refl _)
 refine U6 rfl (bO ?_)
 unfold MK
 by_cases Ah:cP (S.val aW)=4
 rotate_left
 · have l8:=eq_false Ah
   simp +contextual only [b3,cB,a8.1,bc.1,a8.2,bc.2,l8,↓ab,ae,simprocAttr]
   refine aS (pD gf 6) ?_
   rintro x bw bz
   simp +contextual only [↓ab,ae,simprocAttr]
   refine ⟨K,aq,?_⟩
   have:S.pe [aW,bU]=S.gb:=by
    simp only [av.pe,List.getD_cons_zero]
    cases bh:S.val aW<;>first | rfl | (rw [bh] at Ah;exact absurd rfl Ah)
   rw [this]
   exact bz
 obtain ⟨t,bg,bh⟩:=wz Ah
 rw [bh] at a8 bY jE
 simp only [cP,dD,e3] at a8 bY
 have x_:S.pe [aW,bU]=if t=0∧bg.length=1 then {S with st:=S.st.set aW (.df 0 [bU])}.dN (.df 0 []) else S.gb:=by
  simp only [av.pe,List.getD_cons_zero,List.getD_cons_succ,bh]
 by_cases aF:t=0
 rotate_left
 · have mQ:=eq_false aF
   simp +contextual only [b3,cB,a8.1,bc.1,a8.2,bc.2,mQ,↓ab,ae,simprocAttr]
   refine aS (pD gf 6) ?_
   rintro x bw bz
   simp +contextual only [↓ab,ae,simprocAttr]
   refine ⟨K,aq,?_⟩
   rw [x_,if_neg (by omega)]
   exact bz
 subst aF
 obtain ⟨f1,f2,f3⟩:=jE
 have aL:=f1.v.len
 by_cases jL:bg.length=1
 rotate_left
 · have GD:((bg.length:Int)=1)=False:=eq_false (by omega)
   simp +contextual only [b3,cB,a8.1,bc.1,a8.2,bc.2,aL,GD,↓ab,ae,simprocAttr]
   refine aS (pD gf 6) ?_
   rintro x bw bz
   simp +contextual only [↓ab,ae,simprocAttr]
   refine ⟨K,aq,?_⟩
   rw [x_,if_neg (by omega)]
   exact bz
 rw [jL] at aL f1
 obtain ⟨kd,uf,aI,bo,cp⟩:=f1.v.k' (k:=.i64) (i:=0) (by decide)
 have g':=Ft f1.v (k:=.i64) (i:=0) (by decide) aI
 have FT:e8 1 fN (.int .i64 0)=some (.ptr kd uf):=by simpa using aI
 obtain ⟨k,b_,_,cI,ga⟩:=f1.Im g' (c:=0) (by simp [jL]) (y:=cV aq bU) rfl rfl
 rw [Nat.add_zero] at b_
 have o7:qT 1 h kd uf (.ptr (dX aq bU) 0) (h.get kd)=some (h.set kd k):=b_
 have fk:((((1:Nat):Int))=1)=True:=eq_true rfl
 have b':=f2 kd cp
 have t:c8 aj K h aq K (h.set kd k) aq (·=.lE aW):=c8.td b' (f1.base cp)
 have vS:aW<S.st.length:=by rw [←M.rep.len];exact eU
 have Ay:(bg.map (cV aq)).set 0 (cV aq bU)=[bU].map (cV aq):=by
  match bg,jL with
  | [a],_=>rfl
 rw [Ay] at cI
 have ahK:dX aq aW≠kd:=fun q=>by
  obtain ⟨_,_,_,_,fq,_⟩:=M.val eU
  rw [q,b'] at fq;cases fq
 obtain ⟨_,_,_,_,fq,_⟩:=M.val eU
 have aD:ed aj (h.set kd k) an K aq aO pm {S with st:=S.st.set aW (.df 0 [bU])} steps jt eq fB c5:=by
  have kK:K an≠.no:=by rw [M.dp];simp
  refine ⟨M.rep.El (i:=aW) (v:=.df 0 [bU]) t (by simp) (by intro j bQ;simpa using bQ) (by simp) ?_,M.dp,?_,M.co,M.dy.cu t (by simp),M.wr.cu t (by simp) (by simp),M.de.cu t (by simp)⟩
  · exact ⟨fq,fN,.cc,_,by rw [t.get _ (by rw [fq];simp) (by rw [fq];simp)];obtain ⟨_,Wo,fS,FQ,eR,db,_⟩:=M.rep.val aW _ (av.Ep vS);rw [bh] at db;have:=H_ (a8.2.symm.trans eR);cases db;simp only [List.cons.injEq,true_and,and_true] at this;rw [a8.2,this.2.1,this.2.2],rfl,⟨cI,f2,by simpa using jk⟩,trivial⟩
  · rw [t.get an kK (by rw [M.dp];simp)];exact M.get
 simp +contextual only [b3,cB,a8.1,bc.1,a8.2,bc.2,aL,fk,FT,o7,↓ab,ae,simprocAttr]
 refine aS (oh _ 0 .aw ⟨rfl,rfl,rfl⟩) ?_
 rintro x aB F
 obtain ⟨aK,aJ,bI,rfl,a1,t⟩:=aD.make (v:=.df 0 []) F rfl
 simp +contextual only [↓ab,ae,simprocAttr]
 refine aS (mr ⟨_,_,_,_,bI⟩ O.w a1) ?_
 rintro x bw ⟨cK,bz⟩
 simp +contextual only [↓ab,ae,simprocAttr]
 refine ⟨cK,aJ,?_⟩
 rw [x_,if_pos ⟨rfl,jL⟩]
 exact bz
end
end Go.Proofs.YtjbiefneffiogaaGreat
namespace Go.Proofs.YtjbiefneffiogaaGreat
open Go bs
theorem I_ (n:Int) (h:ai):lr Tryz.prog 120 [.int .i64 n] h (.bool (gl n)) h:=by
 refine tk (TI rfl (bO ?_))
 unfold KW
 simp +contextual only [↓ab,ae,simprocAttr]
 rfl
theorem RD (n a b:Int) (h:ai):bB Tryz.prog 121 [.int .i64 n,.agg [.int .i64 a,.int .i64 b]] h fun x J=>x=.bool (sn n a b)∧Ext h J:=by
 refine TJ rfl (bO ?_)
 unfold KX
 have t0:((0:Int) < ((2:Nat):Int))=True:=eq_true (by decide)
 have t1:((1:Int) < ((2:Nat):Int))=True:=eq_true (by decide)
 simp +contextual only [pV,t0,t1,Int.toNat_zero,Int.toNat_one,Nat.zero_mul,Nat.add_zero,↓ab,ae,simprocAttr]
 exact ⟨rfl,(Ext.refl h).new _⟩
theorem S2 (a:At) (h:ai):bB Tryz.prog 126 [.agg a.enc] h fun x J=>x=.bool (gE a)∧Ext h J:=by
 obtain ⟨k,n,s⟩:=a
 refine TO rfl (bO ?_)
 unfold K3
 have ax:Ext h (h.new (.au (At.enc ⟨k,n,s⟩) 0 false)):=(Ext.refl h).new _
 have he:At.enc ⟨k,n,s⟩=[.int .i64 k,.int .i64 n,.str s]:=rfl
 rw [he] at ax ⊢
 by_cases ad:k=1
 · subst ad
   simp +contextual only [↓ab,ae,simprocAttr]
   refine ⟨?_,ax⟩
   simp [gE,gl]
 by_cases ak:k=2
 · subst ak
   simp +contextual only [↓ab,ae,simprocAttr]
   refine ⟨?_,ax⟩
   simp [gE,o4]
 by_cases aB:k=3
 · subst aB
   simp +contextual only [↓ab,ae,simprocAttr]
   refine ⟨?_,ax⟩
   simp [gE]
   congr 1
   rw [decide_eq_decide]
   omega
 · have dZ:=eq_false ad
   have k4:=eq_false ak
   have k5:=eq_false aB
   simp +contextual only [dZ,k4,k5,↓ab,ae,simprocAttr]
   refine ⟨?_,ax⟩
   simp [gE,ad,ak,aB]
theorem adf (a:At) (h:ai):bB Tryz.prog 125 [.agg a.enc] h fun x J=>x=.bool (!gE a)∧Ext h J:=by
 refine TN rfl (bO ?_)
 unfold K2
 have he:(At.enc a).length=3:=rfl
 obtain ⟨k,n,s⟩:=a
 have he:At.enc ⟨k,n,s⟩=[.int .i64 k,.int .i64 n,.str s]:=rfl
 rw [he]
 simp +contextual only [↓ab,ae,simprocAttr]
 refine aS (he ▸ S2 ⟨k,n,s⟩ _) ?_
 rintro x ad ⟨rfl,dn⟩
 simp +contextual only [↓ab,ae,simprocAttr]
 exact ((Ext.refl h).new _).trans dn
theorem Zq (l:List At) (v:V) (h:ai) (H:cj h 3 v l.length (j9 l)) (aL:l.length≤4611686018427387904):
 bB Tryz.prog 160 [v,.func 125 []] h fun x J=>(∃i:Int,x=.int .i64 i∧decide (0≤i)=!l.all gE)∧Ext h J:=by
 refine T8 rfl (bO ?_)
 unfold Ls
 simp +contextual only [H.len,↓ab,ae,simprocAttr]
 refine fV (fun r J=>Ext h J∧r 0=v∧r 1=.func 125 []∧r 7=.int .i64 l.length∧∃i:Nat,r 8=.int .i64 i∧i≤l.length∧l.all gE=(l.drop i).all gE) (fun r J=>l.length - (r 8).gV) ?_ ?_
 · exact ⟨Ext.refl h,by simp only [↓ab,bf,simprocAttr],by simp only [↓ab,bf,simprocAttr],by simp only [↓ab,bf,simprocAttr],0,by simp only [↓ab,bf,simprocAttr]<;>rfl,by omega,rfl⟩
 · rintro r J ⟨ax,bm,aY,gj,i,iH,aH,b8⟩
   unfold Lt
   by_cases a7:i<l.length
   · have bV:((i:Int) < (l.length:Int))=True:=eq_true (by omega)
     obtain ⟨b,o,b9,cG,_⟩:=xB (H.ext ax) (k:=.i64) a7
     rw [List.drop_eq_getElem_cons a7,List.all_cons] at b8
     have w:=g4 a7 aL
     simp +contextual only [bm,aY,gj,iH,bV,b9,cG,↓ab,ae,simprocAttr]
     refine aS (adf l[i] J) ?_
     rintro x ad ⟨rfl,dn⟩
     cases bT:gE l[i] with
     | true=>
       simp +contextual only [bm,aY,gj,iH,w,↓ab,ae,simprocAttr]
       exact ⟨⟨ax.trans dn,⟨i+1,rfl,a7,by rw [b8,bT,Bool.true_and]⟩⟩,by omega⟩
     | false=>
       simp +contextual only [bm,aY,gj,iH,w,↓ab,ae,simprocAttr]
       refine ⟨⟨i,rfl,?_⟩,ax.trans dn⟩
       rw [b8,bT]
       simp
   · have bV:((i:Int) < (l.length:Int))=False:=eq_false (by omega)
     rw [List.drop_eq_nil_of_le (by omega)] at b8
     simp +contextual only [bm,aY,gj,iH,bV,↓ab,ae,simprocAttr]
     exact ⟨⟨-1,rfl,by rw [b8];rfl⟩,ax⟩
theorem Cr (l:List At) (v:V) (h:ai) (H:cj h 3 v l.length (j9 l)) (aL:l.length≤4611686018427387904):
 bB Tryz.prog 124 [v,.func 125 []] h fun x J=>x=.bool (!l.all gE)∧Ext h J:=by
 refine TM rfl (bO ?_)
 unfold K1
 simp +contextual only [↓ab,ae,simprocAttr]
 refine aS (Zq l v h H aL) ?_
 rintro x ad ⟨⟨i,rfl,aH⟩,dn⟩
 simp +contextual only [aH,↓ab,ae,simprocAttr]
 exact dn
def jG.enc (r:jG):List V:=[.bool r.x,.bool r.n,.bool r.s,.bool r.tags,.int .i64 r.a0,.int .i64 r.bt,.int .i64 r.a8,.int .i64 r.bc]
theorem oc (h:ai) (aI bo cp eA:cL):Ext h ((((h.new aI).new bo).set (ao (h.next+1)) cp).set (ao h.next) eA):=((((Ext.refl h).new aI).new bo).set (by omega) cp).set (Nat.le_refl _) eA
set_option maxRecDepth 100000 in
theorem afi (k:Int) (aj:k≤0) (h:ai):bB Tryz.prog 119 [.int .i64 k] h fun x J=>x=.tuple [.agg ((fb k).getD jG.none).enc,.bool (fb k).isSome]∧Ext h J:=by
 refine nK rfl (bO ?_)
 unfold na
 have c4:=eq_true aj
 have ba:fb k=none:=by unfold fb;repeat rw [if_neg (by omega)]
 simp +contextual (maxSteps:=1000000) only [c4,ba,↓ab,ae,simprocAttr]
 exact ⟨rfl,oc h _ _ _ _⟩
set_option maxRecDepth 100000 in
theorem afh (k:Int) (ad:13≤k) (h:ai):bB Tryz.prog 119 [.int .i64 k] h fun x J=>x=.tuple [.agg ((fb k).getD jG.none).enc,.bool (fb k).isSome]∧Ext h J:=by
 refine nK rfl (bO ?_)
 unfold na
 have c4:(k≤0)=False:=eq_false (by omega)
 have dZ:=eq_true ad
 have ba:fb k=none:=by unfold fb;repeat rw [if_neg (by omega)]
 simp +contextual (maxSteps:=1000000) only [c4,dZ,ba,↓ab,ae,simprocAttr]
 exact ⟨rfl,oc h _ _ _ _⟩
set_option maxRecDepth 100000 in
theorem afe (h:ai):bB Tryz.prog 119 [.int .i64 8] h fun x J=>x=.tuple [.agg ((fb 8).getD jG.none).enc,.bool (fb 8).isSome]∧Ext h J:=by
 refine nK rfl (bO ?_)
 unfold na
 have ba:fb 8=none:=by decide
 simp +contextual (maxSteps:=1000000) only [ba,↓ab,ae,simprocAttr]
 exact ⟨rfl,oc h _ _ _ _⟩
set_option maxRecDepth 100000 in
theorem ae6 (h:ai):bB Tryz.prog 119 [.int .i64 1] h fun x J=>x=.tuple [.agg ((fb 1).getD jG.none).enc,.bool (fb 1).isSome]∧Ext h J:=by
 refine nK rfl (bO ?_)
 unfold na
 have t0:((1:Int) < ((13:Nat):Int))=True:=eq_true (by decide)
 have t1:(1:Int).toNat=1:=rfl
 simp +contextual (maxSteps:=1000000) only [pV,t0,t1,Nat.reduceMul,Nat.zero_add,↓ab,ae,simprocAttr]
 exact ⟨rfl,oc h _ _ _ _⟩
set_option maxRecDepth 100000 in
theorem ae' (h:ai):bB Tryz.prog 119 [.int .i64 2] h fun x J=>x=.tuple [.agg ((fb 2).getD jG.none).enc,.bool (fb 2).isSome]∧Ext h J:=by
 refine nK rfl (bO ?_)
 unfold na
 have t0:((2:Int) < ((13:Nat):Int))=True:=eq_true (by decide)
 have t1:(2:Int).toNat=2:=rfl
 simp +contextual (maxSteps:=1000000) only [pV,t0,t1,Nat.reduceMul,Nat.zero_add,↓ab,ae,simprocAttr]
 exact ⟨rfl,oc h _ _ _ _⟩
set_option maxRecDepth 100000 in
theorem ae_ (h:ai):bB Tryz.prog 119 [.int .i64 3] h fun x J=>x=.tuple [.agg ((fb 3).getD jG.none).enc,.bool (fb 3).isSome]∧Ext h J:=by
 refine nK rfl (bO ?_)
 unfold na
 have t0:((3:Int) < ((13:Nat):Int))=True:=eq_true (by decide)
 have t1:(3:Int).toNat=3:=rfl
 simp +contextual (maxSteps:=1000000) only [pV,t0,t1,Nat.reduceMul,Nat.zero_add,↓ab,ae,simprocAttr]
 exact ⟨rfl,oc h _ _ _ _⟩
set_option maxRecDepth 100000 in
theorem afa (h:ai):bB Tryz.prog 119 [.int .i64 4] h fun x J=>x=.tuple [.agg ((fb 4).getD jG.none).enc,.bool (fb 4).isSome]∧Ext h J:=by
 refine nK rfl (bO ?_)
 unfold na
 have t0:((4:Int) < ((13:Nat):Int))=True:=eq_true (by decide)
 have t1:(4:Int).toNat=4:=rfl
 simp +contextual (maxSteps:=1000000) only [pV,t0,t1,Nat.reduceMul,Nat.zero_add,↓ab,ae,simprocAttr]
 exact ⟨rfl,oc h _ _ _ _⟩
set_option maxRecDepth 100000 in
theorem afb (h:ai):bB Tryz.prog 119 [.int .i64 5] h fun x J=>x=.tuple [.agg ((fb 5).getD jG.none).enc,.bool (fb 5).isSome]∧Ext h J:=by
 refine nK rfl (bO ?_)
 unfold na
 have t0:((5:Int) < ((13:Nat):Int))=True:=eq_true (by decide)
 have t1:(5:Int).toNat=5:=rfl
 simp +contextual (maxSteps:=1000000) only [pV,t0,t1,Nat.reduceMul,Nat.zero_add,↓ab,ae,simprocAttr]
 exact ⟨rfl,oc h _ _ _ _⟩
set_option maxRecDepth 100000 in
theorem afc (h:ai):bB Tryz.prog 119 [.int .i64 6] h fun x J=>x=.tuple [.agg ((fb 6).getD jG.none).enc,.bool (fb 6).isSome]∧Ext h J:=by
 refine nK rfl (bO ?_)
 unfold na
 have t0:((6:Int) < ((13:Nat):Int))=True:=eq_true (by decide)
 have t1:(6:Int).toNat=6:=rfl
 simp +contextual (maxSteps:=1000000) only [pV,t0,t1,Nat.reduceMul,Nat.zero_add,↓ab,ae,simprocAttr]
 exact ⟨rfl,oc h _ _ _ _⟩
set_option maxRecDepth 100000 in
theorem afd (h:ai):bB Tryz.prog 119 [.int .i64 7] h fun x J=>x=.tuple [.agg ((fb 7).getD jG.none).enc,.bool (fb 7).isSome]∧Ext h J:=by
 refine nK rfl (bO ?_)
 unfold na
 have t0:((7:Int) < ((13:Nat):Int))=True:=eq_true (by decide)
 have t1:(7:Int).toNat=7:=rfl
 simp +contextual (maxSteps:=1000000) only [pV,t0,t1,Nat.reduceMul,Nat.zero_add,↓ab,ae,simprocAttr]
 exact ⟨rfl,oc h _ _ _ _⟩
set_option maxRecDepth 100000 in
theorem aff (h:ai):bB Tryz.prog 119 [.int .i64 9] h fun x J=>x=.tuple [.agg ((fb 9).getD jG.none).enc,.bool (fb 9).isSome]∧Ext h J:=by
 refine nK rfl (bO ?_)
 unfold na
 have t0:((9:Int) < ((13:Nat):Int))=True:=eq_true (by decide)
 have t1:(9:Int).toNat=9:=rfl
 simp +contextual (maxSteps:=1000000) only [pV,t0,t1,Nat.reduceMul,Nat.zero_add,↓ab,ae,simprocAttr]
 exact ⟨rfl,oc h _ _ _ _⟩
set_option maxRecDepth 100000 in
theorem ae7 (h:ai):bB Tryz.prog 119 [.int .i64 10] h fun x J=>x=.tuple [.agg ((fb 10).getD jG.none).enc,.bool (fb 10).isSome]∧Ext h J:=by
 refine nK rfl (bO ?_)
 unfold na
 have t0:((10:Int) < ((13:Nat):Int))=True:=eq_true (by decide)
 have t1:(10:Int).toNat=10:=rfl
 simp +contextual (maxSteps:=1000000) only [pV,t0,t1,Nat.reduceMul,Nat.zero_add,↓ab,ae,simprocAttr]
 exact ⟨rfl,oc h _ _ _ _⟩
set_option maxRecDepth 100000 in
theorem ae8 (h:ai):bB Tryz.prog 119 [.int .i64 11] h fun x J=>x=.tuple [.agg ((fb 11).getD jG.none).enc,.bool (fb 11).isSome]∧Ext h J:=by
 refine nK rfl (bO ?_)
 unfold na
 have t0:((11:Int) < ((13:Nat):Int))=True:=eq_true (by decide)
 have t1:(11:Int).toNat=11:=rfl
 simp +contextual (maxSteps:=1000000) only [pV,t0,t1,Nat.reduceMul,Nat.zero_add,↓ab,ae,simprocAttr]
 exact ⟨rfl,oc h _ _ _ _⟩
set_option maxRecDepth 100000 in
theorem ae9 (h:ai):bB Tryz.prog 119 [.int .i64 12] h fun x J=>x=.tuple [.agg ((fb 12).getD jG.none).enc,.bool (fb 12).isSome]∧Ext h J:=by
 refine nK rfl (bO ?_)
 unfold na
 have t0:((12:Int) < ((13:Nat):Int))=True:=eq_true (by decide)
 have t1:(12:Int).toNat=12:=rfl
 simp +contextual (maxSteps:=1000000) only [pV,t0,t1,Nat.reduceMul,Nat.zero_add,↓ab,ae,simprocAttr]
 exact ⟨rfl,oc h _ _ _ _⟩
theorem afg (k:Int) (h:ai):bB Tryz.prog 119 [.int .i64 k] h fun x J=>x=.tuple [.agg ((fb k).getD jG.none).enc,.bool (fb k).isSome]∧Ext h J:=by
 by_cases aj:k≤0
 · exact afi k aj h
 by_cases ui:13≤k
 · exact afh k ui h
 have:k=1∨k=2∨k=3∨k=4∨k=5∨k=6∨k=7∨k=8∨k=9∨k=10∨k=11∨k=12:=by omega
 rcases this with rfl | rfl | rfl | rfl | rfl | rfl | rfl | rfl | rfl | rfl | rfl | rfl
 · exact ae6 h
 · exact ae' h
 · exact ae_ h
 · exact afa h
 · exact afb h
 · exact afc h
 · exact afd h
 · exact afe h
 · exact aff h
 · exact ae7 h
 · exact ae8 h
 · exact ae9 h
def mK (im:List (List UInt8 × Int)) (n:Nat):List jY:=
 match im with
 | []=>[]
 | x::l=>⟨.str x.1,.int .i64 x.2,n⟩::mK l (n+1)
theorem P9 {k:List UInt8} {v:Int} {c:Nat}:∀(im:List (List UInt8 × Int)) (n:Nat),(im.all fun x=>!decide (k=x.1))=true→
 mj fH.str.eq (.str k) (.int .i64 v) c (mK im n)=some (mK im n++[⟨.str k,.int .i64 v,c⟩],true)
 | [],_,_=>rfl
 | x::l,n,h=>by
   simp only [List.all_cons,Bool.and_eq_true,Bool.not_eq_true',decide_eq_false_iff_not] at h
   have bJ:=P9 (k:=k) (v:=v) (c:=c) l (n+1) (by simpa using h.2)
   have af:py k x.1=false:=by rw [xD];exact decide_eq_false h.1
   simp only [mK,mj,fH.eq,qw,af,cond_false] at bJ ⊢
   rw [bJ]
   rfl
theorem Ng:∀(im:List (List UInt8 × Int)) (n:Nat) (k:List UInt8) (v:Int),mK im n++[⟨.str k,.int .i64 v,n+im.length⟩]=mK (im++[(k,v)]) n
 | [],n,k,v=>rfl
 | x::l,n,k,v=>by
   rw [mK,List.cons_append,List.cons_append,mK,←Ng l (n+1) k v,List.length_cons]
   congr 4
   omega
def H0:List (List UInt8 × Int)→List (List UInt8 × Int)→Bool
 | _,[]=>true
 | l,x::m=>(l.all fun y=>!decide (x.1=y.1))&&H0 (l++[x]) m
def I5 (t:Nat) (x:List UInt8 × Int):bq:=⟨none,.fc .str (.t t) (.c (.str x.1)) (.c (.int .i64 x.2)),none,[t]⟩
theorem QP (h:ai) (b:aV) (k cb:cL):(h.set b k).set b cb=h.set b cb:=by
 unfold ai.set
 simp only [T.yE]
theorem Rk {t:Nat} {os:List bq} {aE:List iK} {Q:cN→bP→ai→Prop} {r:bP} {b:aV} (ba:r t=.map b):∀(m l:List (List UInt8 × Int)) (h:ai),H0 l m=true→h.get b=.mp (mK l 0) l.length→
 bN Tryz.prog (.os none os::aE) .normal r (if m=[] then h else h.set b (.mp (mK (l++m) 0) (l.length+m.length))) Q→bN Tryz.prog (.os none (m.map (I5 t)++os)::aE) .normal r h Q
 | [],l,h,_,_,H=>by simpa using H
 | x::m,l,h,a1,bl,H=>by
   simp only [H0,Bool.and_eq_true] at a1
   rw [List.map_cons,List.cons_append]
   unfold I5
   rw [Dn]
   have aQ:=P9 (k:=x.1) (v:=x.2) (c:=l.length) l 0 a1.1
   have hu:lp fH.str.eq h (.map b) (.str x.1) (.int .i64 x.2)=some (h.set b (.mp (mK (l++[x]) 0) (l.length+1))):=by
    simp only [lp,bl,cL.o6,aQ,cond_true,Option.some.injEq]
    rw [←Ng l 0 x.1 x.2,Nat.zero_add]
   have aI:(bp.t t).br (r.trim [t])=.map b:=by rw [Cz,Ek (by simp),ba]
   rw [aI,xQ,xQ,hu]
   show bN Tryz.prog (.os none (m.map (I5 t)++os)::aE) .normal (r.set none .bad) (h.set b (.mp (mK (l++[x]) 0) (l.length+1))) Q
   refine Rk ba m (l++[x]) _ a1.2 (by rw [dB,if_pos rfl,List.length_append];rfl) ?_
   rw [if_neg (by simp)] at H
   by_cases hm:m=[]
   · subst hm
     simpa using H
   · rw [if_neg hm,QP,List.append_assoc,List.singleton_append,List.length_append,show l.length + [x].length+m.length=l.length + (x::m).length from by simp;omega]
     exact H
def wS:List (List UInt8 × Int):=tj.map (fun s=>(s,2))++ti.map (fun s=>(s,1))++[([99,117,116],3)]
theorem ady (h:ai):bB Tryz.prog 122 [] h fun x J=>x=.map (ao h.next)∧J.get (ao h.next)=.mp (mK wS 0) 18∧Ext h J:=by
 refine TK rfl (bO ?_)
 unfold KY
 simp +contextual only [↓ab,ae,simprocAttr]
 rw [show qX none h=.val (.map (ao h.next)) (h.new (.mp [] 0)) from rfl,IV]
 refine Rk (t:=1) (b:=ao h.next) (by simp only [↓ab,bf,simprocAttr]) wS [] _ (by decide) (by rw [gz];rfl) ?_
 rw [if_neg (by decide)]
 simp +contextual only [↓ab,ae,simprocAttr]
 exact ⟨rfl,((Ext.refl h).new _).set (Nat.le_refl _) _⟩
theorem Ns {k:List UInt8}:∀(im:List (List UInt8 × Int)) (n:Nat),nf fH.str.eq (.str k) (mK im n)=some ((im.find? fun x=>decide (k=x.1)).map fun x=>.int .i64 x.2)
 | [],_=>rfl
 | x::l,n=>by
   simp only [mK,nf,fH.eq,qw,List.find?_cons]
   rw [xD]
   cases h:decide (k=x.1) with
   | true=>rfl
   | false=>exact Ns l (n+1)
theorem af6 (s:List UInt8):(match (wS.find? fun x=>decide (s=x.1)).map (fun x=>x.2) with | some n=>n | none=>0)=eK s:=by
 unfold eK
 by_cases ak:s ∈ tj
 · rw [if_pos ak]
   simp only [tj,List.mem_cons,List.not_mem_nil,or_false] at ak
   rcases ak with rfl | rfl | rfl | rfl | rfl | rfl | rfl | rfl | rfl | rfl | rfl<;>rfl
 rw [if_neg ak]
 by_cases ad:s ∈ ti
 · rw [if_pos ad]
   simp only [ti,List.mem_cons,List.not_mem_nil,or_false] at ad
   rcases ad with rfl | rfl | rfl | rfl | rfl | rfl<;>rfl
 rw [if_neg ad]
 by_cases aB:s=[99,117,116]
 · subst aB;rfl
 rw [if_neg aB]
 have:(wS.find? fun x=>decide (s=x.1))=none:=by
  rw [List.find?_eq_none]
  intro x ax
  simp only [wS,List.mem_append,List.mem_map,List.mem_cons,List.not_mem_nil,or_false] at ax
  simp only [decide_eq_true_eq]
  rcases ax with (⟨y,bG,rfl⟩ | ⟨y,bG,rfl⟩) | rfl
  · rintro rfl;exact ak bG
  · rintro rfl;exact ad bG
  · exact aB
 rw [this]
 rfl
theorem ab0 {h:ai} {b:aV} (bl:h.get b=.mp (mK wS 0) 18) (s:List UInt8):lb fH.str.eq (.int .i64 0) false h (.map b) (.str s)=some (.int .i64 (eK s)):=by
 simp only [lb,r1,bl,cL.o6,Ns,cond_false]
 rw [←af6 s]
 cases (wS.find? fun x=>decide (s=x.1))<;>rfl
theorem QD {a b:Int} (bT:gw a) (af:gw b):-2305843009213693952≤a * b∧a * b≤2305843009213693952:=by
 obtain ⟨bt,b1⟩:=bT
 obtain ⟨bX,cD⟩:=af
 have ad:(a * b).natAbs≤1073741824 * 1073741824:=by
  rw [Int.natAbs_mul]
  exact Nat.mul_le_mul (by omega) (by omega)
 omega
theorem QB {a b:Int} (bT:gw a) (af:b≠0):-1073741824≤a.tdiv b∧a.tdiv b≤1073741824:=by
 have ad:(a.tdiv b).natAbs≤a.natAbs:=by rw [Int.natAbs_tdiv];exact Nat.div_le_self _ _
 obtain ⟨bt,b1⟩:=bT
 omega
theorem QC {a b:Int} (af:gw b) (aj:b≠0):-1073741824≤a.tmod b∧a.tmod b≤1073741824:=by
 obtain ⟨bX,cD⟩:=af
 have ad:(a.tmod b).natAbs<b.natAbs:=by rw [Int.natAbs_tmod];exact Nat.mod_lt _ (by omega)
 omega
theorem abr (a b:Int) (h:ai) (bT:gw a) (af:gw b):∃cs,p4 (.int (wr (a+b)))=some cs∧bB Tryz.prog 78 [.int .i64 a,.int .i64 b] h fun x J=>gX h J x cs:=by
 refine ⟨_,rfl,?_⟩
 have ba:-2305843009213693952≤a+b∧a+b≤2305843009213693952:=by obtain ⟨bt,b1⟩:=bT;obtain ⟨bX,cD⟩:=af;constructor<;>omega
 have w:IntKind.i64.wrap (a+b)=a+b:=wrap_i64 (by omega) (by omega)
 refine UK rfl (bO ?_)
 unfold Mp
 simp +contextual only [w,↓ab,ae,simprocAttr]
 refine ih (Br (a+b) h ba) ?_
 simp +contextual only [w,↓ab,ae,simprocAttr]
 refine aS (r6 h (wr (a+b))) ?_
 rintro x ad F
 simp +contextual only [↓ab,ae,simprocAttr]
 exact F
theorem abz (a b:Int) (h:ai) (bT:gw a) (af:gw b):∃cs,p4 (.int (wr (a-b)))=some cs∧bB Tryz.prog 81 [.int .i64 a,.int .i64 b] h fun x J=>gX h J x cs:=by
 refine ⟨_,rfl,?_⟩
 have ba:-2305843009213693952≤a-b∧a-b≤2305843009213693952:=by obtain ⟨bt,b1⟩:=bT;obtain ⟨bX,cD⟩:=af;constructor<;>omega
 have w:IntKind.i64.wrap (a-b)=a-b:=wrap_i64 (by omega) (by omega)
 refine UN rfl (bO ?_)
 unfold Ms
 simp +contextual only [w,↓ab,ae,simprocAttr]
 refine ih (Br (a-b) h ba) ?_
 simp +contextual only [w,↓ab,ae,simprocAttr]
 refine aS (r6 h (wr (a-b))) ?_
 rintro x ad F
 simp +contextual only [↓ab,ae,simprocAttr]
 exact F
theorem aby (a b:Int) (h:ai) (bT:gw a) (af:gw b):∃cs,p4 (.int (wr (a * b)))=some cs∧bB Tryz.prog 82 [.int .i64 a,.int .i64 b] h fun x J=>gX h J x cs:=by
 refine ⟨_,rfl,?_⟩
 have ba:-2305843009213693952≤a * b∧a * b≤2305843009213693952:=by exact QD bT af
 have w:IntKind.i64.wrap (a * b)=a * b:=wrap_i64 (by omega) (by omega)
 refine UO rfl (bO ?_)
 unfold Mt
 simp +contextual only [w,↓ab,ae,simprocAttr]
 refine ih (Br (a * b) h ba) ?_
 simp +contextual only [w,↓ab,ae,simprocAttr]
 refine aS (r6 h (wr (a * b))) ?_
 rintro x ad F
 simp +contextual only [↓ab,ae,simprocAttr]
 exact F
theorem abu (a b:Int) (h:ai) (bT:gw a) (af:gw b):∃cs,p4 (av.ny (decide (a=b)))=some cs∧bB Tryz.prog 83 [.int .i64 a,.int .i64 b] h fun x J=>gX h J x cs:=by
 refine ⟨_,rfl,?_⟩
 refine UP rfl (bO ?_)
 unfold Mu
 simp +contextual only [↓ab,ae,simprocAttr]
 refine aS (I3 h (decide (a=b))) ?_
 rintro x ad F
 simp +contextual only [↓ab,ae,simprocAttr]
 exact F
theorem abw (a b:Int) (h:ai) (bT:gw a) (af:gw b):∃cs,p4 (av.ny (decide (a<b)))=some cs∧bB Tryz.prog 85 [.int .i64 a,.int .i64 b] h fun x J=>gX h J x cs:=by
 refine ⟨_,rfl,?_⟩
 refine UR rfl (bO ?_)
 unfold Mw
 simp +contextual only [↓ab,ae,simprocAttr]
 refine aS (I3 h (decide (a<b))) ?_
 rintro x ad F
 simp +contextual only [↓ab,ae,simprocAttr]
 exact F
theorem abv (a b:Int) (h:ai) (bT:gw a) (af:gw b):∃cs,p4 (av.ny (decide (a≤b)))=some cs∧bB Tryz.prog 86 [.int .i64 a,.int .i64 b] h fun x J=>gX h J x cs:=by
 refine ⟨_,rfl,?_⟩
 refine US rfl (bO ?_)
 unfold Mx
 simp +contextual only [↓ab,ae,simprocAttr]
 refine aS (I3 h (decide (a≤b))) ?_
 rintro x ad F
 simp +contextual only [↓ab,ae,simprocAttr]
 exact F
theorem abt (a b:Int) (h:ai) (bT:gw a) (af:gw b) (aj:b≠0):lr Tryz.prog 88 [.int .i64 a,.int .i64 b] h (.int .i64 (a.tdiv b)) h∧-2305843009213693952≤a.tdiv b∧a.tdiv b≤2305843009213693952:=by
 have ba:=QB bT aj
 refine ⟨tk (UU rfl (bO ?_)),by omega,by omega⟩
 unfold Mz
 have k:(e4.int .quo).run Tryz.prog (.int .i64 a) (.int .i64 b)=some (.int .i64 (a.tdiv b)):=by
  rw [OR .i64 a b aj,wrap_i64 (by omega) (by omega)]
 simp +contextual only [k,↓ab,ae,simprocAttr]
theorem abx (a b:Int) (h:ai) (bT:gw a) (af:gw b) (aj:b≠0):lr Tryz.prog 89 [.int .i64 a,.int .i64 b] h (.int .i64 (a.tmod b)) h∧-2305843009213693952≤a.tmod b∧a.tmod b≤2305843009213693952:=by
 have ba:=QC (a:=a) af aj
 refine ⟨tk (UW rfl (bO ?_)),by omega,by omega⟩
 unfold MA
 have k:(e4.int .rem).run Tryz.prog (.int .i64 a) (.int .i64 b)=some (.int .i64 (a.tmod b)):=by
  rw [Dm .i64 a b aj]
 simp +contextual only [k,↓ab,ae,simprocAttr]
theorem yL (f:FuncId) (h:ai):bB Tryz.prog 77 [.func f []] h fun x J=>∃b,x=.func 145 [.ptr b 0]∧Ext h J∧h.next≤cx b∧Old J b∧J.get b=.au [.func f []] 0 false:=by
 refine UJ rfl (bO ?_)
 unfold Mo
 simp +contextual only [↓ab,ae,simprocAttr]
 exact ⟨_,rfl,(Ext.refl h).new _,by rw [c'];exact Nat.le_refl _,uQ,if_pos rfl⟩
theorem M1 (f:FuncId) (h:ai):bB Tryz.prog 87 [.func f []] h fun x J=>∃b,x=.func 147 [.ptr b 0]∧Ext h J∧h.next≤cx b∧Old J b∧J.get b=.au [.func f []] 0 false:=by
 refine UT rfl (bO ?_)
 unfold My
 simp +contextual only [↓ab,ae,simprocAttr]
 exact ⟨_,rfl,(Ext.refl h).new _,by rw [c'];exact Nat.le_refl _,uQ,if_pos rfl⟩
def jf (im:List (List UInt8 × V)) (n:Nat):List jY:=
 match im with
 | []=>[]
 | x::l=>⟨.str x.1,x.2,n⟩::jf l (n+1)
theorem P' {k:List UInt8} {v:V} {c:Nat}:∀(im:List (List UInt8 × V)) (n:Nat),(im.all fun x=>!decide (k=x.1))=true→
 mj fH.str.eq (.str k) v c (jf im n)=some (jf im n++[⟨.str k,v,c⟩],true)
 | [],_,_=>rfl
 | x::l,n,h=>by
   simp only [List.all_cons,Bool.and_eq_true,Bool.not_eq_true',decide_eq_false_iff_not] at h
   have bJ:=P' (k:=k) (v:=v) (c:=c) l (n+1) (by simpa using h.2)
   have af:py k x.1=false:=by rw [xD];exact decide_eq_false h.1
   simp only [jf,mj,fH.eq,qw,af,cond_false] at bJ ⊢
   rw [bJ]
   rfl
theorem Nj:∀(im:List (List UInt8 × V)) (n:Nat) (k:List UInt8) (v:V),jf im n++[⟨.str k,v,n+im.length⟩]=jf (im++[(k,v)]) n
 | [],n,k,v=>rfl
 | x::l,n,k,v=>by
   rw [jf,List.cons_append,List.cons_append,jf,←Nj l (n+1) k v,List.length_cons]
   congr 4
   omega
theorem I8 {h:ai} {b:aV} {l:List (List UInt8 × V)} {k:List UInt8} {v:V} (bl:h.get b=.mp (jf l 0) l.length) (a1:(l.all fun x=>!decide (k=x.1))=true):
 lp fH.str.eq h (.map b) (.str k) v=some (h.set b (.mp (jf (l++[(k,v)]) 0) (l.length+1))):=by
 have aQ:=P' (v:=v) (c:=l.length) l 0 a1
 simp only [lp,bl,cL.o6,aQ,cond_true,Option.some.injEq]
 rw [←Nj l 0 k v,Nat.zero_add]
def H2:List (List UInt8 × V)→List (List UInt8 × V)→Bool
 | _,[]=>true
 | l,x::m=>(l.all fun y=>!decide (x.1=y.1))&&H2 (l++[x]) m
def I6 (t:Nat) (x:List UInt8 × V):bq:=⟨none,.fc .str (.t t) (.c (.str x.1)) (.c x.2),none,[t]⟩
theorem Rl {t:Nat} {os:List bq} {aE:List iK} {Q:cN→bP→ai→Prop} {r:bP} {b:aV} (ba:r t=.map b):∀(m l:List (List UInt8 × V)) (h:ai),H2 l m=true→h.get b=.mp (jf l 0) l.length→
 bN Tryz.prog (.os none os::aE) .normal r (if m=[] then h else h.set b (.mp (jf (l++m) 0) (l.length+m.length))) Q→bN Tryz.prog (.os none (m.map (I6 t)++os)::aE) .normal r h Q
 | [],l,h,_,_,H=>by simpa using H
 | x::m,l,h,a1,bl,H=>by
   simp only [H2,Bool.and_eq_true] at a1
   rw [List.map_cons,List.cons_append]
   unfold I6
   rw [Dn]
   have hu:=I8 (v:=x.2) bl a1.1
   have aI:(bp.t t).br (r.trim [t])=.map b:=by rw [Cz,Ek (by simp),ba]
   rw [aI,xQ,xQ,hu]
   show bN Tryz.prog (.os none (m.map (I6 t)++os)::aE) .normal (r.set none .bad) (h.set b (.mp (jf (l++[x]) 0) (l.length+1))) Q
   refine Rl ba m (l++[x]) _ a1.2 (by rw [dB,if_pos rfl,List.length_append];rfl) ?_
   rw [if_neg (by simp)] at H
   by_cases hm:m=[]
   · subst hm
     simpa using H
   · rw [if_neg hm,QP,List.append_assoc,List.singleton_append,List.length_append,show l.length + [x].length+m.length=l.length + (x::m).length from by simp;omega]
     exact H
theorem agp {t:Nat} {x:bp} {rs:List Nat} {os:List bq} {aE:List iK} {Q:cN→bP→ai→Prop} {r:bP} {h:ai} {b:aV} {l:List (List UInt8 × V)} {k:List UInt8} {v:V} (ba:(r.trim rs) t=.map b) (ax:x.br (r.trim rs)=v) (bl:h.get b=.mp (jf l 0) l.length) (a1:(l.all fun x=>!decide (k=x.1))=true)
 (H:bN Tryz.prog (.os none os::aE) .normal r (h.set b (.mp (jf (l++[(k,v)]) 0) (l.length+1))) Q):bN Tryz.prog (.os none (⟨none,.fc .str (.t t) (.c (.str k)) x,none,rs⟩::os)::aE) .normal r h Q:=by
 rw [Dn,Cz,xQ,ba,ax,I8 bl a1]
 exact H
theorem Nv {k:List UInt8}:∀(im:List (List UInt8 × V)) (n:Nat),nf fH.str.eq (.str k) (jf im n)=some ((im.find? fun x=>decide (k=x.1)).map fun x=>x.2)
 | [],_=>rfl
 | x::l,n=>by
   simp only [jf,nf,fH.eq,qw,List.find?_cons]
   rw [xD]
   cases h:decide (k=x.1) with
   | true=>rfl
   | false=>exact Nv l (n+1)
def Ci (cQ bX cD e5 g8 hE jr kE:aV):List (List UInt8 × V):=[]++[([97,100,100],.func 145 [.ptr cQ 0])]++[([115,117,98],.func 145 [.ptr bX 0])]++[([109,117,108],.func 145 [.ptr cD 0])]++[([101,113],.func 145 [.ptr e5 0])]++[([108,116],.func 145 [.ptr g8 0])]++[([108,101],.func 145 [.ptr hE 0])]++[([100,105,118],.func 147 [.ptr jr 0])]++[([109,111,100],.func 147 [.ptr kE 0])]
def CN:List (List UInt8 × V):=[([110,101,103],.func 90 []),([103,101,116,99],.func 91 []),([112,117,116,99],.func 92 []),([112,117,116,115],.func 93 []),([115,105,122,101],.func 94 []),([99,104,114],.func 95 []),([98,121,116,101],.func 96 []),([99,117,116],.func 97 []),([106,111,105,110],.func 98 []),([115,101,116],.func 99 [])]
def BC (h:ai) (pm:V):Prop:=∃cQ bX cD e5 g8 hE jr kE b,pm=.map b∧Old h b∧h.get b=.mp (jf (Ci cQ bX cD e5 g8 hE jr kE++CN) 0) 18∧(Old h cQ∧h.get cQ=.au [.func 78 []] 0 false)∧(Old h bX∧h.get bX=.au [.func 81 []] 0 false)∧(Old h cD∧h.get cD=.au [.func 82 []] 0 false)∧(Old h e5∧h.get e5=.au [.func 83 []] 0 false)∧(Old h g8∧h.get g8=.au [.func 85 []] 0 false)∧(Old h hE∧h.get hE=.au [.func 86 []] 0 false)∧(Old h jr∧h.get jr=.au [.func 88 []] 0 false)∧(Old h kE∧h.get kE=.au [.func 89 []] 0 false)
theorem tY {h g k:ai} {n:Nat} {b:aV} {l:List (List UInt8 × V)} {kF:List (aV × FuncId)} {f:FuncId} (key:List UInt8) (fn:V) (hm:h.next≤n) (x:Ext h g) (m:g.get (ao n)=.mp (jf l 0) l.length) (q:Old g (ao n)) (B:∀p ∈ kF,p.1≠(ao n)∧Old g p.1∧g.get p.1=.au [.func p.2 []] 0 false) (y:Ext g k) (u:g.next≤cx b) (o:Old k b) (v:k.get b=.au [.func f []] 0 false) (a1:(l.all fun x=>!decide (key=x.1))=true):
 k.get (ao n)=.mp (jf l 0) l.length∧∃eR,eR=k.set (ao n) (.mp (jf (l++[(key,fn)]) 0) (l.length+1))∧lp fH.str.eq k (.map (ao n)) (.str key) fn=some eR∧eR.get (ao n)=.mp (jf (l++[(key,fn)]) 0) (l++[(key,fn)]).length∧Old eR (ao n)∧Ext h eR∧∀p ∈ (b,f)::kF,p.1≠(ao n)∧Old eR p.1∧eR.get p.1=.au [.func p.2 []] 0 false:=by
 have w:=(y.get _ q).trans m
 refine ⟨w,_,rfl,I8 w a1,?_,y.b5 q,(x.trans y).set hm _,?_⟩
 · rw [dB,if_pos rfl,List.length_append];rfl
 · have af:b≠(ao n):=fun e=>by rw [e] at u;unfold Old at q;omega
   intro p aQ
   rcases List.mem_cons.mp aQ with rfl | aQ
   · exact ⟨af,o,by rw [dB,if_neg (fun e=>af e.symm),v]⟩
   · obtain ⟨b_,ch,cI⟩:=B p aQ
     exact ⟨b_,y.b5 ch,by rw [dB,if_neg (fun e=>b_ e.symm),y.get _ ch,cI]⟩
set_option maxHeartbeats 4000000 in
theorem VU (h:ai):bB Tryz.prog 58 [] h fun x J=>BC J x∧Ext h J:=by
 refine Uu rfl (bO ?_)
 unfold L3
 simp +contextual only [↓ab,ae,simprocAttr]
 rw [show qX none h=.val (.map (ao h.next)) (h.new (.mp [] 0)) from rfl,IV]
 have ay:Ext h (h.new (.mp [] 0)):=(Ext.refl h).new _
 have ab2:(h.new (.mp [] 0)).get (ao h.next)=.mp (jf [] 0) ([]:List (List UInt8 × V)).length:=gz _
 have tl:Old (h.new (.mp [] 0)) (ao h.next):=uQ
 have hm:h.next≤h.next:=Nat.le_refl _
 have zj:∀p ∈ ([]:List (aV × FuncId)),p.1≠ao h.next∧Old (h.new (.mp [] 0)) p.1∧(h.new (.mp [] 0)).get p.1=.au [.func p.2 []] 0 false:=fun p aQ=>absurd aQ (by simp)
 generalize h.new (.mp [] 0)=bV at *
 simp +contextual only [↓ab,ae,simprocAttr]
 refine aS (yL 78 bV) ?_
 rintro x dC ⟨cQ,rfl,ag4,agh,ey,v0⟩
 obtain ⟨aR,bH,aW,d0,ym,aP,bx,dO⟩:=tY [97,100,100] (.func 145 [.ptr cQ 0]) hm ay ab2 tl zj ag4 agh ey v0 (by rfl)
 simp +contextual only [d0,↓ab,ae,simprocAttr]
 refine aS (yL 81 bH) ?_
 rintro x bS ⟨bX,rfl,pk,gC,dj,v1⟩
 obtain ⟨dH,bM,bU,d1,Dw,aA,fC,fI⟩:=tY [115,117,98] (.func 145 [.ptr bX 0]) hm bx ym aP dO pk gC dj v1 (by rfl)
 simp +contextual only [d1,↓ab,ae,simprocAttr]
 refine aS (yL 82 bM) ?_
 rintro x cF ⟨cD,rfl,rb,g3,eW,v2⟩
 obtain ⟨dq,cT,gH,d2,gh,a2,om,h7⟩:=tY [109,117,108] (.func 145 [.ptr cD 0]) hm fC Dw aA fI rb g3 eW v2 (by rfl)
 simp +contextual only [d2,↓ab,ae,simprocAttr]
 refine aS (yL 83 cT) ?_
 rintro x gS ⟨e5,rfl,re,gk,fz,v3⟩
 obtain ⟨hA,fF,ah9,d3,r0,b',p_,Sn⟩:=tY [101,113] (.func 145 [.ptr e5 0]) hm om gh a2 h7 re gk fz v3 (by rfl)
 simp +contextual only [d3,↓ab,ae,simprocAttr]
 refine aS (yL 85 fF) ?_
 rintro x kL ⟨g8,rfl,w6,Bn,yx,v4⟩
 obtain ⟨ix,gY,ah',d4,Pe,da,u7,Sp⟩:=tY [108,116] (.func 145 [.ptr g8 0]) hm p_ r0 b' Sn w6 Bn yx v4 (by rfl)
 simp +contextual only [d4,↓ab,ae,simprocAttr]
 refine aS (yL 86 gY) ?_
 rintro x qS ⟨hE,rfl,Jg,yN,yy,v5⟩
 obtain ⟨aiF,ke,ah_,d5,ab5,eh,w5,Sq⟩:=tY [108,101] (.func 145 [.ptr hE 0]) hm u7 Pe da Sp Jg yN yy v5 (by rfl)
 simp +contextual only [d5,↓ab,ae,simprocAttr]
 refine aS (M1 88 ke) ?_
 rintro x yh ⟨jr,rfl,Jh,agi,AR,v6⟩
 obtain ⟨aiG,ug,aia,d6,ab6,eE,agU,Sr⟩:=tY [100,105,118] (.func 147 [.ptr jr 0]) hm w5 ab5 eh Sq Jh agi AR v6 (by rfl)
 simp +contextual only [d6,↓ab,ae,simprocAttr]
 refine aS (M1 89 ug) ?_
 rintro x yi ⟨kE,rfl,ag5,agj,AS,tB⟩
 obtain ⟨agx,vC,ZB,d7,ab7,fa,agV,Ss⟩:=tY [109,111,100] (.func 147 [.ptr kE 0]) hm agU ab6 eE Sr ag5 agj AS tB (by rfl)
 refine agp (b:=ao h.next) (v:=.func 147 [.ptr kE 0]) (by simp only [↓ab,bf,simprocAttr]) (by simp only [↓ab,bf,simprocAttr]) agx (by rfl) ?_
 rw [←ZB]
 refine Rl (t:=1) (b:=ao h.next) (by simp only [↓ab,bf,simprocAttr]) CN (Ci cQ bX cD e5 g8 hE jr kE) vC (by rfl) ab7 ?_
 rw [if_neg (by decide)]
 simp +contextual only [↓ab,ae,simprocAttr]
 have V:∀b f,(b,f) ∈ [(kE,89),(jr,88),(hE,86),(g8,85),(e5,83),(cD,82),(bX,81),(cQ,78)]→Old vC b∧(vC.set (ao h.next) (.mp (jf (Ci cQ bX cD e5 g8 hE jr kE++CN) 0) ((Ci cQ bX cD e5 g8 hE jr kE).length+CN.length))).get b=.au [.func f []] 0 false:=fun b f af=>by
  obtain ⟨b_,ch,cI⟩:=Ss (b,f) af
  exact ⟨ch,by rw [dB,if_neg (fun e=>b_ e.symm),cI]⟩
 exact ⟨⟨cQ,bX,cD,e5,g8,hE,jr,kE,ao h.next,rfl,fa,by rw [dB,if_pos rfl];rfl,V cQ 78 (by simp),V bX 81 (by simp),V cD 82 (by simp),V e5 83 (by simp),V g8 85 (by simp),V hE 86 (by simp),V jr 88 (by simp),V kE 89 (by simp)⟩,agV.set (Nat.le_refl _) _⟩
theorem lH {h:ai} {b:aV} {im:List (List UInt8 × V)} {c:Nat} (bl:h.get b=.mp (jf im 0) c) (s:List UInt8) {v:V} (ar:((im.find? fun x=>decide (s=x.1)).map fun x=>x.2)=some v):lb fH.str.eq .kN false h (.map b) (.str s)=some v:=by
 simp only [lb,r1,bl,cL.o6,Nv,cond_false,ar]
theorem O7 {bu:List Nat} (h:(bu.length:Int)=1):∃aW,bu=[aW]:=by
 match bu,h with
 | [a],_=>exact ⟨a,rfl⟩
 | [],h=>simp at h
 | _::_::_,h=>simp only [List.length_cons] at h;omega
theorem O8 {bu:List Nat} (h:(bu.length:Int)=2):∃aW bU,bu=[aW,bU]:=by
 match bu,h with
 | [a,b],_=>exact ⟨a,b,rfl⟩
 | [],h=>simp at h
 | [_],h=>simp at h
 | _::_::_::_,h=>simp only [List.length_cons] at h;omega
theorem O9 {bu:List Nat} (h:(bu.length:Int)=3):∃aW bU gH,bu=[aW,bU,gH]:=by
 match bu,h with
 | [a,b,c],_=>exact ⟨a,b,c,rfl⟩
 | [],h=>simp at h
 | [_],h=>simp at h
 | [_,_],h=>simp at h
 | _::_::_::_::_,h=>simp only [List.length_cons] at h;omega
section
variable {aj h J:ai} {an:aV} {K:fl} {aq:List aV} {aO pm:V} {S:av} {steps:Int} {dS bZ b4 bj:V}
theorem adx (D:BC aj pm) (M:dr aj h an K aq aO pm S steps) (O:Ok S) {aN:List UInt8} (en:cj aj 1 aO aN.length (dt aN)) (hlen:aN.length≤1073741824) (fx:S.read≤aN.length)
 {bu:List Nat} {az:V} (A:ek h aq bu az) {s:List UInt8} (aM:(bu.length:Int)=eK s) (ad:0<eK s):
 ∃f cs,lb fH.str.eq .kN false h pm (.str s)=some (.func f cs)∧bB Tryz.prog f ([.ptr an 0,az]++cs) h fun x J=>∃aK aJ,dr aj J an aK aJ aO pm (S.n_ aN s bu) steps:=by
 obtain ⟨cQ,bX,cD,e5,g8,hE,jr,kE,b,rfl,lh,ik,⟨ey,bV⟩,⟨dj,bH⟩,⟨eW,bM⟩,⟨fz,cT⟩,⟨yx,fF⟩,⟨yy,gY⟩,⟨AR,ke⟩,⟨AS,ug⟩⟩:=D
 have E:Ext aj h:=by obtain ⟨_,_,_,_,M⟩:=M;exact M.rep.ext
 have lF:=(E.get _ lh).trans ik
 by_cases ak:s ∈ tj
 · have aF:eK s=2:=by unfold eK;rw [if_pos ak]
   rw [aF] at aM
   obtain ⟨aW,bU,rfl⟩:=O8 aM
   simp only [tj,List.mem_cons,List.not_mem_nil,or_false] at ak
   rcases ak with rfl | rfl | rfl | rfl | rfl | rfl | rfl | rfl | rfl | rfl | rfl
   · exact ⟨145,[.ptr cQ 0],lH lF _ rfl,yM M O A (fun a b=>.int (wr (a+b))) bV ey abr⟩
   · exact ⟨145,[.ptr bX 0],lH lF _ rfl,yM M O A (fun a b=>.int (wr (a-b))) bH dj abz⟩
   · exact ⟨145,[.ptr cD 0],lH lF _ rfl,yM M O A (fun a b=>.int (wr (a * b))) bM eW aby⟩
   · exact ⟨147,[.ptr jr 0],lH lF _ rfl,M3 M O A (fun a b=>a.tdiv b) ke AR abt⟩
   · exact ⟨147,[.ptr kE 0],lH lF _ rfl,M3 M O A (fun a b=>a.tmod b) ug AS abx⟩
   · exact ⟨145,[.ptr e5 0],lH lF _ rfl,yM M O A (fun a b=>av.ny (decide (a=b))) cT fz abu⟩
   · exact ⟨145,[.ptr g8 0],lH lF _ rfl,yM M O A (fun a b=>av.ny (decide (a<b))) fF yx abw⟩
   · exact ⟨145,[.ptr hE 0],lH lF _ rfl,yM M O A (fun a b=>av.ny (decide (a≤b))) gY yy abv⟩
   · exact ⟨96,[],lH lF _ rfl,To M O A⟩
   · exact ⟨98,[],lH lF _ rfl,ZC M O A⟩
   · exact ⟨99,[],lH lF _ rfl,afr M O A⟩
 by_cases aB:s ∈ ti
 · have aF:eK s=1:=by unfold eK;rw [if_neg ak,if_pos aB]
   rw [aF] at aM
   obtain ⟨aW,rfl⟩:=O7 aM
   simp only [ti,List.mem_cons,List.not_mem_nil,or_false] at aB
   rcases aB with rfl | rfl | rfl | rfl | rfl | rfl
   · exact ⟨90,[],lH lF _ rfl,acp M O A⟩
   · exact ⟨91,[],lH lF _ rfl,WH M O en hlen fx⟩
   · exact ⟨92,[],lH lF _ rfl,adG M O A⟩
   · exact ⟨93,[],lH lF _ rfl,adH M O A⟩
   · exact ⟨94,[],lH lF _ rfl,afC M O A⟩
   · exact ⟨95,[],lH lF _ rfl,Vw M O A⟩
 by_cases bw:s=[99,117,116]
 · subst bw
   have aF:eK [99,117,116]=3:=by decide
   rw [aF] at aM
   obtain ⟨aW,bU,gH,rfl⟩:=O9 aM
   · exact ⟨97,[],lH lF _ rfl,VQ M O A⟩
 · unfold eK at ad
   rw [if_neg ak,if_neg aB,if_neg bw] at ad
   omega
end
end Go.Proofs.YtjbiefneffiogaaGreat
namespace Go.Proofs.YtjbiefneffiogaaGreat
open Go bs
section
variable {aj h J:ai} {an:aV} {K aK:fl} {aq:List aV} {aO pm:V} {S:av} {steps:Int} {dS bZ b4 bj:V}
theorem hR.r3 {Y:mF} {st:List eF} (M:hR Y aj h K aq st) {P:aV→Prop} (m:Mod P h J) (jx:∀b,P b→K b=.no∧aj.next≤cx b):c8 aj K h aq K J aq (fun _=>False):=by
 refine ⟨m.next,fun _ _=>rfl,fun _ q hg=>absurd q hg,fun b af _=>m.get b (M.new b af).2 fun q=>af (jx b q).1,fun b af=>m.get b (Nat.lt_of_lt_of_le af M.ext.next) fun q=>?_,[],by simp⟩
 have:=(jx b q).2
 omega
theorem ed.r3 (M:ed aj h an K aq aO pm S steps dS bZ b4 bj) {P:aV→Prop} (m:Mod P h J) (jx:∀b,P b→K b=.no∧aj.next≤cx b):ed aj J an K aq aO pm S steps dS bZ b4 bj:=by
 refine M.cu (M.rep.r3 m jx) ?_ ?_ ?_ ?_ ?_ ?_<;>simp
theorem av.Kf (S:av) (l:List At) {i:Nat} (aH:i<l.length):S.atoms (l.take (i+1))=((((S.atoms (l.take i)).1).atom l[i]).1,(S.atoms (l.take i)).2++[(((S.atoms (l.take i)).1).atom l[i]).2]):=by
 unfold av.atoms
 rw [List.take_succ_eq_append_getElem aH,List.foldl_append]
 rfl
theorem av.S3 (S:av) (a:At):(S.atom a).1.e=S.e∧(S.atom a).1.c=S.c∧(S.atom a).1.w=S.w∧(S.atom a).1.out=S.out∧(S.atom a).1.read=S.read:=by
 unfold av.atom
 split
 · exact ⟨rfl,rfl,rfl,rfl,rfl⟩
 · split<;>exact ⟨rfl,rfl,rfl,rfl,rfl⟩
theorem av.l3 (S:av) (l:List At):(S.atoms l).1.e=S.e∧(S.atoms l).1.c=S.c∧(S.atoms l).1.w=S.w∧(S.atoms l).1.out=S.out∧(S.atoms l).1.read=S.read∧(S.atoms l).2.length=l.length:=by
 have key:∀(l:List At) (p:av × List Nat),(l.foldl av.oI p).1.e=p.1.e∧(l.foldl av.oI p).1.c=p.1.c∧(l.foldl av.oI p).1.w=p.1.w∧(l.foldl av.oI p).1.out=p.1.out∧(l.foldl av.oI p).1.read=p.1.read∧(l.foldl av.oI p).2.length=p.2.length+l.length:=by
  intro l
  induction l with
  | nil=>intro p;exact ⟨rfl,rfl,rfl,rfl,rfl,rfl⟩
  | cons a l bJ=>
    intro p
    obtain ⟨bt,b1,a3,a4,a5,jH⟩:=bJ (av.oI p a)
    obtain ⟨bX,cD,e5,g8,hE⟩:=av.S3 p.1 a
    rw [List.foldl_cons]
    refine ⟨bt.trans bX,b1.trans cD,a3.trans e5,a4.trans g8,a5.trans hE,?_⟩
    rw [jH];simp only [av.oI,List.length_append,List.length_cons,List.length_nil];omega
 have:=key l (S,[])
 simpa [av.atoms] using this
set_option maxHeartbeats 2000000 in
theorem px (M:ed aj h an K aq aO pm S steps dS bZ b4 bj) (bh:∀a ∈ S.c.a,a.k=1→a.n ∈ S.e.map Prod.fst) (aL:S.c.a.length≤1048576):
 bB Tryz.prog 100 [.ptr an 0] h fun x J=>∃aK aJ,ed aj J an aK aJ aO pm (S.atoms S.c.a).1 steps dS bZ b4 bj∧cn h.next J 1 x (S.atoms S.c.a).2.length ((S.atoms S.c.a).2.map (cV aJ))∧(∀j ∈ (S.atoms S.c.a).2,j<aJ.length)∧∀b,x.bb b→aK b=.no:=by
 obtain ⟨fo,co,aX,a6,az,rfl,dv,eL,cJ,dT⟩:=M.co.open
 have Fa:=M.rep.ext.next
 have cE:=M.get
 have lc:=dT h M.rep.ext
 have hlen:=dv.len
 refine Tq rfl (bO ?_)
 unfold Kv
 simp +contextual only [cE,lc.2.2.2.2.1,hlen,↓ab,ae,simprocAttr]
 refine fV (fun r J=>r 0=.ptr an 0∧r 12=aX∧r 13=.int .i64 S.c.a.length∧∃i:Nat,r 14=.int .i64 i∧i≤S.c.a.length∧∃aK aJ v,r 3=v∧ed aj J an aK aJ aO pm (S.atoms (S.c.a.take i)).1 steps (.ptr fo co) bZ b4 bj∧h.next≤J.next∧
  cn h.next J 1 v i ((S.atoms (S.c.a.take i)).2.map (cV aJ))∧(∀j ∈ (S.atoms (S.c.a.take i)).2,j<aJ.length)∧∀b,v.bb b→aK b=.no) (fun r J=>S.c.a.length - (r 14).gV) ?_ ?_
 · exact ⟨by simp only [↓ab,bf,simprocAttr],by simp only [↓ab,bf,simprocAttr],by simp only [↓ab,bf,simprocAttr],0,by simp only [↓ab,bf,simprocAttr]<;>rfl,by omega,K,aq,.aw,by simp only [↓ab,bf,simprocAttr],M,Nat.le_refl _,⟨rfl,rfl⟩,(by intro j q;cases q),fun b q=>q.elim⟩
 · rintro r J ⟨bm,o',o_,i,p6,aH,aK,aJ,v,cl,M,a1,dO,fI,h7⟩
   unfold Kw
   by_cases a7:i<S.c.a.length
   · have bV:((i:Int) < (S.c.a.length:Int))=True:=eq_true (by omega)
     have RY:=(dv.ext M.rep.ext)
     obtain ⟨b,o,b9,cG,_⟩:=xB RY (k:=.i64) a7
     have w:=g4 a7 (by omega)
     obtain ⟨kG,cW,k2,nd,l5,hv⟩:=av.l3 S (S.c.a.take i)
     have g':=av.Kf S S.c.a a7
     have jM:(S.atoms (S.c.a.take i)).2.length=i:=by rw [hv,List.length_take];omega
     have sX:S.c.a[i] ∈ S.c.a:=List.getElem_mem a7
     generalize ahN:S.c.a[i]=a at *
     obtain ⟨j0,g7,hW⟩:=a
     have hold:Old J an:=M.b5.2
     have eB:(ao J.next=an)=False:=gi hold (Nat.le_refl _)
     have gr:(an=ao J.next)=False:=lM hold (Nat.le_refl _)
     have hn:aK (ao J.next)=.no:=M.rep.tmp (by rw [c'];exact Nat.le_refl _)
     have aI:Ext J (J.new (.au [.int .i64 0,.int .i64 0,.str []] 0 false)):=(Ext.refl J).new _
     have aD:=(M.ext aI).tmp (b:=ao J.next) (k:=.au [.int .i64 j0,.int .i64 g7,.str hW] 0 false) hn (by rw [c'];exact M.rep.ext.next)
     have h6:Ext J ((J.new (.au [.int .i64 0,.int .i64 0,.str []] 0 false)).set (ao J.next) (.au [.int .i64 j0,.int .i64 g7,.str hW] 0 false)):=aI.set (Nat.le_refl _) _
     have enc:At.enc ⟨j0,g7,hW⟩=[.int .i64 j0,.int .i64 g7,.str hW]:=rfl
     rw [enc] at cG
     have zk:=dO.ext h6
     have jW:((J.new (.au [.int .i64 0,.int .i64 0,.str []] 0 false)).set (ao J.next) (.au [.int .i64 j0,.int .i64 g7,.str hW] 0 false)).get (ao J.next)=.au [.int .i64 j0,.int .i64 g7,.str hW] 0 false:=by rw [dB,if_pos rfl]
     by_cases bS:j0=1
     · subst bS
       have dY:=aD.get
       simp only [dB,eG] at dY
       simp +contextual only [bm,o',o_,p6,cl,bV,b9,cG,eB,gr,M.get,↓ab,ae,simprocAttr]
       have oS:g7 ∈ S.e.map Prod.fst:=bh ⟨1,g7,hW⟩ sX rfl
       rw [←kG] at oS
       refine aS (Wl _ aK aJ g7 bZ _ aD.dy oS) ?_
       rintro x ak ⟨rfl,rfl,aM⟩
       generalize rF:((J.new (.au [.int .i64 0,.int .i64 0,.str []] 0 false)).set (ao J.next) (.au [.int .i64 1,.int .i64 g7,.str hW] 0 false))=H1 at *
       have rK:=h6.next
       obtain ⟨db,aB,b_,ch,cI,ga,fG⟩:=ja (cs:=[.ptr (dX aJ (mn (S.atoms (S.c.a.take i)).1.e g7)) 0]) (by omega) zk (by omega) (by unfold top;omega) rfl rfl
       have vD:=aD.get
       have dx:=ch.v.one
       simp +contextual only [cV,bm,o',o_,p6,cl,bV,b9,cG,eB,gr,M.get,vD,jW,b_,w,dx.1,dx.2.1,↓ab,ae,simprocAttr]
       rw [kG] at aM
       have z1:(S.atoms (S.c.a.take i)).1.atom ⟨1,g7,hW⟩=((S.atoms (S.c.a.take i)).1,mn S.e g7):=by simp only [av.atom,if_true,kG]
       rw [z1] at g'
       refine ⟨⟨i+1,rfl,a7,aK,aJ,?_⟩,by omega⟩
       rw [g']
       refine ⟨aD.r3 cI (fun b q=>⟨h7 b q,by have:=dO.base q;have:=Fa;omega⟩),by omega,?_,?_,?_⟩
       · rw [List.map_append];rw [kG] at ch;exact ch
       · intro j q
         rcases List.mem_append.1 q with q | q
         · exact fI j q
         · simp only [List.mem_cons,List.not_mem_nil,or_false] at q;subst q;exact aM
       · intro b q
         rcases fG b q with q | q
         · exact h7 b q
         · exact aD.rep.tmp (by omega)
     by_cases cF:j0=2
     · have wu:=eq_false bS;have uF:=eq_true cF
       have dY:=aD.get
       simp only [dB,eG] at dY
       simp +contextual only [bm,o',o_,p6,cl,bV,b9,cG,eB,gr,wu,uF,M.get,↓ab,ae,simprocAttr]
       refine aS (r6 _ g7) ?_
       rintro x ak F
       generalize rF:((J.new (.au [.int .i64 0,.int .i64 0,.str []] 0 false)).set (ao J.next) (.au [.int .i64 j0,.int .i64 g7,.str hW] 0 false))=H1 at *
       obtain ⟨er,gg,M2,rfl,aM,t⟩:=aD.make (v:=.int g7) F rfl
       obtain ⟨_,_,bo,_⟩:=F
       have rK:=h6.next
       have sY:=bo.next
       have tR:=zk.ext bo
       rw [←t.yD fI] at tR
       obtain ⟨db,aB,b_,ch,cI,ga,fG⟩:=ja (cs:=[.ptr (dX gg (S.atoms (S.c.a.take i)).1.st.length) 0]) (by omega) tR (by omega) (by unfold top;omega) rfl rfl
       have vD:=M2.get
       have dx:=ch.v.one
       simp +contextual only [cV,bm,o',o_,p6,cl,bV,b9,cG,eB,gr,M.get,vD,jW,wu,uF,b_,w,dx.1,dx.2.1,↓ab,ae,simprocAttr]
       have z1:(S.atoms (S.c.a.take i)).1.atom ⟨j0,g7,hW⟩=((S.atoms (S.c.a.take i)).1.fW (.int g7),(S.atoms (S.c.a.take i)).1.st.length):=by
        simp only [av.atom,if_neg bS,if_pos cF]
       rw [z1] at g'
       refine ⟨⟨i+1,rfl,a7,er,gg,?_⟩,by omega⟩
       rw [g']
       have mG:∀b,v.bb b→er b=.no:=fun b q=>by
        by_cases aA:er b=.no
        · exact aA
        · have:=t.fresh b (h7 b q) aA
          have:=zk.v.b5 q
          unfold Old at this
          omega
       refine ⟨M2.r3 cI (fun b q=>⟨mG b q,by have:=dO.base q;have:=Fa;omega⟩),by omega,?_,?_,?_⟩
       · rw [List.map_append];exact ch
       · intro j q
         rcases List.mem_append.1 q with q | q
         · exact Nat.lt_of_lt_of_le (fI j q) t.len
         · simp only [List.mem_cons,List.not_mem_nil,or_false] at q;subst q;exact aM
       · intro b q
         rcases fG b q with q | q
         · exact mG b q
         · exact M2.rep.tmp (by omega)
     · have wu:=eq_false bS;have uF:=eq_false cF
       have dY:=aD.get
       simp only [dB,eG] at dY
       simp +contextual only [bm,o',o_,p6,cl,bV,b9,cG,eB,gr,wu,uF,M.get,↓ab,ae,simprocAttr]
       refine aS (Eh _ hW) ?_
       rintro x ak F
       generalize rF:((J.new (.au [.int .i64 0,.int .i64 0,.str []] 0 false)).set (ao J.next) (.au [.int .i64 j0,.int .i64 g7,.str hW] 0 false))=H1 at *
       obtain ⟨er,gg,M2,rfl,aM,t⟩:=aD.make (v:=.text hW) F rfl
       obtain ⟨_,_,bo,_⟩:=F
       have rK:=h6.next
       have sY:=bo.next
       have tR:=zk.ext bo
       rw [←t.yD fI] at tR
       obtain ⟨db,aB,b_,ch,cI,ga,fG⟩:=ja (cs:=[.ptr (dX gg (S.atoms (S.c.a.take i)).1.st.length) 0]) (by omega) tR (by omega) (by unfold top;omega) rfl rfl
       have vD:=M2.get
       have dx:=ch.v.one
       simp +contextual only [cV,bm,o',o_,p6,cl,bV,b9,cG,eB,gr,M.get,vD,jW,wu,uF,b_,w,dx.1,dx.2.1,↓ab,ae,simprocAttr]
       have z1:(S.atoms (S.c.a.take i)).1.atom ⟨j0,g7,hW⟩=((S.atoms (S.c.a.take i)).1.fW (.text hW),(S.atoms (S.c.a.take i)).1.st.length):=by
        simp only [av.atom,if_neg bS,if_neg cF]
       rw [z1] at g'
       refine ⟨⟨i+1,rfl,a7,er,gg,?_⟩,by omega⟩
       rw [g']
       have mG:∀b,v.bb b→er b=.no:=fun b q=>by
        by_cases aA:er b=.no
        · exact aA
        · have:=t.fresh b (h7 b q) aA
          have:=zk.v.b5 q
          unfold Old at this
          omega
       refine ⟨M2.r3 cI (fun b q=>⟨mG b q,by have:=dO.base q;have:=Fa;omega⟩),by omega,?_,?_,?_⟩
       · rw [List.map_append];exact ch
       · intro j q
         rcases List.mem_append.1 q with q | q
         · exact Nat.lt_of_lt_of_le (fI j q) t.len
         · simp only [List.mem_cons,List.not_mem_nil,or_false] at q;subst q;exact aM
       · intro b q
         rcases fG b q with q | q
         · exact mG b q
         · exact M2.rep.tmp (by omega)
   · have bV:((i:Int) < (S.c.a.length:Int))=False:=eq_false (by omega)
     obtain rfl:i=S.c.a.length:=by omega
     rw [List.take_length] at M dO fI
     simp +contextual only [bm,o',o_,p6,cl,bV,↓ab,ae,simprocAttr]
     obtain ⟨_,_,_,_,_,hv⟩:=av.l3 S S.c.a
     exact ⟨aK,aJ,M,by rw [hv];exact dO,fI,h7⟩
end
end Go.Proofs.YtjbiefneffiogaaGreat
namespace Go.Proofs.YtjbiefneffiogaaGreat
open Go bs
section
variable {aj h J:ai} {an:aV} {K aK:fl} {aq:List aV} {aO pm:V} {S:av} {steps:Int} {dS bZ b4 bj:V}
set_option maxHeartbeats 1000000 in
theorem Va (M:dr aj h an K aq aO pm S steps) {f v:Nat} (ar:f<aq.length) (bh:v<aq.length):bB Tryz.prog 104 [.ptr an 0,cV aq f,cV aq v] h fun x J=>∃aK aJ,dr aj J an aK aJ aO pm (S.call f v) steps:=by
 have gf:=M
 obtain ⟨jt,eq,fB,c5,M⟩:=M
 obtain ⟨cw,js,hT,fs,kM,_,vP⟩:=M.val ar
 have cE:=M.get
 have eC:cV aq f=.ptr (dX aq f) 0:=rfl
 refine Tu rfl (bO ?_)
 unfold KB
 rw [eC]
 by_cases aB:cP (S.val f)=3
 · cases fT:S.val f with
   | int n=>rw [fT] at aB;cases aB
   | text n=>rw [fT] at aB;cases aB
   | df t l=>rw [fT] at aB;cases aB
   | fn x c L=>
     obtain ⟨aC,he⟩:=vP x c L fT
     rw [fT] at fs
     simp only [cP,dD,e3] at fs
     have lh:=aC.one
     have fr:=he.one
     simp +contextual only [cE,fs,lh.1,lh.2.1,fr.1,fr.2.1,↓ab,ae,simprocAttr]
     refine aS (Jf h hT (cV aq v) x fr ⟨rfl,rfl,rfl⟩) ?_
     rintro y ad ⟨b,rfl,aI,bX,cD,e5⟩
     obtain ⟨aK,aD,h6,t⟩:=M.env aI bX cD e5 he bh
     have dY:=aD.get
     have nh:=(aI.get _ (M.oH ar).1).trans fs
     have ne:(an=dX aq f)=False:=eq_false fun q=>(M.oH ar).2 q.symm
     have M2:=aD.next {S with c:=c} steps js eq fB c5 rfl aC aD.dy aD.wr aD.de
     have vD:=M2.get
     have bI:=M2.next {S with c:=c,e:=(x,v)::L} steps js (.ptr b 0) fB c5 rfl aC (h6.set aD.dp (by simp)) M2.wr M2.de
     simp +contextual only [cE,dY,vD,fs,nh,ne,lh.1,lh.2.1,fr.1,fr.2.1,↓ab,ae,simprocAttr]
     refine ⟨aK,aq,?_⟩
     simp only [av.call,fT]
     exact ⟨_,_,_,_,bI⟩
 · have k5:=eq_false aB
   simp +contextual only [cE,fs,k5,↓ab,ae,simprocAttr]
   refine aS (pD gf 6) ?_
   rintro y ad bz
   simp +contextual only [↓ab,ae,simprocAttr]
   refine ⟨K,aq,?_⟩
   have:S.call f v=S.gb:=by
    simp only [av.call]
    cases fT:S.val f<;>first | rfl | (rw [fT] at aB;exact absurd rfl aB)
   rw [this]
   exact bz
def s' (l:List Int) (n:Int):Nat→Nat
 | 0=>l.length
 | i+1=>if l[i]? =some n then i else s' l n i
theorem abA {l:List Int} (ca:diff l=true) (n:Int):s' l n l.length=av.ll l n:=by
 have adu:∀(l:List Int),n ∉ l→av.ll l n=l.length:=by
  intro l
  induction l with
  | nil=>intro _;rfl
  | cons t l bJ=>
    intro h
    simp only [List.mem_cons,not_or] at h
    simp only [av.ll,if_neg (fun q:t=n=>h.1 q.symm),bJ h.2,List.length_cons]
 have none_:∀(L:List Int) (k:Nat),n ∉ L→s' L n k=L.length:=by
  intro L k
  induction k with
  | zero=>intro _;rfl
  | succ k bJ=>
    intro h
    simp only [s']
    rw [if_neg (fun q=>h (List.mem_of_getElem? q)),bJ h]
 have at_:∀(L:List Int) (p k:Nat),diff L=true→L[p]? =some n→p<k→k≤L.length→s' L n k=p:=by
  intro L p k b6 aQ
  induction k with
  | zero=>intro h;omega
  | succ k bJ=>
    intro h al
    simp only [s']
    by_cases q:L[k]? =some n
    · rw [if_pos q]
      have inj:∀(L:List Int) (a b:Nat),diff L=true→L[a]? =some n→L[b]? =some n→a=b:=by
       intro L
       induction L with
       | nil=>intro a b _ h;simp at h
       | cons t L bJ=>
         intro a b ca ad ak
         simp only [diff,Bool.and_eq_true,Bool.not_eq_true'] at ca
         have rL:Nat→t ∈ L→False:=fun _ q=>by have:=List.contains_iff_mem.2 q;rw [ca.1] at this;cases this
         cases a with
         | zero=>
           cases b with
           | zero=>rfl
           | succ b=>
             simp only [List.getElem?_cons_zero,Option.some.injEq] at ad
             subst ad
             exact (rL 0 (List.mem_of_getElem? (by simpa using ak))).elim
         | succ a=>
           cases b with
           | zero=>
             simp only [List.getElem?_cons_zero,Option.some.injEq] at ak
             subst ak
             exact (rL 0 (List.mem_of_getElem? (by simpa using ad))).elim
           | succ b=>rw [bJ a b ca.2 (by simpa using ad) (by simpa using ak)]
      exact inj L k p b6 q aQ
    · rw [if_neg q]
      exact bJ (by
       by_cases e:p=k
       · subst e;exact absurd aQ q
       · omega) (by omega)
 by_cases hm:n ∈ l
 · obtain ⟨p,aQ⟩:=List.getElem?_of_mem hm
   have qM:p<l.length:=(List.getElem?_eq_some_iff.1 aQ).1
   rw [at_ l p l.length ca aQ qM (Nat.le_refl _)]
   have:∀(l:List Int) (p:Nat),diff l=true→l[p]? =some n→av.ll l n=p:=by
    intro l
    induction l with
    | nil=>intro p _ h;simp at h
    | cons t l bJ=>
      intro p ca h
      simp only [diff,Bool.and_eq_true,Bool.not_eq_true'] at ca
      cases p with
      | zero=>
        simp only [List.getElem?_cons_zero,Option.some.injEq] at h
        simp only [av.ll,if_pos h]
      | succ p=>
        have J:l[p]? =some n:=by simpa using h
        have:t≠n:=by
         rintro rfl
         have:=List.contains_iff_mem.2 (List.mem_of_getElem? J)
         rw [ca.1] at this;cases this
        simp only [av.ll,if_neg this,bJ p ca.2 J]
   exact (this l p ca aQ).symm
 · rw [none_ l _ hm,adu l hm]
set_option maxHeartbeats 1000000 in
theorem MR (M:dr aj h an K aq aO pm S steps) {hr:Bool} {yj:Int} (x5:yj=if hr then 1 else 4) {v:Nat} (bh:v<aq.length) (ca:diff S.c.t=true) (aF:S.c.t.length≤1048576) (aL:S.c.l.length≤1048577):
 bB Tryz.prog 107 [.ptr an 0,.int .i64 yj,cV aq v] h fun x J=>dr aj J an K aq aO pm (S.hX hr v) steps:=by
 have gf:=M
 obtain ⟨jt,eq,fB,c5,M⟩:=M
 obtain ⟨cw,js,hT,fs,kM,_,_⟩:=M.val bh
 obtain ⟨fo,co,aX,a6,az,rfl,dv,eL,cJ,dT⟩:=M.co.open
 have cE:=M.get
 have lc:=dT h M.rep.ext
 have mR:=eL.len
 have e0:=cJ.len
 have eC:cV aq v=.ptr (dX aq v) 0:=rfl
 refine Tx rfl (bO ?_)
 unfold KF
 rw [eC]
 simp +contextual only [cE,lc.2.2.2.2.2.1,mR,↓ab,ae,simprocAttr]
 refine fV (fun r J=>J=h∧r 0=.ptr an 0∧r 1=.int .i64 yj∧r 2=.ptr (dX aq v) 0∧r 23=a6∧r 24=.int .i64 S.c.t.length∧∃i:Nat,r 25=.int .i64 i∧i≤S.c.t.length∧r 6=.int .i64 (s' S.c.t (dD (S.val v)) i)) (fun r J=>S.c.t.length - (r 25).gV) ?_ ?_
 · exact ⟨rfl,by simp only [↓ab,bf,simprocAttr],by simp only [↓ab,bf,simprocAttr],by simp only [↓ab,bf,simprocAttr],by simp only [↓ab,bf,simprocAttr],by simp only [↓ab,bf,simprocAttr],0,by simp only [↓ab,bf,simprocAttr]<;>rfl,by omega,by simp only [↓ab,bf,simprocAttr]<;>rfl⟩
 · rintro r J ⟨rfl,bm,aY,bn,tm,tn,i,tp,aH,q7⟩
   unfold KG
   by_cases a7:i<S.c.t.length
   · have bV:((i:Int) < (S.c.t.length:Int))=True:=eq_true (by omega)
     obtain ⟨cD,eW,ib,jN⟩:=ints_at (eL.ext M.rep.ext) (k:=.i64) a7
     have w:=g4 a7 (by omega)
     by_cases aZ:S.c.t[i]=dD (S.val v)
     · have pT:=eq_true aZ
       simp +contextual only [bm,aY,bn,tm,tn,tp,q7,bV,ib,jN,fs,pT,w,↓ab,ae,simprocAttr]
       refine ⟨⟨i+1,rfl,a7,?_⟩,by omega⟩
       simp only [s']
       rw [if_pos (by rw [List.getElem?_eq_getElem a7,aZ])]
     · have pT:=eq_false aZ
       simp +contextual only [bm,aY,bn,tm,tn,tp,q7,bV,ib,jN,fs,pT,w,↓ab,ae,simprocAttr]
       refine ⟨⟨i+1,rfl,a7,?_⟩,by omega⟩
       simp only [s']
       rw [if_neg (by rw [List.getElem?_eq_getElem a7];simpa using aZ)]
   · have bV:((i:Int) < (S.c.t.length:Int))=False:=eq_false (by omega)
     obtain rfl:i=S.c.t.length:=by omega
     rw [abA ca] at q7
     generalize aQ:av.ll S.c.t (dD (S.val v))=p at *
     by_cases al:cP (S.val v)=yj
     · have dJ:=eq_true al
       by_cases nY:(S.c.l.length:Int)≤(p:Int)
       · have k8:=eq_true nY
         simp +contextual only [cE,lc.2.2.2.2.2.1,lc.2.2.2.2.2.2,e0,bm,aY,bn,tm,tn,tp,q7,bV,fs,dJ,k8,↓ab,ae,simprocAttr]
         refine aS (pD gf 6) ?_
         rintro y ad bz
         simp +contextual only [↓ab,ae,simprocAttr]
         have:S.hX hr v=S.gb:=by
          have fU:S.h_ p=S.gb:=by simp only [av.h_];rw [List.getElem?_eq_none (by omega)]
          cases hr<;>simp only [Bool.false_eq_true,if_true,if_false] at x5<;>subst x5
          · obtain ⟨t,l,fT⟩:=wz al
            rw [fT] at aQ;simp only [dD] at aQ
            simp only [av.hX,fT,aQ,fU,Bool.false_eq_true,if_false]
          · obtain ⟨t,fT⟩:=hc al
            rw [fT] at aQ;simp only [dD] at aQ
            simp only [av.hX,fT,aQ,fU,if_true]
         rw [this]
         exact bz
       · have k8:=eq_false nY
         obtain ⟨q,b9,aZ⟩:=h5.eg cJ (k:=.i64) (i:=p) (by omega)
         have tf:=aZ.one
         simp +contextual only [cE,lc.2.2.2.2.2.1,lc.2.2.2.2.2.2,e0,bm,aY,bn,tm,tn,tp,q7,bV,fs,dJ,k8,b9,tf.1,tf.2.1,↓ab,ae,simprocAttr]
         have:S.hX hr v={S with c:=S.c.l[p]}:=by
          have rQ:S.h_ p={S with c:=S.c.l[p]}:=by simp only [av.h_];rw [List.getElem?_eq_getElem (by omega)]
          cases hr<;>simp only [Bool.false_eq_true,if_true,if_false] at x5<;>subst x5
          · obtain ⟨t,l,fT⟩:=wz al
            rw [fT] at aQ;simp only [dD] at aQ
            simp only [av.hX,fT,aQ,rQ,Bool.false_eq_true,if_false]
          · obtain ⟨t,fT⟩:=hc al
            rw [fT] at aQ;simp only [dD] at aQ
            simp only [av.hX,fT,aQ,rQ,if_true]
         rw [this]
         exact ⟨_,_,_,_,M.next {S with c:=S.c.l[p]} steps q eq fB c5 rfl aZ M.dy M.wr M.de⟩
     · have dJ:=eq_false al
       simp +contextual only [cE,lc.2.2.2.2.2.1,lc.2.2.2.2.2.2,e0,bm,aY,bn,tm,tn,tp,q7,bV,fs,dJ,↓ab,ae,simprocAttr]
       refine aS (pD gf 6) ?_
       rintro y ad bz
       simp +contextual only [↓ab,ae,simprocAttr]
       have:S.hX hr v=S.gb:=by
        cases hr<;>simp only [Bool.false_eq_true,if_true,if_false] at x5<;>subst x5<;>
         cases fT:S.val v<;>first | (simp only [av.hX,fT]<;>rfl) | (rw [fT] at al;exact (al rfl).elim)
       rw [this]
       exact bz
end
end Go.Proofs.YtjbiefneffiogaaGreat
namespace Go.Proofs.YtjbiefneffiogaaGreat
open Go bs
theorem av.Qp (S:av) (l:List aU) {i:Nat} (aH:i<l.length):S.fA (l.take (i+1))=(S.fA (l.take i)).ir l[i]:=by
 unfold av.fA
 rw [List.take_succ_eq_append_getElem aH,List.foldl_append]
 rfl
theorem av.Qo (S:av) (l:List aU):(S.fA l).c=S.c∧(S.fA l).w=S.w∧(S.fA l).out=S.out∧(S.fA l).read=S.read∧(S.fA l).st.length=S.st.length+l.length:=by
 induction l generalizing S with
 | nil=>exact ⟨rfl,rfl,rfl,rfl,rfl⟩
 | cons f l bJ=>
   obtain ⟨bt,b1,a3,a4,a5⟩:=bJ (S.ir f)
   refine ⟨bt,b1,a3,a4,?_⟩
   show ((S.ir f).fA l).st.length=_
   rw [a5]
   simp only [av.ir,av.fW,List.length_append,List.length_cons,List.length_nil]
   omega
theorem av.Qn (S:av) (l:List aU):∀(i:Nat) (aH:i<l.length),(S.fA l).st[S.st.length+i]? =some (.fn l[i].x (l[i].l.headD l[i]) []):=by
 have pre:∀(l:List aU) (S:av) (j:Nat),j<S.st.length→(S.fA l).st[j]? =S.st[j]? :=by
  intro l
  induction l with
  | nil=>intro S j _;rfl
  | cons f l bJ=>
    intro S j bQ
    show ((S.ir f).fA l).st[j]? =_
    rw [bJ (S.ir f) j (by simp only [av.ir,av.fW,List.length_append];omega)]
    simp only [av.ir,av.fW]
    rw [List.getElem?_append_left bQ]
 induction l generalizing S with
 | nil=>intro i aH;simp at aH
 | cons f l bJ=>
   intro i aH
   show ((S.ir f).fA l).st[S.st.length+i]? =_
   cases i with
   | zero=>
     rw [pre l (S.ir f) _ (by simp only [av.ir,av.fW,List.length_append,List.length_cons,List.length_nil];omega)]
     simp [av.ir,av.fW]
   | succ i=>
     have:=bJ (S.ir f) i (by simpa using aH)
     have aL:(S.ir f).st.length=S.st.length+1:=by simp [av.ir,av.fW]
     rw [aL] at this
     rw [show S.st.length + (i+1)=S.st.length+1+i from by omega,this]
     rfl
theorem Iu (e:ig) (f:aU):∀(l:List aU) (a:Nat) (st:List eF),av.h1 e a st (l++[f])=(av.h1 e a st l).set (a+l.length) (.fn f.x (f.l.headD f) e)
 | [],a,st=>rfl
 | g::l,a,st=>by
   rw [List.cons_append,av.h1,av.h1,Iu e f l (a+1),List.length_cons]
   congr 1
   omega
theorem It (e:ig):∀(l:List aU) (a:Nat) (st:List eF) (j:Nat),a+l.length≤j→(av.h1 e a st l)[j]? =st[j]?
 | [],a,st,j,_=>rfl
 | g::l,a,st,j,h=>by
   rw [List.length_cons] at h
   rw [av.h1,It e l (a+1) _ j (by omega),List.getElem?_set_ne (by omega)]
section
variable {aj h J:ai} {an:aV} {K aK:fl} {aq:List aV} {aO pm:V} {S:av} {steps:Int} {dS bZ b4 bj:V}
theorem ed.AJ (M:ed aj h an K aq aO pm S steps dS bZ b4 bj) {x:Int} {js hT y:V} {c:aU} {e:ig} (F:gX h J y [.int .i64 3,.int .i64 x,.str [],.aw,js,hT,.bool false]) (af:h5 aj js c) (al:ev h K aq hT e):
 ∃aK aJ,ed aj J an aK aJ aO pm (S.fW (.fn x c e)) steps dS bZ b4 bj∧y=cV aJ S.st.length∧S.st.length<aJ.length∧c8 aj K h aq aK J aJ (fun _=>False):=by
 obtain ⟨b,rfl,aI,qE,bA,bl⟩:=F
 have t:=M.rep.role aI (fun q=>q=b) (.val S.st.length) [b] (fun q aZ=>by subst aZ;exact ⟨qE,bA⟩)
 have ji:dX (aq++[b]) S.st.length=b:=by
  unfold dX
  rw [List.getD_eq_getElem?_getD,List.getElem?_append_right (by rw [M.rep.len];exact Nat.le_refl _),M.rep.len,Nat.sub_self]
  rfl
 have fi:hR sz aj J (jF K (fun q=>q=b) (.val S.st.length)) (aq++[b]) (S.fW (.fn x c e)).st:=by
  refine M.rep.push t (by simp) (by simp) (by simp) ?_
  exact ⟨by rw [ji];exact mD rfl,.aw,hT,_,by rw [ji];exact bl,⟨js,af,rfl⟩,trivial,al.cu t id⟩
 have hm:K an≠.no:=by rw [M.dp];simp
 have E:=M.dy.cu t id
 have W:=M.wr.cu t id id
 have O:=M.de.cu t id
 refine ⟨_,_,⟨fi,by rw [t.role an hm,M.dp],by rw [t.get an hm id,M.get];rfl,M.co,E,W,O⟩,by unfold cV;rw [ji],by rw [List.length_append,M.rep.len];simp,t⟩
theorem DY {n i:Nat} {aq:List aV} (h:n+i≤aq.length):∀j ∈ List.range' n i,j<aq.length:=by
 intro j bQ
 have:=List.mem_range'_1.1 bQ
 omega
set_option maxHeartbeats 4000000 in
theorem ad2 (M:dr aj h an K aq aO pm S steps) (gZ:1≤S.c.l.length) (aL:S.c.l.length≤1048577) (al:∀f ∈ S.c.l.dropLast,1≤f.l.length):
 bB Tryz.prog 105 [.ptr an 0] h fun x J=>∃aK aJ,dr aj J an aK aJ aO pm S.pb steps:=by
 obtain ⟨jt,eq,fB,c5,M⟩:=M
 obtain ⟨fo,co,aX,a6,az,rfl,dv,eL,cJ,dT⟩:=M.co.open
 have cE:=M.get
 have lc:=dT h M.rep.ext
 have hlen:=cJ.len
 have dF:=M.rep.ext.next
 have N3:S.c.l.dropLast.length=S.c.l.length-1:=List.length_dropLast
 have dH:IntKind.i64.wrap ((S.c.l.length:Int)-1)=((S.c.l.dropLast.length:Nat):Int):=by rw [wrap_i64 (by omega) (by omega)];omega
 obtain ⟨Rs,qF,Xn⟩:=cJ.cut (k:=.i64) (m:=S.c.l.dropLast.length) (by omega)
 have kg:=Xn.len
 rw [List.length_take,Nat.min_eq_left (by omega)] at kg
 generalize jL:S.c.l.dropLast=bg at *
 refine Tw rfl (bO ?_)
 unfold KC
 simp +contextual only [cE,lc.2.2.2.2.2.2,hlen,dH,qF,kg,↓ab,ae,simprocAttr]
 refine fV (fun r J=>r 0=.ptr an 0∧r 2=.int .i64 bg.length∧r 27=.int .i64 bg.length∧∃i:Nat,r 28=.int .i64 i∧i≤bg.length∧∃aK aJ fS,ed aj J an aK aJ aO pm (S.fA (bg.take i)) steps (.ptr fo co) fS fB c5∧h.next≤J.next∧
  cn h.next J 1 (r 3) i ((List.range' S.st.length i).map (cV aJ))∧∀b,(r 3).bb b→aK b=.no) (fun r J=>bg.length - (r 28).gV) ?_ ?_
 · exact ⟨by simp only [↓ab,bf,simprocAttr],by simp only [↓ab,bf,simprocAttr],by simp only [↓ab,bf,simprocAttr],0,by simp only [↓ab,bf,simprocAttr]<;>rfl,by omega,K,aq,eq,M,Nat.le_refl _,by simp only [↓ab,bf,simprocAttr];exact ⟨rfl,rfl⟩,by simp only [↓ab,bf,simprocAttr];exact fun b q=>q.elim⟩
 · rintro r J ⟨bm,bn,DT,i,DU,aH,aK,aJ,fS,M,a1,dO,h7⟩
   unfold KD
   generalize g0:r 3=v at *
   obtain ⟨adN,adS,adQ,adR,q8⟩:=av.Qo S (bg.take i)
   have cE:=M.get
   have lc:=dT J M.rep.ext
   by_cases a7:i<bg.length
   · have bV:((i:Int) < (bg.length:Int))=True:=eq_true (by omega)
     have w:=g4 a7 (by omega)
     have uB:=av.Qp S bg a7
     have jj:S.c.l[i]'(by omega)=bg[i]:=by
      have:S.c.l.dropLast[i]? =bg[i]? :=by rw [jL]
      rw [List.getElem?_dropLast,if_pos (by omega),List.getElem?_eq_getElem (by omega),List.getElem?_eq_getElem a7] at this
      simpa using this
     obtain ⟨ahy,AB,ar⟩:=h5.eg cJ (k:=.i64) (i:=i) (by omega)
     rw [jj] at ar
     have ki:=al bg[i] (List.getElem_mem a7)
     generalize bg[i]=f at *
     obtain ⟨kd,uf,F_,Ga,zR,rfl,_,_,EK,rX⟩:=ar.open
     obtain ⟨js,Zh,af⟩:=h5.eg EK (k:=.i64) (i:=0) (by omega)
     have Zi:e8 7 zR (.int .i64 0)=some js:=Zh
     have H9:=af.one
     have qW:=rX J M.rep.ext
     have GH:f.l.headD f=f.l[0]'(by omega):=by
      rw [List.headD_eq_head?_getD,List.head?_eq_getElem?,List.getElem?_eq_getElem (by omega)];rfl
     have F:gX J (J.new (.au [.int .i64 3,.int .i64 f.x,.str [],.aw,js,.cc,.bool false] 0 false)) (.ptr (ao J.next) 0) [.int .i64 3,.int .i64 f.x,.str [],.aw,js,.cc,.bool false]:=pI _ _
     obtain ⟨er,gg,M2,bG,aM,t⟩:=M.AJ F af .nil
     obtain ⟨_,_,bo,_⟩:=F
     have abU:=rX _ M2.rep.ext
     have HP:=abU
     simp only [eG] at HP
     have abF:=dT _ M2.rep.ext
     have abG:=abF
     simp only [eG] at abG
     have vH:S.st.length+i≤aJ.length:=by rw [M.rep.len,q8,List.length_take];omega
     have fI:=dO.ext bo
     rw [←t.yD (DY vH)] at fI
     rw [q8,List.length_take,Nat.min_eq_left (by omega)] at bG aM
     have sY:=bo.next
     obtain ⟨db,aB,b_,ch,cI,ga,fG⟩:=ja (cs:=[.ptr (ao J.next) 0]) (by omega) fI (by omega) (by unfold top;omega) rfl rfl
     have mG:∀b,v.bb b→er b=.no:=fun b q=>by
      by_cases aA:er b=.no
      · exact aA
      · have:=t.fresh b (h7 b q) aA
        have:=dO.v.b5 q
        unfold Old at this
        omega
     have bI:=M2.r3 cI (fun b q=>⟨mG b q,by have:=dO.base q;omega⟩)
     have iQ:=bI.get
     have Dt:=rX _ bI.rep.ext
     have o7:=b_
     simp only [cY] at o7
     simp +contextual only [bm,bn,DT,DU,g0,bV,cE,lc.2.2.2.2.2.2,AB,qW.1,qW.2.1,qW.2.2.1,qW.2.2.2.2.2.2,HP.2.1,HP.2.2.2.2.2.2,Zi,H9.1,H9.2.1,H9.2.2,b_,o7,iQ,Dt.2.2.1,↓ab,ae,simprocAttr]
     have W:=Jf aB fS (cV gg (S.st.length+i)) f.n bI.dy.one ⟨rfl,rfl,rfl⟩
     rw [←bG] at W
     refine aS W ?_
     rintro y bw ⟨b,rfl,eA,bX,cD,e5⟩
     rw [bG] at e5
     obtain ⟨cK,bz,kz,t4⟩:=bI.env eA bX cD e5 bI.dy aM
     have WI:=bz.get
     have abV:=rX _ bz.rep.ext
     have ahX:=ga
     have Ya:=eA.next
     simp +contextual only [bm,bn,DT,DU,g0,bV,WI,abV.2.2.1,iQ,Dt.2.2.1,w,↓ab,ae,simprocAttr]
     refine ⟨⟨i+1,rfl,a7,cK,gg,.ptr b 0,?_,by omega,?_,?_⟩,by omega⟩
     · rw [uB]
       have GP:(S.fA (bg.take i)).st.length=S.st.length+i:=by rw [q8,List.length_take];omega
       have:=bz.next ((S.fA (bg.take i)).ir f) steps (.ptr fo co) (.ptr b 0) fB c5 (by simp only [av.ir,av.fW,GH]) bz.co (by simp only [av.ir];rw [GP];exact kz) bz.wr bz.de
       exact this
     · rw [List.range'_1_concat,List.map_append]
       have m:Mod (fun b=>b=an) bw (bw.set an (.au [aO,.int .i64 (S.fA (bg.take i)).e6,.int .i64 (S.fA (bg.take i)).fp,.int .i64 (S.fA (bg.take i)).read,.int .i64 steps,c5,.bool (S.fA (bg.take i)).fJ,.ptr fo co,.ptr b 0,fB,.aw,pm] 0 false)):=(Mod.refl (fun b=>b=an) bw).set (fun _=>rfl) _
       rw [bG] at ch
       refine (ch.ext eA).mod m fun b q e=>?_
       rw [e] at q
       have zX:er an=.n2:=bI.dp
       rcases fG an q with q | q
       · rw [mG an q] at zX;cases zX
       · have:=M2.b5.2;omega
     · intro b q
       have aA:er b=.no:=by
        rcases fG b q with q | q
        · exact mG b q
        · exact M2.rep.tmp (by omega)
       by_cases a2:cK b=.no
       · exact a2
       · have:=t4.fresh b aA a2
         have:=ch.v.b5 q
         unfold Old at this
         omega
   · have bV:((i:Int) < (bg.length:Int))=False:=eq_false (by omega)
     obtain rfl:i=bg.length:=by omega
     rw [List.take_length] at M cE q8
     have Rv:=dO.v.len
     simp +contextual only [bm,bn,DT,DU,g0,bV,Rv,↓ab,ae,simprocAttr]
     clear bV DT DU
     generalize cq:S.fA bg=T at *
     refine fV (fun r fh=>r 0=.ptr an 0∧r 2=.int .i64 bg.length∧r 69=v∧r 70=.int .i64 bg.length∧∃j:Nat,r 71=.int .i64 j∧j≤bg.length∧ed aj fh an aK aJ aO pm {T with st:=av.h1 T.e S.st.length T.st (bg.take j)} steps (.ptr fo co) fS fB c5∧
      cn h.next fh 1 v bg.length ((List.range' S.st.length bg.length).map (cV aJ))) (fun r fh=>bg.length - (r 71).gV) ?_ ?_
     · exact ⟨by simp only [bm,↓ab,bf,simprocAttr],by simp only [bn,↓ab,bf,simprocAttr],by simp only [↓ab,bf,simprocAttr],by simp only [↓ab,bf,simprocAttr],0,by simp only [↓ab,bf,simprocAttr]<;>rfl,by omega,M,dO⟩
     · clear bm bn g0 cE lc M dO
       rintro r J ⟨bm,bn,Qg,Qh,j,Qi,bQ,M,dO⟩
       unfold KE
       have cE:=M.get
       have lc:=dT J M.rep.ext
       by_cases a7:j<bg.length
       · have bV:((j:Int) < (bg.length:Int))=True:=eq_true (by omega)
         have w:=g4 a7 (by omega)
         have vH:S.st.length+bg.length≤aJ.length:=by
          rw [M.rep.len]
          show _≤(av.h1 T.e S.st.length T.st (bg.take j)).length
          have:∀(l:List aU) (a:Nat) (st:List eF),(av.h1 T.e a st l).length=st.length:=by
           intro l
           induction l with
           | nil=>intro a st;rfl
           | cons g l bJ=>intro a st;rw [av.h1,bJ,List.length_set]
          rw [this,q8]
          exact Nat.le_refl _
         have A:ek J aJ (List.range' S.st.length bg.length) v:=⟨by rw [List.length_range'];exact dO.v,DY vH⟩
         obtain ⟨b,o,b9,cG,jM⟩:=A.at (k:=.i64) (i:=j) (by rw [List.length_range'];exact a7)
         have j2:(List.range' S.st.length bg.length).getD j 0=S.st.length+j:=by
          rw [List.getD_eq_getElem?_getD,List.getElem?_eq_getElem (by rw [List.length_range'];exact a7),List.getElem_range']
          simp
         rw [j2] at cG jM
         have bc:=cG J (Ext.refl _)
         have qP:(av.h1 T.e S.st.length T.st (bg.take j))[S.st.length+j]? =some (.fn bg[j].x (bg[j].l.headD bg[j]) []):=by
          rw [It _ _ _ _ _ (by rw [List.length_take];omega),←cq]
          exact av.Qn S bg j a7
         obtain ⟨kM,cw,V3,cs,fs,⟨js,C0,rfl⟩,_,_⟩:=M.rep.val _ _ qP
         have fr:=M.dy.one
         have fj:=(M.rep.new (dX aJ (S.st.length+j)) (by rw [kM];simp)).1
         have lh:=C0.one
         simp +contextual only [cV,bm,bn,Qg,Qh,Qi,bV,cE,b9,bc,fs,fr.1,fr.2.1,w,↓ab,ae,simprocAttr]
         refine ⟨⟨j+1,rfl,a7,?_,?_⟩,by omega⟩
         · have t:c8 aj aK J aJ aK (J.set (dX aJ (S.st.length+j)) (.au [.int .i64 3,.int .i64 bg[j].x,.str [],.aw,js,fS,.bool false] 0 false)) aJ (·=.val (S.st.length+j)):=c8.td kM fj
           have kK:aK an≠.no:=by rw [M.dp];simp
           have di:av.h1 T.e S.st.length T.st (bg.take (j+1))=(av.h1 T.e S.st.length T.st (bg.take j)).set (S.st.length+j) (.fn bg[j].x (bg[j].l.headD bg[j]) T.e):=by
            rw [List.take_succ_eq_append_getElem a7,Iu,List.length_take,Nat.min_eq_left (by omega)]
           rw [di]
           have F0:ev J aK aJ fS T.e:=M.dy
           refine ⟨M.rep.El (i:=S.st.length+j) t (by intro k al;simpa using al) (by simp) (by simp) ?_,M.dp,?_,M.co,M.dy.cu t (by simp),M.wr.cu t (by simp) (by simp),M.de.cu t (by simp)⟩
           · exact ⟨kM,cw,fS,_,by rw [dB,if_pos rfl],⟨js,C0,rfl⟩,trivial,F0.cu t (by simp)⟩
           · rw [t.get an kK (by rw [M.dp];simp)];exact M.get
         · have m:Mod (fun b=>b=dX aJ (S.st.length+j)) J (J.set (dX aJ (S.st.length+j)) (.au [.int .i64 3,.int .i64 bg[j].x,.str [],.aw,js,fS,.bool false] 0 false)):=(Mod.refl (fun b=>b=dX aJ (S.st.length+j)) J).set (fun _=>rfl) _
           refine dO.mod m fun b q e=>?_
           rw [e] at q
           rw [h7 _ q] at kM
           cases kM
       · have bV:((j:Int) < (bg.length:Int))=False:=eq_false (by omega)
         obtain rfl:j=bg.length:=by omega
         rw [List.take_length] at M
         obtain ⟨q,Hv,aZ⟩:=h5.eg cJ (k:=.i64) (i:=bg.length) (by omega)
         have tf:=aZ.one
         simp +contextual only [bm,bn,Qg,Qh,Qi,bV,cE,lc.2.2.2.2.2.2,Hv,tf.1,tf.2.1,↓ab,ae,simprocAttr]
         have Ha:S.pb={T with st:=av.h1 T.e S.st.length T.st bg,c:=S.c.l[bg.length]'(by omega)}:=by
          simp only [av.pb,jL,cq]
          congr 1
          rw [List.getLastD_eq_getLast?,List.getLast?_eq_getElem?,List.getElem?_eq_getElem (by omega)]
          simp only [Option.getD_some]
          congr 1
          omega
         rw [Ha]
         exact ⟨aK,aJ,_,_,_,_,M.next {T with st:=av.h1 T.e S.st.length T.st bg,c:=S.c.l[bg.length]'(by omega)} steps q fS fB c5 rfl aZ M.dy M.wr M.de⟩
end
end Go.Proofs.YtjbiefneffiogaaGreat
namespace Go.Proofs.YtjbiefneffiogaaGreat
open Go bs
structure Shape (c:aU):Prop where
 oe:c.a.length≤1048576
 st:c.t.length≤1048576
 g2:c.l.length≤1048576
 at_:∀a ∈ c.a,gE a=true
 bt:c.k=1∨c.k=5∨c.k=9∨c.k=10∨c.k=12→c.a.length=1
 b1:c.k=6→c.a.length=2
 eI:c.k=2∨c.k=11→c.l.length=2
 cI:c.k=3→(c.a.length:Int)=eK c.s∧0<eK c.s
 n5:c.k=5→0≤c.n∧c.n≤1048575
 HG:c.k=7→c.l.length=1
 HH:c.k=8→2≤c.l.length∧∀f ∈ c.l.dropLast,f.l.length=1
 t9:c.k=9∨c.k=10→diff c.t=true
 no:c.k≠13∧c.k≠14
theorem Ny (us:List (List V)) (u:List V):(us++[u]).flatten=us.flatten++u:=by simp
theorem Ok.atoms {S:av} (O:Ok S) (l:List At) (h:∀a ∈ l,gE a=true):Ok (S.atoms l).1:=by
 have key:∀(l:List At) (p:av × List Nat),(∀a ∈ l,gE a=true)→Ok p.1→Ok (l.foldl av.oI p).1:=by
  intro l
  induction l with
  | nil=>intro p _ h;exact h
  | cons a l bJ=>
    intro p bT aQ
    rw [List.foldl_cons]
    refine bJ _ (fun b af=>bT b (by simp [af])) ?_
    have g':=bT a (by simp)
    simp only [av.oI,av.atom]
    by_cases bS:a.k=1
    · rw [if_pos bS];exact aQ
    · rw [if_neg bS]
      by_cases cF:a.k=2
      · rw [if_pos cF]
        refine aQ.fW (fun n q=>?_) (fun s q=>by cases q)
        cases q
        simp only [gE,if_neg bS,if_pos cF,Bool.and_eq_true,o4,decide_eq_true_eq] at g'
        omega
      · rw [if_neg cF]
        refine aQ.fW (fun n q=>by cases q) (fun s q=>?_)
        cases q
        simp only [gE,if_neg bS,if_neg cF] at g'
        by_cases gS:a.k=3
        · rw [if_pos gS] at g'
          simp only [Bool.and_eq_true,decide_eq_true_eq] at g'
          omega
        · rw [if_neg gS] at g';cases g'
 exact key l (S,[]) h O
section
variable {aj h J:ai} {an:aV} {K aK:fl} {aq:List aV} {aO pm:V} {S:av} {steps:Int} {dS bZ b4 bj:V} {Y:mF}
theorem ev.p8 (dd:∀b,K b≠.no→aK b=K b) {p:V} {L:ig} (H:ev h K aq p L):ev h aK aq p L:=by
 induction H with
 | nil=>exact .nil
 | cons q bl bQ ba bJ=>exact .cons (by rw [dd _ (by rw [q];simp),q]) bl bQ bJ
theorem hR.p8 (dd:∀b,K b≠.no→aK b=K b) (a1:∀b,aK b≠.no→aj.next≤cx b∧cx b<h.next) {st:List eF} (H:hR Y aj h K aq st):hR Y aj h aK aq st:=by
 refine ⟨H.ext,a1,H.len,fun i v q=>?_⟩
 obtain ⟨k,cw,bZ,cs,g,a2,b',da⟩:=H.val i v q
 refine ⟨by rw [dd _ (by rw [k];simp),k],cw,bZ,cs,g,a2,?_,?_⟩
 · cases v<;>first | trivial | skip
   exact ⟨b'.1,fun b af=>by rw [dd _ (by rw [b'.2.1 b af];simp),b'.2.1 b af],b'.2.2⟩
 · cases v<;>first | trivial | exact ev.p8 dd da
theorem ed.p8 (M:ed aj h an K aq aO pm S steps dS bZ b4 bj) (dd:∀b,K b≠.no→aK b=K b) (a1:∀b,aK b≠.no→aj.next≤cx b∧cx b<h.next):ed aj h an aK aq aO pm S steps dS bZ b4 bj:=by
 obtain ⟨us,aP,aA,a2,b'⟩:=M.wr
 refine ⟨M.rep.p8 dd a1,by rw [dd _ (by rw [M.dp];simp),M.dp],M.get,M.co,M.dy.p8 dd,⟨us,aP,fun b af=>by rw [dd _ (by rw [aA b af];simp),aA b af],a2,fun i a u aI bo=>?_⟩,M.de.1,fun b af=>by rw [dd _ (by rw [M.de.2 b af];simp),M.de.2 b af]⟩
 obtain ⟨bt,b1,p,a3,a4⟩:=b' i a u aI bo
 exact ⟨bt,b1,p,a3,a4.p8 dd⟩
theorem ed.HQ (M:ed aj h an K aq aO pm S steps dS bZ b4 bj) {t:Int} {bg:List Nat} {cw y:V} (F:gX h J y [.int .i64 4,.int .i64 t,.str [],cw,.cc,.cc,.bool false]) (hJ:cn aj.next h 1 cw bg.length (bg.map (cV aq))) (hn:∀b,cw.bb b→K b=.no) (jL:∀j ∈ bg,j<aq.length):
 ∃aK aJ,ed aj J an aK aJ aO pm (S.fW (.df t bg)) steps dS bZ b4 bj∧y=cV aJ S.st.length∧S.st.length<aJ.length:=by
 obtain ⟨b,rfl,aI,qE,bA,bl⟩:=F
 have gf:ed aj h an (jF K (fun q=>cw.bb q) (.lE S.st.length)) aq aO pm S steps dS bZ b4 bj:=by
  refine M.p8 (fun c aC=>mC fun q=>aC (hn c q)) fun c aC=>?_
  by_cases q:cw.bb c
  · exact ⟨hJ.base q,hJ.v.b5 q⟩
  · rw [mC q] at aC;exact M.rep.new c aC
 have GC:∀c,cw.bb c→(jF K (fun q=>cw.bb q) (.lE S.st.length)) c=.lE S.st.length:=fun c q=>mD q
 generalize jF K (fun q=>cw.bb q) (.lE S.st.length)=jq at *
 have t1:=gf.rep.role aI (fun q=>q=b) (.val S.st.length) [b] (fun q aZ=>by subst aZ;exact ⟨qE,bA⟩)
 have ji:dX (aq++[b]) S.st.length=b:=by
  unfold dX
  rw [List.getD_eq_getElem?_getD,List.getElem?_append_right (by rw [M.rep.len];exact Nat.le_refl _),M.rep.len,Nat.sub_self]
  rfl
 have fi:hR sz aj J (jF jq (fun q=>q=b) (.val S.st.length)) (aq++[b]) (S.fW (.df t bg)).st:=by
  refine gf.rep.push t1 (by simp) (by simp) (by simp) ?_
  have qA:ri aj h jq aq S.st.length (.df t bg) cw:=⟨hJ,GC,jL⟩
  exact ⟨by rw [ji];exact mD rfl,cw,.cc,_,by rw [ji];exact bl,rfl,qA.cu t1 id,trivial⟩
 have hm:jq an≠.no:=by rw [gf.dp];simp
 have E:=gf.dy.cu t1 id
 have W:=gf.wr.cu t1 id id
 have O:=gf.de.cu t1 id
 exact ⟨_,_,⟨fi,by rw [t1.role an hm,gf.dp],by rw [t1.get an hm id,gf.get];rfl,gf.co,E,W,O⟩,by unfold cV;rw [ji],by rw [List.length_append,M.rep.len];simp⟩
theorem ed.waited (M:ed aj h an K aq aO pm S steps dS bZ b4 bj) {v p q:V} {a:jZ} {us:List V} (aZ:h5 aj q a.c) (aQ:ev h K aq p a.e) (Hi:cn aj.next h 4 b4 S.w.length us)
 (c0:cn aj.next J 4 v (S.w.length+1) (us++[.bool a.jT,.int .i64 a.x,q,p])) (hm:Mod b4.bb h J) (af:∀b,v.bb b→b4.bb b∨h.next≤cx b) (hu:∃nz:List (List V),us=nz.flatten∧nz.length=S.w.length∧∀(i:Nat) (a:jZ) (u:List V),S.w.reverse[i]? =some a→nz[i]? =some u→u.length=4∧gv u=true∧∃p,sz.xu aj a p u∧ev h K aq p a.e):
 ∃aK,ed aj (J.set an (.au [aO,.int .i64 S.e6,.int .i64 S.fp,.int .i64 S.read,.int .i64 steps,bj,.bool S.fJ,dS,bZ,v,.aw,pm] 0 false)) an aK aq aO pm {S with w:=a::S.w} steps dS bZ v bj:=by
 have Az:∀b,b4.bb b→K b=.jU:=by obtain ⟨_,_,aA,_⟩:=M.wr;exact aA
 have t:c8 aj K h aq (jF K (fun b=>v.bb b∧h.next≤cx b) .jU) J aq (·=.jU):=by
  refine ⟨hm.next,fun b ew=>?_,fun b ew iR=>?_,fun b ew aC=>?_,fun b ew=>?_,[],by simp⟩
  · exact mC fun q=>ew (M.rep.tmp q.2)
  · by_cases q:v.bb b∧h.next≤cx b
    · exact ⟨q.2,c0.v.b5 q.1⟩
    · rw [mC q] at iR;exact absurd ew iR
  · exact hm.get b (M.rep.new b ew).2 fun q=>aC (Az b q)
  · refine hm.get b (Nat.lt_of_lt_of_le ew M.rep.ext.next) fun q=>?_
    have:=Hi.base q
    omega
 have kK:K an≠.no:=by rw [M.dp];simp
 obtain ⟨nz,rfl,g3,gk⟩:=hu
 have op:=aQ.one
 have c5:=aZ.one
 refine ⟨_,ed.lay (cR:={S with w:=a::S.w}) (M.rep.cu t (by simp) (by simp) (by simp)) (by rw [t.role an kK,M.dp]) M.co (M.dy.cu t (by simp)) ⟨nz++[[.bool a.jT,.int .i64 a.x,q,p]],?_,fun b r=>?_,by simp [g3],fun i cC u aI bo=>?_⟩ (M.de.cu t (by simp))⟩
 · rw [Ny];exact c0
 · rcases af b r with s | s
   · have:=Az b s
     rw [t.role b (by rw [this];simp),this]
   · exact mD ⟨r,s⟩
 · simp only [List.reverse_cons] at aI
   by_cases aH:i<nz.length
   · rw [List.getElem?_append_left aH] at bo
     rw [List.getElem?_append_left (by rw [List.length_reverse];omega)] at aI
     obtain ⟨bx,fC,nt,om,p_⟩:=gk i cC u aI bo
     exact ⟨bx,fC,nt,om,p_.cu t (by simp)⟩
   · have qH:i=nz.length:=by
      have:=(List.getElem?_eq_some_iff.1 bo).1
      simp only [List.length_append,List.length_cons,List.length_nil] at this
      omega
     subst qH
     rw [List.getElem?_append_right (Nat.le_refl _),Nat.sub_self] at bo
     rw [List.getElem?_append_right (by rw [List.length_reverse];omega),List.length_reverse,g3,Nat.sub_self] at aI
     simp only [List.getElem?_cons_zero,Option.some.injEq] at aI bo
     subst aI bo
     exact ⟨rfl,by simp only [gv,c5.1,op.1,Bool.and_self];rfl,p,⟨q,aZ,rfl⟩,aQ.cu t (by simp)⟩
end
end Go.Proofs.YtjbiefneffiogaaGreat
