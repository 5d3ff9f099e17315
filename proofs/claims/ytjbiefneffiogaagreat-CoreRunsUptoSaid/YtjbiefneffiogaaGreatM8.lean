/- The chapter's functions, walked by the abstract machine: plain lemmas, no condition. Printed by a program from longer texts: names made short. -/
import Derived.Test.YtjbiefneffiogaaGreatM4
import Derived.Test.YtjbiefneffiogaaGreatM6
import Derived.Test.YtjbiefneffiogaaGreatM7
set_option linter.unusedSectionVars false
set_option linter.unusedSimpArgs false
set_option linter.unusedVariables false
namespace Go.Proofs.YtjbiefneffiogaaGreat
open Go bA
theorem te {f:FuncId} {args:List V} {h:aj} {v:V} (c:bB Tryz.prog f args h fun x aa=>x=v∧aa=h):lr Tryz.prog f args h v h:=by
 obtain ⟨x,aa,q,rfl,rfl⟩:=c
 exact q
def At.enc (a:At):List V:=[.int .i64 a.k,.int .i64 a.n,.str a.s]
def iX:List At→List V
 | []=>[]
 | a::l=>a.enc++iX l
theorem Ff:∀l:List At,(iX l).length=l.length * 3
 | []=>rfl
 | a::l=>by rw [iX,List.length_append,Ff l,List.length_cons];simp only [At.enc,List.length_cons,List.length_nil];omega
theorem Fe:∀(l:List At) (i:Nat) (aG:i<l.length),((iX l).drop (i * 3)).take 3=l[i].enc
 | [],i,aG=>by simp at aG
 | a::l,0,_=>by simp [iX,At.enc]
 | a::l,i+1,aG=>by
   rw [iX,show (i+1) * 3=a.enc.length+i * 3 from by simp only [At.enc,List.length_cons,List.length_nil];omega,List.drop_append,List.drop_eq_nil_of_le (by omega),List.nil_append,Nat.add_sub_cancel_left]
   exact Fe l i (by simpa using aG)
theorem la (l:List Int):(cd l).length=l.length:=by simp [cd]
inductive eg (h:aj):aY→List V→Prop
 | mk {k x n:Int} {s:List UInt8} {a:List At} {t:List Int} {l:List aY} {aN aP aw:V} {us:List (List V)} (bU:cg h 3 aN a.length (iX a)) (aJ:cg h 1 aP t.length (cd t))
   (bd:A1 aw) (aK:cg h 7 aw l.length us.flatten) (hu:us.length=l.length) (kids:∀(i:Nat) (c:aY) (u:List V),l[i]? =some c→us[i]? =some u→eg h c u):
   eg h (.mk k x n s a t l) [.int .i64 k,.int .i64 x,.int .i64 n,.str s,aN,aP,aw]
def jn (h:aj) (l:List aY) (aw:V):Prop:=A1 aw∧∃us:List (List V),cg h 7 aw l.length us.flatten∧us.length=l.length∧∀(i:Nat) (c:aY) (u:List V),l[i]? =some c→us[i]? =some u→eg h c u
theorem eg.ext {h aa:aj} (e:Ext h aa) {c:aY} {ai:List V} (H:eg h c ai):eg aa c ai:=by
 induction H with
 | mk bU aJ bd aK hu kids bN=>exact .mk (bU.ext e) (aJ.ext e) bd (aK.ext e) hu bN
theorem jn.ext {h aa:aj} (e:Ext h aa) {l:List aY} {v:V} (H:jn h l v):jn aa l v:=by
 obtain ⟨bd,us,ae,ak,aC⟩:=H
 exact ⟨bd,us,ae.ext e,ak,fun i c u aQ aB=>(aC i c u aQ aB).ext e⟩
theorem eg.len {h:aj} {c:aY} {ai:List V} (H:eg h c ai):ai.length=7:=by cases H;rfl
theorem eg.open {h:aj} {c:aY} {ai:List V} (H:eg h c ai):∃aN aP aw,ai=[.int .i64 c.k,.int .i64 c.x,.int .i64 c.n,.str c.s,aN,aP,aw]∧cg h 3 aN c.a.length (iX c.a)∧cg h 1 aP c.t.length (cd c.t)∧jn h c.l aw:=by
 cases H with
 | mk bU aJ bd aK hu kids=>exact ⟨_,_,_,rfl,bU,aJ,bd,_,aK,hu,kids⟩
theorem Cv:∀(us:List (List V)) (i:Nat) (u:List V),(∀u ∈ us,u.length=7)→us[i]? =some u→(us.flatten.drop (i * 7)).take 7=u
 | [],i,u,_,h=>by simp at h
 | w::us,0,u,aK,h=>by
   simp only [List.getElem?_cons_zero,Option.some.injEq] at h
   subst h
   rw [Nat.zero_mul,List.drop_zero,List.flatten_cons,List.take_left' (aK _ (by simp))]
 | w::us,i+1,u,aK,h=>by
   rw [show (i+1) * 7=7+i * 7 from by omega,←List.drop_drop,List.flatten_cons,List.drop_left' (aK _ (by simp))]
   exact Cv us i u (fun u hu=>aK u (by simp [hu])) (by simpa using h)
theorem xB:∀(us:List (List V)),(∀u ∈ us,u.length=7)→us.flatten.length=us.length * 7
 | [],_=>rfl
 | w::us,aK=>by rw [List.flatten_cons,List.length_append,aK w (by simp),xB us (fun u hu=>aK u (by simp [hu])),List.length_cons];omega
theorem jn.len {h:aj} {l:List aY} {v:V} (H:jn h l v):n_ v=some (.int .i64 l.length):=by
 obtain ⟨_,us,ae,_⟩:=H
 exact ae.len
theorem jn.one {h:aj} {l:List aY} {v:V} (H:jn h l v):v.one=true∧v.cells=[v]∧v.e3=true:=by
 obtain ⟨_,us,ae,_⟩:=H
 exact ae.one
theorem jn.at {h:aj} {l:List aY} {v:V} (H:jn h l v) {k:IntKind} {i:Nat} (aG:i<l.length):
 ∃b off u,fc 7 v (.int k i)=some (.ptr b (off+i * 7))∧eg h l[i] u∧jv 7 (h.get b) (off+i * 7)=some (.agg u)∧∀j,j<7→hX (h.get b) (off+i * 7+j)=u[j]? :=by
 obtain ⟨bd,us,ae,ak,aC⟩:=H
 have oZ:∀u ∈ us,u.length=7:=by
  intro u hu
  obtain ⟨j,bS⟩:=List.getElem?_of_mem hu
  have jU:j<l.length:=by rw [←ak];exact (List.getElem?_eq_some_iff.1 bS).1
  exact (aC j l[j] u (List.getElem?_eq_getElem jU) bS).len
 have zU:i<us.length:=by omega
 have hu:=List.getElem?_eq_getElem zU
 obtain ⟨b,off,aI,bh⟩:=ae.b_ (k:=k) aG
 have av:=Cv us i _ oZ hu
 have hK:=xB us oZ
 refine ⟨b,off,us[i],aI,aC i _ _ (List.getElem?_eq_getElem aG) hu,?_,fun j bS=>?_⟩
 · rw [bh.gl (i:=i * 7) (n:=7) (by omega),av]
 · exact bh.cell av (by omega) bS
theorem jn.kF {h:aj} {l:List aY} {v:V} (H:jn h l v) {k:IntKind} {i:Nat} (aG:i<l.length):
 ∃b off u,fc 7 v (.int k i)=some (.ptr b (off+i * 7))∧eg h l[i] u∧∀aa,Ext h aa→jv 7 (aa.get b) (off+i * 7)=some (.agg u)∧∀j,j<7→hX (aa.get b) (off+i * 7+j)=u[j]? :=by
 obtain ⟨bd,us,ae,ak,aC⟩:=H
 have oZ:∀u ∈ us,u.length=7:=by
  intro u hu
  obtain ⟨j,bS⟩:=List.getElem?_of_mem hu
  have jU:j<l.length:=by rw [←ak];exact (List.getElem?_eq_some_iff.1 bS).1
  exact (aC j l[j] u (List.getElem?_eq_getElem jU) bS).len
 have zU:i<us.length:=by omega
 have hu:=List.getElem?_eq_getElem zU
 obtain ⟨b,off,aI,bh⟩:=ae.b_ (k:=k) aG
 have av:=Cv us i _ oZ hu
 have hK:=xB us oZ
 refine ⟨b,off,us[i],aI,aC i _ _ (List.getElem?_eq_getElem aG) hu,fun aa e=>⟨?_,fun j bS=>?_⟩⟩
 · rw [(bh.ext e).gl (i:=i * 7) (n:=7) (by omega),av]
 · exact (bh.ext e).cell av (by omega) bS
theorem jn.lens {h:aj} {l:List aY} {us:List (List V)} (ak:us.length=l.length) (aC:∀(i:Nat) (c:aY) (u:List V),l[i]? =some c→us[i]? =some u→eg h c u):∀u ∈ us,u.length=7:=by
 intro u hu
 obtain ⟨j,bS⟩:=List.getElem?_of_mem hu
 have jU:j<l.length:=by rw [←ak];exact (List.getElem?_eq_some_iff.1 bS).1
 exact (aC j l[j] u (List.getElem?_eq_getElem jU) bS).len
theorem jn.cut {h:aj} {l:List aY} {v:V} (H:jn h l v) {k:IntKind} {m:Nat} (hm:m≤l.length):∃dg,gV 7 v none (some (.int k m)) none=some dg∧jn h (l.take m) dg:=by
 obtain ⟨bd,us,ae,ak,aC⟩:=H
 have oZ:=jn.lens ak aC
 obtain ⟨dg,aI,bh,cp⟩:=ae.cut (k:=k) (cf:=k) (cq:=0) (aG:=m) (Nat.zero_le _) hm none (some (.int k m)) (.inr ⟨rfl,rfl⟩) (.inl rfl) bd
 refine ⟨dg,aI,?_,us.take m,?_,?_,?_⟩
 · intro b off hL nQ e
   subst e
   cases v<;>simp only [gV] at aI
   case ay=>unfold wK at aI;simp only [mP] at aI;split at aI<;>cases aI
   case slice cX PU wi Vx=>
    have aD:=bd _ _ _ _ rfl
    have hlen:wi=l.length:=ae.2.1
    unfold p_ at aI
    simp only [ni (k:=k) (d:=wi) (y:=Vx) (m:=m) (by omega),mP,Option.some.injEq,V.slice.injEq] at aI
    omega
   case ev cX PU wi ZG=>
    unfold pr at aI
    have hlen:wi=l.length:=ae.2.1
    simp only [ni (k:=k) (d:=wi) (y:=wi) (m:=m) (by omega),mP] at aI
    cases aD:Nat.blt 0 wi with
    | true=>rw [aD] at aI;cases aI
    | false=>rw [aD] at aI;cases aI
   case ia cX PU aiL ZG=>
    unfold yp at aI
    simp only [mP] at aI
    split at aI<;>cases aI
   all_goals cases aI
 · rw [List.length_take,Nat.min_eq_left hm]
   have hK:=xB us oZ
   have:(us.take m).flatten=us.flatten.take (m * 7):=by
    have aM:us=us.take m++us.drop m:=(List.take_append_drop m us).symm
    have Y':∀u ∈ us.take m,u.length=7:=fun u hu=>oZ u (List.mem_of_mem_take hu)
    have qH:=xB (us.take m) Y'
    conv=>rhs;rw [aM,List.flatten_append]
    rw [List.take_left' (by rw [qH,List.length_take,ak,Nat.min_eq_left hm])]
   rw [this]
   simpa using bh
 · rw [List.length_take,List.length_take,ak]
 · intro i c u aQ aB
   rw [List.getElem?_take] at aQ aB
   split at aQ
   · rename_i aG
     rw [if_pos aG] at aB
     exact aC i c u aQ aB
   · cases aQ
theorem sy {h:aj} {l:List At} {v:V} (H:cg h 3 v l.length (iX l)) {k:IntKind} {i:Nat} (aG:i<l.length):
 ∃b off,fc 3 v (.int k i)=some (.ptr b (off+i * 3))∧jv 3 (h.get b) (off+i * 3)=some (.agg l[i].enc)∧∀j,j<3→hX (h.get b) (off+i * 3+j)=(l[i].enc)[j]? :=by
 obtain ⟨b,off,aI,bh⟩:=H.b_ (k:=k) aG
 refine ⟨b,off,aI,?_,fun j bS=>bh.cell (Fe l i aG) (by rw [Ff];omega) bS⟩
 rw [bh.gl (i:=i * 3) (n:=3) (by rw [Ff];omega),Fe l i aG]
theorem ints_at {h:aj} {l:List Int} {v:V} (H:cg h 1 v l.length (cd l)) {k:IntKind} {i:Nat} (aG:i<l.length):
 ∃b off,fc 1 v (.int k i)=some (.ptr b (off+i * 1))∧hX (h.get b) (off+i * 1)=some (.int .i64 l[i]):=by
 obtain ⟨b,off,aI,bh⟩:=H.b_ (k:=k) aG
 refine ⟨b,off,aI,?_⟩
 rw [Nat.mul_one,bh.b9 (by rw [la];exact aG)]
 simp [cd]
theorem pX (n s:Nat) (b:a6) (o:Nat) (k:IntKind) (i:Int):(sZ n s).run (.ptr b o) (.int k i)=if 0≤i∧i < (n:Int) then some (.ptr b (o+i.toNat * s)) else none:=by
 simp only [sZ,V.eX,V.oe,sY,o5]
 by_cases ae:0≤i<;>by_cases ak:i < (n:Int)
 · have:¬(n:Int)≤i:=by omega
   simp [ae,ak,this]
 · have:(n:Int)≤i:=by omega
   simp [ae,ak,this]
 · simp [ae]
 · simp [ae]
theorem Fb {P:Program} {d:Option Nat} {k:fO} {z:V} {ok:Bool} {x i:bs} {j:Nat} {want:Bool} {rs:List Nat} {e:hb} {H:aj}:pB P ⟨d,.look k z ok x i,some (j,want),rs⟩ e H=
 (g4 (e.r.trim rs j)∧gL (dK (e.r.trim rs j) want) ((ld k.eq z ok H (x.bu (e.r.trim rs)) (i.bu (e.r.trim rs))).isSome=true)∧V.opt (dK (e.r.trim rs j) want) ((ld k.eq z ok H (x.bu (e.r.trim rs)) (i.bu (e.r.trim rs))).getD .bad)=e.v):=Fa rfl
theorem gq {i n:Nat} (h:i<n) (a7:n≤4611686018427387904):IntKind.i64.wrap ((i:Int)+1)=((i+1:Nat):Int):=by
 rw [wrap_i64 (by omega) (by omega)]
 rfl
inductive oE where
 | no | env | oc | iS | out
 | val (i:Nat)
 | lE (i:Nat)
abbrev fs:=a6→oE
open Classical in
noncomputable def jP (K:fs) (p:a6→Prop) (r:oE):fs:=fun b=>if p b then r else K b
theorem mJ {K:fs} {p:a6→Prop} {r:oE} {b:a6} (h:p b):jP K p r b=r:=if_pos h
theorem mI {K:fs} {p:a6→Prop} {r:oE} {b:a6} (h:¬p b):jP K p r b=K b:=if_neg h
def ed (au:List a6) (j:Nat):a6:=au.getD j .z
def c5 (au:List a6) (j:Nat):V:=.ptr (ed au j) 0
inductive eE (h:aj) (K:fs) (au:List a6):V→ix→Prop
 | nil:eE h K au .ch []
 | cons {b:a6} {n:Int} {j:Nat} {p:V} {L:ix} (dh:K b=.env) (bp:h.get b=.aq [.int .i64 n,c5 au j,p] 0 false) (bS:j<au.length) (bd:eE h K au p L):eE h K au (.ptr b 0) ((n,j)::L)
structure dd (al:aj) (K:fs) (h:aj) (au:List a6) (aO:fs) (aa:aj) (aL:List a6) (ei:oE→Prop):Prop where
 next:h.next≤aa.next
 role:∀b,K b≠.no→aO b=K b
 fresh:∀b,K b=.no→aO b≠.no→h.next≤cu b∧cu b<aa.next
 get:∀b,K b≠.no→¬ei (K b)→aa.get b=h.get b
 low:∀b,cu b<al.next→aa.get b=h.get b
 au:∃t,aL=au++t
theorem Kc {au t:List a6} {j:Nat} (bS:j<au.length):ed (au++t) j=ed au j:=by
 unfold ed
 rw [List.getD_eq_getElem?_getD,List.getD_eq_getElem?_getD,List.getElem?_append_left bS]
theorem Qn {au t:List a6} {j:Nat} (bS:j<au.length):c5 (au++t) j=c5 au j:=by
 unfold c5;rw [Kc bS]
theorem ad1 {au t:List a6} {bg:List Nat} (h:∀j ∈ bg,j<au.length):bg.map (c5 (au++t))=bg.map (c5 au):=
 List.map_congr_left fun j bS=>Qn (h j bS)
section
variable {al h aa fo:aj} {K aO JF:fs} {au aL JS:List a6} {ei ahS:oE→Prop}
theorem dd.trans (t:dd al K h au aO aa aL ei) (ps:dd al aO aa aL JF fo JS ei):dd al K h au JF fo JS ei:=by
 obtain ⟨u,hu⟩:=t.au
 obtain ⟨iQ,fL⟩:=ps.au
 refine ⟨Nat.le_trans t.next ps.next,fun b ah=>?_,fun b ah eF=>?_,fun b ah aD=>?_,fun b ah=>(ps.low b ah).trans (t.low b ah),u++iQ,by rw [fL,hu,List.append_assoc]⟩
 · rw [ps.role b (by rw [t.role b ah];exact ah),t.role b ah]
 · by_cases q:aO b=.no
   · have:=ps.fresh b q eF;have:=t.next;omega
   · have:=t.fresh b ah q;have:=ps.next;omega
 · rw [ps.get b (by rw [t.role b ah];exact ah) (by rw [t.role b ah];exact aD),t.get b ah aD]
theorem dd.len (t:dd al K h au aO aa aL ei):au.length≤aL.length:=by
 obtain ⟨u,rfl⟩:=t.au;simp
theorem dd.bb (t:dd al K h au aO aa aL ei) {j:Nat} (bS:j<au.length):ed aL j=ed au j:=by
 obtain ⟨u,rfl⟩:=t.au;exact Kc bS
theorem dd.ptr (t:dd al K h au aO aa aL ei) {j:Nat} (bS:j<au.length):c5 aL j=c5 au j:=by
 obtain ⟨u,rfl⟩:=t.au;exact Qn bS
theorem dd.ym (t:dd al K h au aO aa aL ei) {bg:List Nat} (bS:∀j ∈ bg,j<au.length):bg.map (c5 aL)=bg.map (c5 au):=by
 obtain ⟨u,rfl⟩:=t.au;exact ad1 bS
theorem dd.Ig (e:Ext h aa) (a7:∀b,K b≠.no→cu b<h.next) (NX:al.next≤h.next):dd al K h au K aa au ei:=
 ⟨e.next,fun _ _=>rfl,fun _ h aa=>absurd h aa,fun b ah _=>e.get b (a7 b ah),fun b ah=>e.get b (Nat.lt_of_lt_of_le ah NX),[],by simp⟩
theorem dd.s' {b:a6} {k:cT} (ah:ei (K b)) (fq:al.next≤cu b):dd al K h au K (h.set b k) au ei:=by
 refine ⟨Nat.le_refl _,fun _ _=>rfl,fun _ h aa=>absurd h aa,fun c aD a7=>?_,fun c aD=>?_,[],by simp⟩
 · rw [du,if_neg]
   rintro rfl
   exact a7 ah
 · rw [du,if_neg]
   rintro rfl
   omega
theorem eE.cy {p:V} {L:ix} (H:eE h K au p L) (t:dd al K h au aO aa aL ei) (aD:¬ei .env):eE aa aO aL p L:=by
 induction H with
 | nil=>exact .nil
 | @cons b _ _ _ _ dh bp bS bd bN=>
   have ah:K b≠.no:=by rw [dh];exact fun q=>by cases q
   refine .cons (by rw [t.role _ ah];exact dh) ?_ (Nat.lt_of_lt_of_le bS t.len) bN
   rw [t.get _ ah (by rw [dh];exact aD),bp,t.ptr bS]
theorem Ie {ai ws:List V} {a cI:Nat} {b b1:Bool} (e:cT.aq ai a b=cT.aq ws cI b1):ai=ws:=by
 apply List.ext_getElem?
 intro i
 rw [←qN ai a b i,←qN ws cI b1 i,e]
theorem eE.same {p:V} {L:ix} (H:eE h K au p L):∀{tE:ix},eE h K au p tE→tE.length=L.length:=by
 induction H with
 | nil=>intro tE jx;cases jx;rfl
 | cons dh bp bS bd bN=>
   intro tE jx
   cases jx with
   | cons ah_ Og CO o2=>
     rw [bp] at Og
     have:=Ie Og
     simp only [List.cons.injEq] at this
     obtain ⟨_,_,rfl,_⟩:=this
     rw [List.length_cons,List.length_cons,bN o2]
open Classical in
noncomputable def sI (h:aj) (K:fs) (au:List a6) (p:V):Nat:=if H:∃L,eE h K au p L then H.choose.length else 0
theorem eE.sI {p:V} {L:ix} (H:eE h K au p L):sI h K au p=L.length:=by
 unfold Go.Proofs.YtjbiefneffiogaaGreat.sI
 rw [dif_pos ⟨L,H⟩]
 exact H.same (Exists.choose_spec (⟨L,H⟩:∃L,eE h K au p L))
theorem eE.one {p:V} {L:ix} (H:eE h K au p L):p.one=true∧p.cells=[p]∧p.e3=true:=by
 cases H<;>exact ⟨rfl,rfl,rfl⟩
theorem dd.mod (t:dd al K h au aO aa aL ei):Mod (fun b=>K b=.no∨ei (K b)) h aa:=
 ⟨t.next,fun b _ ah=>t.get b (fun q=>ah (.inl q)) (fun q=>ah (.inr q))⟩
theorem cm.cy {B size n:Nat} {v:V} {ai:List V} (H:cm B h size v n ai) (t:dd al K h au aO aa aL ei) {r:oE} (bd:∀b,v.bb b→K b=r) (ae:r≠.no) (ak:¬ei r):cm B aa size v n ai:=
 H.mod t.mod fun b q e=>by
  have:=bd b q
  rw [this] at e
  rcases e with e | e
  · exact ae e
  · exact ak e
structure mM where
 E8:aj→eR→V→V→List V→Prop
 xh:aj→j2→V→List V→Prop
 nI:Nat
 jm:aj→aY→List V→Prop
 lay:V→V→Int→Int→V→Int→Int→Bool→List V→V→V→List V
def q6 (al h:aj) (K:fs) (au:List a6) (i:Nat) (v:eR) (cC:V):Prop:=
 match v with
 | .dn _ bg=>cm al.next h 1 cC bg.length (bg.map (c5 au))∧(∀b,cC.bb b→K b=.lE i)∧∀j ∈ bg,j<au.length
 | _=>True
def Br (h:aj) (K:fs) (au:List a6) (v:eR) (b4:V):Prop:=
 match v with
 | .fn _ _ e=>eE h K au b4 e
 | _=>True
theorem q6.cy {i:Nat} {v:eR} {cC:V} (H:q6 al h K au i v cC) (t:dd al K h au aO aa aL ei) (aD:¬ei (.lE i)):q6 al aa aO aL i v cC:=by
 cases v<;>first | trivial | skip
 obtain ⟨aQ,aB,a'⟩:=H
 refine ⟨?_,fun b ah=>?_,fun j bS=>Nat.lt_of_lt_of_le (a' j bS) t.len⟩
 · rw [t.ym a']
   exact cm.cy aQ t aB (by simp) aD
 · rw [t.role b (by rw [aB b ah];simp),aB b ah]
theorem Br.cy {v:eR} {b4:V} (H:Br h K au v b4) (t:dd al K h au aO aa aL ei) (aD:¬ei .env):Br aa aO aL v b4:=by
 cases v<;>first | trivial | exact eE.cy H t aD
def xg (Y:mM) (al h:aj) (K:fs) (au:List a6) (i:Nat) (v:eR):Prop:=
 K (ed au i)=.val i∧∃cC b4 cs,h.get (ed au i)=.aq cs 0 false∧Y.E8 al v cC b4 cs∧q6 al h K au i v cC∧Br h K au v b4
theorem xg.cy {Y:mM} {i:Nat} {v:eR} (H:xg Y al h K au i v) (aG:i<au.length) (t:dd al K h au aO aa aL ei) (ae:¬ei (.val i)) (ak:¬ei (.lE i)) (aC:¬ei .env):xg Y al aa aO aL i v:=by
 obtain ⟨aQ,cC,b4,cs,aB,a',cn,ea⟩:=H
 have ah:K (ed au i)≠.no:=by rw [aQ];simp
 refine ⟨by rw [t.bb aG,t.role _ ah,aQ],cC,b4,cs,?_,a',cn.cy t ak,ea.cy t aC⟩
 rw [t.bb aG,t.get _ ah (by rw [aQ];exact ae),aB]
structure hU (Y:mM) (al h:aj) (K:fs) (au:List a6) (st:List eR):Prop where
 ext:Ext al h
 new:∀b,K b≠.no→al.next≤cu b∧cu b<h.next
 len:au.length=st.length
 val:∀i v,st[i]? =some v→xg Y al h K au i v
theorem dd.ext (t:dd al K h au aO aa aL ei) (e:Ext al h):Ext al aa:=⟨Nat.le_trans e.next t.next,fun b ah=>(t.low b ah).trans (e.get b ah)⟩
theorem dd.news (t:dd al K h au aO aa aL ei) (e:Ext al h) (n:∀b,K b≠.no→al.next≤cu b∧cu b<h.next):∀b,aO b≠.no→al.next≤cu b∧cu b<aa.next:=by
 intro b ah
 have a7:=t.next
 have NX:=e.next
 by_cases q:K b=.no
 · have:=t.fresh b q ah;omega
 · have:=n b q;omega
theorem hU.cy {Y:mM} {st:List eR} (H:hU Y al h K au st) (t:dd al K h au aO aa au ei) (ae:∀i,¬ei (.val i)) (ak:∀i,¬ei (.lE i)) (aC:¬ei .env):hU Y al aa aO au st:=
 ⟨t.ext H.ext,t.news H.ext H.new,H.len,fun i v q=>(H.val i v q).cy (by rw [H.len];exact (List.getElem?_eq_some_iff.1 q).1) t (ae i) (ak i) aC⟩
theorem hU.D9 {Y:mM} {st:List eR} (H:hU Y al h K au st) {i:Nat} {v:eR} (t:dd al K h au aO aa au ei) (ae:∀j,j≠i→¬ei (.val j)) (ak:∀j,j≠i→¬ei (.lE j)) (aC:¬ei .env) (bk:xg Y al aa aO au i v):hU Y al aa aO au (st.set i v):=by
 refine ⟨t.ext H.ext,t.news H.ext H.new,by rw [List.length_set];exact H.len,fun j u q=>?_⟩
 by_cases bS:j=i
 · subst bS
   rw [List.getElem?_set_self'] at q
   cases aM:st[j]? with
   | none=>rw [aM] at q;cases q
   | some w=>rw [aM] at q;simp at q;subst q;exact bk
 · rw [List.getElem?_set_ne (by omega)] at q
   exact (H.val j u q).cy (by rw [H.len];exact (List.getElem?_eq_some_iff.1 q).1) t (ae j bS) (ak j bS) aC
theorem hU.push {Y:mM} {st:List eR} (H:hU Y al h K au st) {b:a6} {v:eR} (t:dd al K h au aO aa (au++[b]) ei) (ae:∀j,¬ei (.val j)) (ak:∀j,¬ei (.lE j)) (aC:¬ei .env) (bk:xg Y al aa aO (au++[b]) st.length v):hU Y al aa aO (au++[b]) (st++[v]):=by
 refine ⟨t.ext H.ext,t.news H.ext H.new,by simp [H.len],fun j u q=>?_⟩
 by_cases bS:j<st.length
 · rw [List.getElem?_append_left bS] at q
   exact (H.val j u q).cy (by rw [H.len];exact bS) t (ae j) (ak j) aC
 · have jU:j < (st++[v]).length:=(List.getElem?_eq_some_iff.1 q).1
   rw [List.length_append] at jU
   simp only [List.length_cons,List.length_nil] at jU
   obtain rfl:j=st.length:=by omega
   simp at q
   subst q
   exact bk
end
end Go.Proofs.YtjbiefneffiogaaGreat
namespace Go.Proofs.YtjbiefneffiogaaGreat
open Go bA
def Lc:bE:=
 .seq (.seq (.ag [ab 5 0,bG 6 5,eQ 7 6,aE 8 7,ab 9 1,oy 10 8 9])
 (.cond (.t 10)
 (.skip)
 (.exit 0)))
 (.block 1 (.ag [ab 11 0,bG 12 11,e_ 13 12,aE 14 13,ab 0 14]))
def Lb:bE:=
 .seq (.ag [kB 4])
 (.seq (.block 0 (.loop Lc))
 (.seq (.ag [ab 15 0,bG 16 15,cQ 17 16,aE 18 17,ab 4 18])
 (.ret)))
theorem Ub:cv 149 19 [.t 4] Lb:=cx Tryz.func149 (by kernel_rfl) (by kernel_rfl) rfl (by kernel_rfl) (by kernel_rfl)
def Lg:bE:=
 .seq (.ag [kB 6])
 (.seq (.ag [ab 7 1,ab 8 2,ab 9 0,w6 10 7 8 9,dM 11 10,ab 6 11])
 (.ret))
theorem Ue:cv 152 12 [.t 6] Lg:=cx Tryz.func152 (by kernel_rfl) (by kernel_rfl) rfl (by kernel_rfl) (by kernel_rfl)
def Mv:bE:=
 .seq (.ag [kB 2])
 (.seq (.ag [ab 3 0,⟨some 4,.build [(.int .i64 0),(.int .i64 0),(.str []),.ay,.ch,.ch,(.bool false)] [(0,1,(.c (.int .i64 1))),(1,1,(.t 3))],none,[3]⟩,dM 5 4,ab 2 5])
 (.ret))
theorem U5:cv 79 6 [.t 2] Mv:=cx Tryz.func79 (by kernel_rfl) (by kernel_rfl) rfl (by kernel_rfl) (by kernel_rfl)
def Kr:bE:=
 .seq (.ag [kB 4])
 (.seq (.ag [ab 5 0,ab 6 1,⟨some 7,.build [(.int .i64 0),(.int .i64 0),(.str []),.ay,.ch,.ch,(.bool false)] [(0,1,(.c (.int .i64 4))),(1,1,(.t 5)),(3,1,(.t 6))],none,[5,6]⟩,dM 8 7,ab 4 8])
 (.ret))
theorem TE:cv 102 9 [.t 4] Kr:=cx Tryz.func102 (by kernel_rfl) (by kernel_rfl) rfl (by kernel_rfl) (by kernel_rfl)
def MA:bE:=
 .seq (.ag [kB 2])
 (.seq (.seq (.ag [ab 3 0])
 (.cond (.t 3)
 (.seq (.ag [⟨some 4,.call 102 [(.c (.int .i64 1)),(.c .ay)],none,[]⟩,ab 2 4])
 (.ret))
 (.skip)))
 (.seq (.ag [BL 5,ab 2 5])
 (.ret)))
theorem U':cv 84 6 [.t 2] MA:=cx Tryz.func84 (by kernel_rfl) (by kernel_rfl) rfl (by kernel_rfl) (by kernel_rfl)
def La:bE:=
 .seq (.ag [kB 2])
 (.seq (.ag [ab 3 0,⟨some 4,.build [(.int .i64 0),(.int .i64 0),(.str []),.ay,.ch,.ch,(.bool false)] [(0,1,(.c (.int .i64 2))),(2,1,(.t 3))],none,[3]⟩,dM 5 4,ab 2 5])
 (.ret))
theorem Ua:cv 148 6 [.t 2] La:=cx Tryz.func148 (by kernel_rfl) (by kernel_rfl) rfl (by kernel_rfl) (by kernel_rfl)
def Mw:bE:=
 .seq (.ag [ey 2])
 (.seq (.ag [ab 3 0,⟨some 4,.bin .shl (.t 3) (.c (.int .u64 1)),none,[3]⟩,⟨some 5,.jD (.int .i32) (.t 4),none,[4]⟩,yN 6 5,⟨some 7,.bin .shr (.t 6) (.c (.int .u64 1)),none,[6]⟩,ab 2 7])
 (.ret))
theorem U6:cv 80 8 [.t 2] Mw:=cx Tryz.func80 (by kernel_rfl) (by kernel_rfl) rfl (by kernel_rfl) (by kernel_rfl)
def Ks:bE:=
 .ag [ab 4 0,ab 5 0,ab 6 1,bG 7 4,eu 8 7,⟨none,.st 1 (.t 8) (.c (.bool true)),none,[8]⟩,bG 9 5,cQ 10 9,eQ 11 10,⟨none,.st 1 (.t 11) (.t 6),none,[11,6]⟩]
theorem TF:cv 103 12 [] Ks:=cx Tryz.func103 (by kernel_rfl) (by kernel_rfl) rfl (by kernel_rfl) (by kernel_rfl)
def Ft:bE:=
 .seq (.ag [BM 2,dV 3])
 (.seq (.ag [ab 6 0,bG 7 6,w7 8 7,aE 9 8,db 10 9,ab 4 10])
 (.seq (.seq (.ag [ab 11 4,y3 12 11])
 (.cond (.t 12)
 (.seq (.ag [⟨some 13,.build [(.bool false),(.int .i64 0),.ch,.ch] [],none,[]⟩,⟨none,.st 4 (.t 2) (.t 13),none,[2,13]⟩,dV 3])
 (.ret))
 (.skip)))
 (.seq (.ag [ab 14 0,bG 15 14,w7 16 15,aE 17 16,ab 18 4,kb 19 18,⟨some 20,.b_ 4 (.t 17) (.t 19),none,[17,19]⟩,⟨some 21,.gl 4 (.t 20),none,[20]⟩,BM 5,⟨none,.st 4 (.t 5) (.t 21),none,[5,21]⟩])
 (.seq (.ag [ab 22 0,ab 23 0,bG 24 23,w7 25 24,aE 26 25,ab 27 4,kb 28 27,⟨some 29,.g_ 4 (.t 26) none (some (.t 28)) none,none,[26,28]⟩,bG 30 22,w7 31 30,⟨none,.st 1 (.t 31) (.t 29),none,[31,29]⟩])
 (.seq (.ag [⟨some 32,.gl 4 (.t 5),none,[5]⟩,⟨none,.st 4 (.t 2) (.t 32),none,[2,32]⟩,lz 3])
 (.ret))))))
theorem Le:cv 150 33 [.k3 2 4,.t 3] Ft:=cx Tryz.func150 (by kernel_rfl) (by kernel_rfl) rfl (by kernel_rfl) (by kernel_rfl)
def Lf:bE:=
 .seq (.ag [dM 4 1])
 (.draw [ab 6 0,ab 7 0,e_ 8 4,aE 9 8,ng 10 4,aE 11 10,cQ 12 4,aE 13 12,ab 14 2,BN 15 11 13 14,bG 16 6,kC 17 16,⟨none,.st 1 (.t 17) (.t 9),none,[17,9]⟩,bG 18 7,kX 19 18,⟨none,.st 1 (.t 19) (.t 15),none,[19,15]⟩] [(3,[9,12]),(5,[9]),(7,[9])])
theorem Ud:cv 151 20 [] Lf:=cx Tryz.func151 (by kernel_rfl) (by kernel_rfl) rfl (by kernel_rfl) (by kernel_rfl)
def Kq:bE:=
 .block 1 (.seq (.ag [ab 7 0,⟨some 8,.call 150 [(.t 7)],none,[7]⟩,ab 6 8,tB 9 6,tC 10 6,BM 4,⟨none,.st 4 (.t 4) (.t 9),none,[4,9]⟩,ab 5 10])
 (.block 2 (.seq (.ag [ab 12 5,gu 13 12,ab 11 13])
 (.cond (.t 11)
 (.seq (.ag [ab 14 0,⟨some 15,.call 103 [(.t 14),(.c (.int .i64 0))],none,[14]⟩])
 (.ret))
 (.seq (.ag [eQ 17 4,aE 18 17,gu 19 18,ab 16 19])
 (.cond (.t 16)
 (.seq (.ag [ab 20 0,⟨some 21,.gl 4 (.t 4),none,[4]⟩,ab 22 1,⟨some 23,.call 151 [(.t 20),(.t 21),(.t 22)],none,[20,21,22]⟩])
 (.ret))
 (.skip)))))))
def Kp:bE:=
 .block 0 (.loop Kq)
theorem TD:cv 101 24 [] Kp:=cx Tryz.func101 (by kernel_rfl) (by kernel_rfl) rfl (by kernel_rfl) (by kernel_rfl)
def KA:bE:=
 .block 1 (.seq (.ag [ab 7 0,⟨some 8,.call 150 [(.t 7)],none,[7]⟩,ab 6 8,tB 9 6,tC 10 6,BM 4,⟨none,.st 4 (.t 4) (.t 9),none,[4,9]⟩,ab 5 10])
 (.seq (.block 2 (.seq (.ag [ab 12 5,ab 13 12,yZ 14 4 13,cY 15 14 13,cN 16 13 15,ab 11 16])
 (.cond (.t 11)
 (.seq (.ag [ab 17 0,⟨some 18,.gl 4 (.t 4),none,[4]⟩,ab 19 1,⟨some 20,.call 151 [(.t 17),(.t 18),(.t 19)],none,[17,18,19]⟩])
 (.ret))
 (.seq (.ag [ab 22 5,ab 21 22])
 (.cond (.t 21)
 (.exit 1)
 (.seq (.ag [ab 24 1,bG 25 24,eQ 26 25,aE 27 26,yO 28 27,ab 23 28])
 (.cond (.t 23)
 (.seq (.ag [ab 29 0,w8 30 29])
 (.ret))
 (.skip))))))))
 (.seq (.ag [ab 31 0,⟨some 32,.call 103 [(.t 31),(.c (.int .i64 1))],none,[31]⟩])
 (.seq (.ag [ab 33 0,ab 34 1,bG 35 34,cQ 36 35,aE 37 36,bG 38 33,cQ 39 38,cQ 40 39,⟨none,.st 1 (.t 40) (.t 37),none,[40,37]⟩])
 (.ret)))))
def Kz:bE:=
 .block 0 (.loop KA)
theorem TK:cv 108 41 [] Kz:=cx Tryz.func108 (by kernel_rfl) (by kernel_rfl) rfl (by kernel_rfl) (by kernel_rfl)
def K':bE:=
 .seq (.ag [fz 12 11 10])
 (.seq (.cond (.t 12)
 (.skip)
 (.exit 0))
 (.seq (.block 1 (.seq (.ag [ab 13 11,h3 14 9 11,aE 15 14,ab 7 13,ab 8 15])
 (.seq (.ag [ab 16 1,ab 17 7,h3 18 16 17,aE 19 18,bG 20 19,eQ 21 20,aE 22 21,ab 23 8,oy 24 22 23])
 (.cond (.t 24)
 (.seq (.ag [ab 25 0,w8 26 25])
 (.seq (.ag [dV 6])
 (.ret)))
 (.skip)))))
 (.ag [e' 27 11,ab 11 27])))
def K9:bE:=
 .seq (.ag [dV 6])
 (.seq (.seq (.ag [ab 9 2,db 10 9,ey 11])
 (.block 0 (.loop K')))
 (.seq (.ag [lz 6])
 (.ret)))
theorem T':cv 146 28 [.t 6] K9:=cx Tryz.func146 (by kernel_rfl) (by kernel_rfl) rfl (by kernel_rfl) (by kernel_rfl)
def Mt:bE:=
 .seq (.ag [dM 1 0,⟨some 2,.gQ (.c .kN),none,[]⟩])
 (.seq (.ag [⟨some 3,.fn 145 [(.t 1)],none,[1]⟩,ab 2 3])
 (.ret))
theorem U3:cv 77 4 [.t 2] Mt:=cx Tryz.func77 (by kernel_rfl) (by kernel_rfl) rfl (by kernel_rfl) (by kernel_rfl)
def K8:bE:=
 .seq (.ag [ab 5 0,ab 6 1,JA 7,q_ 8 5 6 7])
 (.cond (.t 8)
 (.draw [ab 9 0,aE 10 2,ab 11 1,fS 12 11,aE 13 12,bG 14 13,cQ 15 14,aE 16 15,ab 17 1,l4 18 17,aE 19 18,bG 20 19,cQ 21 20,aE 22 21,ES 23 10 16 22,lA 24 9 23] [(1,[14]),(4,[14]),(7,[14]),(10,[14]),(13,[14])])
 (.skip))
theorem T9:cv 145 25 [] K8:=cx Tryz.func145 (by kernel_rfl) (by kernel_rfl) rfl (by kernel_rfl) (by kernel_rfl)
def Mu:bE:=
 .seq (.ag [kB 4])
 (.seq (.ag [ab 5 0,ab 6 1,oz 7 5 6,yP 8 7,sg 9 8,ab 4 9])
 (.ret))
theorem U4:cv 78 10 [.t 4] Mu:=cx Tryz.func78 (by kernel_rfl) (by kernel_rfl) rfl (by kernel_rfl) (by kernel_rfl)
def Mx:bE:=
 .seq (.ag [kB 4])
 (.seq (.ag [ab 5 0,ab 6 1,⟨some 7,.bin (.int .sub) (.t 5) (.t 6),none,[5,6]⟩,yP 8 7,sg 9 8,ab 4 9])
 (.ret))
theorem U7:cv 81 10 [.t 4] Mx:=cx Tryz.func81 (by kernel_rfl) (by kernel_rfl) rfl (by kernel_rfl) (by kernel_rfl)
def My:bE:=
 .seq (.ag [kB 4])
 (.seq (.ag [ab 5 0,ab 6 1,⟨some 7,.bin (.int .mul) (.t 5) (.t 6),none,[5,6]⟩,yP 8 7,sg 9 8,ab 4 9])
 (.ret))
theorem U8:cv 82 10 [.t 4] My:=cx Tryz.func82 (by kernel_rfl) (by kernel_rfl) rfl (by kernel_rfl) (by kernel_rfl)
def Mz:bE:=
 .seq (.ag [kB 4])
 (.seq (.ag [ab 5 0,ab 6 1,oA 7 5 6,⟨some 8,.call 84 [(.t 7)],none,[7]⟩,ab 4 8])
 (.ret))
theorem U9:cv 83 9 [.t 4] Mz:=cx Tryz.func83 (by kernel_rfl) (by kernel_rfl) rfl (by kernel_rfl) (by kernel_rfl)
def MB:bE:=
 .seq (.ag [kB 4])
 (.seq (.ag [ab 5 0,ab 6 1,fz 7 5 6,⟨some 8,.call 84 [(.t 7)],none,[7]⟩,ab 4 8])
 (.ret))
theorem U_:cv 85 9 [.t 4] MB:=cx Tryz.func85 (by kernel_rfl) (by kernel_rfl) rfl (by kernel_rfl) (by kernel_rfl)
def MC:bE:=
 .seq (.ag [kB 4])
 (.seq (.ag [ab 5 0,ab 6 1,⟨some 7,.bin (.int .leq) (.t 5) (.t 6),none,[5,6]⟩,⟨some 8,.call 84 [(.t 7)],none,[7]⟩,ab 4 8])
 (.ret))
theorem Va:cv 86 9 [.t 4] MC:=cx Tryz.func86 (by kernel_rfl) (by kernel_rfl) rfl (by kernel_rfl) (by kernel_rfl)
def MD:bE:=
 .seq (.ag [dM 1 0,⟨some 2,.gQ (.c .kN),none,[]⟩])
 (.seq (.ag [⟨some 3,.fn 147 [(.t 1)],none,[1]⟩,ab 2 3])
 (.ret))
theorem Vb:cv 87 4 [.t 2] MD:=cx Tryz.func87 (by kernel_rfl) (by kernel_rfl) rfl (by kernel_rfl) (by kernel_rfl)
def K_:bE:=
 .block 0 (.seq (.ag [ab 24 0,ab 25 1,JA 26,q_ 27 24 25 26,gu 28 27,ab 23 28])
 (.cond (.t 23)
 (.skip)
 (.seq (.ag [ab 30 1,l4 31 30,aE 32 31,bG 33 32,cQ 34 33,aE 35 34,y3 36 35,ab 29 36])
 (.cond (.t 29)
 (.ag [ab 37 0,⟨some 38,.call 102 [(.c (.int .i64 1)),(.c .ay)],none,[]⟩,yQ 39 37 38])
 (.draw [ab 5 0,aE 6 2,ab 7 1,fS 8 7,aE 9 8,bG 10 9,cQ 11 10,aE 12 11,ab 13 1,l4 14 13,aE 15 14,bG 16 15,cQ 17 16,aE 18 17,ES 19 6 12 18,yP 20 19,sg 21 20,lA 22 5 21] [(1,[14]),(4,[14]),(7,[14]),(10,[14]),(13,[14])])))))
theorem T_:cv 147 40 [] K_:=cx Tryz.func147 (by kernel_rfl) (by kernel_rfl) rfl (by kernel_rfl) (by kernel_rfl)
def ME:bE:=
 .seq (.ag [ey 4])
 (.seq (.ag [ab 5 0,ab 6 1,⟨some 7,.bin (.int .quo) (.t 5) (.t 6),none,[5,6]⟩,ab 4 7])
 (.ret))
theorem Vc:cv 88 8 [.t 4] ME:=cx Tryz.func88 (by kernel_rfl) (by kernel_rfl) rfl (by kernel_rfl) (by kernel_rfl)
def MF:bE:=
 .seq (.ag [ey 4])
 (.seq (.ag [ab 5 0,ab 6 1,⟨some 7,.bin (.int .rem) (.t 5) (.t 6),none,[5,6]⟩,ab 4 7])
 (.ret))
theorem Vd:cv 89 8 [.t 4] MF:=cx Tryz.func89 (by kernel_rfl) (by kernel_rfl) rfl (by kernel_rfl) (by kernel_rfl)
def L7:bE:=
 .seq (.ag [⟨some 0,.gQ (.c .lN),none,[]⟩])
 (.seq (.ag [⟨some 1,.rT none,none,[]⟩,⟨some 2,.call 77 [(.c (.func 78 []))],none,[]⟩,⟨none,.fk .str (.t 1) (.c (.str [97,100,100])) (.t 2),none,[1,2]⟩,⟨some 3,.call 77 [(.c (.func 81 []))],none,[]⟩,⟨none,.fk .str (.t 1) (.c (.str [115,117,98])) (.t 3),none,[1,3]⟩,⟨some 4,.call 77 [(.c (.func 82 []))],none,[]⟩,⟨none,.fk .str (.t 1) (.c (.str [109,117,108])) (.t 4),none,[1,4]⟩,⟨some 5,.call 77 [(.c (.func 83 []))],none,[]⟩,⟨none,.fk .str (.t 1) (.c (.str [101,113])) (.t 5),none,[1,5]⟩,⟨some 6,.call 77 [(.c (.func 85 []))],none,[]⟩,⟨none,.fk .str (.t 1) (.c (.str [108,116])) (.t 6),none,[1,6]⟩,⟨some 7,.call 77 [(.c (.func 86 []))],none,[]⟩,⟨none,.fk .str (.t 1) (.c (.str [108,101])) (.t 7),none,[1,7]⟩,⟨some 8,.call 87 [(.c (.func 88 []))],none,[]⟩,⟨none,.fk .str (.t 1) (.c (.str [100,105,118])) (.t 8),none,[1,8]⟩,⟨some 9,.call 87 [(.c (.func 89 []))],none,[]⟩,⟨none,.fk .str (.t 1) (.c (.str [109,111,100])) (.t 9),none,[1,9]⟩,⟨none,.fk .str (.t 1) (.c (.str [110,101,103])) (.c (.func 90 [])),none,[1]⟩,⟨none,.fk .str (.t 1) (.c (.str [103,101,116,99])) (.c (.func 91 [])),none,[1]⟩,⟨none,.fk .str (.t 1) (.c (.str [112,117,116,99])) (.c (.func 92 [])),none,[1]⟩,⟨none,.fk .str (.t 1) (.c (.str [112,117,116,115])) (.c (.func 93 [])),none,[1]⟩,⟨none,.fk .str (.t 1) (.c (.str [115,105,122,101])) (.c (.func 94 [])),none,[1]⟩,⟨none,.fk .str (.t 1) (.c (.str [99,104,114])) (.c (.func 95 [])),none,[1]⟩,⟨none,.fk .str (.t 1) (.c (.str [98,121,116,101])) (.c (.func 96 [])),none,[1]⟩,⟨none,.fk .str (.t 1) (.c (.str [99,117,116])) (.c (.func 97 [])),none,[1]⟩,⟨none,.fk .str (.t 1) (.c (.str [106,111,105,110])) (.c (.func 98 [])),none,[1]⟩,⟨none,.fk .str (.t 1) (.c (.str [115,101,116])) (.c (.func 99 [])),none,[1]⟩,ab 10 1,ab 0 10])
 (.ret))
theorem UM:cv 58 11 [.t 0] L7:=cx Tryz.func58 (by kernel_rfl) (by kernel_rfl) rfl (by kernel_rfl) (by kernel_rfl)
def MG:bE:=
 .seq (.ag [ab 4 0,ab 5 1,ET 6,q_ 7 4 5 6])
 (.cond (.t 7)
 (.ag [ab 8 0,ab 9 1,fS 10 9,aE 11 10,bG 12 11,cQ 13 12,aE 14 13,⟨some 15,.un .neg (.t 14),none,[14]⟩,yP 16 15,sg 17 16,lA 18 8 17])
 (.skip))
theorem Ve:cv 90 19 [] MG:=cx Tryz.func90 (by kernel_rfl) (by kernel_rfl) rfl (by kernel_rfl) (by kernel_rfl)
def MH:bE:=
 .seq (.seq (.draw [ab 4 0,bG 5 4,cQ 6 5,e_ 7 6,aE 8 7,ab 9 0,bG 10 9,eQ 11 10,aE 12 11,db 13 12,⟨some 14,.bin (.int .geq) (.t 8) (.t 13),none,[8,13]⟩] [])
 (.cond (.t 14)
 (.seq (.ag [ab 15 0,⟨some 16,.call 79 [(.c (.int .i64 (-1)))],none,[]⟩,lA 17 15 16])
 (.ret))
 (.skip)))
 (.seq (.ag [ab 18 0,bG 19 18,cQ 20 19,e_ 21 20,aE 22 21,e' 23 22,bG 24 18,cQ 25 24,e_ 26 25,⟨none,.st 1 (.t 26) (.t 23),none,[26,23]⟩])
 (.draw [ab 27 0,ab 28 0,bG 29 28,eQ 30 29,aE 31 30,ab 32 0,bG 33 32,cQ 34 33,e_ 35 34,aE 36 35,kb 37 36,h3 38 31 37,aE 39 38,yN 40 39,sg 41 40,lA 42 27 41] [(4,[14]),(9,[14]),(12,[14]),(13,[14])]))
theorem Vf:cv 91 43 [] MH:=cx Tryz.func91 (by kernel_rfl) (by kernel_rfl) rfl (by kernel_rfl) (by kernel_rfl)
def MI:bE:=
 .seq (.ag [ab 4 0,ab 5 1,ET 6,q_ 7 4 5 6])
 (.cond (.t 7)
 (.seq (.draw [ab 8 0,ab 9 0,bG 10 9,cQ 11 10,jz 12 11,aE 13 12,ab 14 1,fS 15 14,aE 16 15,bG 17 16,cQ 18 17,aE 19 18,BO 20 19,BP 21 20,ie 22 13 21,bG 23 8,cQ 24 23,jz 25 24,⟨none,.st 1 (.t 25) (.t 22),none,[25,22]⟩] [(5,[14]),(8,[14]),(11,[14]),(12,[14])])
 (.ag [ab 26 0,BL 27,lA 28 26 27]))
 (.skip))
theorem Vg:cv 92 29 [] MI:=cx Tryz.func92 (by kernel_rfl) (by kernel_rfl) rfl (by kernel_rfl) (by kernel_rfl)
def MJ:bE:=
 .seq (.ag [ab 4 0,ab 5 1,⟨some 6,.h5 1 1 [(.int .i64 0)] [(0,1,(.c (.int .i64 2)))],none,[]⟩,q_ 7 4 5 6])
 (.cond (.t 7)
 (.seq (.draw [ab 8 0,ab 9 0,bG 10 9,cQ 11 10,jz 12 11,aE 13 12,ab 14 1,fS 15 14,aE 16 15,bG 17 16,e_ 18 17,aE 19 18,ie 20 13 19,bG 21 8,cQ 22 21,jz 23 22,⟨none,.st 1 (.t 23) (.t 20),none,[23,20]⟩] [(5,[12]),(8,[12]),(11,[12])])
 (.ag [ab 24 0,BL 25,lA 26 24 25]))
 (.skip))
theorem Vh:cv 93 27 [] MJ:=cx Tryz.func93 (by kernel_rfl) (by kernel_rfl) rfl (by kernel_rfl) (by kernel_rfl)
def MK:bE:=
 .seq (.ag [ab 4 0,ab 5 1,⟨some 6,.h5 1 1 [(.int .i64 0)] [(0,1,(.c (.int .i64 2)))],none,[]⟩,q_ 7 4 5 6])
 (.cond (.t 7)
 (.ag [ab 8 0,ab 9 1,fS 10 9,aE 11 10,bG 12 11,e_ 13 12,aE 14 13,w4 15 14,sg 16 15,lA 17 8 16])
 (.skip))
theorem Vi:cv 94 18 [] MK:=cx Tryz.func94 (by kernel_rfl) (by kernel_rfl) rfl (by kernel_rfl) (by kernel_rfl)
def ML:bE:=
 .seq (.ag [ab 4 0,ab 5 1,ET 6,q_ 7 4 5 6])
 (.cond (.t 7)
 (.ag [ab 8 0,ab 9 1,fS 10 9,aE 11 10,bG 12 11,cQ 13 12,aE 14 13,BO 15 14,BP 16 15,⟨some 17,.jD .str (.t 16),none,[16]⟩,⟨some 18,.call 148 [(.t 17)],none,[17]⟩,lA 19 8 18])
 (.skip))
theorem Vj:cv 95 20 [] ML:=cx Tryz.func95 (by kernel_rfl) (by kernel_rfl) rfl (by kernel_rfl) (by kernel_rfl)
def MM:bE:=
 .block 0 (.seq (.ag [ab 22 0,ab 23 1,⟨some 24,.h5 2 1 [(.int .i64 0)] [(0,1,(.c (.int .i64 2))),(1,1,(.c (.int .i64 1)))],none,[]⟩,q_ 25 22 23 24,gu 26 25,ab 21 26])
 (.cond (.t 21)
 (.skip)
 (.seq (.draw [ab 28 1,l4 29 28,aE 30 29,bG 31 30,cQ 32 31,aE 33 32,EU 34 33,ab 35 34,fJ 36 1 35,⟨some 37,.b_ 1 (.t 36) (.c (.int .i64 1)),(some (35,false)),[36,35]⟩,f' 38 37 35,ra 39 38 35,⟨some 40,.c2 1 (.t 39),(some (35,false)),[39,35]⟩,f' 41 40 35,fJ 42 1 35,w9 43 42 35,f' 44 43 35,ra 45 44 35,se 46 45 35,f' 47 46 35,BQ 48 47 35,yR 49 41 48 35,fI 50 35 49,ab 27 50] [])
 (.cond (.t 27)
 (.ag [ab 51 0,EV 52,yQ 53 51 52])
 (.draw [ab 4 0,ab 5 1,fS 6 5,aE 7 6,bG 8 7,e_ 9 8,aE 10 9,ab 11 1,l4 12 11,aE 13 12,bG 14 13,cQ 15 14,aE 16 15,⟨some 17,.ux (.t 10) (.t 16),none,[10,16]⟩,yN 18 17,sg 19 18,lA 20 4 19] [(3,[15]),(6,[15]),(9,[15]),(12,[15]),(14,[15])])))))
theorem Vk:cv 96 54 [] MM:=cx Tryz.func96 (by kernel_rfl) (by kernel_rfl) rfl (by kernel_rfl) (by kernel_rfl)
def MN:bE:=
 .seq (.seq (.ag [ab 7 0,ab 8 1,⟨some 9,.h5 3 1 [(.int .i64 0)] [(0,1,(.c (.int .i64 2))),(1,1,(.c (.int .i64 1))),(2,1,(.c (.int .i64 1)))],none,[]⟩,q_ 10 7 8 9,gu 11 10])
 (.cond (.t 11)
 (.ret)
 (.skip)))
 (.seq (.draw [ab 12 1,fS 13 12,aE 14 13,bG 15 14,e_ 16 15,aE 17 16,ab 18 1,l4 19 18,aE 20 19,bG 21 20,cQ 22 21,aE 23 22,ab 24 1,⟨some 25,.b_ 1 (.t 24) (.c (.int .i64 2)),none,[24]⟩,aE 26 25,bG 27 26,cQ 28 27,aE 29 28,ab 4 17,ab 5 23,ab 6 29] [])
 (.seq (.seq (.ag [ab 30 5,EU 31 30,ab 32 31,fJ 33 6 32,w' 34 33 32,fI 35 32 34,ab 36 35,fJ 37 5 36,fJ 38 4 36,BQ 39 38 36,EW 40 37 39 36,fI 41 36 40,ab 42 41,fJ 43 6 42,fJ 44 4 42,BQ 45 44 42,fJ 46 5 42,⟨some 47,.bin (.int .sub) (.t 45) (.t 46),(some (42,false)),[45,46,42]⟩,EW 48 43 47 42,fI 49 42 48])
 (.cond (.t 49)
 (.seq (.ag [ab 50 0,EV 51,yQ 52 50 51])
 (.ret))
 (.skip)))
 (.ag [ab 53 0,ab 54 4,ab 55 5,ab 56 5,ab 57 6,oz 58 56 57,⟨some 59,.uR (.t 54) (some (.t 55)) (some (.t 58)) none,none,[54,55,58]⟩,⟨some 60,.call 148 [(.t 59)],none,[59]⟩,lA 61 53 60])))
theorem Vl:cv 97 62 [] MN:=cx Tryz.func97 (by kernel_rfl) (by kernel_rfl) rfl (by kernel_rfl) (by kernel_rfl)
def MO:bE:=
 .block 0 (.seq (.ag [ab 21 0,ab 22 1,⟨some 23,.h5 2 1 [(.int .i64 0)] [(0,1,(.c (.int .i64 2))),(1,1,(.c (.int .i64 2)))],none,[]⟩,q_ 24 21 22 23,gu 25 24,ab 20 25])
 (.cond (.t 20)
 (.skip)
 (.seq (.draw [ab 27 1,fS 28 27,aE 29 28,bG 30 29,e_ 31 30,aE 32 31,w4 33 32,ab 34 1,l4 35 34,aE 36 35,bG 37 36,e_ 38 37,aE 39 38,w4 40 39,oz 41 33 40,⟨some 42,.bin (.int .gtr) (.t 41) (.c (.int .i64 4096)),none,[41]⟩,ab 26 42] [])
 (.cond (.t 26)
 (.ag [ab 43 0,EV 44,yQ 45 43 44])
 (.draw [ab 4 0,ab 5 1,fS 6 5,aE 7 6,bG 8 7,e_ 9 8,aE 10 9,ab 11 1,l4 12 11,aE 13 12,bG 14 13,e_ 15 14,aE 16 15,⟨some 17,.bin (.str .add) (.t 10) (.t 16),none,[10,16]⟩,⟨some 18,.call 148 [(.t 17)],none,[17]⟩,lA 19 4 18] [(3,[14]),(6,[14]),(9,[14]),(12,[14])])))))
theorem Vm:cv 98 46 [] MO:=cx Tryz.func98 (by kernel_rfl) (by kernel_rfl) rfl (by kernel_rfl) (by kernel_rfl)
def MP:bE:=
 .seq (.seq (.ag [ab 4 1,fS 5 4,aE 6 5,bG 7 6,eQ 8 7,aE 9 8,yO 10 9,ab 11 10,fJ 12 1 11,w9 13 12 11,f' 14 13 11,ra 15 14 11,⟨some 16,.c2 1 (.t 15),(some (11,false)),[15,11]⟩,f' 17 16 11,⟨some 18,.bin (.int .neq) (.t 17) (.c (.int .i64 0)),(some (11,false)),[17,11]⟩,fI 19 11 18,ab 20 19,fJ 21 1 20,w9 22 21 20,f' 23 22 20,ra 24 23 20,Bt 25 24 20,f' 26 25 20,lx 27 26 20,⟨some 28,.bin (.int .neq) (.t 27) (.c (.int .i64 1)),(some (20,false)),[27,20]⟩,fI 29 20 28])
 (.cond (.t 29)
 (.seq (.ag [ab 30 0,w8 31 30])
 (.ret))
 (.skip)))
 (.seq (.draw [ab 32 1,fS 33 32,aE 34 33,bG 35 34,ng 36 35,aE 37 36,ab 38 1,l4 39 38,aE 40 39,fS 41 37,⟨none,.st 1 (.t 41) (.t 40),none,[41,40]⟩] [(2,[10]),(5,[10]),(8,[10])])
 (.ag [ab 42 0,BL 43,lA 44 42 43]))
theorem Vn:cv 99 45 [] MP:=cx Tryz.func99 (by kernel_rfl) (by kernel_rfl) rfl (by kernel_rfl) (by kernel_rfl)
def Ky:bE:=
 .seq (.ag [fz 26 25 24])
 (.seq (.cond (.t 26)
 (.skip)
 (.exit 0))
 (.seq (.block 1 (.seq (.ag [ab 27 25,h3 28 23 25,aE 29 28,ab 7 27,ab 8 29])
 (.seq (.ag [ab 30 8,ab 31 2,bG 32 31,cQ 33 32,aE 34 33,oA 35 30 34])
 (.cond (.t 35)
 (.ag [ab 36 7,ab 6 36])
 (.skip)))))
 (.ag [e' 37 25,ab 25 37])))
def Kx:bE:=
 .seq (.ag [ab 9 0,bG 10 9,kC 11 10,aE 12 11,bG 13 12,pw 14 13,aE 15 14,db 16 15,ab 6 16])
 (.seq (.seq (.ag [ab 17 0,bG 18 17,kC 19 18,aE 20 19,bG 21 20,pw 22 21,aE 23 22,db 24 23,ey 25])
 (.block 0 (.loop Ky)))
 (.seq (.seq (.ag [ab 38 2,bG 39 38,eQ 40 39,aE 41 40,ab 42 1,oy 43 41 42,ab 44 43,fJ 45 6 44,fJ 46 0 44,ra 47 46 44,⟨some 48,.c2 7 (.t 47),(some (44,false)),[47,44]⟩,f' 49 48 44,ra 50 49 44,u4 51 50 44,f' 52 51 44,lx 53 52 44,yR 54 45 53 44,fI 55 44 54])
 (.cond (.t 55)
 (.seq (.ag [ab 56 0,w8 57 56])
 (.ret))
 (.skip)))
 (.ag [ab 58 0,ab 59 0,bG 60 59,kC 61 60,aE 62 61,bG 63 62,eu 64 63,aE 65 64,ab 66 6,iT 67 65 66,bG 68 58,kC 69 68,⟨none,.st 1 (.t 69) (.t 67),none,[69,67]⟩])))
theorem TJ:cv 107 70 [] Kx:=cx Tryz.func107 (by kernel_rfl) (by kernel_rfl) rfl (by kernel_rfl) (by kernel_rfl)
def Kv:bE:=
 .seq (.ag [fz 29 28 27])
 (.seq (.cond (.t 29)
 (.skip)
 (.exit 0))
 (.seq (.block 1 (.seq (.ag [ab 30 28,ab 4 30])
 (.seq (.ag [ab 31 0,bG 32 31,kC 33 32,aE 34 33,bG 35 34,eu 36 35,aE 37 36,ab 38 4,iT 39 37 38,ab 5 39])
 (.seq (.draw [ab 40 5,bG 41 40,cQ 42 41,aE 43 42,ab 44 5,bG 45 44,eu 46 45,aE 47 46,tD 48 47,⟨some 49,.build [(.int .i64 0),(.int .i64 0),(.str []),.ay,.ch,.ch,(.bool false)] [(0,1,(.c (.int .i64 3))),(1,1,(.t 43)),(4,1,(.t 48))],none,[43,48]⟩,dM 50 49,ab 6 50] [(3,[12]),(7,[12])])
 (.seq (.ag [ab 51 3,ab 52 6,w_ 53 52,ie 54 51 53,ab 3 54])
 (.draw [ab 55 0,ab 56 0,bG 57 56,kX 58 57,aE 59 58,ab 60 5,bG 61 60,e_ 62 61,aE 63 62,ab 64 6,BN 65 59 63 64,bG 66 55,kX 67 66,⟨none,.st 1 (.t 67) (.t 65),none,[67,65]⟩] [(4,[10]),(8,[10])]))))))
 (.ag [e' 68 28,ab 28 68])))
def Kw:bE:=
 .seq (.ag [fz 72 71 70])
 (.seq (.cond (.t 72)
 (.skip)
 (.exit 2))
 (.seq (.block 3 (.seq (.ag [h3 73 69 71,aE 74 73,ab 8 74])
 (.ag [ab 75 8,ab 76 0,bG 77 76,kX 78 77,aE 79 78,bG 80 75,pw 81 80,⟨none,.st 1 (.t 81) (.t 79),none,[81,79]⟩])))
 (.ag [e' 82 71,ab 71 82])))
def Ku:bE:=
 .seq (.ag [ab 9 0,bG 10 9,kC 11 10,aE 12 11,bG 13 12,eu 14 13,aE 15 14,db 16 15,kb 17 16,ab 2 17])
 (.seq (.ag [jy 3])
 (.seq (.seq (.ag [ab 18 0,bG 19 18,kC 20 19,aE 21 20,bG 22 21,eu 23 22,aE 24 23,ab 25 2,Eu 26 24 25,db 27 26,ey 28])
 (.block 0 (.loop Kv)))
 (.seq (.seq (.ag [ab 69 3,db 70 69,ey 71])
 (.block 2 (.loop Kw)))
 (.ag [ab 83 0,ab 84 0,bG 85 84,kC 86 85,aE 87 86,bG 88 87,eu 89 88,aE 90 89,ab 91 2,iT 92 90 91,bG 93 83,kC 94 93,⟨none,.st 1 (.t 94) (.t 92),none,[94,92]⟩]))))
theorem TI:cv 105 95 [] Ku:=cx Tryz.func105 (by kernel_rfl) (by kernel_rfl) rfl (by kernel_rfl) (by kernel_rfl)
def TH:bE:=
 .seq (.ag [fz 32 31 30])
 (.seq (.cond (.t 32)
 (.skip)
 (.exit 1))
 (.seq (.block 2 (.seq (.ag [ab 33 31,h3 34 29 31,aE 35 34,ab 6 33,ab 7 35])
 (.ag [ab 36 0,ab 37 0,bG 38 37,kX 39 38,aE 40 39,ab 41 6,EI 42 41,ab 43 7,BN 44 40 42 43,bG 45 36,kX 46 45,⟨none,.st 1 (.t 46) (.t 44),none,[46,44]⟩])))
 (.ag [e' 47 31,ab 31 47])))
def Kt:bE:=
 .block 0 (.seq (.ag [ab 49 1,bG 50 49,eQ 51 50,aE 52 51,⟨some 53,.bin (.int .neq) (.t 52) (.c (.int .i64 3)),none,[52]⟩,ab 48 53])
 (.cond (.t 48)
 (.ag [ab 54 0,w8 55 54])
 (.seq (.ag [ab 57 1,bG 58 57,eu 59 58,aE 60 59,gu 61 60,ab 56 61])
 (.cond (.t 56)
 (.draw [ab 62 0,ab 63 0,ab 64 1,bG 65 64,jz 66 65,aE 67 66,ab 68 1,bG 69 68,pw 70 69,aE 71 70,ab 72 1,bG 73 72,cQ 74 73,aE 75 74,ab 76 2,BN 77 71 75 76,bG 78 62,kC 79 78,⟨none,.st 1 (.t 79) (.t 67),none,[79,67]⟩,bG 80 63,kX 81 80,⟨none,.st 1 (.t 81) (.t 77),none,[81,77]⟩] [(5,[15,18]),(9,[15]),(13,[15])])
 (.seq (.draw [ab 8 0,ab 9 0,bG 10 9,⟨some 11,.c2 10 (.t 10),none,[10]⟩,aE 12 11,ab 13 1,bG 14 13,cQ 15 14,aE 16 15,BR 17 12 16,cQ 18 17,bG 19 8,kC 20 19,⟨none,.st 1 (.t 20) (.t 18),none,[20,18]⟩] [(4,[13]),(8,[13])])
 (.seq (.ag [ab 21 0,ab 22 2,⟨some 23,.call 152 [(.c .ch),(.c (.int .i64 0)),(.t 22)],none,[22]⟩,bG 24 21,kX 25 24,⟨none,.st 1 (.t 25) (.t 23),none,[25,23]⟩])
 (.seq (.ag [ab 26 1,bG 27 26,ng 28 27,aE 29 28,db 30 29,ey 31])
 (.block 1 (.loop TH)))))))))
theorem TG:cv 104 82 [] Kt:=cx Tryz.func104 (by kernel_rfl) (by kernel_rfl) rfl (by kernel_rfl) (by kernel_rfl)
def Ko:bE:=
 .seq (.ag [fz 15 14 13])
 (.seq (.cond (.t 15)
 (.skip)
 (.exit 0))
 (.seq (.block 1 (.seq (.ag [q9 16 12 14,kW 17 16,y0 5,⟨none,.st 3 (.t 5) (.t 17),none,[5,17]⟩])
 (.seq (.ag [eQ 18 5,aE 19 18])
 (.block 2 (.seq (.ag [oB 27 19,ab 26 27])
 (.cond (.t 26)
 (.draw [ab 28 3,ab 29 0,bG 30 29,kX 31 30,aE 32 31,cQ 33 5,aE 34 33,⟨some 35,.call 149 [(.t 32),(.t 34)],none,[32,34]⟩,w_ 36 35,ie 37 28 36,ab 3 37] [(4,[7]),(6,[7])])
 (.seq (.ag [nK 39 19,ab 38 39])
 (.cond (.t 38)
 (.ag [ab 40 3,cQ 41 5,aE 42 41,sg 43 42,w_ 44 43,ie 45 40 44,ab 3 45])
 (.ag [ab 20 3,e_ 21 5,aE 22 21,⟨some 23,.call 148 [(.t 22)],none,[22]⟩,w_ 24 23,ie 25 20 24,ab 3 25])))))))))
 (.ag [e' 46 14,ab 14 46])))
def Kn:bE:=
 .seq (.ag [jy 2])
 (.seq (.ag [jy 3])
 (.seq (.seq (.ag [ab 6 0,bG 7 6,kC 8 7,aE 9 8,bG 10 9,jz 11 10,aE 12 11,db 13 12,ey 14])
 (.block 0 (.loop Ko)))
 (.seq (.ag [ab 47 3,ab 2 47])
 (.ret))))
theorem TC:cv 100 48 [.t 2] Kn:=cx Tryz.func100 (by kernel_rfl) (by kernel_rfl) rfl (by kernel_rfl) (by kernel_rfl)
def oO:bE:=
 .seq (.draw [ab 4 0,bG 5 4,kC 6 5,aE 7 6,ab 8 0,⟨some 9,.call 100 [(.t 8)],none,[8]⟩,ab 2 7,ab 3 9] [(3,[5,8])])
 (.seq (.ag [ab 10 2,bG 11 10,eQ 12 11,aE 13 12])
 (.block 0 (.seq (.ag [oB 15 13,ab 14 15])
 (.cond (.t 14)
 (.ag [ab 16 0,ab 17 3,fS 18 17,aE 19 18,lA 20 16 19])
 (.seq (.seq (.ag [nK 22 13,ab 21 22])
 (.cond (.t 21)
 (.skip)
 (.ag [u6 23 13,ab 21 23])))
 (.cond (.t 21)
 (.seq (.draw [ab 24 0,ab 25 0,bG 26 25,w7 27 26,aE 28 27,ab 29 2,bG 30 29,eQ 31 30,aE 32 31,u6 33 32,ab 34 2,bG 35 34,cQ 36 35,aE 37 36,ab 38 2,bG 39 38,eu 40 39,aE 41 40,yI 42 41,ab 43 0,bG 44 43,kX 45 44,aE 46 45,⟨some 47,.build [(.bool false),(.int .i64 0),.ch,.ch] [(0,1,(.t 33)),(1,1,(.t 37)),(2,1,(.t 42)),(3,1,(.t 46))],none,[33,37,42,46]⟩,⟨some 48,.h5 1 4 [(.bool false),(.int .i64 0),.ch,.ch] [(0,4,(.t 47))],none,[47]⟩,⟨some 49,.app 4 (.t 28) (.t 48),none,[28,48]⟩,bG 50 24,w7 51 50,⟨none,.st 1 (.t 51) (.t 49),none,[51,49]⟩] [(4,[25]),(8,[25]),(13,[25]),(17,[25]),(22,[25])])
 (.ag [ab 52 0,ab 53 2,bG 54 53,eu 55 54,aE 56 55,tD 57 56,bG 58 52,kC 59 58,⟨none,.st 1 (.t 59) (.t 57),none,[59,57]⟩]))
 (.seq (.ag [wZ 61 13,ab 60 61])
 (.cond (.t 60)
 (.draw [ab 62 0,bG 63 62,yS 64 63,aE 65 64,ab 66 2,bG 67 66,ng 68 67,aE 69 68,⟨some 70,.look .str .kN false (.t 65) (.t 69),none,[65,69]⟩,ab 71 0,ab 72 3,ES 73 70 71 72] [(3,[11]),(7,[11]),(8,[11])])
 (.seq (.ag [BD 75 13,ab 74 75])
 (.cond (.t 74)
 (.ag [ab 76 0,ab 77 2,bG 78 77,e_ 79 78,aE 80 79,ab 81 3,⟨some 82,.call 102 [(.t 80),(.t 81)],none,[80,81]⟩,lA 83 76 82])
 (.seq (.ag [Bw 85 13,ab 84 85])
 (.cond (.t 84)
 (.seq (.seq (.draw [ab 86 3,fS 87 86,aE 88 87,bG 89 88,eQ 90 89,aE 91 90,yO 92 91,ab 93 92,fJ 94 2 93,ra 95 94 93,se 96 95 93,f' 97 96 93,fJ 98 3 93,w9 99 98 93,f' 100 99 93,ra 101 100 93,Bt 102 101 93,f' 103 102 93,lx 104 103 93,yR 105 97 104 93,fI 106 93 105] [])
 (.cond (.t 106)
 (.seq (.ag [ab 107 0,w8 108 107])
 (.ret))
 (.skip)))
 (.draw [ab 109 0,ab 110 3,fS 111 110,aE 112 111,bG 113 112,ng 114 113,aE 115 114,ab 116 2,bG 117 116,e_ 118 117,aE 119 118,h3 120 115 119,aE 121 120,lA 122 109 121] [(3,[13]),(6,[13]),(10,[13]),(12,[13])]))
 (.seq (.ag [EO 124 13,ab 123 124])
 (.cond (.t 123)
 (.draw [ab 125 0,ab 126 3,fS 127 126,aE 128 127,ab 129 3,l4 130 129,aE 131 130,⟨some 132,.call 104 [(.t 125),(.t 128),(.t 131)],none,[125,128,131]⟩] [(3,[7]),(6,[7])])
 (.seq (.ag [w0 134 13,ab 133 134])
 (.cond (.t 133)
 (.draw [ab 135 0,ab 136 2,bG 137 136,cQ 138 137,aE 139 138,ab 140 2,bG 141 140,eu 142 141,aE 143 142,tD 144 143,ab 145 0,bG 146 145,kX 147 146,aE 148 147,⟨some 149,.build [(.int .i64 0),(.int .i64 0),(.str []),.ay,.ch,.ch,(.bool false)] [(0,1,(.c (.int .i64 3))),(1,1,(.t 139)),(4,1,(.t 144)),(5,1,(.t 148))],none,[139,144,148]⟩,dM 150 149,lA 151 135 150] [(4,[16]),(8,[16]),(13,[16])])
 (.seq (.ag [⟨some 153,.bin (.int .eql) (.t 13) (.c (.int .i64 13)),none,[13]⟩,ab 152 153])
 (.cond (.t 152)
 (.ag [ab 154 0,ab 155 2,bG 156 155,e_ 157 156,aE 158 157,ab 159 3,⟨some 160,.build [(.int .i64 0),(.int .i64 0),(.str []),.ay,.ch,.ch,(.bool false)] [(0,1,(.c (.int .i64 3))),(1,1,(.t 158)),(3,1,(.t 159)),(6,1,(.c (.bool true)))],none,[158,159]⟩,dM 161 160,lA 162 154 161])
 (.seq (.ag [w1 164 13,ab 163 164])
 (.cond (.t 163)
 (.ag [ab 165 0,⟨some 166,.call 105 [(.t 165)],none,[165]⟩])
 (.seq (.ag [Ex 168 13,ab 167 168])
 (.cond (.t 167)
 (.ag [ab 169 0,ab 170 3,⟨some 171,.call 106 [(.t 169),(.t 170)],none,[169,170]⟩])
 (.seq (.ag [EP 173 13,ab 172 173])
 (.cond (.t 172)
 (.ag [ab 174 0,ab 175 3,fS 176 175,aE 177 176,⟨some 178,.call 107 [(.t 174),(.c (.int .i64 4)),(.t 177)],none,[174,177]⟩])
 (.seq (.ag [y2 180 13,ab 179 180])
 (.cond (.t 179)
 (.ag [ab 181 0,ab 182 3,fS 183 182,aE 184 183,⟨some 185,.call 107 [(.t 181),(.c (.int .i64 1)),(.t 184)],none,[181,184]⟩])
 (.seq (.ag [EM 187 13,ab 186 187])
 (.cond (.t 186)
 (.ag [ab 188 0,ab 189 3,fS 190 189,aE 191 190,yQ 192 188 191])
 (.skip)))))))))))))))))))))))))))))
theorem pD:cv 59 193 [] oO:=cx Tryz.func59 (by kernel_rfl) (by kernel_rfl) rfl (by kernel_rfl) (by kernel_rfl)
def LG:bE:=
 .seq (.seq (.ag [ab 15 9,bG 16 15,eu 17 16,aE 18 17,gu 19 18,ab 20 19,dH 21 9 20,sh 22 21 20,ly 23 22 20,qd 24 23 20,cY 25 24 20,dH 26 3 20,BB 27 25 26 20,cN 28 20 27])
 (.cond (.t 28)
 (.skip)
 (.exit 0)))
 (.block 1 (.seq (.ag [ab 29 9,bG 30 29,cQ 31 30,ng 32 31,aE 33 32,e' 34 33,bG 35 29,cQ 36 35,ng 37 36,⟨none,.st 1 (.t 37) (.t 34),none,[37,34]⟩])
 (.ag [ab 38 9,⟨some 39,.call 59 [(.t 38)],none,[38]⟩])))
def LF:bE:=
 .seq (.ag [dM 4 0,rb 8])
 (.seq (.ag [ab 10 2,ab 11 1,⟨some 12,.call 58 [],none,[]⟩,⟨some 13,.build [.ay,(.int .i64 0),(.int .i64 0),(.int .i64 0),(.int .i64 0),.ay,(.bool false),.ch,.ch,.ay,.ay,.lN] [(0,1,(.t 10)),(7,1,(.t 4)),(10,1,(.t 11)),(11,1,(.t 12))],none,[10,4,11,12]⟩,dM 14 13,ab 9 14])
 (.seq (.block 0 (.loop LG))
 (.seq (.seq (.ag [ab 40 9,bG 41 40,eu 42 41,aE 43 42,gu 44 43])
 (.cond (.t 44)
 (.ag [ab 45 9,bG 46 45,cQ 47 46,eQ 48 47,⟨none,.st 1 (.t 48) (.c (.int .i64 4)),none,[48]⟩])
 (.skip)))
 (.seq (.ag [ab 49 9,bG 50 49,cQ 51 50,xa 52 51,⟨none,.st 5 (.t 8) (.t 52),none,[8,52]⟩])
 (.ret)))))
theorem Uz:cv 40 53 [.k3 8 5] LF:=cx Tryz.func40 (by kernel_rfl) (by kernel_rfl) rfl (by kernel_rfl) (by kernel_rfl)
def K0:bE:=
 .seq (.ag [dM 3 0,rb 6])
 (.seq (.seq (.ag [cK 7 3,⟨some 8,.call 20 [(.t 7)],none,[7]⟩,wX 9 8,ab 10 9,fJ 11 2 10,w' 12 11 10,fI 13 10 12])
 (.cond (.t 13)
 (.seq (.ag [JB 14,⟨none,.st 5 (.t 6) (.t 14),none,[6,14]⟩])
 (.ret))
 (.skip)))
 (.seq (.ag [cK 15 3,ab 16 1,ab 17 2,⟨some 18,.call 40 [(.t 15),(.c .ay),(.t 16),(.t 17)],none,[15,16,17]⟩,⟨none,.st 5 (.t 6) (.t 18),none,[6,18]⟩])
 (.ret)))
theorem T8:cv 13 19 [.k3 6 5] K0:=cx Tryz.func13 (by kernel_rfl) (by kernel_rfl) rfl (by kernel_rfl) (by kernel_rfl)
def mO (Y:mM) (al h:aj) (K:fs) (au:List a6) (w:List j2) (b8:V):Prop:=
 ∃us:List (List V),cm al.next h Y.nI b8 w.length us.flatten∧(∀b,b8.bb b→K b=.iS)∧us.length=w.length∧
  ∀(i:Nat) (a:j2) (u:List V),w.reverse[i]? =some a→us[i]? =some u→u.length=Y.nI∧gh u=true∧∃p,Y.xh al a p u∧eE h K au p a.e
def qh (al h:aj) (K:fs) (out:List UInt8) (bn:V):Prop:=cm al.next h 1 bn out.length (dp out)∧∀b,bn.bb b→K b=.out
section
variable {Y:mM} {al h aa:aj} {K aO:fs} {au aL:List a6} {ei:oE→Prop}
theorem mO.cy {w:List j2} {b8:V} (H:mO Y al h K au w b8) (t:dd al K h au aO aa aL ei) (ae:¬ei .iS) (ak:¬ei .env):mO Y al aa aO aL w b8:=by
 obtain ⟨us,aQ,aB,a',cn⟩:=H
 refine ⟨us,cm.cy aQ t aB (by simp) ae,fun b ah=>by rw [t.role b (by rw [aB b ah];simp),aB b ah],a',fun i a u aI bh=>?_⟩
 obtain ⟨bw,b3,p,a3,a4⟩:=cn i a u aI bh
 exact ⟨bw,b3,p,a3,a4.cy t ak⟩
theorem qh.cy {out:List UInt8} {bn:V} (H:qh al h K out bn) (t:dd al K h au aO aa aL ei) (ae:¬ei .out):qh al aa aO out bn:=
 ⟨cm.cy H.1 t H.2 (by simp) ae,fun b ah=>by rw [t.role b (by rw [H.2 b ah];simp),H.2 b ah]⟩
theorem mO.one {w:List j2} {b8:V} (H:mO Y al h K au w b8):b8.one=true∧b8.cells=[b8]∧b8.e3=true:=by
 obtain ⟨us,aQ,_⟩:=H;exact aQ.v.one
theorem mO.len {w:List j2} {b8:V} (H:mO Y al h K au w b8):n_ b8=some (.int .i64 w.length):=by
 obtain ⟨us,aQ,_⟩:=H;exact aQ.v.len
theorem qh.one {out:List UInt8} {bn:V} (H:qh al h K out bn):bn.one=true∧bn.cells=[bn]∧bn.e3=true:=H.1.v.one
end
def ib (al:aj) (v:V) (c:aY):Prop:=∃b off u,v=.ptr b off∧eg al c u∧∀aa,Ext al aa→jv 7 (aa.get b) off=some (.agg u)∧∀j,j<7→hX (aa.get b) (off+j)=u[j]?
theorem ib.one {al:aj} {v:V} {c:aY} (H:ib al v c):v.one=true∧v.cells=[v]∧v.e3=true:=by
 obtain ⟨b,off,u,rfl,_⟩:=H;exact ⟨rfl,rfl,rfl⟩
theorem ib.et {al:aj} {l:List aY} {v:V} (H:jn al l v) {k:IntKind} {i:Nat} (aG:i<l.length):∃p,fc 7 v (.int k i)=some p∧ib al p l[i]:=by
 obtain ⟨b,off,u,aI,bh,cp⟩:=H.kF (k:=k) aG
 exact ⟨_,aI,b,_,u,rfl,bh,cp⟩
theorem ib.open {al:aj} {v:V} {c:aY} (H:ib al v c):∃b off aN aP aw,v=.ptr b off∧cg al 3 aN c.a.length (iX c.a)∧cg al 1 aP c.t.length (cd c.t)∧jn al c.l aw∧
 ∀aa,Ext al aa→hX (aa.get b) off=some (.int .i64 c.k)∧hX (aa.get b) (off+1)=some (.int .i64 c.x)∧hX (aa.get b) (off+2)=some (.int .i64 c.n)∧hX (aa.get b) (off+3)=some (.str c.s)∧hX (aa.get b) (off+4)=some aN∧hX (aa.get b) (off+5)=some aP∧hX (aa.get b) (off+6)=some aw:=by
 obtain ⟨b,off,u,rfl,H,L⟩:=H
 obtain ⟨aN,aP,aw,rfl,cU,dU,cw⟩:=H.open
 refine ⟨b,off,aN,aP,aw,rfl,cU,dU,cw,fun aa e=>?_⟩
 have q:=(L aa e).2
 exact ⟨q 0 (by omega),q 1 (by omega),q 2 (by omega),q 3 (by omega),q 4 (by omega),q 5 (by omega),q 6 (by omega)⟩
def i64 (n:Int):V:=.int .i64 n
def sn:mM where
 E8 al v cC b4 cs:=match v with
  | .int n=>cs=[.int .i64 1,.int .i64 n,.str [],.ay,.ch,.ch,.bool false]
  | .text s=>cs=[.int .i64 2,.int .i64 0,.str s,.ay,.ch,.ch,.bool false]
  | .fn x c _=>∃dY,ib al dY c∧cs=[.int .i64 3,.int .i64 x,.str [],.ay,dY,b4,.bool false]
  | .dn t _=>cs=[.int .i64 4,.int .i64 t,.str [],cC,.ch,.ch,.bool false]
 xh al a p u:=∃dY,ib al dY a.c∧u=[.bool a.jY,.int .i64 a.x,dY,p]
 nI:=4
 jm _ _ _:=True
 lay _ _ _ _ _ _ _ _ _ _ _:=[]
structure eo (al h:aj) (ar:a6) (K:fs) (au:List a6) (aS pm:V) (S:ax) (steps:Int) (dY b4 b8 bn:V):Prop where
 rep:hU sn al h K au S.st
 dv:K ar=.oc
 get:h.get ar=.aq [aS,.int .i64 S.eZ,.int .i64 S.fg,.int .i64 S.read,.int .i64 steps,bn,.bool S.fQ,dY,b4,b8,.ay,pm] 0 false
 co:ib al dY S.c
 dB:eE h K au b4 S.e
 wr:mO sn al h K au S.w b8
 dk:qh al h K S.out bn
def dx (al h:aj) (ar:a6) (K:fs) (au:List a6) (aS pm:V) (S:ax) (steps:Int):Prop:=∃dY b4 b8 bn,eo al h ar K au aS pm S steps dY b4 b8 bn
section
variable {al h aa:aj} {ar:a6} {K aO:fs} {ei:oE→Prop} {au aL:List a6} {aS pm:V} {S c1:ax} {steps my:Int} {dY b4 b8 bn qo f_ fB jK:V}
theorem eo.next (M:eo al h ar K au aS pm S steps dY b4 b8 bn) (c1:ax) (my:Int) (qo f_ fB jK:V) (dq:c1.st=S.st) (vy:ib al qo c1.c) (vA:eE h K au f_ c1.e) (vR:mO sn al h K au c1.w fB) (kp:qh al h K c1.out jK):
 eo al (h.set ar (.aq [aS,.int .i64 c1.eZ,.int .i64 c1.fg,.int .i64 c1.read,.int .i64 my,jK,.bool c1.fQ,qo,f_,fB,.ay,pm] 0 false)) ar K au aS pm c1 my qo f_ fB jK:=by
 have a7:=M.rep.new ar (by rw [M.dv];simp)
 have t:dd al K h au K (h.set ar (.aq [aS,.int .i64 c1.eZ,.int .i64 c1.fg,.int .i64 c1.read,.int .i64 my,jK,.bool c1.fQ,qo,f_,fB,.ay,pm] 0 false)) au (·=.oc):=dd.s' M.dv a7.1
 refine ⟨?_,M.dv,by rw [du,if_pos rfl],vy,vA.cy t (by simp),vR.cy t (by simp) (by simp),kp.cy t (by simp)⟩
 rw [dq]
 exact M.rep.cy t (by simp) (by simp) (by simp)
theorem eo.cy (M:eo al h ar K au aS pm S steps dY b4 b8 bn) (t:dd al K h au aO aa au ei) (ae:∀i,¬ei (.val i)) (ak:∀i,¬ei (.lE i)) (aC:¬ei .env) (bq:¬ei .oc) (dZ:¬ei .iS) (eM:¬ei .out):eo al aa ar aO au aS pm S steps dY b4 b8 bn:=by
 have hm:K ar≠.no:=by rw [M.dv];simp
 exact ⟨M.rep.cy t ae ak aC,by rw [t.role ar hm,M.dv],by rw [t.get ar hm (by rw [M.dv];exact bq),M.get],M.co,M.dB.cy t aC,M.wr.cy t dZ aC,M.dk.cy t eM⟩
theorem eo.b6 (M:eo al h ar K au aS pm S steps dY b4 b8 bn):al.next≤cu ar∧cu ar<h.next:=M.rep.new ar (by rw [M.dv];simp)
theorem eo.ext (M:eo al h ar K au aS pm S steps dY b4 b8 bn) (e:Ext h aa):eo al aa ar K au aS pm S steps dY b4 b8 bn:=by
 refine M.cy (ei:=fun _=>False) (dd.Ig e (fun b ah=>(M.rep.new b ah).2) M.rep.ext.next) ?_ ?_ ?_ ?_ ?_ ?_<;>simp
theorem hU.ex {st:List eR} {Y:mM} (M:hU Y al h K au st) (e:Ext h aa):dd al K h au K aa au (fun _=>False):=dd.Ig e (fun b ah=>(M.new b ah).2) M.ext.next
end
theorem WI (h:aj) (K:fs) (au:List a6) (n:Int) (p:V) (L:ix) (H:eE h K au p L) (a7:n ∈ L.map Prod.fst):bB Tryz.prog 149 [p,.int .i64 n] h fun x aa=>x=c5 au (mw L n)∧aa=h∧mw L n<au.length:=by
 refine Ub rfl (bP ?_)
 unfold Lb
 simp +contextual only [↓ad,af,simprocAttr]
 refine fw (fun r aa=>aa=h∧r 1=.int .i64 n∧∃M,eE h K au (r 0) M∧n ∈ M.map Prod.fst∧mw M n=mw L n) (fun r aa=>sI h K au (r 0)) ?_ ?_
 · exact ⟨rfl,by simp only [↓ad,bj,simprocAttr],L,by simpa only [↓ad,bj,simprocAttr] using H,a7,rfl⟩
 · rintro r aa ⟨rfl,aU,M,yF,eC,aM⟩
   unfold Lc
   generalize a2:r 0=q at *
   have aK:=yF.sI
   cases yF with
   | nil=>simp at eC
   | @cons b m j nD tE dh bp bS bd=>
     have n0:=bd.sI
     by_cases e:m=n
     · subst e
       simp +contextual only [aU,a2,bp,↓ad,af,simprocAttr]
       simp only [mw,if_true] at aM
       rw [←aM]
       exact ⟨rfl,bS⟩
     · have fT:=eq_false e
       simp +contextual only [aU,a2,bp,fT,↓ad,af,simprocAttr]
       simp only [mw,if_neg e] at aM
       simp only [List.map_cons,List.mem_cons] at eC
       refine ⟨⟨tE,bd,?_,aM⟩,?_⟩
       · rcases eC with eC | eC
         · exact absurd eC.symm e
         · exact eC
       · rw [aK,n0,List.length_cons];omega
def g7 (h aa:aj) (x:V) (cs:List V):Prop:=∃b,x=.ptr b 0∧Ext h aa∧h.next≤cu b∧Old aa b∧aa.get b=.aq cs 0 false
theorem pL (h:aj) (cs:List V):g7 h (h.new (.aq cs 0 false)) (.ptr (ao h.next) 0) cs:=
 ⟨_,rfl,(Ext.refl h).new _,by rw [cS];exact Nat.le_refl _,uI,gi _⟩
theorem Jj (h:aj) (p v:V) (n:Int) (aT:p.one=true∧p.cells=[p]∧p.e3=true) (bk:v.one=true∧v.cells=[v]∧v.e3=true):bB Tryz.prog 152 [p,.int .i64 n,v] h fun x aa=>g7 h aa x [.int .i64 n,v,p]:=by
 refine Ue rfl (bP ?_)
 unfold Lg
 simp +contextual only [aT.1,aT.2.1,aT.2.2,bk.1,bk.2.1,bk.2.2,↓ad,af,simprocAttr]
 exact pL _ _
theorem rX (h:aj) (n:Int):bB Tryz.prog 79 [.int .i64 n] h fun x aa=>g7 h aa x [.int .i64 1,.int .i64 n,.str [],.ay,.ch,.ch,.bool false]:=by
 refine U5 rfl (bP ?_)
 unfold Mv
 simp +contextual only [↓ad,af,simprocAttr]
 exact pL _ _
theorem ou (h:aj) (n:Int) (v:V) (bk:v.one=true∧v.cells=[v]∧v.e3=true):bB Tryz.prog 102 [.int .i64 n,v] h fun x aa=>g7 h aa x [.int .i64 4,.int .i64 n,.str [],v,.ch,.ch,.bool false]:=by
 refine TE rfl (bP ?_)
 unfold Kr
 simp +contextual only [bk.1,bk.2.1,bk.2.2,↓ad,af,simprocAttr]
 exact pL _ _
theorem D5 (h:aj) (s:List UInt8):bB Tryz.prog 148 [.str s] h fun x aa=>g7 h aa x [.int .i64 2,.int .i64 0,.str s,.ay,.ch,.ch,.bool false]:=by
 refine Ua rfl (bP ?_)
 unfold La
 simp +contextual only [↓ad,af,simprocAttr]
 exact pL _ _
theorem I6 (h:aj) (b:Bool):bB Tryz.prog 84 [.bool b] h fun x aa=>g7 h aa x [.int .i64 4,.int .i64 (if b=true then 1 else 0),.str [],.ay,.ch,.ch,.bool false]:=by
 refine U' rfl (bP ?_)
 unfold MA
 cases b with
 | true=>
   simp +contextual only [↓ad,af,simprocAttr]
   refine aV (ou h 1 .ay ⟨rfl,rfl,rfl⟩) ?_
   rintro x ae H
   simp +contextual only [↓ad,af,simprocAttr]
   exact H
 | false=>
   simp +contextual only [↓ad,af,simprocAttr]
   refine aV (ou h 0 .ay ⟨rfl,rfl,rfl⟩) ?_
   rintro x ae H
   simp +contextual only [↓ad,af,simprocAttr]
   exact H
theorem afV {P:Program} (n:Int):eH.shl.run P (.int .i64 n) (.int .u64 1)=some (.int .i64 (IntKind.i64.wrap (n * 2))):=by rfl
theorem af0 {P:Program} (n:Int):eH.shr.run P (.int .i64 n) (.int .u64 1)=some (.int .i64 (n.fdiv 2)):=by rfl
theorem ahj (n:Int):(IntKind.i32.wrap (n * 2)).fdiv 2=wr n:=by
 rw [Int.fdiv_eq_ediv_of_nonneg _ (by decide)]
 unfold wr
 have:IntKind.i32.wrap (n * 2)=if n * 2 % 4294967296≥2147483648 then n * 2 % 4294967296-4294967296 else n * 2 % 4294967296:=by simp [IntKind.wrap,IntKind.bits,IntKind.signed]
 rw [this]
 split<;>omega
theorem i32_in (n:Int):-9223372036854775808≤IntKind.i32.wrap n∧IntKind.i32.wrap n≤9223372036854775807:=by
 have:IntKind.i32.wrap n=if n % 4294967296≥2147483648 then n % 4294967296-4294967296 else n % 4294967296:=by simp [IntKind.wrap,IntKind.bits,IntKind.signed]
 rw [this]
 split<;>omega
theorem Bf (n:Int) (h:aj) (a7:-2305843009213693952≤n∧n≤2305843009213693952):lr Tryz.prog 80 [.int .i64 n] h (.int .i64 (wr n)) h:=by
 refine te (U6 rfl (bP ?_))
 unfold Mw
 have dL:IntKind.i64.wrap (n * 2)=n * 2:=wrap_i64 (by omega) (by omega)
 have dw:IntKind.i64.wrap (IntKind.i32.wrap (n * 2))=IntKind.i32.wrap (n * 2):=wrap_i64 (i32_in _).1 (i32_in _).2
 simp +contextual only [afV,af0,dL,dw,ahj,↓ad,af,simprocAttr]
section
variable {al h:aj} {ar:a6} {K:fs} {au:List a6} {aS pm:V} {S:ax} {steps:Int}
theorem pH (M:dx al h ar K au aS pm S steps) (pU:Int):bB Tryz.prog 103 [.ptr ar 0,.int .i64 pU] h fun x aa=>dx al aa ar K au aS pm (S.ends pU) steps:=by
 obtain ⟨dY,b4,b8,bn,M⟩:=M
 have aH:=M.next {S with fQ:=true} steps dY b4 b8 bn rfl M.co M.dB M.wr M.dk
 have M2:=aH.next (S.ends pU) steps dY b4 b8 bn rfl aH.co aH.dB aH.wr aH.dk
 have g:=M.get
 have bF:=aH.get
 refine TF rfl (bP ?_)
 unfold Ks
 have aiK:=M.co.one
 simp +contextual only [g,bF,↓ad,af,simprocAttr]
 exact ⟨_,_,_,_,M2⟩
end
end Go.Proofs.YtjbiefneffiogaaGreat
namespace Go.Proofs.YtjbiefneffiogaaGreat
open Go bA
section
variable {Y:mM} {al h aa:aj} {K aO:fs} {au aL:List a6} {ei:oE→Prop}
theorem dd.uH {b:a6} {k:cT} (ah:K b=.no) (fq:al.next≤cu b):dd al K h au K (h.set b k) au (fun _=>False):=by
 refine ⟨Nat.le_refl _,fun _ _=>rfl,fun _ h aa=>absurd h aa,fun c aD _=>?_,fun c aD=>?_,[],by simp⟩
 · rw [du,if_neg]
   rintro rfl
   exact aD ah
 · rw [du,if_neg]
   rintro rfl
   omega
theorem hU.tmp {st:List eR} (M:hU Y al h K au st) {b:a6} (ah:h.next≤cu b):K b=.no:=by
 by_cases q:K b=.no
 · exact q
 · have:=M.new b q;omega
theorem mO.pop {a:j2} {w:List j2} {b8:V} (aM:1≤Y.nI) (H:mO Y al h K au (a::w) b8):∃u p b off fB,u.length=Y.nI∧gh u=true∧Y.xh al a p u∧eE h K au p a.e∧K b=.iS∧Old h b∧
 fc Y.nI b8 (.int .i64 w.length)=some (.ptr b off)∧(∀aa:aj,aa.get b=h.get b→jv Y.nI (aa.get b) off=some (.agg u))∧
 gV Y.nI b8 none (some (.int .i64 w.length)) none=some fB∧mO Y al h K au w fB:=by
 obtain ⟨us,aQ,aB,a',cn⟩:=H
 rw [List.length_cons] at aQ a'
 have aX:w.length<us.length:=by omega
 have hu:=List.getElem?_eq_getElem aX
 have bd:(a::w).reverse[w.length]? =some a:=by rw [List.reverse_cons,List.getElem?_append_right (by simp)];simp
 obtain ⟨bw,b3,p,a3,a4⟩:=cn _ _ _ bd hu
 have js:∀u ∈ us,u.length=Y.nI:=by
  intro u hu
  obtain ⟨i,aG⟩:=List.getElem?_of_mem hu
  have mY:i<us.length:=(List.getElem?_eq_some_iff.1 aG).1
  have Yd:i < (a::w).reverse.length:=by rw [List.length_reverse,List.length_cons];omega
  exact (cn i _ u (List.getElem?_eq_getElem Yd) aG).1
 have Y7:us=us.take w.length++[us[w.length]]:=by
  conv=>lhs;rw [←List.take_append_drop w.length us]
  rw [List.drop_eq_getElem_cons aX,List.drop_eq_nil_of_le (by omega)]
 have hK:us.flatten=(us.take w.length).flatten++us[w.length]:=by
  conv=>lhs;rw [Y7]
  rw [List.flatten_append,List.flatten_singleton]
 have qH:(us.take w.length).flatten.length=w.length * Y.nI:=by
  have XI:∀u ∈ us.take w.length,u.length=Y.nI:=fun u hu=>js u (List.mem_of_mem_take hu)
  have:=FZ Y.nI (us.take w.length) XI
  rw [this,List.length_take,Nat.min_eq_left (by omega)]
 obtain ⟨b,off,aI,bh,cp⟩:=aQ.v.jf (k:=.i64) (i:=w.length) (by omega)
 obtain ⟨fB,cl,dr,iM⟩:=aQ.cut (k:=.i64) (m:=w.length) (by omega) (by omega)
 refine ⟨us[w.length],p,b,_,fB,bw,b3,a3,a4,aB b cp,bh.1,aI,fun aa e=>?_,cl,us.take w.length,?_,fun b ah=>aB b (iM b ah),?_,?_⟩
 · have Yn:=bh.gl (i:=w.length * Y.nI) (n:=Y.nI) (by rw [hK,List.length_append,qH,bw];exact Nat.le_refl _)
   rw [e,Yn,hK,List.drop_left' qH,List.take_of_length_le (by omega)]
 · rw [hK,List.take_left' qH] at dr
   exact dr
 · rw [List.length_take];omega
 · intro i c u aU bm
   rw [List.getElem?_take] at bm
   split at bm
   · rename_i aG
     refine cn i c u ?_ bm
     rw [List.reverse_cons,List.getElem?_append_left (by rw [List.length_reverse];omega)]
     exact aU
   · cases bm
end
section
variable {al h aa:aj} {ar:a6} {K:fs} {au:List a6} {aS pm:V} {S:ax} {steps:Int} {dY b4 b8 bn:V}
theorem eo.tmp (M:eo al h ar K au aS pm S steps dY b4 b8 bn) {b:a6} {k:cT} (ah:K b=.no) (fq:al.next≤cu b):eo al (h.set b k) ar K au aS pm S steps dY b4 b8 bn:=by
 refine M.cy (dd.uH ah fq) ?_ ?_ ?_ ?_ ?_ ?_<;>simp
theorem eE.tmp {p:V} {L:ix} (H:eE h K au p L) {b:a6} {k:cT} (ah:K b=.no):eE (h.set b k) K au p L:=
 H.cy (dd.uH (al:=aj.empty) ah (Nat.zero_le _)) (by simp)
theorem eE.set {p:V} {L:ix} (H:eE h K au p L) {b:a6} {k:cT} {r:oE} (ah:K b=r) (bd:r≠.env):eE (h.set b k) K au p L:=
 H.cy (dd.s' (al:=aj.empty) (ei:=fun q=>q=r) ah (Nat.zero_le _)) (fun q=>bd q.symm)
theorem eE.ext {p:V} {L:ix} {st:List eR} {Y:mM} (H:eE h K au p L) (M:hU Y al h K au st) (e:Ext h aa):eE aa K au p L:=H.cy (M.ex e) (by simp)
theorem Qk (M:dx al h ar K au aS pm S steps) (hw:S.w=[]):bB Tryz.prog 150 [.ptr ar 0] h fun x aa=>x=.tuple [.agg [.bool false,.int .i64 0,.ch,.ch],.bool false]∧dx al aa ar K au aS pm S steps:=by
 obtain ⟨dY,b4,b8,bn,M⟩:=M
 have g:=M.get
 have aK:=M.wr.len
 rw [hw,List.length_nil] at aK
 have z0:(((0:Nat):Int)=0)=True:=eq_true rfl
 have hold:Old h ar:=M.b6.2
 have eK:(ao h.next=ar)=False:=gA hold (Nat.le_refl _)
 refine Le rfl (bP ?_)
 unfold Ft
 simp +contextual only [g,aK,eK,z0,↓ad,af,simprocAttr]
 refine ⟨_,_,_,_,(M.ext ((Ext.refl h).new _)).cy (dd.uH (M.rep.tmp ?_) ?_) ?_ ?_ ?_ ?_ ?_ ?_⟩<;>simp [cS]
 exact M.rep.ext.next
theorem Qj (M:dx al h ar K au aS pm S steps) (dJ:S.w.length≤4294967296) {a:j2} {w:List j2} (hw:S.w=a::w):bB Tryz.prog 150 [.ptr ar 0] h fun x aa=>∃q p,x=.tuple [.agg [.bool a.jY,.int .i64 a.x,q,p],.bool true]∧dx al aa ar K au aS pm {S with w:=w} steps∧ib al q a.c∧eE aa K au p a.e:=by
 obtain ⟨dY,b4,b8,bn,M⟩:=M
 have g:=M.get
 have aK:=M.wr.len
 have W:=M.wr
 rw [hw] at aK W
 have hold:Old h ar:=M.b6.2
 have eK:(ao h.next=ar)=False:=gA hold (Nat.le_refl _)
 have gH:(ar=ao h.next)=False:=lM hold (Nat.le_refl _)
 have acZ:(ao (h.next+1)=ar)=False:=gA hold (by omega)
 have acE:(ar=ao (h.next+1))=False:=lM hold (by omega)
 obtain ⟨u,p,b,off,fB,bw,b3,⟨q,a3,rfl⟩,a4,a5,jR,u_,tI,a9,rk⟩:=W.pop (by decide)
 have lL:(ao h.next=b)=False:=gA jR (Nat.le_refl _)
 have da:=a3.one
 have op:=a4.one
 have dm:=rk.one
 have a8:(((w.length+1:Nat):Int)=0)=False:=eq_false (by omega)
 rw [List.length_cons] at aK
 rw [hw,List.length_cons] at dJ
 have dL:IntKind.i64.wrap (((w.length+1:Nat):Int)-1)=(w.length:Int):=by rw [wrap_i64 (by omega) (by omega)];omega
 refine Le rfl (bP ?_)
 unfold Ft
 have va:fc 4 b8 (.int .i64 w.length)=some (.ptr b off):=u_
 have vb:gV 4 b8 none (some (.int .i64 w.length)) none=some fB:=a9
 have cD:jv 4 (h.get b) off=some (.agg [.bool a.jY,.int .i64 a.x,q,p]):=tI h rfl
 simp +contextual only [g,aK,eK,gH,acZ,acE,a8,dL,va,vb,lL,cD,da.1,da.2.1,op.1,op.2.1,dm.1,dm.2.1,↓ad,af,simprocAttr]
 have aI:Ext h (((h.new (cT.aq [V.bool false,V.int IntKind.i64 0,V.ch,V.ch] 0 false)).new (cT.aq [V.bool false,V.int IntKind.i64 0,V.ch,V.ch] 0 false)).set (ao (h.next+1)) (cT.aq [V.bool a.jY,V.int IntKind.i64 a.x,q,p] 0 false)):=(((Ext.refl h).new _).new _).set (by omega) _
 have bL:=M.ext aI
 have bC:=bL.next {S with w:=w} steps dY b4 fB bn rfl bL.co bL.dB (rk.cy (M.rep.ex aI) (by simp) (by simp)) bL.dk
 have ht:K (ao h.next)=.no:=M.rep.tmp (by rw [cS];exact Nat.le_refl _)
 exact ⟨q,p,rfl,⟨_,_,_,_,bC.tmp ht (by rw [cS];exact M.rep.ext.next)⟩,a3,((a4.ext M.rep aI).set M.dv (by simp)).tmp ht⟩
theorem hU.role {Y:mM} {st:List eR} (M:hU Y al h K au st) (e:Ext h aa) (p:a6→Prop) (r:oE) (t:List a6) (aT:∀b,p b→h.next≤cu b∧Old aa b):dd al K h au (jP K p r) aa (au++t) (fun _=>False):=by
 refine ⟨e.next,fun b ah=>?_,fun b ah eF=>?_,fun b ah _=>e.get b (M.new b ah).2,fun b ah=>e.get b (Nat.lt_of_lt_of_le ah M.ext.next),t,rfl⟩
 · refine mI fun q=>ah (M.tmp (aT b q).1)
 · by_cases q:p b
   · exact aT b q
   · rw [mI q] at eF;exact absurd ah eF
theorem eo.env (M:eo al h ar K au aS pm S steps dY b4 b8 bn) (e:Ext h aa) {b:a6} (ah:h.next≤cu b) (bD:Old aa b) {x:Int} {j:Nat} {p:V} {L:ix} (bp:aa.get b=.aq [.int .i64 x,c5 au j,p] 0 false) (aT:eE h K au p L) (bS:j<au.length):
 ∃aO,eo al aa ar aO au aS pm S steps dY b4 b8 bn∧eE aa aO au (.ptr b 0) ((x,j)::L)∧dd al K h au aO aa au (fun _=>False):=by
 have t:=M.rep.role e (fun q=>q=b) .env [] (fun q a2=>by subst a2;exact ⟨ah,bD⟩)
 rw [List.append_nil] at t
 refine ⟨jP K (fun q=>q=b) .env,?_,.cons (mJ rfl) bp bS (aT.cy t id),t⟩
 refine M.cy t ?_ ?_ ?_ ?_ ?_ ?_<;>simp
theorem NT (M:dx al h ar K au aS pm S steps) {a:j2} {q p:V} {j:Nat} (a2:ib al q a.c) (aT:eE h K au p a.e) (bS:j<au.length):bB Tryz.prog 151 [.ptr ar 0,.agg [.bool a.jY,.int .i64 a.x,q,p],c5 au j] h fun x aa=>∃aO,dx al aa ar aO au aS pm {S with c:=a.c,e:=(a.x,j)::a.e} steps:=by
 obtain ⟨dY,b4,b8,bn,M⟩:=M
 have g:=M.get
 have hold:Old h ar:=M.b6.2
 have eK:(ao h.next=ar)=False:=gA hold (Nat.le_refl _)
 have gH:(ar=ao h.next)=False:=lM hold (Nat.le_refl _)
 have da:=a2.one
 have op:=aT.one
 have bZ:Ext h (h.new (.aq [.bool a.jY,.int .i64 a.x,q,p] 0 false)):=(Ext.refl h).new _
 have hD:(h.new (.aq [.bool a.jY,.int .i64 a.x,q,p] 0 false)).get (ao h.next)=.aq [.bool a.jY,.int .i64 a.x,q,p] 0 false:=gi _
 refine Ud rfl (bP ?_)
 unfold Lf
 simp +contextual only [g,eK,gH,da.1,da.2.1,op.1,op.2.1,↓ad,af,simprocAttr]
 refine aV (Jj _ p (c5 au j) a.x op ⟨rfl,rfl,rfl⟩) ?_
 rintro x ae ⟨b,rfl,aI,b0,cG,fa⟩
 have WZ:ae.get (ao h.next)=.aq [.bool a.jY,.int .i64 a.x,q,p] 0 false:=by rw [aI.get _ uI];exact hD
 have bF:ae.get ar=_:=(aI.get _ (bZ.b6 hold)).trans ((bZ.get _ hold).trans g)
 simp +contextual only [g,bF,hD,WZ,eK,gH,da.1,da.2.1,op.1,op.2.1,↓ad,af,simprocAttr]
 have bh:Ext h ae:=bZ.trans aI
 obtain ⟨aO,aH,ic,t⟩:=M.env bh (b:=b) (by have:=bZ.next;omega) cG fa aT bS
 have M2:=aH.next {S with c:=a.c} steps q b4 b8 bn rfl a2 aH.dB aH.wr aH.dk
 have bL:=M2.next {S with c:=a.c,e:=(a.x,j)::a.e} steps q (.ptr b 0) b8 bn rfl a2 (ic.set aH.dv (by simp)) M2.wr M2.dk
 exact ⟨aO,_,_,_,_,bL⟩
noncomputable def ov (h:aj) (ar:a6):Nat:=match hX (h.get ar) 9 with
 | some v=>match n_ v with
   | some (.int _ n)=>n.toNat
   | _=>0
 | none=>0
theorem eo.ov (M:eo al h ar K au aS pm S steps dY b4 b8 bn):ov h ar=S.w.length:=by
 unfold Go.Proofs.YtjbiefneffiogaaGreat.ov
 rw [M.get,qN]
 simp only [List.getElem?_cons_succ,List.getElem?_cons_zero,M.wr.len,Int.toNat_natCast]
set_option maxHeartbeats 1000000 in
theorem mz (M:dx al h ar K au aS pm S steps) (dJ:S.w.length≤4294967296) {j:Nat} (bS:j<au.length):bB Tryz.prog 101 [.ptr ar 0,c5 au j] h fun x aa=>∃aO,dx al aa ar aO au aS pm (S.nb j) steps:=by
 refine TD rfl (bP ?_)
 unfold Kp
 simp +contextual only [↓ad,af,simprocAttr]
 refine fw (fun r aa=>r 0=.ptr ar 0∧r 1=c5 au j∧∃w,dx al aa ar K au aS pm {S with w:=w} steps∧w.length≤4294967296∧S.r' j w=S.nb j) (fun r aa=>Go.Proofs.YtjbiefneffiogaaGreat.ov aa ar) ?_ ?_
 · exact ⟨by simp only [↓ad,bj,simprocAttr],by simp only [↓ad,bj,simprocAttr],S.w,M,dJ,rfl⟩
 · rintro r aa ⟨bl,aU,w,M,dJ,aM⟩
   unfold Kq
   obtain ⟨_,_,_,_,gv⟩:=M
   have o3:=gv.ov
   cases w with
   | nil=>
     simp +contextual only [bl,aU,↓ad,af,simprocAttr]
     refine aV (Qk ⟨_,_,_,_,gv⟩ rfl) ?_
     rintro x ae ⟨rfl,aH⟩
     obtain ⟨_,_,_,_,aH⟩:=aH
     have bF:=aH.get
     have hold:Old ae ar:=aH.b6.2
     have eK:(ao ae.next=ar)=False:=gA hold (Nat.le_refl _)
     have gH:(ar=ao ae.next)=False:=lM hold (Nat.le_refl _)
     have M2:=(aH.ext ((Ext.refl ae).new (.aq [.bool false,.int .i64 0,.ch,.ch] 0 false))).tmp (b:=ao ae.next) (k:=.aq [.bool false,.int .i64 0,.ch,.ch] 0 false) (aH.rep.tmp (by rw [cS];exact Nat.le_refl _)) (by rw [cS];exact aH.rep.ext.next)
     simp +contextual only [bl,aU,eK,gH,↓ad,af,simprocAttr]
     refine aV (pH ⟨_,_,_,_,M2⟩ 0) ?_
     rintro x ak bL
     simp +contextual only [bl,aU,↓ad,af,simprocAttr]
     rw [←aM]
     exact ⟨K,bL⟩
   | cons a w=>
     simp +contextual only [bl,aU,↓ad,af,simprocAttr]
     refine aV (Qj ⟨_,_,_,_,gv⟩ dJ rfl) ?_
     rintro x ae ⟨q,p,rfl,aH,a2,aT⟩
     obtain ⟨_,_,_,_,aH⟩:=aH
     have bF:=aH.get
     have hold:Old ae ar:=aH.b6.2
     have eK:(ao ae.next=ar)=False:=gA hold (Nat.le_refl _)
     have gH:(ar=ao ae.next)=False:=lM hold (Nat.le_refl _)
     have da:=a2.one
     have op:=aT.one
     have ht:K (ao ae.next)=.no:=aH.rep.tmp (by rw [cS];exact Nat.le_refl _)
     have aI:Ext ae (ae.new (.aq [.bool false,.int .i64 0,.ch,.ch] 0 false)):=(Ext.refl ae).new _
     have M2:=(aH.ext aI).tmp (b:=ao ae.next) (k:=.aq [.bool a.jY,.int .i64 a.x,q,p] 0 false) ht (by rw [cS];exact aH.rep.ext.next)
     have kq:eE ((ae.new (.aq [.bool false,.int .i64 0,.ch,.ch] 0 false)).set (ao ae.next) (.aq [.bool a.jY,.int .i64 a.x,q,p] 0 false)) K au p a.e:=(aT.ext aH.rep aI).tmp ht
     cases bU:a.jY with
     | false=>
       rw [bU] at M2 kq
       simp +contextual only [bl,aU,eK,gH,bU,da.1,da.2.1,op.1,op.2.1,↓ad,af,simprocAttr]
       have G:=NT ⟨_,_,_,_,M2⟩ a2 kq bS
       rw [bU] at G
       refine aV G ?_
       rintro x ak ⟨aO,bL⟩
       simp +contextual only [bl,aU,↓ad,af,simprocAttr]
       rw [←aM]
       simp only [ax.r',bU]
       exact ⟨aO,bL⟩
     | true=>
       rw [bU] at M2 kq
       simp +contextual only [bl,aU,eK,gH,bU,da.1,da.2.1,op.1,op.2.1,↓ad,af,simprocAttr]
       simp only [List.length_cons] at dJ o3
       refine ⟨⟨w,⟨_,_,_,_,M2⟩,by omega,?_⟩,?_⟩
       · rw [←aM];simp only [ax.r',bU,if_true]
       · rw [o3,M2.ov];simp only;omega
end
end Go.Proofs.YtjbiefneffiogaaGreat
namespace Go.Proofs.YtjbiefneffiogaaGreat
open Go bA
def cV:eR→Int
 | .int _=>1
 | .text _=>2
 | .fn _ _ _=>3
 | .dn _ _=>4
def dG:eR→Int
 | .int n=>n
 | .text _=>0
 | .fn x _ _=>x
 | .dn t _=>t
def e8:eR→List UInt8
 | .text s=>s
 | _=>[]
section
variable {al h aa:aj} {ar:a6} {K:fs} {au:List a6} {aS pm:V} {S:ax} {steps:Int} {dY b4 b8 bn:V}
theorem ax.Ea {S:ax} {j:Nat} (bS:j<S.st.length):S.st[j]? =some (S.val j):=by
 unfold ax.val
 rw [List.getD_eq_getElem?_getD,List.getElem?_eq_getElem bS];rfl
theorem eo.val (M:eo al h ar K au aS pm S steps dY b4 b8 bn) {j:Nat} (bS:j<au.length):∃cC jB hW,h.get (ed au j)=.aq [.int .i64 (cV (S.val j)),.int .i64 (dG (S.val j)),.str (e8 (S.val j)),cC,jB,hW,.bool false] 0 false∧K (ed au j)=.val j∧
 q6 al h K au j (S.val j) cC∧∀x c e,S.val j=.fn x c e→ib al jB c∧eE h K au hW e:=by
 have vE:j<S.st.length:=by rw [←M.rep.len];exact bS
 obtain ⟨k,cC,b4,cs,g,v,f,e⟩:=M.rep.val j _ (ax.Ea vE)
 generalize bk:S.val j=y8 at *
 cases y8 with
 | int n=>cases v;exact ⟨_,_,_,g,k,trivial,fun _ _ _ q=>by cases q⟩
 | text s=>cases v;exact ⟨_,_,_,g,k,trivial,fun _ _ _ q=>by cases q⟩
 | fn x c L=>obtain ⟨qo,aQ,rfl⟩:=v;exact ⟨_,_,_,g,k,trivial,fun _ _ _ q=>by cases q;exact ⟨aQ,e⟩⟩
 | dn t bg=>cases v;exact ⟨_,_,_,g,k,f,fun _ _ _ q=>by cases q⟩
theorem eo.oJ (M:eo al h ar K au aS pm S steps dY b4 b8 bn) {j:Nat} (bS:j<au.length):Old h (ed au j)∧ed au j≠ar:=by
 obtain ⟨_,_,_,_,k,_⟩:=M.val bS
 refine ⟨(M.rep.new _ (by rw [k];simp)).2,fun q=>?_⟩
 have:=M.dv
 rw [←q,k] at this
 cases this
set_option maxHeartbeats 1000000 in
theorem tj (M:dx al h ar K au aS pm S steps) (dJ:S.w.length≤4294967296) {j:Nat} (bS:j<au.length):bB Tryz.prog 108 [.ptr ar 0,c5 au j] h fun x aa=>∃aO,dx al aa ar aO au aS pm (S.p6 j) steps:=by
 refine TK rfl (bP ?_)
 unfold Kz
 simp +contextual only [↓ad,af,simprocAttr]
 refine fw (fun r aa=>r 0=.ptr ar 0∧r 1=c5 au j∧∃w,dx al aa ar K au aS pm {S with w:=w} steps∧w.length≤4294967296∧S.lo j w=S.p6 j) (fun r aa=>Go.Proofs.YtjbiefneffiogaaGreat.ov aa ar) ?_ ?_
 · exact ⟨by simp only [↓ad,bj,simprocAttr],by simp only [↓ad,bj,simprocAttr],S.w,M,dJ,rfl⟩
 · rintro r aa ⟨bl,aU,w,M,dJ,aM⟩
   unfold KA
   obtain ⟨_,_,_,_,gv⟩:=M
   have o3:=gv.ov
   cases w with
   | nil=>
     simp +contextual only [bl,aU,↓ad,af,simprocAttr]
     refine aV (Qk ⟨_,_,_,_,gv⟩ rfl) ?_
     rintro x ae ⟨rfl,aH⟩
     obtain ⟨_,_,_,_,aH⟩:=aH
     have bF:=aH.get
     have hold:Old ae ar:=aH.b6.2
     have eK:(ao ae.next=ar)=False:=gA hold (Nat.le_refl _)
     have gH:(ar=ao ae.next)=False:=lM hold (Nat.le_refl _)
     have M2:=(aH.ext ((Ext.refl ae).new (.aq [.bool false,.int .i64 0,.ch,.ch] 0 false))).tmp (b:=ao ae.next) (k:=.aq [.bool false,.int .i64 0,.ch,.ch] 0 false) (aH.rep.tmp (by rw [cS];exact Nat.le_refl _)) (by rw [cS];exact aH.rep.ext.next)
     obtain ⟨cC,jB,hW,fA,kM,_,_⟩:=aH.val bS
     have O4:(ao ae.next=ed au j)=False:=gA (aH.oJ bS).1 (Nat.le_refl _)
     have qI:ax.val {S with w:=[]} j=S.val j:=rfl
     rw [qI] at fA
     have aT:c5 au j=.ptr (ed au j) 0:=rfl
     rw [aT] at aU
     by_cases bq:cV (S.val j)=4
     · have mb:=eq_true bq
       simp +contextual only [bl,aU,eK,gH,fA,O4,mb,bq,↓ad,af,simprocAttr]
       refine aV (pH ⟨_,_,_,_,M2⟩ 1) ?_
       rintro x ak ⟨_,_,_,_,bL⟩
       have cL:=bL.get
       obtain ⟨_,_,_,zE,_⟩:=bL.val bS
       have Hn:ax.val (ax.ends {S with w:=[]} 1) j=S.val j:=rfl
       rw [Hn] at zE
       simp +contextual only [bl,aU,cL,zE,↓ad,af,simprocAttr]
       rw [←aM]
       cases bk:S.val j with
       | dn t bg=>
         simp only [ax.lo,bk]
         have bC:=bL.next {ax.ends {S with w:=[]} 1 with fg:=t} steps _ _ _ _ rfl bL.co bL.dB bL.wr bL.dk
         exact ⟨K,_,_,_,_,bC⟩
       | int n=>rw [bk] at bq;cases bq
       | text n=>rw [bk] at bq;cases bq
       | fn _ _ _=>rw [bk] at bq;cases bq
     · have mb:=eq_false bq
       simp +contextual only [bl,aU,eK,gH,fA,O4,mb,↓ad,af,simprocAttr]
       refine aV (pH ⟨_,_,_,_,M2⟩ 6) ?_
       rintro x ak bL
       simp +contextual only [bl,aU,↓ad,af,simprocAttr]
       rw [←aM]
       cases bk:S.val j with
       | dn t bg=>rw [bk] at bq;exact absurd rfl bq
       | int n=>simp only [ax.lo,bk];exact ⟨K,bL⟩
       | text n=>simp only [ax.lo,bk];exact ⟨K,bL⟩
       | fn _ _ _=>simp only [ax.lo,bk];exact ⟨K,bL⟩
   | cons a w=>
     simp +contextual only [bl,aU,↓ad,af,simprocAttr]
     refine aV (Qj ⟨_,_,_,_,gv⟩ dJ rfl) ?_
     rintro x ae ⟨q,p,rfl,aH,a2,aT⟩
     obtain ⟨_,_,_,_,aH⟩:=aH
     have bF:=aH.get
     have hold:Old ae ar:=aH.b6.2
     have eK:(ao ae.next=ar)=False:=gA hold (Nat.le_refl _)
     have gH:(ar=ao ae.next)=False:=lM hold (Nat.le_refl _)
     have da:=a2.one
     have op:=aT.one
     have ht:K (ao ae.next)=.no:=aH.rep.tmp (by rw [cS];exact Nat.le_refl _)
     have aI:Ext ae (ae.new (.aq [.bool false,.int .i64 0,.ch,.ch] 0 false)):=(Ext.refl ae).new _
     have M2:=(aH.ext aI).tmp (b:=ao ae.next) (k:=.aq [.bool a.jY,.int .i64 a.x,q,p] 0 false) ht (by rw [cS];exact aH.rep.ext.next)
     have kq:eE ((ae.new (.aq [.bool false,.int .i64 0,.ch,.ch] 0 false)).set (ao ae.next) (.aq [.bool a.jY,.int .i64 a.x,q,p] 0 false)) K au p a.e:=(aT.ext aH.rep aI).tmp ht
     cases bU:a.jY with
     | true=>
       rw [bU] at M2 kq
       simp +contextual only [bl,aU,eK,gH,bU,da.1,da.2.1,op.1,op.2.1,↓ad,af,simprocAttr]
       have G:=NT ⟨_,_,_,_,M2⟩ a2 kq bS
       rw [bU] at G
       refine aV G ?_
       rintro x ak ⟨aO,bL⟩
       simp +contextual only [bl,aU,↓ad,af,simprocAttr]
       rw [←aM]
       simp only [ax.lo,bU]
       exact ⟨aO,bL⟩
     | false=>
       rw [bU] at M2 kq
       simp +contextual only [bl,aU,eK,gH,bU,da.1,da.2.1,op.1,op.2.1,↓ad,af,simprocAttr]
       simp only [List.length_cons] at dJ o3
       refine ⟨⟨w,⟨_,_,_,_,M2⟩,by omega,?_⟩,?_⟩
       · rw [←aM];simp only [ax.lo,bU];rfl
       · rw [o3,M2.ov];simp only;omega
end
end Go.Proofs.YtjbiefneffiogaaGreat
namespace Go.Proofs.YtjbiefneffiogaaGreat
open Go bA
def dA (S:ax):List Nat→List Int→Bool
 | _,[]=>true
 | [],_::_=>false
 | j::bx,k::aF=>decide (cV (S.val j)=k)&&dA S bx aF
def p5:eR→Option (List V)
 | .int n=>some [.int .i64 1,.int .i64 n,.str [],.ay,.ch,.ch,.bool false]
 | .text s=>some [.int .i64 2,.int .i64 0,.str s,.ay,.ch,.ch,.bool false]
 | .dn t []=>some [.int .i64 4,.int .i64 t,.str [],.ay,.ch,.ch,.bool false]
 | _=>none
def ew (h:aj) (au:List a6) (bx:List Nat) (aw:V):Prop:=cg h 1 aw bx.length (bx.map (c5 au))∧∀j ∈ bx,j<au.length
theorem ew.ext {h aa:aj} {au:List a6} {bx:List Nat} {aw:V} (H:ew h au bx aw) (e:Ext h aa):ew aa au bx aw:=⟨H.1.ext e,H.2⟩
theorem ew.at {h:aj} {au:List a6} {bx:List Nat} {aw:V} (H:ew h au bx aw) {k:IntKind} {i:Nat} (aG:i<bx.length):∃b o,fc 1 aw (.int k i)=some (.ptr b o)∧(∀aa,Ext h aa→hX (aa.get b) o=some (c5 au (bx.getD i 0)))∧bx.getD i 0<au.length:=by
 obtain ⟨b,o,aI,bh⟩:=H.1.b_ (k:=k) aG
 refine ⟨b,_,aI,fun aa e=>?_,?_⟩
 · rw [Nat.mul_one,(bh.ext e).b9 (by rw [List.length_map];exact aG)]
   simp [List.getD_eq_getElem?_getD,List.getElem?_eq_getElem aG]
 · rw [List.getD_eq_getElem?_getD,List.getElem?_eq_getElem aG];exact H.2 _ (List.getElem_mem aG)
structure Ok (S:ax):Prop where
 ints:∀j n,S.val j=.int n→-1073741824≤n∧n≤1073741823
 texts:∀j s,S.val j=.text s→s.length≤4096
 w:S.w.length≤4294967296
 out:S.out.length≤8589934592
section
variable {al h aa:aj} {ar:a6} {K:fs} {au:List a6} {aS pm:V} {S:ax} {steps:Int} {dY b4 b8 bn:V}
theorem rO (M:dx al h ar K au aS pm S steps) {bx:List Nat} {aw:V} (A:ew h au bx aw) {aF:List Int} {Je:V} (hG:cg h 1 Je aF.length (cd aF)) (aK:aF.length≤bx.length) (aM:aF.length≤1000):
 bB Tryz.prog 146 [.ptr ar 0,aw,Je] h fun x aa=>x=.bool (dA S bx aF)∧(dA S bx aF=true→aa=h)∧(dA S bx aF=false→dx al aa ar K au aS pm S.gp steps):=by
 refine T' rfl (bP ?_)
 unfold K9
 simp +contextual only [hG.len,↓ad,af,simprocAttr]
 refine fw (fun r aa=>aa=h∧r 0=.ptr ar 0∧r 1=aw∧r 9=Je∧r 10=.int .i64 aF.length∧∃i:Nat,r 11=.int .i64 i∧i≤aF.length∧dA S bx aF=dA S (bx.drop i) (aF.drop i)) (fun r aa=>aF.length - (r 11).gn) ?_ ?_
 · exact ⟨rfl,by simp only [↓ad,bj,simprocAttr],by simp only [↓ad,bj,simprocAttr],by simp only [↓ad,bj,simprocAttr],by simp only [↓ad,bj,simprocAttr],0,by simp only [↓ad,bj,simprocAttr]<;>rfl,by omega,rfl⟩
 · rintro r aa ⟨rfl,bl,aU,h0,lR,i,kQ,aG,cb⟩
   unfold K'
   by_cases aX:i<aF.length
   · have bM:((i:Int) < (aF.length:Int))=True:=eq_true (by omega)
     obtain ⟨b0,dz,cH,b9,bS⟩:=A.at (k:=.i64) (i:=i) (by omega)
     obtain ⟨cG,fi,im,jV⟩:=ints_at hG (k:=.i64) aX
     have HP:=b9 aa (Ext.refl _)
     have gv:=M
     obtain ⟨_,_,_,_,M⟩:=M
     obtain ⟨cC,jB,hW,fA,_⟩:=M.val bS
     have aT:c5 au (bx.getD i 0)=.ptr (ed au (bx.getD i 0)) 0:=rfl
     rw [aT] at HP
     rw [List.drop_eq_getElem_cons aX,List.drop_eq_getElem_cons (show i<bx.length by omega)] at cb
     simp only [dA] at cb
     have GJ:bx[i]=bx.getD i 0:=by rw [List.getD_eq_getElem?_getD,List.getElem?_eq_getElem (by omega)];rfl
     rw [GJ] at cb
     have w:=gq aX (by omega)
     by_cases an:cV (S.val (bx.getD i 0))=aF[i]
     · have ef:=eq_true an
       simp +contextual only [bl,aU,h0,lR,kQ,bM,cH,im,jV,HP,fA,ef,w,↓ad,af,simprocAttr]
       rw [decide_eq_true an,Bool.true_and] at cb
       exact ⟨⟨i+1,rfl,aX,cb⟩,by omega⟩
     · have ef:=eq_false an
       simp +contextual only [bl,aU,h0,lR,kQ,bM,cH,im,jV,HP,fA,ef,w,↓ad,af,simprocAttr]
       refine aV (pH gv 6) ?_
       rintro x ak bL
       simp +contextual only [bl,aU,↓ad,af,simprocAttr]
       rw [decide_eq_false an,Bool.false_and] at cb
       rw [cb]
       exact ⟨rfl,(by intro q;cases q),fun _=>bL⟩
   · have bM:((i:Int) < (aF.length:Int))=False:=eq_false (by omega)
     simp +contextual only [bl,aU,h0,lR,kQ,bM,↓ad,af,simprocAttr]
     rw [List.drop_eq_nil_of_le (show aF.length≤i by omega)] at cb
     have:dA S bx aF=true:=by rw [cb];cases bx.drop i<;>rfl
     rw [this]
     exact ⟨rfl,fun _=>trivial,(by intro q;cases q)⟩
theorem eo.make (M:eo al h ar K au aS pm S steps dY b4 b8 bn) {x:V} {cs:List V} (F:g7 h aa x cs) {v:eR} (bk:p5 v=some cs):
 ∃aO aL,eo al aa ar aO aL aS pm (S.gf v) steps dY b4 b8 bn∧x=c5 aL S.st.length∧S.st.length<aL.length∧dd al K h au aO aa aL (fun _=>False):=by
 obtain ⟨b,rfl,e,ah,bD,bp⟩:=F
 have t:=M.rep.role e (fun q=>q=b) (.val S.st.length) [b] (fun q a2=>by subst a2;exact ⟨ah,bD⟩)
 have jt:ed (au++[b]) S.st.length=b:=by
  unfold ed
  rw [List.getD_eq_getElem?_getD,List.getElem?_append_right (by rw [M.rep.len];exact Nat.le_refl _),M.rep.len,Nat.sub_self]
  rfl
 have fp:hU sn al aa (jP K (fun q=>q=b) (.val S.st.length)) (au++[b]) (S.gf v).st:=by
  refine M.rep.push t (by simp) (by simp) (by simp) ?_
  refine ⟨by rw [jt];exact mJ rfl,.ay,.ch,cs,by rw [jt];exact bp,?_,?_,?_⟩
  · cases v with
    | int n=>simp only [p5,Option.some.injEq] at bk;exact bk.symm
    | text n=>simp only [p5,Option.some.injEq] at bk;exact bk.symm
    | fn _ _ _=>cases bk
    | dn t bg=>cases bg<;>simp only [p5,Option.some.injEq,reduceCtorEq] at bk;exact bk.symm
  · cases v<;>first | trivial | skip
    rename_i t bg
    cases bg<;>simp only [p5,Option.some.injEq,reduceCtorEq] at bk
    exact ⟨⟨rfl,rfl⟩,fun b q=>q.elim,fun j q=>by cases q⟩
  · cases v<;>first | trivial | cases bk
 have hm:K ar≠.no:=by rw [M.dv];simp
 have E:=M.dB.cy t id
 have W:=M.wr.cy t id id
 have O:=M.dk.cy t id
 refine ⟨_,_,⟨fp,by rw [t.role ar hm,M.dv],by rw [t.get ar hm id,M.get];rfl,M.co,E,W,O⟩,by unfold c5;rw [jt],by rw [List.length_append,M.rep.len];simp,t⟩
theorem Ok.gf (H:Ok S) {v:eR} (ae:∀n,v=.int n→-1073741824≤n∧n≤1073741823) (ak:∀s,v=.text s→s.length≤4096):Ok (S.gf v):=by
 have key:∀j,(S.gf v).val j=S.val j∨(S.gf v).val j=v:=by
  intro j
  simp only [ax.val,ax.gf,List.getD_eq_getElem?_getD]
  by_cases q:j<S.st.length
  · rw [List.getElem?_append_left q];exact .inl rfl
  · by_cases aB:j=S.st.length
    · subst aB;right;simp
    · left;rw [List.getElem?_eq_none (by simp;omega),List.getElem?_eq_none (by omega)]
 refine ⟨fun j n q=>?_,fun j s q=>?_,H.w,H.out⟩
 · rcases key j with k | k
   · exact H.ints j n (k ▸ q)
   · exact ae n (k ▸ q)
 · rcases key j with k | k
   · exact H.texts j s (k ▸ q)
   · exact ak s (k ▸ q)
end
end Go.Proofs.YtjbiefneffiogaaGreat
namespace Go.Proofs.YtjbiefneffiogaaGreat
open Go bA
theorem rM (h:aj) (l:List Int):cg (h.new (.aq (cd l) 0 false)) 1 (.slice (ao h.next) 0 l.length l.length) l.length (cd l):=by
 refine ⟨by rw [la,Nat.mul_one],rfl,cZ (by rw [cO];omega),cd l,.inr ⟨0,false,by rw [gi]⟩,by omega,by simp⟩
theorem hj {v:eR} (h:cV v=1):∃n,v=.int n:=by cases v<;>simp only [cV] at h<;>first | exact ⟨_,rfl⟩ | omega
theorem p1 {v:eR} (h:cV v=2):∃n,v=.text n:=by cases v<;>simp only [cV] at h<;>first | exact ⟨_,rfl⟩ | omega
theorem we {v:eR} (h:cV v=4):∃t l,v=.dn t l:=by cases v<;>simp only [cV] at h<;>first | exact ⟨_,_,rfl⟩ | omega
def gJ (a:Int):Prop:=-1073741824≤a∧a≤1073741823
theorem rW {S:ax} {a1 bX:Nat} {k:Int→Int→ax} (h:dA S [a1,bX] [1,1]=false):S.gg [a1,bX] k=S.gp:=by
 simp only [dA,Bool.and_true] at h
 simp only [ax.gg,List.getD_cons_zero,List.getD_cons_succ]
 cases al:S.val a1<;>cases ae:S.val bX<;>first | rfl | (rw [al,ae] at h;simp [cV] at h)
theorem yf {S:ax} {a1:Nat} {k:Int→ax} (h:dA S [a1] [1]=false):S.jW [a1] k=S.gp:=by
 simp only [dA,Bool.and_true] at h
 simp only [ax.jW,List.getD_cons_zero]
 cases al:S.val a1<;>first | rfl | (rw [al] at h;simp [cV] at h)
theorem D4 {S:ax} {a1:Nat} {k:List UInt8→ax} (h:dA S [a1] [2]=false):S.mA [a1] k=S.gp:=by
 simp only [dA,Bool.and_true] at h
 simp only [ax.mA,List.getD_cons_zero]
 cases al:S.val a1<;>first | rfl | (rw [al] at h;simp [cV] at h)
theorem wrap_u8 (n:Int):IntKind.u8.wrap n=((ax.byteOf n).toNat:Int):=by
 have:IntKind.u8.wrap n=n % 256:=by simp [IntKind.wrap,IntKind.bits,IntKind.signed]
 rw [this]
 unfold ax.byteOf
 simp only [UInt8.toNat_ofNat']
 omega
theorem rm {P:Program} {d:Option Nat} {k:IntKind} {x:bs} {rs:List Nat} {e:hb} {H:aj}:pB P ⟨d,.jD (.int k) x,none,rs⟩ e H=(zq k (x.bu (e.r.trim rs))=some e.v):=B0 rfl
theorem M3 (l:List UInt8) (h:aj) (aK:l.length≤top):nT.run (.slice (ao h.next) 0 l.length l.length) (h.new (.aq (dp l) 0 false))=.val (.str l) (h.new (.aq (dp l) 0 false)):=
 V6 (B:=0) ⟨by rw [rn,Nat.mul_one],rfl,Nat.zero_le _,cZ (by rw [cO];omega),Nat.le_refl _,aK,_,0,false,gi _,by rw [rn];omega,by simp⟩
section
variable {al h aa:aj} {ar:a6} {K:fs} {au:List a6} {aS pm:V} {S:ax} {steps:Int} {dY b4 b8 bn:V}
theorem eo.arg (M:eo al h ar K au aS pm S steps dY b4 b8 bn) {bx:List Nat} {aw:V} (A:ew h au bx aw) (n:Int) (i j:Nat) (a7:n=i) (bS:bx[i]? =some j):
 j<au.length∧∃b o cC jB hW,fc 1 aw (.int .i64 n)=some (.ptr b o)∧q6 al h K au j (S.val j) cC∧∀aa,Ext h aa→hX (aa.get b) o=some (.ptr (ed au j) 0)∧aa.get (ed au j)=.aq [.int .i64 (cV (S.val j)),.int .i64 (dG (S.val j)),.str (e8 (S.val j)),cC,jB,hW,.bool false] 0 false:=by
 subst a7
 have aG:i<bx.length:=(List.getElem?_eq_some_iff.1 bS).1
 have cc:bx.getD i 0=j:=by rw [List.getD_eq_getElem?_getD,bS];rfl
 obtain ⟨b,o,aI,bh,cp⟩:=A.at (k:=.i64) aG
 rw [cc] at bh cp
 obtain ⟨cC,jB,hW,g,_,q,_⟩:=M.val cp
 refine ⟨cp,b,o,cC,jB,hW,aI,q,fun aa e=>⟨bh aa e,?_⟩⟩
 rw [e.get _ (M.oJ cp).1,g]
theorem eo.lay {aO:fs} {aL:List a6} {c1:ax} {my:Int} {qo f_ fB jK:V} (R:hU sn al aa aO aL c1.st) (dv:aO ar=.oc) (vy:ib al qo c1.c) (vA:eE aa aO aL f_ c1.e) (vR:mO sn al aa aO aL c1.w fB) (kp:qh al aa aO c1.out jK):
 eo al (aa.set ar (.aq [aS,.int .i64 c1.eZ,.int .i64 c1.fg,.int .i64 c1.read,.int .i64 my,jK,.bool c1.fQ,qo,f_,fB,.ay,pm] 0 false)) ar aO aL aS pm c1 my qo f_ fB jK:=by
 have a7:=R.new ar (by rw [dv];simp)
 have t:dd al aO aa aL aO (aa.set ar (.aq [aS,.int .i64 c1.eZ,.int .i64 c1.fg,.int .i64 c1.read,.int .i64 my,jK,.bool c1.fQ,qo,f_,fB,.ay,pm] 0 false)) aL (·=.oc):=dd.s' dv a7.1
 exact ⟨R.cy t (by simp) (by simp) (by simp),dv,by rw [du,if_pos rfl],vy,vA.cy t (by simp),vR.cy t (by simp) (by simp),kp.cy t (by simp)⟩
theorem eo.wrote (M:eo al h ar K au aS pm S steps dY b4 b8 bn) {v:V} {out:List UInt8} (c':cm al.next aa 1 v out.length (dp out)) (hm:Mod bn.bb h aa) (ah:∀b,v.bb b→bn.bb b∨h.next≤cu b):
 ∃aO,eo al (aa.set ar (.aq [aS,.int .i64 S.eZ,.int .i64 S.fg,.int .i64 S.read,.int .i64 steps,v,.bool S.fQ,dY,b4,b8,.ay,pm] 0 false)) ar aO au aS pm {S with out:=out} steps dY b4 b8 v:=by
 have t:dd al K h au (jP K (fun b=>v.bb b∧h.next≤cu b) .out) aa au (·=.out):=by
  refine ⟨hm.next,fun b eF=>?_,fun b eF je=>?_,fun b eF aD=>?_,fun b eF=>?_,[],by simp⟩
  · exact mI fun q=>eF (M.rep.tmp q.2)
  · by_cases q:v.bb b∧h.next≤cu b
    · exact ⟨q.2,c'.v.b6 q.1⟩
    · rw [mI q] at je;exact absurd eF je
  · exact hm.get b (M.rep.new b eF).2 fun q=>aD (M.dk.2 b q)
  · refine hm.get b (Nat.lt_of_lt_of_le eF M.rep.ext.next) fun q=>?_
    have:=M.dk.1.base q
    omega
 have kK:K ar≠.no:=by rw [M.dv];simp
 refine ⟨_,eo.lay (c1:={S with out:=out}) (M.rep.cy t (by simp) (by simp) (by simp)) (by rw [t.role ar kK,M.dv]) M.co (M.dB.cy t (by simp)) (M.wr.cy t (by simp) (by simp)) ⟨c',fun b q=>?_⟩⟩
 rcases ah b q with r | r
 · have:=M.dk.2 b r
   rw [t.role b (by rw [this];simp),this]
 · exact mJ ⟨q,r⟩
theorem eo.zC (M:eo al h ar K au aS pm S steps dY b4 b8 bn) (hm:Mod bn.bb h aa):aa.get ar=h.get ar:=by
 refine hm.get ar M.b6.2 fun q=>?_
 have:=M.dk.2 ar q
 rw [M.dv] at this
 cases this
theorem eo.afQ (M:eo al h ar K au aS pm S steps dY b4 b8 bn) (hm:Mod bn.bb h aa) {b:a6} (ah:Old h b) (an:K b≠.out):aa.get b=h.get b:=
 hm.get b ah fun q=>an (M.dk.2 b q)
set_option maxHeartbeats 1000000 in
theorem yv (M:dx al h ar K au aS pm S steps) (O:Ok S) {a1 bX:Nat} {aw:V} (A:ew h au [a1,bX] aw) {dR:a6} {f:FuncId} (g:Int→Int→eR) (Gu:al.get dR=.aq [.func f []] 0 false) (zL:Old al dR)
 (bp:∀a b h,gJ a→gJ b→∃cs,p5 (g a b)=some cs∧bB Tryz.prog f [.int .i64 a,.int .i64 b] h fun x aa=>g7 h aa x cs):
 bB Tryz.prog 145 [.ptr ar 0,aw,.ptr dR 0] h fun x aa=>∃aO aL,dx al aa ar aO aL aS pm (S.gg [a1,bX] fun a b=>S.dT (g a b)) steps:=by
 obtain ⟨_,_,_,_,M⟩:=M
 have aI:Ext h (h.new (.aq [.int .i64 1,.int .i64 1] 0 false)):=(Ext.refl h).new _
 have hG:cg (h.new (.aq [.int .i64 1,.int .i64 1] 0 false)) 1 (.slice (ao h.next) 0 2 2) 2 (cd [1,1]):=rM h [1,1]
 have aH:=M.ext aI
 have cz:=A.ext aI
 refine T9 rfl (bP ?_)
 unfold K8
 simp +contextual only [↓ad,af,simprocAttr]
 refine aV (rO ⟨_,_,_,_,aH⟩ cz (aF:=[1,1]) hG (Nat.le_refl _) (by decide)) ?_
 rintro x ak ⟨rfl,bQ,cB⟩
 cases an:dA S [a1,bX] [1,1] with
 | false=>
   simp +contextual only [↓ad,af,simprocAttr]
   rw [rW an]
   exact ⟨_,_,cB an⟩
 | true=>
   obtain rfl:=bQ an
   clear bQ cB hG
   generalize h.new (.aq [.int .i64 1,.int .i64 1] 0 false)=H1 at *
   simp only [dA,Bool.and_true,Bool.and_eq_true,decide_eq_true_eq] at an
   have E:=aH.rep.ext
   obtain ⟨a0,cA⟩:=hj an.1
   obtain ⟨e1,cX,eG,fU,_,_,b7,_,b2⟩:=aH.arg cz 0 0 a1 rfl rfl
   rw [cA] at b2
   simp only [cV,dG,e8] at b2
   have a8:=b2 _ (Ext.refl _)
   obtain ⟨bw,di⟩:=hj an.2
   obtain ⟨ju,b0,dz,k5,_,_,cH,_,b9⟩:=aH.arg cz 1 1 bX rfl rfl
   rw [di] at b9
   simp only [cV,dG,e8] at b9
   have bf:=b9 _ (Ext.refl _)
   have pM:H1.get dR=.aq [.func f []] 0 false:=(E.get _ zL).trans Gu
   obtain ⟨cs,hg,C⟩:=bp a0 bw H1 (O.ints _ _ cA) (O.ints _ _ di)
   simp +contextual only [pM,b7,cH,a8.1,bf.1,a8.2,bf.2,↓ad,af,simprocAttr]
   refine aV C ?_
   rintro x aC F
   obtain ⟨aO,aL,bL,rfl,a7,t⟩:=aH.make F hg
   obtain ⟨_,_,cp,_⟩:=F
   have gj:=b2 _ cp
   have gk:=b9 _ cp
   have zF:=(cp.get _ (E.b6 zL)).trans pM
   simp +contextual only [pM,b7,cH,a8.1,bf.1,a8.2,bf.2,zF,gj.1,gk.1,gj.2,gk.2,↓ad,af,simprocAttr]
   refine aV (mz ⟨_,_,_,_,bL⟩ O.w a7) ?_
   rintro x bq ⟨cP,bC⟩
   simp +contextual only [pM,b7,cH,a8.1,bf.1,a8.2,bf.2,zF,gj.1,gk.1,gj.2,gk.2,↓ad,af,simprocAttr]
   refine ⟨cP,aL,?_⟩
   simp only [ax.gg,List.getD_cons_zero,List.getD_cons_succ,cA,di]
   exact bC
set_option maxHeartbeats 1000000 in
theorem Na (M:dx al h ar K au aS pm S steps) (O:Ok S) {a1 bX:Nat} {aw:V} (A:ew h au [a1,bX] aw) {dR:a6} {f:FuncId} (g:Int→Int→Int) (Gu:al.get dR=.aq [.func f []] 0 false) (zL:Old al dR)
 (bp:∀a b h,gJ a→gJ b→b≠0→lr Tryz.prog f [.int .i64 a,.int .i64 b] h (.int .i64 (g a b)) h∧-2305843009213693952≤g a b∧g a b≤2305843009213693952):
 bB Tryz.prog 147 [.ptr ar 0,aw,.ptr dR 0] h fun x aa=>∃aO aL,dx al aa ar aO aL aS pm (S.gg [a1,bX] fun a b=>if b=0 then S.nF (.dn 1 []) else S.dT (.int (wr (g a b)))) steps:=by
 obtain ⟨_,_,_,_,M⟩:=M
 have aI:Ext h (h.new (.aq [.int .i64 1,.int .i64 1] 0 false)):=(Ext.refl h).new _
 have hG:cg (h.new (.aq [.int .i64 1,.int .i64 1] 0 false)) 1 (.slice (ao h.next) 0 2 2) 2 (cd [1,1]):=rM h [1,1]
 have aH:=M.ext aI
 have cz:=A.ext aI
 refine T_ rfl (bP ?_)
 unfold K_
 simp +contextual only [↓ad,af,simprocAttr]
 refine aV (rO ⟨_,_,_,_,aH⟩ cz (aF:=[1,1]) hG (Nat.le_refl _) (by decide)) ?_
 rintro x ak ⟨rfl,bQ,cB⟩
 cases an:dA S [a1,bX] [1,1] with
 | false=>
   simp +contextual only [↓ad,af,simprocAttr]
   rw [rW an]
   exact ⟨_,_,cB an⟩
 | true=>
   obtain rfl:=bQ an
   clear bQ cB hG
   generalize h.new (.aq [.int .i64 1,.int .i64 1] 0 false)=H1 at *
   simp only [dA,Bool.and_true,Bool.and_eq_true,decide_eq_true_eq] at an
   have E:=aH.rep.ext
   obtain ⟨a0,cA⟩:=hj an.1
   obtain ⟨e1,cX,eG,fU,_,_,b7,_,b2⟩:=aH.arg cz 0 0 a1 rfl rfl
   rw [cA] at b2
   simp only [cV,dG,e8] at b2
   have a8:=b2 _ (Ext.refl _)
   obtain ⟨bw,di⟩:=hj an.2
   obtain ⟨ju,b0,dz,k5,_,_,cH,_,b9⟩:=aH.arg cz 1 1 bX rfl rfl
   rw [di] at b9
   simp only [cV,dG,e8] at b9
   have bf:=b9 _ (Ext.refl _)
   have pM:H1.get dR=.aq [.func f []] 0 false:=(E.get _ zL).trans Gu
   by_cases bI:bw=0
   · have fu:=eq_true bI
     simp +contextual only [pM,b7,cH,a8.1,bf.1,a8.2,bf.2,fu,↓ad,af,simprocAttr]
     refine aV (ou H1 1 .ay ⟨rfl,rfl,rfl⟩) ?_
     rintro x aC F
     obtain ⟨aO,aL,bL,rfl,a7,t⟩:=aH.make (v:=.dn 1 []) F rfl
     simp +contextual only [↓ad,af,simprocAttr]
     refine aV (tj ⟨_,_,_,_,bL⟩ O.w a7) ?_
     rintro x bq ⟨cP,bC⟩
     simp +contextual only [↓ad,af,simprocAttr]
     refine ⟨cP,aL,?_⟩
     simp only [ax.gg,List.getD_cons_zero,List.getD_cons_succ,cA,di,bI,if_true]
     exact bC
   · have fu:=eq_false bI
     obtain ⟨C,aU,bm⟩:=bp a0 bw H1 (O.ints _ _ cA) (O.ints _ _ di) bI
     simp +contextual only [pM,b7,cH,a8.1,bf.1,a8.2,bf.2,fu,↓ad,af,simprocAttr]
     refine iz C ?_
     simp +contextual only [pM,b7,cH,a8.1,bf.1,a8.2,bf.2,fu,↓ad,af,simprocAttr]
     refine iz (Bf (g a0 bw) H1 ⟨aU,bm⟩) ?_
     simp +contextual only [pM,b7,cH,a8.1,bf.1,a8.2,bf.2,fu,↓ad,af,simprocAttr]
     refine aV (rX H1 (wr (g a0 bw))) ?_
     rintro x aC F
     obtain ⟨aO,aL,bL,rfl,a7,t⟩:=aH.make (v:=.int (wr (g a0 bw))) F rfl
     obtain ⟨_,_,cp,_⟩:=F
     have gj:=b2 _ cp
     have gk:=b9 _ cp
     have zF:=(cp.get _ (E.b6 zL)).trans pM
     simp +contextual only [pM,b7,cH,a8.1,bf.1,a8.2,bf.2,zF,gj.1,gk.1,gj.2,gk.2,↓ad,af,simprocAttr]
     refine aV (mz ⟨_,_,_,_,bL⟩ O.w a7) ?_
     rintro x bq ⟨cP,bC⟩
     simp +contextual only [pM,b7,cH,a8.1,bf.1,a8.2,bf.2,zF,gj.1,gk.1,gj.2,gk.2,↓ad,af,simprocAttr]
     refine ⟨cP,aL,?_⟩
     simp only [ax.gg,List.getD_cons_zero,List.getD_cons_succ,cA,di,if_neg bI]
     exact bC
set_option maxHeartbeats 1000000 in
theorem acR (M:dx al h ar K au aS pm S steps) (O:Ok S) {a1:Nat} {aw:V} (A:ew h au [a1] aw):
 bB Tryz.prog 90 [.ptr ar 0,aw] h fun x aa=>∃aO aL,dx al aa ar aO aL aS pm (S.jW [a1] fun a=>S.dT (.int (wr (-a)))) steps:=by
 obtain ⟨_,_,_,_,M⟩:=M
 have aI:Ext h (h.new (.aq [.int .i64 1] 0 false)):=(Ext.refl h).new _
 have hG:cg (h.new (.aq [.int .i64 1] 0 false)) 1 (.slice (ao h.next) 0 1 1) 1 (cd [1]):=rM h [1]
 have aH:=M.ext aI
 have cz:=A.ext aI
 refine Ve rfl (bP ?_)
 unfold MG
 simp +contextual only [↓ad,af,simprocAttr]
 refine aV (rO ⟨_,_,_,_,aH⟩ cz (aF:=[1]) hG (Nat.le_refl _) (by decide)) ?_
 rintro x ak ⟨rfl,bQ,cB⟩
 cases an:dA S [a1] [1] with
 | false=>
   simp +contextual only [↓ad,af,simprocAttr]
   rw [yf an]
   exact ⟨_,_,cB an⟩
 | true=>
   obtain rfl:=bQ an
   clear bQ cB hG
   generalize h.new (.aq [.int .i64 1] 0 false)=H1 at *
   simp only [dA,Bool.and_true,Bool.and_eq_true,decide_eq_true_eq] at an
   have E:=aH.rep.ext
   obtain ⟨a0,cA⟩:=hj an
   obtain ⟨e1,cX,eG,fU,_,_,b7,_,b2⟩:=aH.arg cz 0 0 a1 rfl rfl
   rw [cA] at b2
   simp only [cV,dG,e8] at b2
   have a8:=b2 _ (Ext.refl _)
   have bd:=O.ints _ _ cA
   have aZ:IntKind.i64.wrap (0-a0)=-a0:=by rw [wrap_i64 (by omega) (by omega)];omega
   simp +contextual only [b7,a8.1,a8.2,aZ,↓ad,af,simprocAttr]
   refine iz (Bf (-a0) H1 ⟨by omega,by omega⟩) ?_
   simp +contextual only [b7,a8.1,a8.2,aZ,↓ad,af,simprocAttr]
   refine aV (rX H1 (wr (-a0))) ?_
   rintro x aC F
   obtain ⟨aO,aL,bL,rfl,a7,t⟩:=aH.make (v:=.int (wr (-a0))) F rfl
   simp +contextual only [↓ad,af,simprocAttr]
   refine aV (mz ⟨_,_,_,_,bL⟩ O.w a7) ?_
   rintro x bq ⟨cP,bC⟩
   simp +contextual only [↓ad,af,simprocAttr]
   refine ⟨cP,aL,?_⟩
   simp only [ax.jW,List.getD_cons_zero,List.getD_cons_succ,cA]
   exact bC
set_option maxHeartbeats 1000000 in
theorem af3 (M:dx al h ar K au aS pm S steps) (O:Ok S) {a1:Nat} {aw:V} (A:ew h au [a1] aw):
 bB Tryz.prog 94 [.ptr ar 0,aw] h fun x aa=>∃aO aL,dx al aa ar aO aL aS pm (S.mA [a1] fun t=>S.dT (.int t.length)) steps:=by
 obtain ⟨_,_,_,_,M⟩:=M
 have aI:Ext h (h.new (.aq [.int .i64 2] 0 false)):=(Ext.refl h).new _
 have hG:cg (h.new (.aq [.int .i64 2] 0 false)) 1 (.slice (ao h.next) 0 1 1) 1 (cd [2]):=rM h [2]
 have aH:=M.ext aI
 have cz:=A.ext aI
 refine Vi rfl (bP ?_)
 unfold MK
 simp +contextual only [↓ad,af,simprocAttr]
 refine aV (rO ⟨_,_,_,_,aH⟩ cz (aF:=[2]) hG (Nat.le_refl _) (by decide)) ?_
 rintro x ak ⟨rfl,bQ,cB⟩
 cases an:dA S [a1] [2] with
 | false=>
   simp +contextual only [↓ad,af,simprocAttr]
   rw [D4 an]
   exact ⟨_,_,cB an⟩
 | true=>
   obtain rfl:=bQ an
   clear bQ cB hG
   generalize h.new (.aq [.int .i64 2] 0 false)=H1 at *
   simp only [dA,Bool.and_true,Bool.and_eq_true,decide_eq_true_eq] at an
   have E:=aH.rep.ext
   obtain ⟨a0,cA⟩:=p1 an
   obtain ⟨e1,cX,eG,fU,_,_,b7,_,b2⟩:=aH.arg cz 0 0 a1 rfl rfl
   rw [cA] at b2
   simp only [cV,dG,e8] at b2
   have a8:=b2 _ (Ext.refl _)
   simp +contextual only [b7,a8.1,a8.2,↓ad,af,simprocAttr]
   refine aV (rX H1 a0.length) ?_
   rintro x aC F
   obtain ⟨aO,aL,bL,rfl,a7,t⟩:=aH.make (v:=.int a0.length) F rfl
   simp +contextual only [↓ad,af,simprocAttr]
   refine aV (mz ⟨_,_,_,_,bL⟩ O.w a7) ?_
   rintro x bq ⟨cP,bC⟩
   simp +contextual only [↓ad,af,simprocAttr]
   refine ⟨cP,aL,?_⟩
   simp only [ax.mA,List.getD_cons_zero,List.getD_cons_succ,cA]
   exact bC
set_option maxHeartbeats 1000000 in
theorem VT (M:dx al h ar K au aS pm S steps) (O:Ok S) {a1:Nat} {aw:V} (A:ew h au [a1] aw):
 bB Tryz.prog 95 [.ptr ar 0,aw] h fun x aa=>∃aO aL,dx al aa ar aO aL aS pm (S.jW [a1] fun a=>S.dT (.text [ax.byteOf a])) steps:=by
 obtain ⟨_,_,_,_,M⟩:=M
 have aI:Ext h (h.new (.aq [.int .i64 1] 0 false)):=(Ext.refl h).new _
 have hG:cg (h.new (.aq [.int .i64 1] 0 false)) 1 (.slice (ao h.next) 0 1 1) 1 (cd [1]):=rM h [1]
 have aH:=M.ext aI
 have cz:=A.ext aI
 refine Vj rfl (bP ?_)
 unfold ML
 simp +contextual only [↓ad,af,simprocAttr]
 refine aV (rO ⟨_,_,_,_,aH⟩ cz (aF:=[1]) hG (Nat.le_refl _) (by decide)) ?_
 rintro x ak ⟨rfl,bQ,cB⟩
 cases an:dA S [a1] [1] with
 | false=>
   simp +contextual only [↓ad,af,simprocAttr]
   rw [yf an]
   exact ⟨_,_,cB an⟩
 | true=>
   obtain rfl:=bQ an
   clear bQ cB hG
   generalize h.new (.aq [.int .i64 1] 0 false)=H1 at *
   simp only [dA,Bool.and_true,Bool.and_eq_true,decide_eq_true_eq] at an
   have E:=aH.rep.ext
   obtain ⟨a0,cA⟩:=hj an
   obtain ⟨e1,cX,eG,fU,_,_,b7,_,b2⟩:=aH.arg cz 0 0 a1 rfl rfl
   rw [cA] at b2
   simp only [cV,dG,e8] at b2
   have a8:=b2 _ (Ext.refl _)
   have aZ:IntKind.u8.wrap a0=((ax.byteOf a0).toNat:Int):=wrap_u8 a0
   have k3:nT.run (.slice (ao H1.next) 0 1 1) (H1.new (.aq [.int .u8 ((ax.byteOf a0).toNat:Int)] 0 false))=.val (.str [ax.byteOf a0]) (H1.new (.aq [.int .u8 ((ax.byteOf a0).toNat:Int)] 0 false)):=M3 [ax.byteOf a0] H1 (show 1≤top by decide)
   have M2:=aH.ext ((Ext.refl H1).new (.aq [.int .u8 ((ax.byteOf a0).toNat:Int)] 0 false))
   simp +contextual only [b7,a8.1,a8.2,aZ,k3,↓ad,af,simprocAttr]
   refine aV (D5 _ [ax.byteOf a0]) ?_
   rintro x aC F
   obtain ⟨aO,aL,bL,rfl,a7,t⟩:=M2.make (v:=.text [ax.byteOf a0]) F rfl
   simp +contextual only [↓ad,af,simprocAttr]
   refine aV (mz ⟨_,_,_,_,bL⟩ O.w a7) ?_
   rintro x bq ⟨cP,bC⟩
   simp +contextual only [↓ad,af,simprocAttr]
   refine ⟨cP,aL,?_⟩
   simp only [ax.jW,List.getD_cons_zero,List.getD_cons_succ,cA]
   exact bC
set_option maxHeartbeats 1000000 in
theorem ad6 (M:dx al h ar K au aS pm S steps) (O:Ok S) {a1:Nat} {aw:V} (A:ew h au [a1] aw):
 bB Tryz.prog 92 [.ptr ar 0,aw] h fun x aa=>∃aO aL,dx al aa ar aO aL aS pm (S.jW [a1] fun a=>{S with out:=S.out++[ax.byteOf a]}.dT (.dn 0 [])) steps:=by
 obtain ⟨_,_,_,_,M⟩:=M
 have aI:Ext h (h.new (.aq [.int .i64 1] 0 false)):=(Ext.refl h).new _
 have hG:cg (h.new (.aq [.int .i64 1] 0 false)) 1 (.slice (ao h.next) 0 1 1) 1 (cd [1]):=rM h [1]
 have aH:=M.ext aI
 have cz:=A.ext aI
 refine Vg rfl (bP ?_)
 unfold MI
 simp +contextual only [↓ad,af,simprocAttr]
 refine aV (rO ⟨_,_,_,_,aH⟩ cz (aF:=[1]) hG (Nat.le_refl _) (by decide)) ?_
 rintro x ak ⟨rfl,bQ,cB⟩
 cases an:dA S [a1] [1] with
 | false=>
   simp +contextual only [↓ad,af,simprocAttr]
   rw [yf an]
   exact ⟨_,_,cB an⟩
 | true=>
   obtain rfl:=bQ an
   clear bQ cB hG
   generalize h.new (.aq [.int .i64 1] 0 false)=H1 at *
   simp only [dA,Bool.and_true,Bool.and_eq_true,decide_eq_true_eq] at an
   have E:=aH.rep.ext
   obtain ⟨a0,cA⟩:=hj an
   obtain ⟨e1,cX,eG,fU,_,_,b7,_,b2⟩:=aH.arg cz 0 0 a1 rfl rfl
   rw [cA] at b2
   simp only [cV,dG,e8] at b2
   have a8:=b2 _ (Ext.refl _)
   have aZ:IntKind.u8.wrap a0=((ax.byteOf a0).toNat:Int):=wrap_u8 a0
   have cJ:=aH.get
   have xv:Ext H1 (H1.new (.aq [.int .u8 ((ax.byteOf a0).toNat:Int)] 0 false)):=(Ext.refl H1).new _
   have ht:=O.out
   have sO:al.next≤H1.next:=E.next
   obtain ⟨dg,aC,ca,b',cE,fR,fN⟩:=iW (cs:=[.int .u8 ((ax.byteOf a0).toNat:Int)]) (by omega) aH.dk.1 sO (by unfold top;omega) rfl rfl
   have r0:cm al.next aC 1 dg (S.out++[ax.byteOf a0]).length (dp (S.out++[ax.byteOf a0])):=by
    rw [zl,List.length_append];exact b'
   obtain ⟨kY,bL⟩:=aH.wrote r0 cE (fun b q=>by rcases fN b q with r | r;exact .inl r;exact .inr (by omega))
   have jc:aC.get ar=_:=(aH.zC cE).trans cJ
   have dm:=b'.v.one
   have Oo:Mod (fun b=>False) H1 (H1.new (.aq [.int .u8 ((ax.byteOf a0).toNat:Int)] 0 false)):=xv.mod _
   have Ga:=(xv.get ar aH.b6.2).trans cJ
   have ml:=b2 _ xv
   have nz:=(aH.val e1).choose_spec.choose_spec.choose_spec.2.1
   have WT:aC.get (ed au a1)=H1.get (ed au a1):=aH.afQ cE (aH.oJ e1).1 (by rw [nz];simp)
   have ah4:=WT.trans a8.2
   have An:=ml.1
   rw [eB] at An
   simp +contextual only [rm,cJ,Ga,jc,b7,a8.1,a8.2,An,ml.1,ml.2,aZ,ca,dm.1,dm.2.1,↓ad,af,simprocAttr]
   refine aV (ou _ 0 .ay ⟨rfl,rfl,rfl⟩) ?_
   rintro x bq F
   obtain ⟨aO,aL,bC,rfl,a7,t⟩:=bL.make (v:=.dn 0 []) F rfl
   simp +contextual only [↓ad,af,simprocAttr]
   refine aV (mz ⟨_,_,_,_,bC⟩ O.w a7) ?_
   rintro x dZ ⟨u7,oD⟩
   simp +contextual only [↓ad,af,simprocAttr]
   refine ⟨u7,aL,?_⟩
   simp only [ax.jW,List.getD_cons_zero,cA]
   exact oD
end
end Go.Proofs.YtjbiefneffiogaaGreat
namespace Go.Proofs.YtjbiefneffiogaaGreat
open Go bA
theorem Kl {al:aj} {l:List UInt8} {v:V} (H:cg al 1 v l.length (dp l)) {k:IntKind} {i:Nat} (aG:i<l.length):
 ∃b off,fc 1 v (.int k i)=some (.ptr b off)∧∀aa,Ext al aa→hX (aa.get b) off=some (.int .u8 (((l[i]?).getD 0).toNat:Int)):=by
 obtain ⟨b,off,aI,bh⟩:=H.b_ (k:=k) aG
 refine ⟨b,_,aI,fun aa e=>?_⟩
 have ah:∀(l:List UInt8) (i:Nat) (aG:i < (dp l).length),(dp l)[i]=.int .u8 (((l[i]?).getD 0).toNat:Int):=by
  intro l
  induction l with
  | nil=>intro i aG;simp [dp] at aG
  | cons a l bN=>
    intro i aG
    cases i with
    | zero=>rfl
    | succ i=>
      have:=bN i (by simpa [dp] using aG)
      simpa [dp] using this
 rw [Nat.mul_one,(bh.ext e).b9 (by rw [rn];exact aG),ah l i]
theorem Ki {S:ax} {a1 bX:Nat} (h:dA S [a1,bX] [2,1]=false):S.oN [a1,bX]=S.gp:=by
 simp only [dA,Bool.and_true] at h
 simp only [ax.oN,List.getD_cons_zero,List.getD_cons_succ]
 cases al:S.val a1<;>cases ae:S.val bX<;>first | rfl | (rw [al,ae] at h;simp [cV] at h)
theorem O5 {S:ax} {a1 bX:Nat} (h:dA S [a1,bX] [2,2]=false):S.join [a1,bX]=S.gp:=by
 simp only [dA,Bool.and_true] at h
 simp only [ax.join,List.getD_cons_zero,List.getD_cons_succ]
 cases al:S.val a1<;>cases ae:S.val bX<;>first | rfl | (rw [al,ae] at h;simp [cV] at h)
theorem M' {S:ax} {a1 bX gT:Nat} (h:dA S [a1,bX,gT] [2,1,1]=false):S.cut [a1,bX,gT]=S.gp:=by
 simp only [dA,Bool.and_true] at h
 simp only [ax.cut,List.getD_cons_zero,List.getD_cons_succ]
 cases al:S.val a1<;>cases ae:S.val bX<;>cases ak:S.val gT<;>first | rfl | (rw [al,ae,ak] at h;simp [cV] at h)
section
variable {al h aa:aj} {ar:a6} {K:fs} {au:List a6} {aS pm:V} {S:ax} {steps:Int} {dY b4 b8 bn:V}
set_option maxHeartbeats 1000000 in
theorem ad7 (M:dx al h ar K au aS pm S steps) (O:Ok S) {a1:Nat} {aw:V} (A:ew h au [a1] aw):
 bB Tryz.prog 93 [.ptr ar 0,aw] h fun x aa=>∃aO aL,dx al aa ar aO aL aS pm (S.mA [a1] fun t=>{S with out:=S.out++t}.dT (.dn 0 [])) steps:=by
 obtain ⟨_,_,_,_,M⟩:=M
 have aI:Ext h (h.new (.aq [.int .i64 2] 0 false)):=(Ext.refl h).new _
 have hG:cg (h.new (.aq [.int .i64 2] 0 false)) 1 (.slice (ao h.next) 0 1 1) 1 (cd [2]):=rM h [2]
 have aH:=M.ext aI
 have cz:=A.ext aI
 refine Vh rfl (bP ?_)
 unfold MJ
 simp +contextual only [↓ad,af,simprocAttr]
 refine aV (rO ⟨_,_,_,_,aH⟩ cz (aF:=[2]) hG (Nat.le_refl _) (by decide)) ?_
 rintro x ak ⟨rfl,bQ,cB⟩
 cases an:dA S [a1] [2] with
 | false=>
   simp +contextual only [↓ad,af,simprocAttr]
   rw [D4 an]
   exact ⟨_,_,cB an⟩
 | true=>
   obtain rfl:=bQ an
   clear bQ cB hG
   generalize h.new (.aq [.int .i64 2] 0 false)=H1 at *
   simp only [dA,Bool.and_true,Bool.and_eq_true,decide_eq_true_eq] at an
   have E:=aH.rep.ext
   obtain ⟨a0,cA⟩:=p1 an
   obtain ⟨e1,cX,eG,fU,_,_,b7,_,b2⟩:=aH.arg cz 0 0 a1 rfl rfl
   rw [cA] at b2
   simp only [cV,dG,e8] at b2
   have a8:=b2 _ (Ext.refl _)
   have cJ:=aH.get
   have ht:=O.out
   have vP:=O.texts _ _ cA
   have sO:al.next≤H1.next:=E.next
   obtain ⟨dg,aC,ca,b',cE,fN⟩:=JW a0 aH.dk.1 sO (by unfold top;omega)
   have r0:cm al.next aC 1 dg (S.out++a0).length (dp (S.out++a0)):=by
    rw [zl,List.length_append];exact b'
   obtain ⟨kY,bL⟩:=aH.wrote r0 cE fN
   have jc:aC.get ar=_:=(aH.zC cE).trans cJ
   have dm:=b'.v.one
   simp +contextual only [rm,cJ,jc,b7,a8.1,a8.2,ca,dm.1,dm.2.1,↓ad,af,simprocAttr]
   refine aV (ou _ 0 .ay ⟨rfl,rfl,rfl⟩) ?_
   rintro x bq F
   obtain ⟨aO,aL,bC,rfl,a7,t⟩:=bL.make (v:=.dn 0 []) F rfl
   simp +contextual only [↓ad,af,simprocAttr]
   refine aV (mz ⟨_,_,_,_,bC⟩ O.w a7) ?_
   rintro x dZ ⟨u7,oD⟩
   simp +contextual only [↓ad,af,simprocAttr]
   refine ⟨u7,aL,?_⟩
   simp only [ax.mA,List.getD_cons_zero,cA]
   exact oD
set_option maxHeartbeats 1000000 in
theorem W5 (M:dx al h ar K au aS pm S steps) (O:Ok S) {aR:List UInt8} (dX:cg al 1 aS aR.length (dp aR)) (hlen:aR.length≤1073741824) (fD:S.read≤aR.length) {aw:V}:
 bB Tryz.prog 91 [.ptr ar 0,aw] h fun x aa=>∃aO aL,dx al aa ar aO aL aS pm (S.t_ aR) steps:=by
 obtain ⟨_,_,_,_,M⟩:=M
 have cJ:=M.get
 have aK:=dX.len
 have kx:=dX.one
 refine Vf rfl (bP ?_)
 unfold MH
 by_cases bd:aR.length≤S.read
 · have o2:((aR.length:Int)≤(S.read:Int))=True:=eq_true (by omega)
   simp +contextual only [cJ,aK,o2,↓ad,af,simprocAttr]
   refine aV (rX h (-1)) ?_
   rintro x aC F
   obtain ⟨aO,aL,bL,rfl,a7,t⟩:=M.make (v:=.int (-1)) F rfl
   simp +contextual only [↓ad,af,simprocAttr]
   refine aV (mz ⟨_,_,_,_,bL⟩ O.w a7) ?_
   rintro x bq ⟨cP,bC⟩
   simp +contextual only [↓ad,af,simprocAttr]
   refine ⟨cP,aL,?_⟩
   simp only [ax.t_,if_pos bd]
   exact bC
 · have o2:((aR.length:Int)≤(S.read:Int))=False:=eq_false (by omega)
   have dL:IntKind.i64.wrap ((S.read:Int)+1)=((S.read+1:Nat):Int):=by rw [wrap_i64 (by omega) (by omega)];rfl
   have dw:IntKind.i64.wrap (((S.read+1:Nat):Int)-1)=(S.read:Int):=by rw [wrap_i64 (by omega) (by omega)];omega
   have aH:=M.next {S with read:=S.read+1} steps _ _ _ _ rfl M.co M.dB M.wr M.dk
   have ee:=aH.get
   obtain ⟨b,o,b_,cD⟩:=Kl dX (k:=.i64) (i:=S.read) (by omega)
   have vx:=(aR[S.read]?.getD 0).toNat_lt
   have hF:IntKind.i64.wrap (((aR[S.read]?.getD 0).toNat:Nat):Int)=(((aR[S.read]?.getD 0).toNat:Nat):Int):=wrap_i64 (by omega) (by omega)
   have b9:=cD _ aH.rep.ext
   simp only [du] at b9
   simp +contextual only [cJ,ee,aK,o2,dL,dw,hF,b_,b9,kx.1,kx.2.1,↓ad,af,simprocAttr]
   refine aV (rX _ (((aR[S.read]?.getD 0).toNat:Nat):Int)) ?_
   rintro x aC F
   obtain ⟨aO,aL,bL,rfl,a7,t⟩:=aH.make (v:=.int (((aR[S.read]?.getD 0).toNat:Nat):Int)) F rfl
   have jc:=bL.get
   have rP:=cD _ bL.rep.ext
   simp +contextual only [rm,cJ,ee,jc,aK,o2,dL,dw,hF,b_,b9,rP,kx.1,kx.2.1,↓ad,af,simprocAttr]
   refine aV (mz ⟨_,_,_,_,bL⟩ O.w a7) ?_
   rintro x bq ⟨cP,bC⟩
   simp +contextual only [rm,cJ,ee,jc,aK,o2,dL,dw,hF,b_,b9,rP,kx.1,kx.2.1,↓ad,af,simprocAttr]
   refine ⟨cP,aL,?_⟩
   simp only [ax.t_,if_neg bd]
   exact bC
set_option maxHeartbeats 1000000 in
theorem TA (M:dx al h ar K au aS pm S steps) (O:Ok S) {a1 bX:Nat} {aw:V} (A:ew h au [a1,bX] aw):
 bB Tryz.prog 96 [.ptr ar 0,aw] h fun x aa=>∃aO aL,dx al aa ar aO aL aS pm (S.oN [a1,bX]) steps:=by
 obtain ⟨_,_,_,_,M⟩:=M
 have aI:Ext h (h.new (.aq [.int .i64 2,.int .i64 1] 0 false)):=(Ext.refl h).new _
 have hG:cg (h.new (.aq [.int .i64 2,.int .i64 1] 0 false)) 1 (.slice (ao h.next) 0 2 2) 2 (cd [2,1]):=rM h [2,1]
 have aH:=M.ext aI
 have cz:=A.ext aI
 refine Vk rfl (bP ?_)
 unfold MM
 simp +contextual only [↓ad,af,simprocAttr]
 refine aV (rO ⟨_,_,_,_,aH⟩ cz (aF:=[2,1]) hG (Nat.le_refl _) (by decide)) ?_
 rintro x ak ⟨rfl,bQ,cB⟩
 cases an:dA S [a1,bX] [2,1] with
 | false=>
   simp +contextual only [↓ad,af,simprocAttr]
   rw [Ki an]
   exact ⟨_,_,cB an⟩
 | true=>
   obtain rfl:=bQ an
   clear bQ cB hG
   generalize h.new (.aq [.int .i64 2,.int .i64 1] 0 false)=H1 at *
   simp only [dA,Bool.and_true,Bool.and_eq_true,decide_eq_true_eq] at an
   have E:=aH.rep.ext
   obtain ⟨a0,cA⟩:=p1 an.1
   obtain ⟨e1,cX,eG,fU,_,_,b7,_,b2⟩:=aH.arg cz 0 0 a1 rfl rfl
   rw [cA] at b2
   simp only [cV,dG,e8] at b2
   have a8:=b2 _ (Ext.refl _)
   obtain ⟨bw,di⟩:=hj an.2
   obtain ⟨ju,b0,dz,k5,_,_,cH,_,b9⟩:=aH.arg cz 1 1 bX rfl rfl
   rw [di] at b9
   simp only [cV,dG,e8] at b9
   have bf:=b9 _ (Ext.refl _)
   have vP:=O.texts _ _ cA
   have fC:=O.ints _ _ di
   by_cases bI:bw<0
   · have fu:=eq_true bI
     simp +contextual only [b7,cH,a8.1,bf.1,a8.2,bf.2,fu,↓ad,af,simprocAttr]
     refine aV (ou H1 2 .ay ⟨rfl,rfl,rfl⟩) ?_
     rintro x aC F
     obtain ⟨aO,aL,bL,rfl,a7,t⟩:=aH.make (v:=.dn 2 []) F rfl
     simp +contextual only [↓ad,af,simprocAttr]
     refine aV (tj ⟨_,_,_,_,bL⟩ O.w a7) ?_
     rintro x bq ⟨cP,bC⟩
     simp +contextual only [↓ad,af,simprocAttr]
     refine ⟨cP,aL,?_⟩
     simp only [ax.oN,List.getD_cons_zero,List.getD_cons_succ,cA,di]
     rw [if_neg (by omega)]
     exact bC
   have fu:=eq_false bI
   by_cases bK:(a0.length:Int)≤bw
   · have hx:=eq_true bK
     simp +contextual only [b7,cH,a8.1,bf.1,a8.2,bf.2,fu,hx,↓ad,af,simprocAttr]
     refine aV (ou H1 2 .ay ⟨rfl,rfl,rfl⟩) ?_
     rintro x aC F
     obtain ⟨aO,aL,bL,rfl,a7,t⟩:=aH.make (v:=.dn 2 []) F rfl
     simp +contextual only [↓ad,af,simprocAttr]
     refine aV (tj ⟨_,_,_,_,bL⟩ O.w a7) ?_
     rintro x bq ⟨cP,bC⟩
     simp +contextual only [↓ad,af,simprocAttr]
     refine ⟨cP,aL,?_⟩
     simp only [ax.oN,List.getD_cons_zero,List.getD_cons_succ,cA,di]
     rw [if_neg (by omega)]
     exact bC
   have hx:=eq_false bK
   have jh:qK.run (.str a0) (.int .i64 bw)=some (.int .u8 (((a0[bw.toNat]?).getD 0).toNat:Int)):=by rw [IQ,if_pos (by omega)]
   have vx:=(a0[bw.toNat]?.getD 0).toNat_lt
   have hF:IntKind.i64.wrap (((a0[bw.toNat]?.getD 0).toNat:Nat):Int)=(((a0[bw.toNat]?.getD 0).toNat:Nat):Int):=wrap_i64 (by omega) (by omega)
   simp +contextual only [b7,cH,a8.1,bf.1,a8.2,bf.2,fu,hx,jh,hF,↓ad,af,simprocAttr]
   refine aV (rX H1 (((a0[bw.toNat]?.getD 0).toNat:Nat):Int)) ?_
   rintro x aC F
   obtain ⟨aO,aL,bL,rfl,a7,t⟩:=aH.make (v:=.int (((a0[bw.toNat]?.getD 0).toNat:Nat):Int)) F rfl
   obtain ⟨_,_,cp,_⟩:=F
   have gj:=b2 _ cp
   have gk:=b9 _ cp
   simp +contextual only [rm,b7,cH,a8.1,bf.1,a8.2,bf.2,gj.1,gk.1,gj.2,gk.2,fu,hx,jh,hF,↓ad,af,simprocAttr]
   refine aV (mz ⟨_,_,_,_,bL⟩ O.w a7) ?_
   rintro x bq ⟨cP,bC⟩
   simp +contextual only [rm,b7,cH,a8.1,bf.1,a8.2,bf.2,gj.1,gk.1,gj.2,gk.2,fu,hx,jh,hF,↓ad,af,simprocAttr]
   refine ⟨cP,aL,?_⟩
   simp only [ax.oN,List.getD_cons_zero,List.getD_cons_succ,cA,di]
   rw [if_pos (by omega)]
   exact bC
set_option maxHeartbeats 1000000 in
theorem Wb (M:dx al h ar K au aS pm S steps) (O:Ok S) {a1 bX gT:Nat} {aw:V} (A:ew h au [a1,bX,gT] aw):
 bB Tryz.prog 97 [.ptr ar 0,aw] h fun x aa=>∃aO aL,dx al aa ar aO aL aS pm (S.cut [a1,bX,gT]) steps:=by
 obtain ⟨_,_,_,_,M⟩:=M
 have aI:Ext h (h.new (.aq [.int .i64 2,.int .i64 1,.int .i64 1] 0 false)):=(Ext.refl h).new _
 have hG:cg (h.new (.aq [.int .i64 2,.int .i64 1,.int .i64 1] 0 false)) 1 (.slice (ao h.next) 0 3 3) 3 (cd [2,1,1]):=rM h [2,1,1]
 have aH:=M.ext aI
 have cz:=A.ext aI
 refine Vl rfl (bP ?_)
 unfold MN
 simp +contextual only [↓ad,af,simprocAttr]
 refine aV (rO ⟨_,_,_,_,aH⟩ cz (aF:=[2,1,1]) hG (Nat.le_refl _) (by decide)) ?_
 rintro x ak ⟨rfl,bQ,cB⟩
 cases an:dA S [a1,bX,gT] [2,1,1] with
 | false=>
   simp +contextual only [↓ad,af,simprocAttr]
   rw [M' an]
   exact ⟨_,_,cB an⟩
 | true=>
   obtain rfl:=bQ an
   clear bQ cB hG
   generalize h.new (.aq [.int .i64 2,.int .i64 1,.int .i64 1] 0 false)=H1 at *
   simp only [dA,Bool.and_true,Bool.and_eq_true,decide_eq_true_eq] at an
   have E:=aH.rep.ext
   obtain ⟨a0,cA⟩:=p1 an.1
   obtain ⟨e1,cX,eG,fU,_,_,b7,_,b2⟩:=aH.arg cz 0 0 a1 rfl rfl
   rw [cA] at b2
   simp only [cV,dG,e8] at b2
   have a8:=b2 _ (Ext.refl _)
   obtain ⟨bw,di⟩:=hj an.2.1
   obtain ⟨ju,b0,dz,k5,_,_,cH,_,b9⟩:=aH.arg cz 1 1 bX rfl rfl
   rw [di] at b9
   simp only [cV,dG,e8] at b9
   have bf:=b9 _ (Ext.refl _)
   obtain ⟨b3,mU⟩:=hj an.2.2
   obtain ⟨zV,cG,fi,WM,_,_,im,_,jV⟩:=aH.arg cz 2 2 gT rfl rfl
   rw [mU] at jV
   simp only [cV,dG,e8] at jV
   have eJ:=jV _ (Ext.refl _)
   have vP:=O.texts _ _ cA
   have fC:=O.ints _ _ di
   have ht:=O.ints _ _ mU
   by_cases bI:bw<0
   · have fu:=eq_true bI
     simp +contextual only [b7,cH,im,a8.1,bf.1,eJ.1,a8.2,bf.2,eJ.2,fu,↓ad,af,simprocAttr]
     refine aV (ou H1 2 .ay ⟨rfl,rfl,rfl⟩) ?_
     rintro x aC F
     obtain ⟨aO,aL,bL,rfl,a7,t⟩:=aH.make (v:=.dn 2 []) F rfl
     simp +contextual only [↓ad,af,simprocAttr]
     refine aV (tj ⟨_,_,_,_,bL⟩ O.w a7) ?_
     rintro x bq ⟨cP,bC⟩
     simp +contextual only [↓ad,af,simprocAttr]
     refine ⟨cP,aL,?_⟩
     simp only [ax.cut,List.getD_cons_zero,List.getD_cons_succ,cA,di,mU]
     rw [if_neg (by omega)]
     exact bC
   have fu:=eq_false bI
   by_cases bK:b3<0
   · have hx:=eq_true bK
     simp +contextual only [b7,cH,im,a8.1,bf.1,eJ.1,a8.2,bf.2,eJ.2,fu,hx,↓ad,af,simprocAttr]
     refine aV (ou H1 2 .ay ⟨rfl,rfl,rfl⟩) ?_
     rintro x aC F
     obtain ⟨aO,aL,bL,rfl,a7,t⟩:=aH.make (v:=.dn 2 []) F rfl
     simp +contextual only [↓ad,af,simprocAttr]
     refine aV (tj ⟨_,_,_,_,bL⟩ O.w a7) ?_
     rintro x bq ⟨cP,bC⟩
     simp +contextual only [↓ad,af,simprocAttr]
     refine ⟨cP,aL,?_⟩
     simp only [ax.cut,List.getD_cons_zero,List.getD_cons_succ,cA,di,mU]
     rw [if_neg (by omega)]
     exact bC
   have hx:=eq_false bK
   by_cases az:(a0.length:Int)<bw
   · have m3:=eq_true az
     simp +contextual only [b7,cH,im,a8.1,bf.1,eJ.1,a8.2,bf.2,eJ.2,fu,hx,m3,↓ad,af,simprocAttr]
     refine aV (ou H1 2 .ay ⟨rfl,rfl,rfl⟩) ?_
     rintro x aC F
     obtain ⟨aO,aL,bL,rfl,a7,t⟩:=aH.make (v:=.dn 2 []) F rfl
     simp +contextual only [↓ad,af,simprocAttr]
     refine aV (tj ⟨_,_,_,_,bL⟩ O.w a7) ?_
     rintro x bq ⟨cP,bC⟩
     simp +contextual only [↓ad,af,simprocAttr]
     refine ⟨cP,aL,?_⟩
     simp only [ax.cut,List.getD_cons_zero,List.getD_cons_succ,cA,di,mU]
     rw [if_neg (by omega)]
     exact bC
   have m3:=eq_false az
   have dL:IntKind.i64.wrap ((a0.length:Int)-bw)=(a0.length:Int)-bw:=wrap_i64 (by omega) (by omega)
   have dw:IntKind.i64.wrap (bw+b3)=bw+b3:=wrap_i64 (by omega) (by omega)
   by_cases hu:(a0.length:Int)-bw<b3
   · have fL:=eq_true hu
     simp +contextual only [b7,cH,im,a8.1,bf.1,eJ.1,a8.2,bf.2,eJ.2,fu,hx,m3,dL,fL,↓ad,af,simprocAttr]
     refine aV (ou H1 2 .ay ⟨rfl,rfl,rfl⟩) ?_
     rintro x aC F
     obtain ⟨aO,aL,bL,rfl,a7,t⟩:=aH.make (v:=.dn 2 []) F rfl
     simp +contextual only [↓ad,af,simprocAttr]
     refine aV (tj ⟨_,_,_,_,bL⟩ O.w a7) ?_
     rintro x bq ⟨cP,bC⟩
     simp +contextual only [↓ad,af,simprocAttr]
     refine ⟨cP,aL,?_⟩
     simp only [ax.cut,List.getD_cons_zero,List.getD_cons_succ,cA,di,mU]
     rw [if_neg (by omega)]
     exact bC
   have fL:=eq_false hu
   have g_:mx (.str a0) (some (.int .i64 bw)) (some (.int .i64 (bw+b3))) none=some (.str ((a0.drop bw.toNat).take b3.toNat)):=by
    rw [IW,if_pos (by omega)]
    congr 4
    omega
   simp +contextual only [b7,cH,im,a8.1,bf.1,eJ.1,a8.2,bf.2,eJ.2,fu,hx,m3,dL,dw,fL,g_,↓ad,af,simprocAttr]
   refine aV (D5 H1 ((a0.drop bw.toNat).take b3.toNat)) ?_
   rintro x aC F
   obtain ⟨aO,aL,bL,rfl,a7,t⟩:=aH.make (v:=.text ((a0.drop bw.toNat).take b3.toNat)) F rfl
   simp +contextual only [↓ad,af,simprocAttr]
   refine aV (mz ⟨_,_,_,_,bL⟩ O.w a7) ?_
   rintro x bq ⟨cP,bC⟩
   simp +contextual only [↓ad,af,simprocAttr]
   refine ⟨cP,aL,?_⟩
   simp only [ax.cut,List.getD_cons_zero,List.getD_cons_succ,cA,di,mU]
   rw [if_pos (by omega)]
   exact bC
set_option maxHeartbeats 1000000 in
theorem ZZ (M:dx al h ar K au aS pm S steps) (O:Ok S) {a1 bX:Nat} {aw:V} (A:ew h au [a1,bX] aw):
 bB Tryz.prog 98 [.ptr ar 0,aw] h fun x aa=>∃aO aL,dx al aa ar aO aL aS pm (S.join [a1,bX]) steps:=by
 obtain ⟨_,_,_,_,M⟩:=M
 have aI:Ext h (h.new (.aq [.int .i64 2,.int .i64 2] 0 false)):=(Ext.refl h).new _
 have hG:cg (h.new (.aq [.int .i64 2,.int .i64 2] 0 false)) 1 (.slice (ao h.next) 0 2 2) 2 (cd [2,2]):=rM h [2,2]
 have aH:=M.ext aI
 have cz:=A.ext aI
 refine Vm rfl (bP ?_)
 unfold MO
 simp +contextual only [↓ad,af,simprocAttr]
 refine aV (rO ⟨_,_,_,_,aH⟩ cz (aF:=[2,2]) hG (Nat.le_refl _) (by decide)) ?_
 rintro x ak ⟨rfl,bQ,cB⟩
 cases an:dA S [a1,bX] [2,2] with
 | false=>
   simp +contextual only [↓ad,af,simprocAttr]
   rw [O5 an]
   exact ⟨_,_,cB an⟩
 | true=>
   obtain rfl:=bQ an
   clear bQ cB hG
   generalize h.new (.aq [.int .i64 2,.int .i64 2] 0 false)=H1 at *
   simp only [dA,Bool.and_true,Bool.and_eq_true,decide_eq_true_eq] at an
   have E:=aH.rep.ext
   obtain ⟨a0,cA⟩:=p1 an.1
   obtain ⟨e1,cX,eG,fU,_,_,b7,_,b2⟩:=aH.arg cz 0 0 a1 rfl rfl
   rw [cA] at b2
   simp only [cV,dG,e8] at b2
   have a8:=b2 _ (Ext.refl _)
   obtain ⟨bw,di⟩:=p1 an.2
   obtain ⟨ju,b0,dz,k5,_,_,cH,_,b9⟩:=aH.arg cz 1 1 bX rfl rfl
   rw [di] at b9
   simp only [cV,dG,e8] at b9
   have bf:=b9 _ (Ext.refl _)
   have vP:=O.texts _ _ cA
   have fC:=O.texts _ _ di
   have dL:IntKind.i64.wrap ((a0.length:Int) + (bw.length:Int))=(a0.length:Int) + (bw.length:Int):=wrap_i64 (by omega) (by omega)
   by_cases bI:4096 < (a0.length:Int) + (bw.length:Int)
   · have fu:=eq_true bI
     simp +contextual only [b7,cH,a8.1,bf.1,a8.2,bf.2,dL,fu,↓ad,af,simprocAttr]
     refine aV (ou H1 2 .ay ⟨rfl,rfl,rfl⟩) ?_
     rintro x aC F
     obtain ⟨aO,aL,bL,rfl,a7,t⟩:=aH.make (v:=.dn 2 []) F rfl
     simp +contextual only [↓ad,af,simprocAttr]
     refine aV (tj ⟨_,_,_,_,bL⟩ O.w a7) ?_
     rintro x bq ⟨cP,bC⟩
     simp +contextual only [↓ad,af,simprocAttr]
     refine ⟨cP,aL,?_⟩
     simp only [ax.join,List.getD_cons_zero,List.getD_cons_succ,cA,di]
     rw [if_neg (by omega)]
     exact bC
   have fu:=eq_false bI
   have E9:(eH.str .add).run Tryz.prog (.str a0) (.str bw)=some (.str (a0++bw)):=by rw [IP,if_pos (by unfold top;omega)]
   simp +contextual only [b7,cH,a8.1,bf.1,a8.2,bf.2,dL,fu,E9,↓ad,af,simprocAttr]
   refine aV (D5 H1 (a0++bw)) ?_
   rintro x aC F
   obtain ⟨aO,aL,bL,rfl,a7,t⟩:=aH.make (v:=.text (a0++bw)) F rfl
   obtain ⟨_,_,cp,_⟩:=F
   have gj:=b2 _ cp
   have gk:=b9 _ cp
   simp +contextual only [b7,cH,a8.1,bf.1,a8.2,bf.2,gj.1,gk.1,gj.2,gk.2,↓ad,af,simprocAttr]
   refine aV (mz ⟨_,_,_,_,bL⟩ O.w a7) ?_
   rintro x bq ⟨cP,bC⟩
   simp +contextual only [b7,cH,a8.1,bf.1,a8.2,bf.2,gj.1,gk.1,gj.2,gk.2,↓ad,af,simprocAttr]
   refine ⟨cP,aL,?_⟩
   simp only [ax.join,List.getD_cons_zero,List.getD_cons_succ,cA,di]
   rw [if_pos (by omega)]
   exact bC
end
end Go.Proofs.YtjbiefneffiogaaGreat
namespace Go.Proofs.YtjbiefneffiogaaGreat
open Go bA
section
variable {al h aa:aj} {ar:a6} {K:fs} {au:List a6} {aS pm:V} {S:ax} {steps:Int} {dY b4 b8 bn:V}
set_option maxHeartbeats 1000000 in
theorem afR (M:dx al h ar K au aS pm S steps) (O:Ok S) {a1 bX:Nat} {aw:V} (A:ew h au [a1,bX] aw):
 bB Tryz.prog 99 [.ptr ar 0,aw] h fun x aa=>∃aO aL,dx al aa ar aO aL aS pm (S.pq [a1,bX]) steps:=by
 have gv:=M
 obtain ⟨jC,eq,fG,da,M⟩:=M
 obtain ⟨e1,cX,eG,fU,_,_,b7,jO,b2⟩:=M.arg A 0 0 a1 rfl rfl
 obtain ⟨ju,b0,dz,k5,_,_,cH,_,b9⟩:=M.arg A 1 1 bX rfl rfl
 have a8:=b2 _ (Ext.refl _)
 have bf:=b9 _ (Ext.refl _)
 refine Vn rfl (bP ?_)
 unfold MP
 by_cases CR:cV (S.val a1)=4
 rotate_left
 · have mb:=eq_false CR
   simp +contextual only [b7,cH,a8.1,bf.1,a8.2,bf.2,mb,↓ad,af,simprocAttr]
   refine aV (pH gv 6) ?_
   rintro x bq bC
   simp +contextual only [↓ad,af,simprocAttr]
   refine ⟨K,au,?_⟩
   have:S.pq [a1,bX]=S.gp:=by
    simp only [ax.pq,List.getD_cons_zero]
    cases bk:S.val a1<;>first | rfl | (rw [bk] at CR;exact absurd rfl CR)
   rw [this]
   exact bC
 obtain ⟨t,bg,bk⟩:=we CR
 rw [bk] at a8 b2 jO
 simp only [cV,dG,e8] at a8 b2
 have xV:S.pq [a1,bX]=if t=0∧bg.length=1 then {S with st:=S.st.set a1 (.dn 0 [bX])}.dT (.dn 0 []) else S.gp:=by
  simp only [ax.pq,List.getD_cons_zero,List.getD_cons_succ,bk]
 by_cases aJ:t=0
 rotate_left
 · have m2:=eq_false aJ
   simp +contextual only [b7,cH,a8.1,bf.1,a8.2,bf.2,m2,↓ad,af,simprocAttr]
   refine aV (pH gv 6) ?_
   rintro x bq bC
   simp +contextual only [↓ad,af,simprocAttr]
   refine ⟨K,au,?_⟩
   rw [xV,if_neg (by omega)]
   exact bC
 subst aJ
 obtain ⟨f1,f2,f3⟩:=jO
 have aK:=f1.v.len
 by_cases jT:bg.length=1
 rotate_left
 · have GB:((bg.length:Int)=1)=False:=eq_false (by omega)
   simp +contextual only [b7,cH,a8.1,bf.1,a8.2,bf.2,aK,GB,↓ad,af,simprocAttr]
   refine aV (pH gv 6) ?_
   rintro x bq bC
   simp +contextual only [↓ad,af,simprocAttr]
   refine ⟨K,au,?_⟩
   rw [xV,if_neg (by omega)]
   exact bC
 rw [jT] at aK f1
 obtain ⟨ki,tZ,aI,bh,cp⟩:=f1.v.jf (k:=.i64) (i:=0) (by decide)
 have hr:=Fc f1.v (k:=.i64) (i:=0) (by decide) aI
 have FL:fc 1 fU (.int .i64 0)=some (.ptr ki tZ):=by simpa using aI
 obtain ⟨k,ca,_,cE,fR⟩:=f1.Ir hr (c:=0) (by simp [jT]) (y:=c5 au bX) rfl rfl
 rw [Nat.add_zero] at ca
 have pc:qL 1 h ki tZ (.ptr (ed au bX) 0) (h.get ki)=some (h.set ki k):=ca
 have ff:((((1:Nat):Int))=1)=True:=eq_true rfl
 have cn:=f2 ki cp
 have t:dd al K h au K (h.set ki k) au (·=.lE a1):=dd.s' cn (f1.base cp)
 have vE:a1<S.st.length:=by rw [←M.rep.len];exact e1
 have Ag:(bg.map (c5 au)).set 0 (c5 au bX)=[bX].map (c5 au):=by
  match bg,jT with
  | [a],_=>rfl
 rw [Ag] at cE
 have ah':ed au a1≠ki:=fun q=>by
  obtain ⟨_,_,_,_,fv,_⟩:=M.val e1
  rw [q,cn] at fv;cases fv
 obtain ⟨_,_,_,_,fv,_⟩:=M.val e1
 have aH:eo al (h.set ki k) ar K au aS pm {S with st:=S.st.set a1 (.dn 0 [bX])} steps jC eq fG da:=by
  have kK:K ar≠.no:=by rw [M.dv];simp
  refine ⟨M.rep.D9 (i:=a1) (v:=.dn 0 [bX]) t (by simp) (by intro j bS;simpa using bS) (by simp) ?_,M.dv,?_,M.co,M.dB.cy t (by simp),M.wr.cy t (by simp) (by simp),M.dk.cy t (by simp)⟩
  · exact ⟨fv,fU,.ch,_,by rw [t.get _ (by rw [fv];simp) (by rw [fv];simp)];obtain ⟨_,WL,f_,FJ,eI,dg,_⟩:=M.rep.val a1 _ (ax.Ea vE);rw [bk] at dg;have:=Ie (a8.2.symm.trans eI);cases dg;simp only [List.cons.injEq,true_and,and_true] at this;rw [a8.2,this.2.1,this.2.2],rfl,⟨cE,f2,by simpa using ju⟩,trivial⟩
  · rw [t.get ar kK (by rw [M.dv];simp)];exact M.get
 simp +contextual only [b7,cH,a8.1,bf.1,a8.2,bf.2,aK,ff,FL,pc,↓ad,af,simprocAttr]
 refine aV (ou _ 0 .ay ⟨rfl,rfl,rfl⟩) ?_
 rintro x aC F
 obtain ⟨aO,aL,bL,rfl,a7,t⟩:=aH.make (v:=.dn 0 []) F rfl
 simp +contextual only [↓ad,af,simprocAttr]
 refine aV (mz ⟨_,_,_,_,bL⟩ O.w a7) ?_
 rintro x bq ⟨cP,bC⟩
 simp +contextual only [↓ad,af,simprocAttr]
 refine ⟨cP,aL,?_⟩
 rw [xV,if_pos ⟨rfl,jT⟩]
 exact bC
end
end Go.Proofs.YtjbiefneffiogaaGreat
namespace Go.Proofs.YtjbiefneffiogaaGreat
open Go bA
theorem Jc (n:Int) (h:aj):lr Tryz.prog 120 [.int .i64 n] h (.bool (gC n)) h:=by
 refine te (TV rfl (bP ?_))
 unfold KP
 simp +contextual only [↓ad,af,simprocAttr]
 rfl
theorem RV (n a b:Int) (h:aj):bB Tryz.prog 121 [.int .i64 n,.agg [.int .i64 a,.int .i64 b]] h fun x aa=>x=.bool (sc n a b)∧Ext h aa:=by
 refine TW rfl (bP ?_)
 unfold KQ
 have t0:((0:Int) < ((2:Nat):Int))=True:=eq_true (by decide)
 have t1:((1:Int) < ((2:Nat):Int))=True:=eq_true (by decide)
 simp +contextual only [pX,t0,t1,Int.toNat_zero,Int.toNat_one,Nat.zero_mul,Nat.add_zero,↓ad,af,simprocAttr]
 exact ⟨rfl,(Ext.refl h).new _⟩
theorem S9 (a:At) (h:aj):bB Tryz.prog 126 [.agg a.enc] h fun x aa=>x=.bool (gS a)∧Ext h aa:=by
 obtain ⟨k,n,s⟩:=a
 refine T1 rfl (bP ?_)
 unfold KW
 have az:Ext h (h.new (.aq (At.enc ⟨k,n,s⟩) 0 false)):=(Ext.refl h).new _
 have he:At.enc ⟨k,n,s⟩=[.int .i64 k,.int .i64 n,.str s]:=rfl
 rw [he] at az ⊢
 by_cases ae:k=1
 · subst ae
   simp +contextual only [↓ad,af,simprocAttr]
   refine ⟨?_,az⟩
   simp [gS,gC]
 by_cases ak:k=2
 · subst ak
   simp +contextual only [↓ad,af,simprocAttr]
   refine ⟨?_,az⟩
   simp [gS,o']
 by_cases aC:k=3
 · subst aC
   simp +contextual only [↓ad,af,simprocAttr]
   refine ⟨?_,az⟩
   simp [gS]
   congr 1
   rw [decide_eq_decide]
   omega
 · have dN:=eq_false ae
   have k6:=eq_false ak
   have k7:=eq_false aC
   simp +contextual only [dN,k6,k7,↓ad,af,simprocAttr]
   refine ⟨?_,az⟩
   simp [gS,ae,ak,aC]
theorem adI (a:At) (h:aj):bB Tryz.prog 125 [.agg a.enc] h fun x aa=>x=.bool (!gS a)∧Ext h aa:=by
 refine T0 rfl (bP ?_)
 unfold KV
 have he:(At.enc a).length=3:=rfl
 obtain ⟨k,n,s⟩:=a
 have he:At.enc ⟨k,n,s⟩=[.int .i64 k,.int .i64 n,.str s]:=rfl
 rw [he]
 simp +contextual only [↓ad,af,simprocAttr]
 refine aV (he ▸ S9 ⟨k,n,s⟩ _) ?_
 rintro x ae ⟨rfl,dj⟩
 simp +contextual only [↓ad,af,simprocAttr]
 exact ((Ext.refl h).new _).trans dj
theorem ZN (l:List At) (v:V) (h:aj) (H:cg h 3 v l.length (iX l)) (aK:l.length≤4611686018427387904):
 bB Tryz.prog 160 [v,.func 125 []] h fun x aa=>(∃i:Int,x=.int .i64 i∧decide (0≤i)=!l.all gS)∧Ext h aa:=by
 refine Uk rfl (bP ?_)
 unfold Ln
 simp +contextual only [H.len,↓ad,af,simprocAttr]
 refine fw (fun r aa=>Ext h aa∧r 0=v∧r 1=.func 125 []∧r 7=.int .i64 l.length∧∃i:Nat,r 8=.int .i64 i∧i≤l.length∧l.all gS=(l.drop i).all gS) (fun r aa=>l.length - (r 8).gn) ?_ ?_
 · exact ⟨Ext.refl h,by simp only [↓ad,bj,simprocAttr],by simp only [↓ad,bj,simprocAttr],by simp only [↓ad,bj,simprocAttr],0,by simp only [↓ad,bj,simprocAttr]<;>rfl,by omega,rfl⟩
 · rintro r aa ⟨az,bl,aU,fr,i,hZ,aG,cb⟩
   unfold Lo
   by_cases aX:i<l.length
   · have bM:((i:Int) < (l.length:Int))=True:=eq_true (by omega)
     obtain ⟨b,o,b_,cD,_⟩:=sy (H.ext az) (k:=.i64) aX
     rw [List.drop_eq_getElem_cons aX,List.all_cons] at cb
     have w:=gq aX aK
     simp +contextual only [bl,aU,fr,hZ,bM,b_,cD,↓ad,af,simprocAttr]
     refine aV (adI l[i] aa) ?_
     rintro x ae ⟨rfl,dj⟩
     cases bU:gS l[i] with
     | true=>
       simp +contextual only [bl,aU,fr,hZ,w,↓ad,af,simprocAttr]
       exact ⟨⟨az.trans dj,⟨i+1,rfl,aX,by rw [cb,bU,Bool.true_and]⟩⟩,by omega⟩
     | false=>
       simp +contextual only [bl,aU,fr,hZ,w,↓ad,af,simprocAttr]
       refine ⟨⟨i,rfl,?_⟩,az.trans dj⟩
       rw [cb,bU]
       simp
   · have bM:((i:Int) < (l.length:Int))=False:=eq_false (by omega)
     rw [List.drop_eq_nil_of_le (by omega)] at cb
     simp +contextual only [bl,aU,fr,hZ,bM,↓ad,af,simprocAttr]
     exact ⟨⟨-1,rfl,by rw [cb];rfl⟩,az⟩
theorem Cd (l:List At) (v:V) (h:aj) (H:cg h 3 v l.length (iX l)) (aK:l.length≤4611686018427387904):
 bB Tryz.prog 124 [v,.func 125 []] h fun x aa=>x=.bool (!l.all gS)∧Ext h aa:=by
 refine TZ rfl (bP ?_)
 unfold KU
 simp +contextual only [↓ad,af,simprocAttr]
 refine aV (ZN l v h H aK) ?_
 rintro x ae ⟨⟨i,rfl,aG⟩,dj⟩
 simp +contextual only [aG,↓ad,af,simprocAttr]
 exact dj
def jQ.enc (r:jQ):List V:=[.bool r.x,.bool r.n,.bool r.s,.bool r.tags,.int .i64 r.a0,.int .i64 r.bw,.int .i64 r.a8,.int .i64 r.bf]
theorem om (h:aj) (aI bh cp eV:cT):Ext h ((((h.new aI).new bh).set (ao (h.next+1)) cp).set (ao h.next) eV):=((((Ext.refl h).new aI).new bh).set (by omega) cp).set (Nat.le_refl _) eV
set_option maxRecDepth 100000 in
theorem afH (k:Int) (al:k≤0) (h:aj):bB Tryz.prog 119 [.int .i64 k] h fun x aa=>x=.tuple [.agg ((fj k).getD jQ.none).enc,.bool (fj k).isSome]∧Ext h aa:=by
 refine nR rfl (bP ?_)
 unfold nk
 have c_:=eq_true al
 have bd:fj k=none:=by unfold fj;repeat rw [if_neg (by omega)]
 simp +contextual (maxSteps:=1000000) only [c_,bd,↓ad,af,simprocAttr]
 exact ⟨rfl,om h _ _ _ _⟩
set_option maxRecDepth 100000 in
theorem afG (k:Int) (ae:13≤k) (h:aj):bB Tryz.prog 119 [.int .i64 k] h fun x aa=>x=.tuple [.agg ((fj k).getD jQ.none).enc,.bool (fj k).isSome]∧Ext h aa:=by
 refine nR rfl (bP ?_)
 unfold nk
 have c_:(k≤0)=False:=eq_false (by omega)
 have dN:=eq_true ae
 have bd:fj k=none:=by unfold fj;repeat rw [if_neg (by omega)]
 simp +contextual (maxSteps:=1000000) only [c_,dN,bd,↓ad,af,simprocAttr]
 exact ⟨rfl,om h _ _ _ _⟩
set_option maxRecDepth 100000 in
theorem afD (h:aj):bB Tryz.prog 119 [.int .i64 8] h fun x aa=>x=.tuple [.agg ((fj 8).getD jQ.none).enc,.bool (fj 8).isSome]∧Ext h aa:=by
 refine nR rfl (bP ?_)
 unfold nk
 have bd:fj 8=none:=by decide
 simp +contextual (maxSteps:=1000000) only [bd,↓ad,af,simprocAttr]
 exact ⟨rfl,om h _ _ _ _⟩
set_option maxRecDepth 100000 in
theorem aft (h:aj):bB Tryz.prog 119 [.int .i64 1] h fun x aa=>x=.tuple [.agg ((fj 1).getD jQ.none).enc,.bool (fj 1).isSome]∧Ext h aa:=by
 refine nR rfl (bP ?_)
 unfold nk
 have t0:((1:Int) < ((13:Nat):Int))=True:=eq_true (by decide)
 have t1:(1:Int).toNat=1:=rfl
 simp +contextual (maxSteps:=1000000) only [pX,t0,t1,Nat.reduceMul,Nat.zero_add,↓ad,af,simprocAttr]
 exact ⟨rfl,om h _ _ _ _⟩
set_option maxRecDepth 100000 in
theorem afx (h:aj):bB Tryz.prog 119 [.int .i64 2] h fun x aa=>x=.tuple [.agg ((fj 2).getD jQ.none).enc,.bool (fj 2).isSome]∧Ext h aa:=by
 refine nR rfl (bP ?_)
 unfold nk
 have t0:((2:Int) < ((13:Nat):Int))=True:=eq_true (by decide)
 have t1:(2:Int).toNat=2:=rfl
 simp +contextual (maxSteps:=1000000) only [pX,t0,t1,Nat.reduceMul,Nat.zero_add,↓ad,af,simprocAttr]
 exact ⟨rfl,om h _ _ _ _⟩
set_option maxRecDepth 100000 in
theorem afy (h:aj):bB Tryz.prog 119 [.int .i64 3] h fun x aa=>x=.tuple [.agg ((fj 3).getD jQ.none).enc,.bool (fj 3).isSome]∧Ext h aa:=by
 refine nR rfl (bP ?_)
 unfold nk
 have t0:((3:Int) < ((13:Nat):Int))=True:=eq_true (by decide)
 have t1:(3:Int).toNat=3:=rfl
 simp +contextual (maxSteps:=1000000) only [pX,t0,t1,Nat.reduceMul,Nat.zero_add,↓ad,af,simprocAttr]
 exact ⟨rfl,om h _ _ _ _⟩
set_option maxRecDepth 100000 in
theorem afz (h:aj):bB Tryz.prog 119 [.int .i64 4] h fun x aa=>x=.tuple [.agg ((fj 4).getD jQ.none).enc,.bool (fj 4).isSome]∧Ext h aa:=by
 refine nR rfl (bP ?_)
 unfold nk
 have t0:((4:Int) < ((13:Nat):Int))=True:=eq_true (by decide)
 have t1:(4:Int).toNat=4:=rfl
 simp +contextual (maxSteps:=1000000) only [pX,t0,t1,Nat.reduceMul,Nat.zero_add,↓ad,af,simprocAttr]
 exact ⟨rfl,om h _ _ _ _⟩
set_option maxRecDepth 100000 in
theorem afA (h:aj):bB Tryz.prog 119 [.int .i64 5] h fun x aa=>x=.tuple [.agg ((fj 5).getD jQ.none).enc,.bool (fj 5).isSome]∧Ext h aa:=by
 refine nR rfl (bP ?_)
 unfold nk
 have t0:((5:Int) < ((13:Nat):Int))=True:=eq_true (by decide)
 have t1:(5:Int).toNat=5:=rfl
 simp +contextual (maxSteps:=1000000) only [pX,t0,t1,Nat.reduceMul,Nat.zero_add,↓ad,af,simprocAttr]
 exact ⟨rfl,om h _ _ _ _⟩
set_option maxRecDepth 100000 in
theorem afB (h:aj):bB Tryz.prog 119 [.int .i64 6] h fun x aa=>x=.tuple [.agg ((fj 6).getD jQ.none).enc,.bool (fj 6).isSome]∧Ext h aa:=by
 refine nR rfl (bP ?_)
 unfold nk
 have t0:((6:Int) < ((13:Nat):Int))=True:=eq_true (by decide)
 have t1:(6:Int).toNat=6:=rfl
 simp +contextual (maxSteps:=1000000) only [pX,t0,t1,Nat.reduceMul,Nat.zero_add,↓ad,af,simprocAttr]
 exact ⟨rfl,om h _ _ _ _⟩
set_option maxRecDepth 100000 in
theorem afC (h:aj):bB Tryz.prog 119 [.int .i64 7] h fun x aa=>x=.tuple [.agg ((fj 7).getD jQ.none).enc,.bool (fj 7).isSome]∧Ext h aa:=by
 refine nR rfl (bP ?_)
 unfold nk
 have t0:((7:Int) < ((13:Nat):Int))=True:=eq_true (by decide)
 have t1:(7:Int).toNat=7:=rfl
 simp +contextual (maxSteps:=1000000) only [pX,t0,t1,Nat.reduceMul,Nat.zero_add,↓ad,af,simprocAttr]
 exact ⟨rfl,om h _ _ _ _⟩
set_option maxRecDepth 100000 in
theorem afE (h:aj):bB Tryz.prog 119 [.int .i64 9] h fun x aa=>x=.tuple [.agg ((fj 9).getD jQ.none).enc,.bool (fj 9).isSome]∧Ext h aa:=by
 refine nR rfl (bP ?_)
 unfold nk
 have t0:((9:Int) < ((13:Nat):Int))=True:=eq_true (by decide)
 have t1:(9:Int).toNat=9:=rfl
 simp +contextual (maxSteps:=1000000) only [pX,t0,t1,Nat.reduceMul,Nat.zero_add,↓ad,af,simprocAttr]
 exact ⟨rfl,om h _ _ _ _⟩
set_option maxRecDepth 100000 in
theorem afu (h:aj):bB Tryz.prog 119 [.int .i64 10] h fun x aa=>x=.tuple [.agg ((fj 10).getD jQ.none).enc,.bool (fj 10).isSome]∧Ext h aa:=by
 refine nR rfl (bP ?_)
 unfold nk
 have t0:((10:Int) < ((13:Nat):Int))=True:=eq_true (by decide)
 have t1:(10:Int).toNat=10:=rfl
 simp +contextual (maxSteps:=1000000) only [pX,t0,t1,Nat.reduceMul,Nat.zero_add,↓ad,af,simprocAttr]
 exact ⟨rfl,om h _ _ _ _⟩
set_option maxRecDepth 100000 in
theorem afv (h:aj):bB Tryz.prog 119 [.int .i64 11] h fun x aa=>x=.tuple [.agg ((fj 11).getD jQ.none).enc,.bool (fj 11).isSome]∧Ext h aa:=by
 refine nR rfl (bP ?_)
 unfold nk
 have t0:((11:Int) < ((13:Nat):Int))=True:=eq_true (by decide)
 have t1:(11:Int).toNat=11:=rfl
 simp +contextual (maxSteps:=1000000) only [pX,t0,t1,Nat.reduceMul,Nat.zero_add,↓ad,af,simprocAttr]
 exact ⟨rfl,om h _ _ _ _⟩
set_option maxRecDepth 100000 in
theorem afw (h:aj):bB Tryz.prog 119 [.int .i64 12] h fun x aa=>x=.tuple [.agg ((fj 12).getD jQ.none).enc,.bool (fj 12).isSome]∧Ext h aa:=by
 refine nR rfl (bP ?_)
 unfold nk
 have t0:((12:Int) < ((13:Nat):Int))=True:=eq_true (by decide)
 have t1:(12:Int).toNat=12:=rfl
 simp +contextual (maxSteps:=1000000) only [pX,t0,t1,Nat.reduceMul,Nat.zero_add,↓ad,af,simprocAttr]
 exact ⟨rfl,om h _ _ _ _⟩
theorem afF (k:Int) (h:aj):bB Tryz.prog 119 [.int .i64 k] h fun x aa=>x=.tuple [.agg ((fj k).getD jQ.none).enc,.bool (fj k).isSome]∧Ext h aa:=by
 by_cases al:k≤0
 · exact afH k al h
 by_cases sL:13≤k
 · exact afG k sL h
 have:k=1∨k=2∨k=3∨k=4∨k=5∨k=6∨k=7∨k=8∨k=9∨k=10∨k=11∨k=12:=by omega
 rcases this with rfl | rfl | rfl | rfl | rfl | rfl | rfl | rfl | rfl | rfl | rfl | rfl
 · exact aft h
 · exact afx h
 · exact afy h
 · exact afz h
 · exact afA h
 · exact afB h
 · exact afC h
 · exact afD h
 · exact afE h
 · exact afu h
 · exact afv h
 · exact afw h
def mR (iD:List (List UInt8 × Int)) (n:Nat):List j1:=
 match iD with
 | []=>[]
 | x::l=>⟨.str x.1,.int .i64 x.2,n⟩::mR l (n+1)
theorem Qo {k:List UInt8} {v:Int} {c:Nat}:∀(iD:List (List UInt8 × Int)) (n:Nat),(iD.all fun x=>!decide (k=x.1))=true→
 mq fO.str.eq (.str k) (.int .i64 v) c (mR iD n)=some (mR iD n++[⟨.str k,.int .i64 v,c⟩],true)
 | [],_,_=>rfl
 | x::l,n,h=>by
   simp only [List.all_cons,Bool.and_eq_true,Bool.not_eq_true',decide_eq_false_iff_not] at h
   have bN:=Qo (k:=k) (v:=v) (c:=c) l (n+1) (by simpa using h.2)
   have ah:oL k x.1=false:=by rw [ve];exact decide_eq_false h.1
   simp only [mR,mq,fO.eq,qt,ah,cond_false] at bN ⊢
   rw [bN]
   rfl
theorem Nq:∀(iD:List (List UInt8 × Int)) (n:Nat) (k:List UInt8) (v:Int),mR iD n++[⟨.str k,.int .i64 v,n+iD.length⟩]=mR (iD++[(k,v)]) n
 | [],n,k,v=>rfl
 | x::l,n,k,v=>by
   rw [mR,List.cons_append,List.cons_append,mR,←Nq l (n+1) k v,List.length_cons]
   congr 4
   omega
def H7:List (List UInt8 × Int)→List (List UInt8 × Int)→Bool
 | _,[]=>true
 | l,x::m=>(l.all fun y=>!decide (x.1=y.1))&&H7 (l++[x]) m
def I8 (t:Nat) (x:List UInt8 × Int):br:=⟨none,.fk .str (.t t) (.c (.str x.1)) (.c (.int .i64 x.2)),none,[t]⟩
theorem Q7 (h:aj) (b:a6) (k cf:cT):(h.set b k).set b cf=h.set b cf:=by
 unfold aj.set
 simp only [T.yn]
theorem RD {t:Nat} {os:List br} {aF:List iU} {Q:cW→bV→aj→Prop} {r:bV} {b:a6} (bd:r t=.map b):∀(m l:List (List UInt8 × Int)) (h:aj),H7 l m=true→h.get b=.mp (mR l 0) l.length→
 bR Tryz.prog (.os none os::aF) .normal r (if m=[] then h else h.set b (.mp (mR (l++m) 0) (l.length+m.length))) Q→bR Tryz.prog (.os none (m.map (I8 t)++os)::aF) .normal r h Q
 | [],l,h,_,_,H=>by simpa using H
 | x::m,l,h,a7,bp,H=>by
   simp only [H7,Bool.and_eq_true] at a7
   rw [List.map_cons,List.cons_append]
   unfold I8
   rw [C']
   have aT:=Qo (k:=x.1) (v:=x.2) (c:=l.length) l 0 a7.1
   have hu:lp fO.str.eq h (.map b) (.str x.1) (.int .i64 x.2)=some (h.set b (.mp (mR (l++[x]) 0) (l.length+1))):=by
    simp only [lp,bp,cT.pa,aT,cond_true,Option.some.injEq]
    rw [←Nq l 0 x.1 x.2,Nat.zero_add]
   have aI:(bs.t t).bu (r.trim [t])=.map b:=by rw [Cl,D8 (by simp),bd]
   rw [aI,xy,xy,hu]
   show bR Tryz.prog (.os none (m.map (I8 t)++os)::aF) .normal (r.set none .bad) (h.set b (.mp (mR (l++[x]) 0) (l.length+1))) Q
   refine RD bd m (l++[x]) _ a7.2 (by rw [du,if_pos rfl,List.length_append];rfl) ?_
   rw [if_neg (by simp)] at H
   by_cases hm:m=[]
   · subst hm
     simpa using H
   · rw [if_neg hm,Q7,List.append_assoc,List.singleton_append,List.length_append,show l.length + [x].length+m.length=l.length + (x::m).length from by simp;omega]
     exact H
def wE:List (List UInt8 × Int):=td.map (fun s=>(s,2))++qW.map (fun s=>(s,1))++[([99,117,116],3)]
theorem ad0 (h:aj):bB Tryz.prog 122 [] h fun x aa=>x=.map (ao h.next)∧aa.get (ao h.next)=.mp (mR wE 0) 18∧Ext h aa:=by
 refine TX rfl (bP ?_)
 unfold KR
 simp +contextual only [↓ad,af,simprocAttr]
 rw [show qQ none h=.val (.map (ao h.next)) (h.new (.mp [] 0)) from rfl,IX]
 refine RD (t:=1) (b:=ao h.next) (by simp only [↓ad,bj,simprocAttr]) wE [] _ (by decide) (by rw [gi];rfl) ?_
 rw [if_neg (by decide)]
 simp +contextual only [↓ad,af,simprocAttr]
 exact ⟨rfl,((Ext.refl h).new _).set (Nat.le_refl _) _⟩
theorem NC {k:List UInt8}:∀(iD:List (List UInt8 × Int)) (n:Nat),nr fO.str.eq (.str k) (mR iD n)=some ((iD.find? fun x=>decide (k=x.1)).map fun x=>.int .i64 x.2)
 | [],_=>rfl
 | x::l,n=>by
   simp only [mR,nr,fO.eq,qt,List.find?_cons]
   rw [ve]
   cases h:decide (k=x.1) with
   | true=>rfl
   | false=>exact NC l (n+1)
theorem agw (s:List UInt8):(match (wE.find? fun x=>decide (s=x.1)).map (fun x=>x.2) with | some n=>n | none=>0)=eO s:=by
 unfold eO
 by_cases ak:s ∈ td
 · rw [if_pos ak]
   simp only [td,List.mem_cons,List.not_mem_nil,or_false] at ak
   rcases ak with rfl | rfl | rfl | rfl | rfl | rfl | rfl | rfl | rfl | rfl | rfl<;>rfl
 rw [if_neg ak]
 by_cases ae:s ∈ qW
 · rw [if_pos ae]
   simp only [qW,List.mem_cons,List.not_mem_nil,or_false] at ae
   rcases ae with rfl | rfl | rfl | rfl | rfl | rfl<;>rfl
 rw [if_neg ae]
 by_cases aC:s=[99,117,116]
 · subst aC;rfl
 rw [if_neg aC]
 have:(wE.find? fun x=>decide (s=x.1))=none:=by
  rw [List.find?_eq_none]
  intro x az
  simp only [wE,List.mem_append,List.mem_map,List.mem_cons,List.not_mem_nil,or_false] at az
  simp only [decide_eq_true_eq]
  rcases az with (⟨y,bK,rfl⟩ | ⟨y,bK,rfl⟩) | rfl
  · rintro rfl;exact ak bK
  · rintro rfl;exact ae bK
  · exact aC
 rw [this]
 rfl
theorem aco {h:aj} {b:a6} (bp:h.get b=.mp (mR wE 0) 18) (s:List UInt8):ld fO.str.eq (.int .i64 0) false h (.map b) (.str s)=some (.int .i64 (eO s)):=by
 simp only [ld,rS,bp,cT.pa,NC,cond_false]
 rw [←agw s]
 cases (wE.find? fun x=>decide (s=x.1))<;>rfl
theorem QV {a b:Int} (bU:gJ a) (ah:gJ b):-2305843009213693952≤a * b∧a * b≤2305843009213693952:=by
 obtain ⟨bw,b3⟩:=bU
 obtain ⟨b0,cG⟩:=ah
 have ae:(a * b).natAbs≤1073741824 * 1073741824:=by
  rw [Int.natAbs_mul]
  exact Nat.mul_le_mul (by omega) (by omega)
 omega
theorem QT {a b:Int} (bU:gJ a) (ah:b≠0):-1073741824≤a.tdiv b∧a.tdiv b≤1073741824:=by
 have ae:(a.tdiv b).natAbs≤a.natAbs:=by rw [Int.natAbs_tdiv];exact Nat.div_le_self _ _
 obtain ⟨bw,b3⟩:=bU
 omega
theorem QU {a b:Int} (ah:gJ b) (al:b≠0):-1073741824≤a.tmod b∧a.tmod b≤1073741824:=by
 obtain ⟨b0,cG⟩:=ah
 have ae:(a.tmod b).natAbs<b.natAbs:=by rw [Int.natAbs_tmod];exact Nat.mod_lt _ (by omega)
 omega
theorem abR (a b:Int) (h:aj) (bU:gJ a) (ah:gJ b):∃cs,p5 (.int (wr (a+b)))=some cs∧bB Tryz.prog 78 [.int .i64 a,.int .i64 b] h fun x aa=>g7 h aa x cs:=by
 refine ⟨_,rfl,?_⟩
 have bd:-2305843009213693952≤a+b∧a+b≤2305843009213693952:=by obtain ⟨bw,b3⟩:=bU;obtain ⟨b0,cG⟩:=ah;constructor<;>omega
 have w:IntKind.i64.wrap (a+b)=a+b:=wrap_i64 (by omega) (by omega)
 refine U4 rfl (bP ?_)
 unfold Mu
 simp +contextual only [w,↓ad,af,simprocAttr]
 refine iz (Bf (a+b) h bd) ?_
 simp +contextual only [w,↓ad,af,simprocAttr]
 refine aV (rX h (wr (a+b))) ?_
 rintro x ae F
 simp +contextual only [↓ad,af,simprocAttr]
 exact F
theorem abY (a b:Int) (h:aj) (bU:gJ a) (ah:gJ b):∃cs,p5 (.int (wr (a-b)))=some cs∧bB Tryz.prog 81 [.int .i64 a,.int .i64 b] h fun x aa=>g7 h aa x cs:=by
 refine ⟨_,rfl,?_⟩
 have bd:-2305843009213693952≤a-b∧a-b≤2305843009213693952:=by obtain ⟨bw,b3⟩:=bU;obtain ⟨b0,cG⟩:=ah;constructor<;>omega
 have w:IntKind.i64.wrap (a-b)=a-b:=wrap_i64 (by omega) (by omega)
 refine U7 rfl (bP ?_)
 unfold Mx
 simp +contextual only [w,↓ad,af,simprocAttr]
 refine iz (Bf (a-b) h bd) ?_
 simp +contextual only [w,↓ad,af,simprocAttr]
 refine aV (rX h (wr (a-b))) ?_
 rintro x ae F
 simp +contextual only [↓ad,af,simprocAttr]
 exact F
theorem abX (a b:Int) (h:aj) (bU:gJ a) (ah:gJ b):∃cs,p5 (.int (wr (a * b)))=some cs∧bB Tryz.prog 82 [.int .i64 a,.int .i64 b] h fun x aa=>g7 h aa x cs:=by
 refine ⟨_,rfl,?_⟩
 have bd:-2305843009213693952≤a * b∧a * b≤2305843009213693952:=by exact QV bU ah
 have w:IntKind.i64.wrap (a * b)=a * b:=wrap_i64 (by omega) (by omega)
 refine U8 rfl (bP ?_)
 unfold My
 simp +contextual only [w,↓ad,af,simprocAttr]
 refine iz (Bf (a * b) h bd) ?_
 simp +contextual only [w,↓ad,af,simprocAttr]
 refine aV (rX h (wr (a * b))) ?_
 rintro x ae F
 simp +contextual only [↓ad,af,simprocAttr]
 exact F
theorem abT (a b:Int) (h:aj) (bU:gJ a) (ah:gJ b):∃cs,p5 (ax.nG (decide (a=b)))=some cs∧bB Tryz.prog 83 [.int .i64 a,.int .i64 b] h fun x aa=>g7 h aa x cs:=by
 refine ⟨_,rfl,?_⟩
 refine U9 rfl (bP ?_)
 unfold Mz
 simp +contextual only [↓ad,af,simprocAttr]
 refine aV (I6 h (decide (a=b))) ?_
 rintro x ae F
 simp +contextual only [↓ad,af,simprocAttr]
 exact F
theorem abV (a b:Int) (h:aj) (bU:gJ a) (ah:gJ b):∃cs,p5 (ax.nG (decide (a<b)))=some cs∧bB Tryz.prog 85 [.int .i64 a,.int .i64 b] h fun x aa=>g7 h aa x cs:=by
 refine ⟨_,rfl,?_⟩
 refine U_ rfl (bP ?_)
 unfold MB
 simp +contextual only [↓ad,af,simprocAttr]
 refine aV (I6 h (decide (a<b))) ?_
 rintro x ae F
 simp +contextual only [↓ad,af,simprocAttr]
 exact F
theorem abU (a b:Int) (h:aj) (bU:gJ a) (ah:gJ b):∃cs,p5 (ax.nG (decide (a≤b)))=some cs∧bB Tryz.prog 86 [.int .i64 a,.int .i64 b] h fun x aa=>g7 h aa x cs:=by
 refine ⟨_,rfl,?_⟩
 refine Va rfl (bP ?_)
 unfold MC
 simp +contextual only [↓ad,af,simprocAttr]
 refine aV (I6 h (decide (a≤b))) ?_
 rintro x ae F
 simp +contextual only [↓ad,af,simprocAttr]
 exact F
theorem abS (a b:Int) (h:aj) (bU:gJ a) (ah:gJ b) (al:b≠0):lr Tryz.prog 88 [.int .i64 a,.int .i64 b] h (.int .i64 (a.tdiv b)) h∧-2305843009213693952≤a.tdiv b∧a.tdiv b≤2305843009213693952:=by
 have bd:=QT bU al
 refine ⟨te (Vc rfl (bP ?_)),by omega,by omega⟩
 unfold ME
 have k:(eH.int .quo).run Tryz.prog (.int .i64 a) (.int .i64 b)=some (.int .i64 (a.tdiv b)):=by
  rw [O6 .i64 a b al,wrap_i64 (by omega) (by omega)]
 simp +contextual only [k,↓ad,af,simprocAttr]
theorem abW (a b:Int) (h:aj) (bU:gJ a) (ah:gJ b) (al:b≠0):lr Tryz.prog 89 [.int .i64 a,.int .i64 b] h (.int .i64 (a.tmod b)) h∧-2305843009213693952≤a.tmod b∧a.tmod b≤2305843009213693952:=by
 have bd:=QU (a:=a) ah al
 refine ⟨te (Vd rfl (bP ?_)),by omega,by omega⟩
 unfold MF
 have k:(eH.int .rem).run Tryz.prog (.int .i64 a) (.int .i64 b)=some (.int .i64 (a.tmod b)):=by
  rw [HI .i64 a b al]
 simp +contextual only [k,↓ad,af,simprocAttr]
theorem yu (f:FuncId) (h:aj):bB Tryz.prog 77 [.func f []] h fun x aa=>∃b,x=.func 145 [.ptr b 0]∧Ext h aa∧h.next≤cu b∧Old aa b∧aa.get b=.aq [.func f []] 0 false:=by
 refine U3 rfl (bP ?_)
 unfold Mt
 simp +contextual only [↓ad,af,simprocAttr]
 exact ⟨_,rfl,(Ext.refl h).new _,by rw [cS];exact Nat.le_refl _,uI,if_pos rfl⟩
theorem M_ (f:FuncId) (h:aj):bB Tryz.prog 87 [.func f []] h fun x aa=>∃b,x=.func 147 [.ptr b 0]∧Ext h aa∧h.next≤cu b∧Old aa b∧aa.get b=.aq [.func f []] 0 false:=by
 refine Vb rfl (bP ?_)
 unfold MD
 simp +contextual only [↓ad,af,simprocAttr]
 exact ⟨_,rfl,(Ext.refl h).new _,by rw [cS];exact Nat.le_refl _,uI,if_pos rfl⟩
def jr (iD:List (List UInt8 × V)) (n:Nat):List j1:=
 match iD with
 | []=>[]
 | x::l=>⟨.str x.1,x.2,n⟩::jr l (n+1)
theorem Qp {k:List UInt8} {v:V} {c:Nat}:∀(iD:List (List UInt8 × V)) (n:Nat),(iD.all fun x=>!decide (k=x.1))=true→
 mq fO.str.eq (.str k) v c (jr iD n)=some (jr iD n++[⟨.str k,v,c⟩],true)
 | [],_,_=>rfl
 | x::l,n,h=>by
   simp only [List.all_cons,Bool.and_eq_true,Bool.not_eq_true',decide_eq_false_iff_not] at h
   have bN:=Qp (k:=k) (v:=v) (c:=c) l (n+1) (by simpa using h.2)
   have ah:oL k x.1=false:=by rw [ve];exact decide_eq_false h.1
   simp only [jr,mq,fO.eq,qt,ah,cond_false] at bN ⊢
   rw [bN]
   rfl
theorem Nt:∀(iD:List (List UInt8 × V)) (n:Nat) (k:List UInt8) (v:V),jr iD n++[⟨.str k,v,n+iD.length⟩]=jr (iD++[(k,v)]) n
 | [],n,k,v=>rfl
 | x::l,n,k,v=>by
   rw [jr,List.cons_append,List.cons_append,jr,←Nt l (n+1) k v,List.length_cons]
   congr 4
   omega
theorem I_ {h:aj} {b:a6} {l:List (List UInt8 × V)} {k:List UInt8} {v:V} (bp:h.get b=.mp (jr l 0) l.length) (a7:(l.all fun x=>!decide (k=x.1))=true):
 lp fO.str.eq h (.map b) (.str k) v=some (h.set b (.mp (jr (l++[(k,v)]) 0) (l.length+1))):=by
 have aT:=Qp (v:=v) (c:=l.length) l 0 a7
 simp only [lp,bp,cT.pa,aT,cond_true,Option.some.injEq]
 rw [←Nt l 0 k v,Nat.zero_add]
def H8:List (List UInt8 × V)→List (List UInt8 × V)→Bool
 | _,[]=>true
 | l,x::m=>(l.all fun y=>!decide (x.1=y.1))&&H8 (l++[x]) m
def I9 (t:Nat) (x:List UInt8 × V):br:=⟨none,.fk .str (.t t) (.c (.str x.1)) (.c x.2),none,[t]⟩
theorem RE {t:Nat} {os:List br} {aF:List iU} {Q:cW→bV→aj→Prop} {r:bV} {b:a6} (bd:r t=.map b):∀(m l:List (List UInt8 × V)) (h:aj),H8 l m=true→h.get b=.mp (jr l 0) l.length→
 bR Tryz.prog (.os none os::aF) .normal r (if m=[] then h else h.set b (.mp (jr (l++m) 0) (l.length+m.length))) Q→bR Tryz.prog (.os none (m.map (I9 t)++os)::aF) .normal r h Q
 | [],l,h,_,_,H=>by simpa using H
 | x::m,l,h,a7,bp,H=>by
   simp only [H8,Bool.and_eq_true] at a7
   rw [List.map_cons,List.cons_append]
   unfold I9
   rw [C']
   have hu:=I_ (v:=x.2) bp a7.1
   have aI:(bs.t t).bu (r.trim [t])=.map b:=by rw [Cl,D8 (by simp),bd]
   rw [aI,xy,xy,hu]
   show bR Tryz.prog (.os none (m.map (I9 t)++os)::aF) .normal (r.set none .bad) (h.set b (.mp (jr (l++[x]) 0) (l.length+1))) Q
   refine RE bd m (l++[x]) _ a7.2 (by rw [du,if_pos rfl,List.length_append];rfl) ?_
   rw [if_neg (by simp)] at H
   by_cases hm:m=[]
   · subst hm
     simpa using H
   · rw [if_neg hm,Q7,List.append_assoc,List.singleton_append,List.length_append,show l.length + [x].length+m.length=l.length + (x::m).length from by simp;omega]
     exact H
theorem agQ {t:Nat} {x:bs} {rs:List Nat} {os:List br} {aF:List iU} {Q:cW→bV→aj→Prop} {r:bV} {h:aj} {b:a6} {l:List (List UInt8 × V)} {k:List UInt8} {v:V} (bd:(r.trim rs) t=.map b) (az:x.bu (r.trim rs)=v) (bp:h.get b=.mp (jr l 0) l.length) (a7:(l.all fun x=>!decide (k=x.1))=true)
 (H:bR Tryz.prog (.os none os::aF) .normal r (h.set b (.mp (jr (l++[(k,v)]) 0) (l.length+1))) Q):bR Tryz.prog (.os none (⟨none,.fk .str (.t t) (.c (.str k)) x,none,rs⟩::os)::aF) .normal r h Q:=by
 rw [C',Cl,xy,bd,az,I_ bp a7]
 exact H
theorem NG {k:List UInt8}:∀(iD:List (List UInt8 × V)) (n:Nat),nr fO.str.eq (.str k) (jr iD n)=some ((iD.find? fun x=>decide (k=x.1)).map fun x=>x.2)
 | [],_=>rfl
 | x::l,n=>by
   simp only [jr,nr,fO.eq,qt,List.find?_cons]
   rw [ve]
   cases h:decide (k=x.1) with
   | true=>rfl
   | false=>exact NG l (n+1)
def B4 (cX b0 cG fa gZ hp iY j4:a6):List (List UInt8 × V):=[]++[([97,100,100],.func 145 [.ptr cX 0])]++[([115,117,98],.func 145 [.ptr b0 0])]++[([109,117,108],.func 145 [.ptr cG 0])]++[([101,113],.func 145 [.ptr fa 0])]++[([108,116],.func 145 [.ptr gZ 0])]++[([108,101],.func 145 [.ptr hp 0])]++[([100,105,118],.func 147 [.ptr iY 0])]++[([109,111,100],.func 147 [.ptr j4 0])]
def Cy:List (List UInt8 × V):=[([110,101,103],.func 90 []),([103,101,116,99],.func 91 []),([112,117,116,99],.func 92 []),([112,117,116,115],.func 93 []),([115,105,122,101],.func 94 []),([99,104,114],.func 95 []),([98,121,116,101],.func 96 []),([99,117,116],.func 97 []),([106,111,105,110],.func 98 []),([115,101,116],.func 99 [])]
def Bq (h:aj) (pm:V):Prop:=∃cX b0 cG fa gZ hp iY j4 b,pm=.map b∧Old h b∧h.get b=.mp (jr (B4 cX b0 cG fa gZ hp iY j4++Cy) 0) 18∧(Old h cX∧h.get cX=.aq [.func 78 []] 0 false)∧(Old h b0∧h.get b0=.aq [.func 81 []] 0 false)∧(Old h cG∧h.get cG=.aq [.func 82 []] 0 false)∧(Old h fa∧h.get fa=.aq [.func 83 []] 0 false)∧(Old h gZ∧h.get gZ=.aq [.func 85 []] 0 false)∧(Old h hp∧h.get hp=.aq [.func 86 []] 0 false)∧(Old h iY∧h.get iY=.aq [.func 88 []] 0 false)∧(Old h j4∧h.get j4=.aq [.func 89 []] 0 false)
theorem tO {h g k:aj} {n:Nat} {b:a6} {l:List (List UInt8 × V)} {iZ:List (a6 × FuncId)} {f:FuncId} (key:List UInt8) (fn:V) (hm:h.next≤n) (x:Ext h g) (m:g.get (ao n)=.mp (jr l 0) l.length) (q:Old g (ao n)) (B:∀p ∈ iZ,p.1≠(ao n)∧Old g p.1∧g.get p.1=.aq [.func p.2 []] 0 false) (y:Ext g k) (u:g.next≤cu b) (o:Old k b) (v:k.get b=.aq [.func f []] 0 false) (a7:(l.all fun x=>!decide (key=x.1))=true):
 k.get (ao n)=.mp (jr l 0) l.length∧∃eI,eI=k.set (ao n) (.mp (jr (l++[(key,fn)]) 0) (l.length+1))∧lp fO.str.eq k (.map (ao n)) (.str key) fn=some eI∧eI.get (ao n)=.mp (jr (l++[(key,fn)]) 0) (l++[(key,fn)]).length∧Old eI (ao n)∧Ext h eI∧∀p ∈ (b,f)::iZ,p.1≠(ao n)∧Old eI p.1∧eI.get p.1=.aq [.func p.2 []] 0 false:=by
 have w:=(y.get _ q).trans m
 refine ⟨w,_,rfl,I_ w a7,?_,y.b6 q,(x.trans y).set hm _,?_⟩
 · rw [du,if_pos rfl,List.length_append];rfl
 · have ah:b≠(ao n):=fun e=>by rw [e] at u;unfold Old at q;omega
   intro p aT
   rcases List.mem_cons.mp aT with rfl | aT
   · exact ⟨ah,o,by rw [du,if_neg (fun e=>ah e.symm),v]⟩
   · obtain ⟨ca,b',cE⟩:=B p aT
     exact ⟨ca,y.b6 b',by rw [du,if_neg (fun e=>ca e.symm),y.get _ b',cE]⟩
set_option maxHeartbeats 4000000 in
theorem Wf (h:aj):bB Tryz.prog 58 [] h fun x aa=>Bq aa x∧Ext h aa:=by
 refine UM rfl (bP ?_)
 unfold L7
 simp +contextual only [↓ad,af,simprocAttr]
 rw [show qQ none h=.val (.map (ao h.next)) (h.new (.mp [] 0)) from rfl,IX]
 have aA:Ext h (h.new (.mp [] 0)):=(Ext.refl h).new _
 have HU:(h.new (.mp [] 0)).get (ao h.next)=.mp (jr [] 0) ([]:List (List UInt8 × V)).length:=gi _
 have tf:Old (h.new (.mp [] 0)) (ao h.next):=uI
 have hm:h.next≤h.next:=Nat.le_refl _
 have y8:∀p ∈ ([]:List (a6 × FuncId)),p.1≠ao h.next∧Old (h.new (.mp [] 0)) p.1∧(h.new (.mp [] 0)).get p.1=.aq [.func p.2 []] 0 false:=fun p aT=>absurd aT (by simp)
 generalize h.new (.mp [] 0)=bM at *
 simp +contextual only [↓ad,af,simprocAttr]
 refine aV (yu 78 bM) ?_
 rintro x dF ⟨cX,rfl,ahw,agI,eG,v0⟩
 obtain ⟨aZ,bF,a1,d0,uC,aQ,bt,dW⟩:=tO [97,100,100] (.func 145 [.ptr cX 0]) hm aA HU tf y8 ahw agI eG v0 (by rfl)
 simp +contextual only [d0,↓ad,af,simprocAttr]
 refine aV (yu 81 bF) ?_
 rintro x bQ ⟨b0,rfl,tw,gR,dz,v1⟩
 obtain ⟨dL,bz,bX,d1,x6,aB,fe,fP⟩:=tO [115,117,98] (.func 145 [.ptr b0 0]) hm bt uC aQ dW tw gR dz v1 (by rfl)
 simp +contextual only [d1,↓ad,af,simprocAttr]
 refine aV (yu 82 bz) ?_
 rintro x cB ⟨cG,rfl,wS,ha,fi,v2⟩
 obtain ⟨dw,cL,gT,d2,fY,a',Bg,ig⟩:=tO [109,117,108] (.func 145 [.ptr cG 0]) hm fe x6 aB fP wS ha fi v2 (by rfl)
 simp +contextual only [d2,↓ad,af,simprocAttr]
 refine aV (yu 83 cL) ?_
 rintro x fX ⟨fa,rfl,wT,gB,gz,v3⟩
 obtain ⟨hF,gy,aix,d3,ob,cn,Bh,Su⟩:=tO [101,113] (.func 145 [.ptr fa 0]) hm Bg fY a' ig wT gB gz v3 (by rfl)
 simp +contextual only [d3,↓ad,af,simprocAttr]
 refine aV (yu 85 gy) ?_
 rintro x jJ ⟨gZ,rfl,Bi,Ba,yg,v4⟩
 obtain ⟨h2,ik,aiy,d4,x7,ea,wQ,Sv⟩:=tO [108,116] (.func 145 [.ptr gZ 0]) hm Bh ob cn Su Bi Ba yg v4 (by rfl)
 simp +contextual only [d4,↓ad,af,simprocAttr]
 refine aV (yu 86 ik) ?_
 rintro x o4 ⟨hp,rfl,ahx,yw,yh,v5⟩
 obtain ⟨agY,oS,aiz,d5,Ps,fy,ahm,Sw⟩:=tO [108,101] (.func 145 [.ptr hp 0]) hm wQ x7 ea Sv ahx yw yh v5 (by rfl)
 simp +contextual only [d5,↓ad,af,simprocAttr]
 refine aV (M_ 88 oS) ?_
 rintro x x1 ⟨iY,rfl,ahy,agJ,AB,v6⟩
 obtain ⟨agZ,F9,aiA,d6,acs,fZ,uV,Sx⟩:=tO [100,105,118] (.func 147 [.ptr iY 0]) hm ahm Ps fy Sw ahy agJ AB v6 (by rfl)
 simp +contextual only [d6,↓ad,af,simprocAttr]
 refine aV (M_ 89 F9) ?_
 rintro x x2 ⟨j4,rfl,ahz,agK,AD,tu⟩
 obtain ⟨ag0,F',ZY,d7,acu,gI,ahn,Sy⟩:=tO [109,111,100] (.func 147 [.ptr j4 0]) hm uV acs fZ Sx ahz agK AD tu (by rfl)
 refine agQ (b:=ao h.next) (v:=.func 147 [.ptr j4 0]) (by simp only [↓ad,bj,simprocAttr]) (by simp only [↓ad,bj,simprocAttr]) ag0 (by rfl) ?_
 rw [←ZY]
 refine RE (t:=1) (b:=ao h.next) (by simp only [↓ad,bj,simprocAttr]) Cy (B4 cX b0 cG fa gZ hp iY j4) F' (by rfl) acu ?_
 rw [if_neg (by decide)]
 simp +contextual only [↓ad,af,simprocAttr]
 have V:∀b f,(b,f) ∈ [(j4,89),(iY,88),(hp,86),(gZ,85),(fa,83),(cG,82),(b0,81),(cX,78)]→Old F' b∧(F'.set (ao h.next) (.mp (jr (B4 cX b0 cG fa gZ hp iY j4++Cy) 0) ((B4 cX b0 cG fa gZ hp iY j4).length+Cy.length))).get b=.aq [.func f []] 0 false:=fun b f ah=>by
  obtain ⟨ca,b',cE⟩:=Sy (b,f) ah
  exact ⟨b',by rw [du,if_neg (fun e=>ca e.symm),cE]⟩
 exact ⟨⟨cX,b0,cG,fa,gZ,hp,iY,j4,ao h.next,rfl,gI,by rw [du,if_pos rfl];rfl,V cX 78 (by simp),V b0 81 (by simp),V cG 82 (by simp),V fa 83 (by simp),V gZ 85 (by simp),V hp 86 (by simp),V iY 88 (by simp),V j4 89 (by simp)⟩,ahn.set (Nat.le_refl _) _⟩
theorem lH {h:aj} {b:a6} {iD:List (List UInt8 × V)} {c:Nat} (bp:h.get b=.mp (jr iD 0) c) (s:List UInt8) {v:V} (av:((iD.find? fun x=>decide (s=x.1)).map fun x=>x.2)=some v):ld fO.str.eq .kN false h (.map b) (.str s)=some v:=by
 simp only [ld,rS,bp,cT.pa,NG,cond_false,av]
theorem Pj {bx:List Nat} (h:(bx.length:Int)=1):∃a1,bx=[a1]:=by
 match bx,h with
 | [a],_=>exact ⟨a,rfl⟩
 | [],h=>simp at h
 | _::_::_,h=>simp only [List.length_cons] at h;omega
theorem Pk {bx:List Nat} (h:(bx.length:Int)=2):∃a1 bX,bx=[a1,bX]:=by
 match bx,h with
 | [a,b],_=>exact ⟨a,b,rfl⟩
 | [],h=>simp at h
 | [_],h=>simp at h
 | _::_::_::_,h=>simp only [List.length_cons] at h;omega
theorem Pl {bx:List Nat} (h:(bx.length:Int)=3):∃a1 bX gT,bx=[a1,bX,gT]:=by
 match bx,h with
 | [a,b,c],_=>exact ⟨a,b,c,rfl⟩
 | [],h=>simp at h
 | [_],h=>simp at h
 | [_,_],h=>simp at h
 | _::_::_::_::_,h=>simp only [List.length_cons] at h;omega
section
variable {al h aa:aj} {ar:a6} {K:fs} {au:List a6} {aS pm:V} {S:ax} {steps:Int} {dY b4 b8 bn:V}
theorem adZ (D:Bq al pm) (M:dx al h ar K au aS pm S steps) (O:Ok S) {aR:List UInt8} (dX:cg al 1 aS aR.length (dp aR)) (hlen:aR.length≤1073741824) (fD:S.read≤aR.length)
 {bx:List Nat} {aw:V} (A:ew h au bx aw) {s:List UInt8} (aM:(bx.length:Int)=eO s) (ae:0<eO s):
 ∃f cs,ld fO.str.eq .kN false h pm (.str s)=some (.func f cs)∧bB Tryz.prog f ([.ptr ar 0,aw]++cs) h fun x aa=>∃aO aL,dx al aa ar aO aL aS pm (S.oh aR s bx) steps:=by
 obtain ⟨cX,b0,cG,fa,gZ,hp,iY,j4,b,rfl,j',hD,⟨eG,bM⟩,⟨dz,bF⟩,⟨fi,bz⟩,⟨gz,cL⟩,⟨yg,gy⟩,⟨yh,ik⟩,⟨AB,oS⟩,⟨AD,F9⟩⟩:=D
 have E:Ext al h:=by obtain ⟨_,_,_,_,M⟩:=M;exact M.rep.ext
 have lF:=(E.get _ j').trans hD
 by_cases ak:s ∈ td
 · have aJ:eO s=2:=by unfold eO;rw [if_pos ak]
   rw [aJ] at aM
   obtain ⟨a1,bX,rfl⟩:=Pk aM
   simp only [td,List.mem_cons,List.not_mem_nil,or_false] at ak
   rcases ak with rfl | rfl | rfl | rfl | rfl | rfl | rfl | rfl | rfl | rfl | rfl
   · exact ⟨145,[.ptr cX 0],lH lF _ rfl,yv M O A (fun a b=>.int (wr (a+b))) bM eG abR⟩
   · exact ⟨145,[.ptr b0 0],lH lF _ rfl,yv M O A (fun a b=>.int (wr (a-b))) bF dz abY⟩
   · exact ⟨145,[.ptr cG 0],lH lF _ rfl,yv M O A (fun a b=>.int (wr (a * b))) bz fi abX⟩
   · exact ⟨147,[.ptr iY 0],lH lF _ rfl,Na M O A (fun a b=>a.tdiv b) oS AB abS⟩
   · exact ⟨147,[.ptr j4 0],lH lF _ rfl,Na M O A (fun a b=>a.tmod b) F9 AD abW⟩
   · exact ⟨145,[.ptr fa 0],lH lF _ rfl,yv M O A (fun a b=>ax.nG (decide (a=b))) cL gz abT⟩
   · exact ⟨145,[.ptr gZ 0],lH lF _ rfl,yv M O A (fun a b=>ax.nG (decide (a<b))) gy yg abV⟩
   · exact ⟨145,[.ptr hp 0],lH lF _ rfl,yv M O A (fun a b=>ax.nG (decide (a≤b))) ik yh abU⟩
   · exact ⟨96,[],lH lF _ rfl,TA M O A⟩
   · exact ⟨98,[],lH lF _ rfl,ZZ M O A⟩
   · exact ⟨99,[],lH lF _ rfl,afR M O A⟩
 by_cases aC:s ∈ qW
 · have aJ:eO s=1:=by unfold eO;rw [if_neg ak,if_pos aC]
   rw [aJ] at aM
   obtain ⟨a1,rfl⟩:=Pj aM
   simp only [qW,List.mem_cons,List.not_mem_nil,or_false] at aC
   rcases aC with rfl | rfl | rfl | rfl | rfl | rfl
   · exact ⟨90,[],lH lF _ rfl,acR M O A⟩
   · exact ⟨91,[],lH lF _ rfl,W5 M O dX hlen fD⟩
   · exact ⟨92,[],lH lF _ rfl,ad6 M O A⟩
   · exact ⟨93,[],lH lF _ rfl,ad7 M O A⟩
   · exact ⟨94,[],lH lF _ rfl,af3 M O A⟩
   · exact ⟨95,[],lH lF _ rfl,VT M O A⟩
 by_cases bq:s=[99,117,116]
 · subst bq
   have aJ:eO [99,117,116]=3:=by decide
   rw [aJ] at aM
   obtain ⟨a1,bX,gT,rfl⟩:=Pl aM
   · exact ⟨97,[],lH lF _ rfl,Wb M O A⟩
 · unfold eO at ae
   rw [if_neg ak,if_neg aC,if_neg bq] at ae
   omega
end
end Go.Proofs.YtjbiefneffiogaaGreat
namespace Go.Proofs.YtjbiefneffiogaaGreat
open Go bA
section
variable {al h aa:aj} {ar:a6} {K aO:fs} {au:List a6} {aS pm:V} {S:ax} {steps:Int} {dY b4 b8 bn:V}
theorem hU.rU {Y:mM} {st:List eR} (M:hU Y al h K au st) {P:a6→Prop} (m:Mod P h aa) (jH:∀b,P b→K b=.no∧al.next≤cu b):dd al K h au K aa au (fun _=>False):=by
 refine ⟨m.next,fun _ _=>rfl,fun _ q hk=>absurd q hk,fun b ah _=>m.get b (M.new b ah).2 fun q=>ah (jH b q).1,fun b ah=>m.get b (Nat.lt_of_lt_of_le ah M.ext.next) fun q=>?_,[],by simp⟩
 have:=(jH b q).2
 omega
theorem eo.rU (M:eo al h ar K au aS pm S steps dY b4 b8 bn) {P:a6→Prop} (m:Mod P h aa) (jH:∀b,P b→K b=.no∧al.next≤cu b):eo al aa ar K au aS pm S steps dY b4 b8 bn:=by
 refine M.cy (M.rep.rU m jH) ?_ ?_ ?_ ?_ ?_ ?_<;>simp
theorem ax.J5 (S:ax) (l:List At) {i:Nat} (aG:i<l.length):S.atoms (l.take (i+1))=((((S.atoms (l.take i)).1).atom l[i]).1,(S.atoms (l.take i)).2++[(((S.atoms (l.take i)).1).atom l[i]).2]):=by
 unfold ax.atoms
 rw [List.take_succ_eq_append_getElem aG,List.foldl_append]
 rfl
theorem ax.S' (S:ax) (a:At):(S.atom a).1.e=S.e∧(S.atom a).1.c=S.c∧(S.atom a).1.w=S.w∧(S.atom a).1.out=S.out∧(S.atom a).1.read=S.read:=by
 unfold ax.atom
 split
 · exact ⟨rfl,rfl,rfl,rfl,rfl⟩
 · split<;>exact ⟨rfl,rfl,rfl,rfl,rfl⟩
theorem ax.l7 (S:ax) (l:List At):(S.atoms l).1.e=S.e∧(S.atoms l).1.c=S.c∧(S.atoms l).1.w=S.w∧(S.atoms l).1.out=S.out∧(S.atoms l).1.read=S.read∧(S.atoms l).2.length=l.length:=by
 have key:∀(l:List At) (p:ax × List Nat),(l.foldl ax.oK p).1.e=p.1.e∧(l.foldl ax.oK p).1.c=p.1.c∧(l.foldl ax.oK p).1.w=p.1.w∧(l.foldl ax.oK p).1.out=p.1.out∧(l.foldl ax.oK p).1.read=p.1.read∧(l.foldl ax.oK p).2.length=p.2.length+l.length:=by
  intro l
  induction l with
  | nil=>intro p;exact ⟨rfl,rfl,rfl,rfl,rfl,rfl⟩
  | cons a l bN=>
    intro p
    obtain ⟨bw,b3,a3,a4,a5,jR⟩:=bN (ax.oK p a)
    obtain ⟨b0,cG,fa,gZ,hp⟩:=ax.S' p.1 a
    rw [List.foldl_cons]
    refine ⟨bw.trans b0,b3.trans cG,a3.trans fa,a4.trans gZ,a5.trans hp,?_⟩
    rw [jR];simp only [ax.oK,List.length_append,List.length_cons,List.length_nil];omega
 have:=key l (S,[])
 simpa [ax.atoms] using this
set_option maxHeartbeats 2000000 in
theorem pC (M:eo al h ar K au aS pm S steps dY b4 b8 bn) (bk:∀a ∈ S.c.a,a.k=1→a.n ∈ S.e.map Prod.fst) (aK:S.c.a.length≤1048576):
 bB Tryz.prog 100 [.ptr ar 0] h fun x aa=>∃aO aL,eo al aa ar aO aL aS pm (S.atoms S.c.a).1 steps dY b4 b8 bn∧cm h.next aa 1 x (S.atoms S.c.a).2.length ((S.atoms S.c.a).2.map (c5 aL))∧(∀j ∈ (S.atoms S.c.a).2,j<aL.length)∧∀b,x.bb b→aO b=.no:=by
 obtain ⟨eU,co,aN,aP,aw,rfl,cU,dU,cw,d'⟩:=M.co.open
 have E3:=M.rep.ext.next
 have cJ:=M.get
 have lc:=d' h M.rep.ext
 have hlen:=cU.len
 refine TC rfl (bP ?_)
 unfold Kn
 simp +contextual only [cJ,lc.2.2.2.2.1,hlen,↓ad,af,simprocAttr]
 refine fw (fun r aa=>r 0=.ptr ar 0∧r 12=aN∧r 13=.int .i64 S.c.a.length∧∃i:Nat,r 14=.int .i64 i∧i≤S.c.a.length∧∃aO aL v,r 3=v∧eo al aa ar aO aL aS pm (S.atoms (S.c.a.take i)).1 steps (.ptr eU co) b4 b8 bn∧h.next≤aa.next∧
  cm h.next aa 1 v i ((S.atoms (S.c.a.take i)).2.map (c5 aL))∧(∀j ∈ (S.atoms (S.c.a.take i)).2,j<aL.length)∧∀b,v.bb b→aO b=.no) (fun r aa=>S.c.a.length - (r 14).gn) ?_ ?_
 · exact ⟨by simp only [↓ad,bj,simprocAttr],by simp only [↓ad,bj,simprocAttr],by simp only [↓ad,bj,simprocAttr],0,by simp only [↓ad,bj,simprocAttr]<;>rfl,by omega,K,au,.ay,by simp only [↓ad,bj,simprocAttr],M,Nat.le_refl _,⟨rfl,rfl⟩,(by intro j q;cases q),fun b q=>q.elim⟩
 · rintro r aa ⟨bl,pf,pg,i,wF,aG,aO,aL,v,cj,M,a7,dW,fP,ig⟩
   unfold Ko
   by_cases aX:i<S.c.a.length
   · have bM:((i:Int) < (S.c.a.length:Int))=True:=eq_true (by omega)
     have R7:=(cU.ext M.rep.ext)
     obtain ⟨b,o,b_,cD,_⟩:=sy R7 (k:=.i64) aX
     have w:=gq aX (by omega)
     obtain ⟨kG,c6,k4,np,l9,hB⟩:=ax.l7 S (S.c.a.take i)
     have hr:=ax.J5 S S.c.a aX
     have jU:(S.atoms (S.c.a.take i)).2.length=i:=by rw [hB,List.length_take];omega
     have sT:S.c.a[i] ∈ S.c.a:=List.getElem_mem aX
     generalize aia:S.c.a[i]=a at *
     obtain ⟨j3,hd,h4⟩:=a
     have hold:Old aa ar:=M.b6.2
     have eK:(ao aa.next=ar)=False:=gA hold (Nat.le_refl _)
     have gH:(ar=ao aa.next)=False:=lM hold (Nat.le_refl _)
     have ht:aO (ao aa.next)=.no:=M.rep.tmp (by rw [cS];exact Nat.le_refl _)
     have aI:Ext aa (aa.new (.aq [.int .i64 0,.int .i64 0,.str []] 0 false)):=(Ext.refl aa).new _
     have aH:=(M.ext aI).tmp (b:=ao aa.next) (k:=.aq [.int .i64 j3,.int .i64 hd,.str h4] 0 false) ht (by rw [cS];exact M.rep.ext.next)
     have ic:Ext aa ((aa.new (.aq [.int .i64 0,.int .i64 0,.str []] 0 false)).set (ao aa.next) (.aq [.int .i64 j3,.int .i64 hd,.str h4] 0 false)):=aI.set (Nat.le_refl _) _
     have enc:At.enc ⟨j3,hd,h4⟩=[.int .i64 j3,.int .i64 hd,.str h4]:=rfl
     rw [enc] at cD
     have y9:=dW.ext ic
     have j0:((aa.new (.aq [.int .i64 0,.int .i64 0,.str []] 0 false)).set (ao aa.next) (.aq [.int .i64 j3,.int .i64 hd,.str h4] 0 false)).get (ao aa.next)=.aq [.int .i64 j3,.int .i64 hd,.str h4] 0 false:=by rw [du,if_pos rfl]
     by_cases bQ:j3=1
     · subst bQ
       have ee:=aH.get
       simp only [du,eB] at ee
       simp +contextual only [bl,pf,pg,wF,cj,bM,b_,cD,eK,gH,M.get,↓ad,af,simprocAttr]
       have oY:hd ∈ S.e.map Prod.fst:=bk ⟨1,hd,h4⟩ sT rfl
       rw [←kG] at oY
       refine aV (WI _ aO aL hd b4 _ aH.dB oY) ?_
       rintro x ak ⟨rfl,rfl,aM⟩
       generalize rz:((aa.new (.aq [.int .i64 0,.int .i64 0,.str []] 0 false)).set (ao aa.next) (.aq [.int .i64 1,.int .i64 hd,.str h4] 0 false))=H1 at *
       have mZ:=ic.next
       obtain ⟨dg,aC,ca,b',cE,fR,fN⟩:=iW (cs:=[.ptr (ed aL (mw (S.atoms (S.c.a.take i)).1.e hd)) 0]) (by omega) y9 (by omega) (by unfold top;omega) rfl rfl
       have vo:=aH.get
       have dm:=b'.v.one
       simp +contextual only [c5,bl,pf,pg,wF,cj,bM,b_,cD,eK,gH,M.get,vo,j0,ca,w,dm.1,dm.2.1,↓ad,af,simprocAttr]
       rw [kG] at aM
       have zK:(S.atoms (S.c.a.take i)).1.atom ⟨1,hd,h4⟩=((S.atoms (S.c.a.take i)).1,mw S.e hd):=by simp only [ax.atom,if_true,kG]
       rw [zK] at hr
       refine ⟨⟨i+1,rfl,aX,aO,aL,?_⟩,by omega⟩
       rw [hr]
       refine ⟨aH.rU cE (fun b q=>⟨ig b q,by have:=dW.base q;have:=E3;omega⟩),by omega,?_,?_,?_⟩
       · rw [List.map_append];rw [kG] at b';exact b'
       · intro j q
         rcases List.mem_append.1 q with q | q
         · exact fP j q
         · simp only [List.mem_cons,List.not_mem_nil,or_false] at q;subst q;exact aM
       · intro b q
         rcases fN b q with q | q
         · exact ig b q
         · exact aH.rep.tmp (by omega)
     by_cases cB:j3=2
     · have v_:=eq_false bQ;have uy:=eq_true cB
       have ee:=aH.get
       simp only [du,eB] at ee
       simp +contextual only [bl,pf,pg,wF,cj,bM,b_,cD,eK,gH,v_,uy,M.get,↓ad,af,simprocAttr]
       refine aV (rX _ hd) ?_
       rintro x ak F
       generalize rz:((aa.new (.aq [.int .i64 0,.int .i64 0,.str []] 0 false)).set (ao aa.next) (.aq [.int .i64 j3,.int .i64 hd,.str h4] 0 false))=H1 at *
       obtain ⟨ez,gw,M2,rfl,aM,t⟩:=aH.make (v:=.int hd) F rfl
       obtain ⟨_,_,bh,_⟩:=F
       have mZ:=ic.next
       have mf:=bh.next
       have tH:=y9.ext bh
       rw [←t.ym fP] at tH
       obtain ⟨dg,aC,ca,b',cE,fR,fN⟩:=iW (cs:=[.ptr (ed gw (S.atoms (S.c.a.take i)).1.st.length) 0]) (by omega) tH (by omega) (by unfold top;omega) rfl rfl
       have vo:=M2.get
       have dm:=b'.v.one
       simp +contextual only [c5,bl,pf,pg,wF,cj,bM,b_,cD,eK,gH,M.get,vo,j0,v_,uy,ca,w,dm.1,dm.2.1,↓ad,af,simprocAttr]
       have zK:(S.atoms (S.c.a.take i)).1.atom ⟨j3,hd,h4⟩=((S.atoms (S.c.a.take i)).1.gf (.int hd),(S.atoms (S.c.a.take i)).1.st.length):=by
        simp only [ax.atom,if_neg bQ,if_pos cB]
       rw [zK] at hr
       refine ⟨⟨i+1,rfl,aX,ez,gw,?_⟩,by omega⟩
       rw [hr]
       have mN:∀b,v.bb b→ez b=.no:=fun b q=>by
        by_cases aB:ez b=.no
        · exact aB
        · have:=t.fresh b (ig b q) aB
          have:=y9.v.b6 q
          unfold Old at this
          omega
       refine ⟨M2.rU cE (fun b q=>⟨mN b q,by have:=dW.base q;have:=E3;omega⟩),by omega,?_,?_,?_⟩
       · rw [List.map_append];exact b'
       · intro j q
         rcases List.mem_append.1 q with q | q
         · exact Nat.lt_of_lt_of_le (fP j q) t.len
         · simp only [List.mem_cons,List.not_mem_nil,or_false] at q;subst q;exact aM
       · intro b q
         rcases fN b q with q | q
         · exact mN b q
         · exact M2.rep.tmp (by omega)
     · have v_:=eq_false bQ;have uy:=eq_false cB
       have ee:=aH.get
       simp only [du,eB] at ee
       simp +contextual only [bl,pf,pg,wF,cj,bM,b_,cD,eK,gH,v_,uy,M.get,↓ad,af,simprocAttr]
       refine aV (D5 _ h4) ?_
       rintro x ak F
       generalize rz:((aa.new (.aq [.int .i64 0,.int .i64 0,.str []] 0 false)).set (ao aa.next) (.aq [.int .i64 j3,.int .i64 hd,.str h4] 0 false))=H1 at *
       obtain ⟨ez,gw,M2,rfl,aM,t⟩:=aH.make (v:=.text h4) F rfl
       obtain ⟨_,_,bh,_⟩:=F
       have mZ:=ic.next
       have mf:=bh.next
       have tH:=y9.ext bh
       rw [←t.ym fP] at tH
       obtain ⟨dg,aC,ca,b',cE,fR,fN⟩:=iW (cs:=[.ptr (ed gw (S.atoms (S.c.a.take i)).1.st.length) 0]) (by omega) tH (by omega) (by unfold top;omega) rfl rfl
       have vo:=M2.get
       have dm:=b'.v.one
       simp +contextual only [c5,bl,pf,pg,wF,cj,bM,b_,cD,eK,gH,M.get,vo,j0,v_,uy,ca,w,dm.1,dm.2.1,↓ad,af,simprocAttr]
       have zK:(S.atoms (S.c.a.take i)).1.atom ⟨j3,hd,h4⟩=((S.atoms (S.c.a.take i)).1.gf (.text h4),(S.atoms (S.c.a.take i)).1.st.length):=by
        simp only [ax.atom,if_neg bQ,if_neg cB]
       rw [zK] at hr
       refine ⟨⟨i+1,rfl,aX,ez,gw,?_⟩,by omega⟩
       rw [hr]
       have mN:∀b,v.bb b→ez b=.no:=fun b q=>by
        by_cases aB:ez b=.no
        · exact aB
        · have:=t.fresh b (ig b q) aB
          have:=y9.v.b6 q
          unfold Old at this
          omega
       refine ⟨M2.rU cE (fun b q=>⟨mN b q,by have:=dW.base q;have:=E3;omega⟩),by omega,?_,?_,?_⟩
       · rw [List.map_append];exact b'
       · intro j q
         rcases List.mem_append.1 q with q | q
         · exact Nat.lt_of_lt_of_le (fP j q) t.len
         · simp only [List.mem_cons,List.not_mem_nil,or_false] at q;subst q;exact aM
       · intro b q
         rcases fN b q with q | q
         · exact mN b q
         · exact M2.rep.tmp (by omega)
   · have bM:((i:Int) < (S.c.a.length:Int))=False:=eq_false (by omega)
     obtain rfl:i=S.c.a.length:=by omega
     rw [List.take_length] at M dW fP
     simp +contextual only [bl,pf,pg,wF,cj,bM,↓ad,af,simprocAttr]
     obtain ⟨_,_,_,_,_,hB⟩:=ax.l7 S S.c.a
     exact ⟨aO,aL,M,by rw [hB];exact dW,fP,ig⟩
end
end Go.Proofs.YtjbiefneffiogaaGreat
namespace Go.Proofs.YtjbiefneffiogaaGreat
open Go bA
section
variable {al h aa:aj} {ar:a6} {K aO:fs} {au:List a6} {aS pm:V} {S:ax} {steps:Int} {dY b4 b8 bn:V}
set_option maxHeartbeats 1000000 in
theorem Vu (M:dx al h ar K au aS pm S steps) {f v:Nat} (av:f<au.length) (bk:v<au.length):bB Tryz.prog 104 [.ptr ar 0,c5 au f,c5 au v] h fun x aa=>∃aO aL,dx al aa ar aO aL aS pm (S.call f v) steps:=by
 have gv:=M
 obtain ⟨jC,eq,fG,da,M⟩:=M
 obtain ⟨cC,jB,hW,fA,kM,_,vB⟩:=M.val av
 have cJ:=M.get
 have eL:c5 au f=.ptr (ed au f) 0:=rfl
 refine TG rfl (bP ?_)
 unfold Kt
 rw [eL]
 by_cases aC:cV (S.val f)=3
 · cases ga:S.val f with
   | int n=>rw [ga] at aC;cases aC
   | text n=>rw [ga] at aC;cases aC
   | dn t l=>rw [ga] at aC;cases aC
   | fn x c L=>
     obtain ⟨aD,he⟩:=vB x c L ga
     rw [ga] at fA
     simp only [cV,dG,e8] at fA
     have j':=aD.one
     have fx:=he.one
     simp +contextual only [cJ,fA,j'.1,j'.2.1,fx.1,fx.2.1,↓ad,af,simprocAttr]
     refine aV (Jj h hW (c5 au v) x fx ⟨rfl,rfl,rfl⟩) ?_
     rintro y ae ⟨b,rfl,aI,b0,cG,fa⟩
     obtain ⟨aO,aH,ic,t⟩:=M.env aI b0 cG fa he bk
     have ee:=aH.get
     have nu:=(aI.get _ (M.oJ av).1).trans fA
     have ne:(ar=ed au f)=False:=eq_false fun q=>(M.oJ av).2 q.symm
     have M2:=aH.next {S with c:=c} steps jB eq fG da rfl aD aH.dB aH.wr aH.dk
     have vo:=M2.get
     have bL:=M2.next {S with c:=c,e:=(x,v)::L} steps jB (.ptr b 0) fG da rfl aD (ic.set aH.dv (by simp)) M2.wr M2.dk
     simp +contextual only [cJ,ee,vo,fA,nu,ne,j'.1,j'.2.1,fx.1,fx.2.1,↓ad,af,simprocAttr]
     refine ⟨aO,au,?_⟩
     simp only [ax.call,ga]
     exact ⟨_,_,_,_,bL⟩
 · have k7:=eq_false aC
   simp +contextual only [cJ,fA,k7,↓ad,af,simprocAttr]
   refine aV (pH gv 6) ?_
   rintro y ae bC
   simp +contextual only [↓ad,af,simprocAttr]
   refine ⟨K,au,?_⟩
   have:S.call f v=S.gp:=by
    simp only [ax.call]
    cases ga:S.val f<;>first | rfl | (rw [ga] at aC;exact absurd rfl aC)
   rw [this]
   exact bC
def s5 (l:List Int) (n:Int):Nat→Nat
 | 0=>l.length
 | i+1=>if l[i]? =some n then i else s5 l n i
theorem ab0 {l:List Int} (cc:diff l=true) (n:Int):s5 l n l.length=ax.ln l n:=by
 have adX:∀(l:List Int),n ∉ l→ax.ln l n=l.length:=by
  intro l
  induction l with
  | nil=>intro _;rfl
  | cons t l bN=>
    intro h
    simp only [List.mem_cons,not_or] at h
    simp only [ax.ln,if_neg (fun q:t=n=>h.1 q.symm),bN h.2,List.length_cons]
 have none_:∀(L:List Int) (k:Nat),n ∉ L→s5 L n k=L.length:=by
  intro L k
  induction k with
  | zero=>intro _;rfl
  | succ k bN=>
    intro h
    simp only [s5]
    rw [if_neg (fun q=>h (List.mem_of_getElem? q)),bN h]
 have at_:∀(L:List Int) (p k:Nat),diff L=true→L[p]? =some n→p<k→k≤L.length→s5 L n k=p:=by
  intro L p k bW aT
  induction k with
  | zero=>intro h;omega
  | succ k bN=>
    intro h an
    simp only [s5]
    by_cases q:L[k]? =some n
    · rw [if_pos q]
      have inj:∀(L:List Int) (a b:Nat),diff L=true→L[a]? =some n→L[b]? =some n→a=b:=by
       intro L
       induction L with
       | nil=>intro a b _ h;simp at h
       | cons t L bN=>
         intro a b cc ae ak
         simp only [diff,Bool.and_eq_true,Bool.not_eq_true'] at cc
         have rF:Nat→t ∈ L→False:=fun _ q=>by have:=List.contains_iff_mem.2 q;rw [cc.1] at this;cases this
         cases a with
         | zero=>
           cases b with
           | zero=>rfl
           | succ b=>
             simp only [List.getElem?_cons_zero,Option.some.injEq] at ae
             subst ae
             exact (rF 0 (List.mem_of_getElem? (by simpa using ak))).elim
         | succ a=>
           cases b with
           | zero=>
             simp only [List.getElem?_cons_zero,Option.some.injEq] at ak
             subst ak
             exact (rF 0 (List.mem_of_getElem? (by simpa using ae))).elim
           | succ b=>rw [bN a b cc.2 (by simpa using ae) (by simpa using ak)]
      exact inj L k p bW q aT
    · rw [if_neg q]
      exact bN (by
       by_cases e:p=k
       · subst e;exact absurd aT q
       · omega) (by omega)
 by_cases hm:n ∈ l
 · obtain ⟨p,aT⟩:=List.getElem?_of_mem hm
   have qF:p<l.length:=(List.getElem?_eq_some_iff.1 aT).1
   rw [at_ l p l.length cc aT qF (Nat.le_refl _)]
   have:∀(l:List Int) (p:Nat),diff l=true→l[p]? =some n→ax.ln l n=p:=by
    intro l
    induction l with
    | nil=>intro p _ h;simp at h
    | cons t l bN=>
      intro p cc h
      simp only [diff,Bool.and_eq_true,Bool.not_eq_true'] at cc
      cases p with
      | zero=>
        simp only [List.getElem?_cons_zero,Option.some.injEq] at h
        simp only [ax.ln,if_pos h]
      | succ p=>
        have aa:l[p]? =some n:=by simpa using h
        have:t≠n:=by
         rintro rfl
         have:=List.contains_iff_mem.2 (List.mem_of_getElem? aa)
         rw [cc.1] at this;cases this
        simp only [ax.ln,if_neg this,bN p cc.2 aa]
   exact (this l p cc aT).symm
 · rw [none_ l _ hm,adX l hm]
set_option maxHeartbeats 1000000 in
theorem MY (M:dx al h ar K au aS pm S steps) {hz:Bool} {x3:Int} (xP:x3=if hz then 1 else 4) {v:Nat} (bk:v<au.length) (cc:diff S.c.t=true) (aJ:S.c.t.length≤1048576) (aK:S.c.l.length≤1048577):
 bB Tryz.prog 107 [.ptr ar 0,.int .i64 x3,c5 au v] h fun x aa=>dx al aa ar K au aS pm (S.h6 hz v) steps:=by
 have gv:=M
 obtain ⟨jC,eq,fG,da,M⟩:=M
 obtain ⟨cC,jB,hW,fA,kM,_,_⟩:=M.val bk
 obtain ⟨eU,co,aN,aP,aw,rfl,cU,dU,cw,d'⟩:=M.co.open
 have cJ:=M.get
 have lc:=d' h M.rep.ext
 have mh:=dU.len
 have e4:=cw.len
 have eL:c5 au v=.ptr (ed au v) 0:=rfl
 refine TJ rfl (bP ?_)
 unfold Kx
 rw [eL]
 simp +contextual only [cJ,lc.2.2.2.2.2.1,mh,↓ad,af,simprocAttr]
 refine fw (fun r aa=>aa=h∧r 0=.ptr ar 0∧r 1=.int .i64 x3∧r 2=.ptr (ed au v) 0∧r 23=aP∧r 24=.int .i64 S.c.t.length∧∃i:Nat,r 25=.int .i64 i∧i≤S.c.t.length∧r 6=.int .i64 (s5 S.c.t (dG (S.val v)) i)) (fun r aa=>S.c.t.length - (r 25).gn) ?_ ?_
 · exact ⟨rfl,by simp only [↓ad,bj,simprocAttr],by simp only [↓ad,bj,simprocAttr],by simp only [↓ad,bj,simprocAttr],by simp only [↓ad,bj,simprocAttr],by simp only [↓ad,bj,simprocAttr],0,by simp only [↓ad,bj,simprocAttr]<;>rfl,by omega,by simp only [↓ad,bj,simprocAttr]<;>rfl⟩
 · rintro r aa ⟨rfl,bl,aU,bm,tg,th,i,ti,aG,mu⟩
   unfold Ky
   by_cases aX:i<S.c.t.length
   · have bM:((i:Int) < (S.c.t.length:Int))=True:=eq_true (by omega)
     obtain ⟨cG,fi,im,jV⟩:=ints_at (dU.ext M.rep.ext) (k:=.i64) aX
     have w:=gq aX (by omega)
     by_cases a2:S.c.t[i]=dG (S.val v)
     · have pW:=eq_true a2
       simp +contextual only [bl,aU,bm,tg,th,ti,mu,bM,im,jV,fA,pW,w,↓ad,af,simprocAttr]
       refine ⟨⟨i+1,rfl,aX,?_⟩,by omega⟩
       simp only [s5]
       rw [if_pos (by rw [List.getElem?_eq_getElem aX,a2])]
     · have pW:=eq_false a2
       simp +contextual only [bl,aU,bm,tg,th,ti,mu,bM,im,jV,fA,pW,w,↓ad,af,simprocAttr]
       refine ⟨⟨i+1,rfl,aX,?_⟩,by omega⟩
       simp only [s5]
       rw [if_neg (by rw [List.getElem?_eq_getElem aX];simpa using a2)]
   · have bM:((i:Int) < (S.c.t.length:Int))=False:=eq_false (by omega)
     obtain rfl:i=S.c.t.length:=by omega
     rw [ab0 cc] at mu
     generalize aT:ax.ln S.c.t (dG (S.val v))=p at *
     by_cases an:cV (S.val v)=x3
     · have ef:=eq_true an
       by_cases n2:(S.c.l.length:Int)≤(p:Int)
       · have k':=eq_true n2
         simp +contextual only [cJ,lc.2.2.2.2.2.1,lc.2.2.2.2.2.2,e4,bl,aU,bm,tg,th,ti,mu,bM,fA,ef,k',↓ad,af,simprocAttr]
         refine aV (pH gv 6) ?_
         rintro y ae bC
         simp +contextual only [↓ad,af,simprocAttr]
         have:S.h6 hz v=S.gp:=by
          have gb:S.il p=S.gp:=by simp only [ax.il];rw [List.getElem?_eq_none (by omega)]
          cases hz<;>simp only [Bool.false_eq_true,if_true,if_false] at xP<;>subst xP
          · obtain ⟨t,l,ga⟩:=we an
            rw [ga] at aT;simp only [dG] at aT
            simp only [ax.h6,ga,aT,gb,Bool.false_eq_true,if_false]
          · obtain ⟨t,ga⟩:=hj an
            rw [ga] at aT;simp only [dG] at aT
            simp only [ax.h6,ga,aT,gb,if_true]
         rw [this]
         exact bC
       · have k':=eq_false n2
         obtain ⟨q,b_,a2⟩:=ib.et cw (k:=.i64) (i:=p) (by omega)
         have ta:=a2.one
         simp +contextual only [cJ,lc.2.2.2.2.2.1,lc.2.2.2.2.2.2,e4,bl,aU,bm,tg,th,ti,mu,bM,fA,ef,k',b_,ta.1,ta.2.1,↓ad,af,simprocAttr]
         have:S.h6 hz v={S with c:=S.c.l[p]}:=by
          have rJ:S.il p={S with c:=S.c.l[p]}:=by simp only [ax.il];rw [List.getElem?_eq_getElem (by omega)]
          cases hz<;>simp only [Bool.false_eq_true,if_true,if_false] at xP<;>subst xP
          · obtain ⟨t,l,ga⟩:=we an
            rw [ga] at aT;simp only [dG] at aT
            simp only [ax.h6,ga,aT,rJ,Bool.false_eq_true,if_false]
          · obtain ⟨t,ga⟩:=hj an
            rw [ga] at aT;simp only [dG] at aT
            simp only [ax.h6,ga,aT,rJ,if_true]
         rw [this]
         exact ⟨_,_,_,_,M.next {S with c:=S.c.l[p]} steps q eq fG da rfl a2 M.dB M.wr M.dk⟩
     · have ef:=eq_false an
       simp +contextual only [cJ,lc.2.2.2.2.2.1,lc.2.2.2.2.2.2,e4,bl,aU,bm,tg,th,ti,mu,bM,fA,ef,↓ad,af,simprocAttr]
       refine aV (pH gv 6) ?_
       rintro y ae bC
       simp +contextual only [↓ad,af,simprocAttr]
       have:S.h6 hz v=S.gp:=by
        cases hz<;>simp only [Bool.false_eq_true,if_true,if_false] at xP<;>subst xP<;>
         cases ga:S.val v<;>first | (simp only [ax.h6,ga]<;>rfl) | (rw [ga] at an;exact (an rfl).elim)
       rw [this]
       exact bC
end
end Go.Proofs.YtjbiefneffiogaaGreat
namespace Go.Proofs.YtjbiefneffiogaaGreat
open Go bA
theorem ax.QH (S:ax) (l:List aY) {i:Nat} (aG:i<l.length):S.fF (l.take (i+1))=(S.fF (l.take i)).iI l[i]:=by
 unfold ax.fF
 rw [List.take_succ_eq_append_getElem aG,List.foldl_append]
 rfl
theorem ax.QG (S:ax) (l:List aY):(S.fF l).c=S.c∧(S.fF l).w=S.w∧(S.fF l).out=S.out∧(S.fF l).read=S.read∧(S.fF l).st.length=S.st.length+l.length:=by
 induction l generalizing S with
 | nil=>exact ⟨rfl,rfl,rfl,rfl,rfl⟩
 | cons f l bN=>
   obtain ⟨bw,b3,a3,a4,a5⟩:=bN (S.iI f)
   refine ⟨bw,b3,a3,a4,?_⟩
   show ((S.iI f).fF l).st.length=_
   rw [a5]
   simp only [ax.iI,ax.gf,List.length_append,List.length_cons,List.length_nil]
   omega
theorem ax.QF (S:ax) (l:List aY):∀(i:Nat) (aG:i<l.length),(S.fF l).st[S.st.length+i]? =some (.fn l[i].x (l[i].l.headD l[i]) []):=by
 have pre:∀(l:List aY) (S:ax) (j:Nat),j<S.st.length→(S.fF l).st[j]? =S.st[j]? :=by
  intro l
  induction l with
  | nil=>intro S j _;rfl
  | cons f l bN=>
    intro S j bS
    show ((S.iI f).fF l).st[j]? =_
    rw [bN (S.iI f) j (by simp only [ax.iI,ax.gf,List.length_append];omega)]
    simp only [ax.iI,ax.gf]
    rw [List.getElem?_append_left bS]
 induction l generalizing S with
 | nil=>intro i aG;simp at aG
 | cons f l bN=>
   intro i aG
   show ((S.iI f).fF l).st[S.st.length+i]? =_
   cases i with
   | zero=>
     rw [pre l (S.iI f) _ (by simp only [ax.iI,ax.gf,List.length_append,List.length_cons,List.length_nil];omega)]
     simp [ax.iI,ax.gf]
   | succ i=>
     have:=bN (S.iI f) i (by simpa using aG)
     have aK:(S.iI f).st.length=S.st.length+1:=by simp [ax.iI,ax.gf]
     rw [aK] at this
     rw [show S.st.length + (i+1)=S.st.length+1+i from by omega,this]
     rfl
theorem Iy (e:ix) (f:aY):∀(l:List aY) (a:Nat) (st:List eR),ax.h' e a st (l++[f])=(ax.h' e a st l).set (a+l.length) (.fn f.x (f.l.headD f) e)
 | [],a,st=>rfl
 | g::l,a,st=>by
   rw [List.cons_append,ax.h',ax.h',Iy e f l (a+1),List.length_cons]
   congr 1
   omega
theorem Ix (e:ix):∀(l:List aY) (a:Nat) (st:List eR) (j:Nat),a+l.length≤j→(ax.h' e a st l)[j]? =st[j]?
 | [],a,st,j,_=>rfl
 | g::l,a,st,j,h=>by
   rw [List.length_cons] at h
   rw [ax.h',Ix e l (a+1) _ j (by omega),List.getElem?_set_ne (by omega)]
section
variable {al h aa:aj} {ar:a6} {K aO:fs} {au:List a6} {aS pm:V} {S:ax} {steps:Int} {dY b4 b8 bn:V}
theorem eo.Ar (M:eo al h ar K au aS pm S steps dY b4 b8 bn) {x:Int} {jB hW y:V} {c:aY} {e:ix} (F:g7 h aa y [.int .i64 3,.int .i64 x,.str [],.ay,jB,hW,.bool false]) (ah:ib al jB c) (an:eE h K au hW e):
 ∃aO aL,eo al aa ar aO aL aS pm (S.gf (.fn x c e)) steps dY b4 b8 bn∧y=c5 aL S.st.length∧S.st.length<aL.length∧dd al K h au aO aa aL (fun _=>False):=by
 obtain ⟨b,rfl,aI,qz,bD,bp⟩:=F
 have t:=M.rep.role aI (fun q=>q=b) (.val S.st.length) [b] (fun q a2=>by subst a2;exact ⟨qz,bD⟩)
 have jt:ed (au++[b]) S.st.length=b:=by
  unfold ed
  rw [List.getD_eq_getElem?_getD,List.getElem?_append_right (by rw [M.rep.len];exact Nat.le_refl _),M.rep.len,Nat.sub_self]
  rfl
 have fp:hU sn al aa (jP K (fun q=>q=b) (.val S.st.length)) (au++[b]) (S.gf (.fn x c e)).st:=by
  refine M.rep.push t (by simp) (by simp) (by simp) ?_
  exact ⟨by rw [jt];exact mJ rfl,.ay,hW,_,by rw [jt];exact bp,⟨jB,ah,rfl⟩,trivial,an.cy t id⟩
 have hm:K ar≠.no:=by rw [M.dv];simp
 have E:=M.dB.cy t id
 have W:=M.wr.cy t id id
 have O:=M.dk.cy t id
 refine ⟨_,_,⟨fp,by rw [t.role ar hm,M.dv],by rw [t.get ar hm id,M.get];rfl,M.co,E,W,O⟩,by unfold c5;rw [jt],by rw [List.length_append,M.rep.len];simp,t⟩
theorem DI {n i:Nat} {au:List a6} (h:n+i≤au.length):∀j ∈ List.range' n i,j<au.length:=by
 intro j bS
 have:=List.mem_range'_1.1 bS
 omega
set_option maxHeartbeats 4000000 in
theorem aeq (M:dx al h ar K au aS pm S steps) (g8:1≤S.c.l.length) (aK:S.c.l.length≤1048577) (an:∀f ∈ S.c.l.dropLast,1≤f.l.length):
 bB Tryz.prog 105 [.ptr ar 0] h fun x aa=>∃aO aL,dx al aa ar aO aL aS pm S.pj steps:=by
 obtain ⟨jC,eq,fG,da,M⟩:=M
 obtain ⟨eU,co,aN,aP,aw,rfl,cU,dU,cw,d'⟩:=M.co.open
 have cJ:=M.get
 have lc:=d' h M.rep.ext
 have hlen:=cw.len
 have dJ:=M.rep.ext.next
 have Ob:S.c.l.dropLast.length=S.c.l.length-1:=List.length_dropLast
 have dL:IntKind.i64.wrap ((S.c.l.length:Int)-1)=((S.c.l.dropLast.length:Nat):Int):=by rw [wrap_i64 (by omega) (by omega)];omega
 obtain ⟨RL,oV,Gv⟩:=cw.cut (k:=.i64) (m:=S.c.l.dropLast.length) (by omega)
 have kk:=Gv.len
 rw [List.length_take,Nat.min_eq_left (by omega)] at kk
 generalize jT:S.c.l.dropLast=bg at *
 refine TI rfl (bP ?_)
 unfold Ku
 simp +contextual only [cJ,lc.2.2.2.2.2.2,hlen,dL,oV,kk,↓ad,af,simprocAttr]
 refine fw (fun r aa=>r 0=.ptr ar 0∧r 2=.int .i64 bg.length∧r 27=.int .i64 bg.length∧∃i:Nat,r 28=.int .i64 i∧i≤bg.length∧∃aO aL f_,eo al aa ar aO aL aS pm (S.fF (bg.take i)) steps (.ptr eU co) f_ fG da∧h.next≤aa.next∧
  cm h.next aa 1 (r 3) i ((List.range' S.st.length i).map (c5 aL))∧∀b,(r 3).bb b→aO b=.no) (fun r aa=>bg.length - (r 28).gn) ?_ ?_
 · exact ⟨by simp only [↓ad,bj,simprocAttr],by simp only [↓ad,bj,simprocAttr],by simp only [↓ad,bj,simprocAttr],0,by simp only [↓ad,bj,simprocAttr]<;>rfl,by omega,K,au,eq,M,Nat.le_refl _,by simp only [↓ad,bj,simprocAttr];exact ⟨rfl,rfl⟩,by simp only [↓ad,bj,simprocAttr];exact fun b q=>q.elim⟩
 · rintro r aa ⟨bl,bm,DD,i,DE,aG,aO,aL,f_,M,a7,dW,ig⟩
   unfold Kv
   generalize g9:r 3=v at *
   obtain ⟨aeb,aeg,aee,aef,q0⟩:=ax.QG S (bg.take i)
   have cJ:=M.get
   have lc:=d' aa M.rep.ext
   by_cases aX:i<bg.length
   · have bM:((i:Int) < (bg.length:Int))=True:=eq_true (by omega)
     have w:=gq aX (by omega)
     have ur:=ax.QH S bg aX
     have g1:S.c.l[i]'(by omega)=bg[i]:=by
      have:S.c.l.dropLast[i]? =bg[i]? :=by rw [jT]
      rw [List.getElem?_dropLast,if_pos (by omega),List.getElem?_eq_getElem (by omega),List.getElem?_eq_getElem aX] at this
      simpa using this
     obtain ⟨ah1,Ak,av⟩:=ib.et cw (k:=.i64) (i:=i) (by omega)
     rw [g1] at av
     have km:=an bg[i] (List.getElem_mem aX)
     generalize bg[i]=f at *
     obtain ⟨ki,tZ,F5,F6,zB,rfl,_,_,Er,rQ⟩:=av.open
     obtain ⟨jB,ZE,ah⟩:=ib.et Er (k:=.i64) (i:=0) (by omega)
     have ZF:fc 7 zB (.int .i64 0)=some jB:=ZE
     have Ib:=ah.one
     have qP:=rQ aa M.rep.ext
     have GF:f.l.headD f=f.l[0]'(by omega):=by
      rw [List.headD_eq_head?_getD,List.head?_eq_getElem?,List.getElem?_eq_getElem (by omega)];rfl
     have F:g7 aa (aa.new (.aq [.int .i64 3,.int .i64 f.x,.str [],.ay,jB,.ch,.bool false] 0 false)) (.ptr (ao aa.next) 0) [.int .i64 3,.int .i64 f.x,.str [],.ay,jB,.ch,.bool false]:=pL _ _
     obtain ⟨ez,gw,M2,bK,aM,t⟩:=M.Ar F ah .nil
     obtain ⟨_,_,bh,_⟩:=F
     have ach:=rQ _ M2.rep.ext
     have HT:=ach
     simp only [eB] at HT
     have ab4:=d' _ M2.rep.ext
     have ab5:=ab4
     simp only [eB] at ab5
     have vt:S.st.length+i≤aL.length:=by rw [M.rep.len,q0,List.length_take];omega
     have fP:=dW.ext bh
     rw [←t.ym (DI vt)] at fP
     rw [q0,List.length_take,Nat.min_eq_left (by omega)] at bK aM
     have mf:=bh.next
     obtain ⟨dg,aC,ca,b',cE,fR,fN⟩:=iW (cs:=[.ptr (ao aa.next) 0]) (by omega) fP (by omega) (by unfold top;omega) rfl rfl
     have mN:∀b,v.bb b→ez b=.no:=fun b q=>by
      by_cases aB:ez b=.no
      · exact aB
      · have:=t.fresh b (ig b q) aB
        have:=dW.v.b6 q
        unfold Old at this
        omega
     have bL:=M2.rU cE (fun b q=>⟨mN b q,by have:=dW.base q;omega⟩)
     have jc:=bL.get
     have De:=rQ _ bL.rep.ext
     have pc:=ca
     simp only [cO] at pc
     simp +contextual only [bl,bm,DD,DE,g9,bM,cJ,lc.2.2.2.2.2.2,Ak,qP.1,qP.2.1,qP.2.2.1,qP.2.2.2.2.2.2,HT.2.1,HT.2.2.2.2.2.2,ZF,Ib.1,Ib.2.1,Ib.2.2,ca,pc,jc,De.2.2.1,↓ad,af,simprocAttr]
     have W:=Jj aC f_ (c5 gw (S.st.length+i)) f.n bL.dB.one ⟨rfl,rfl,rfl⟩
     rw [←bK] at W
     refine aV W ?_
     rintro y bq ⟨b,rfl,eV,b0,cG,fa⟩
     rw [bK] at fa
     obtain ⟨cP,bC,jZ,t4⟩:=bL.env eV b0 cG fa bL.dB aM
     have W6:=bC.get
     have aci:=rQ _ bC.rep.ext
     have Ot:=fR
     have Ou:=eV.next
     simp +contextual only [bl,bm,DD,DE,g9,bM,W6,aci.2.2.1,jc,De.2.2.1,w,↓ad,af,simprocAttr]
     refine ⟨⟨i+1,rfl,aX,cP,gw,.ptr b 0,?_,by omega,?_,?_⟩,by omega⟩
     · rw [ur]
       have GP:(S.fF (bg.take i)).st.length=S.st.length+i:=by rw [q0,List.length_take];omega
       have:=bC.next ((S.fF (bg.take i)).iI f) steps (.ptr eU co) (.ptr b 0) fG da (by simp only [ax.iI,ax.gf,GF]) bC.co (by simp only [ax.iI];rw [GP];exact jZ) bC.wr bC.dk
       exact this
     · rw [List.range'_1_concat,List.map_append]
       have m:Mod (fun b=>b=ar) bq (bq.set ar (.aq [aS,.int .i64 (S.fF (bg.take i)).eZ,.int .i64 (S.fF (bg.take i)).fg,.int .i64 (S.fF (bg.take i)).read,.int .i64 steps,da,.bool (S.fF (bg.take i)).fQ,.ptr eU co,.ptr b 0,fG,.ay,pm] 0 false)):=(Mod.refl (fun b=>b=ar) bq).set (fun _=>rfl) _
       rw [bK] at b'
       refine (b'.ext eV).mod m fun b q e=>?_
       rw [e] at q
       have zH:ez ar=.oc:=bL.dv
       rcases fN ar q with q | q
       · rw [mN ar q] at zH;cases zH
       · have:=M2.b6.2;omega
     · intro b q
       have aB:ez b=.no:=by
        rcases fN b q with q | q
        · exact mN b q
        · exact M2.rep.tmp (by omega)
       by_cases a':cP b=.no
       · exact a'
       · have:=t4.fresh b aB a'
         have:=b'.v.b6 q
         unfold Old at this
         omega
   · have bM:((i:Int) < (bg.length:Int))=False:=eq_false (by omega)
     obtain rfl:i=bg.length:=by omega
     rw [List.take_length] at M cJ q0
     have RO:=dW.v.len
     simp +contextual only [bl,bm,DD,DE,g9,bM,RO,↓ad,af,simprocAttr]
     clear bM DD DE
     generalize cr:S.fF bg=T at *
     refine fw (fun r fo=>r 0=.ptr ar 0∧r 2=.int .i64 bg.length∧r 69=v∧r 70=.int .i64 bg.length∧∃j:Nat,r 71=.int .i64 j∧j≤bg.length∧eo al fo ar aO aL aS pm {T with st:=ax.h' T.e S.st.length T.st (bg.take j)} steps (.ptr eU co) f_ fG da∧
      cm h.next fo 1 v bg.length ((List.range' S.st.length bg.length).map (c5 aL))) (fun r fo=>bg.length - (r 71).gn) ?_ ?_
     · exact ⟨by simp only [bl,↓ad,bj,simprocAttr],by simp only [bm,↓ad,bj,simprocAttr],by simp only [↓ad,bj,simprocAttr],by simp only [↓ad,bj,simprocAttr],0,by simp only [↓ad,bj,simprocAttr]<;>rfl,by omega,M,dW⟩
     · clear bl bm g9 cJ lc M dW
       rintro r aa ⟨bl,bm,Qy,Qz,j,QA,bS,M,dW⟩
       unfold Kw
       have cJ:=M.get
       have lc:=d' aa M.rep.ext
       by_cases aX:j<bg.length
       · have bM:((j:Int) < (bg.length:Int))=True:=eq_true (by omega)
         have w:=gq aX (by omega)
         have vt:S.st.length+bg.length≤aL.length:=by
          rw [M.rep.len]
          show _≤(ax.h' T.e S.st.length T.st (bg.take j)).length
          have:∀(l:List aY) (a:Nat) (st:List eR),(ax.h' T.e a st l).length=st.length:=by
           intro l
           induction l with
           | nil=>intro a st;rfl
           | cons g l bN=>intro a st;rw [ax.h',bN,List.length_set]
          rw [this,q0]
          exact Nat.le_refl _
         have A:ew aa aL (List.range' S.st.length bg.length) v:=⟨by rw [List.length_range'];exact dW.v,DI vt⟩
         obtain ⟨b,o,b_,cD,jU⟩:=A.at (k:=.i64) (i:=j) (by rw [List.length_range'];exact aX)
         have j8:(List.range' S.st.length bg.length).getD j 0=S.st.length+j:=by
          rw [List.getD_eq_getElem?_getD,List.getElem?_eq_getElem (by rw [List.length_range'];exact aX),List.getElem_range']
          simp
         rw [j8] at cD jU
         have bf:=cD aa (Ext.refl _)
         have qI:(ax.h' T.e S.st.length T.st (bg.take j))[S.st.length+j]? =some (.fn bg[j].x (bg[j].l.headD bg[j]) []):=by
          rw [Ix _ _ _ _ _ (by rw [List.length_take];omega),←cr]
          exact ax.QF S bg j aX
         obtain ⟨kM,cC,Wo,cs,fA,⟨jB,CJ,rfl⟩,_,_⟩:=M.rep.val _ _ qI
         have fx:=M.dB.one
         have fq:=(M.rep.new (ed aL (S.st.length+j)) (by rw [kM];simp)).1
         have j':=CJ.one
         simp +contextual only [c5,bl,bm,Qy,Qz,QA,bM,cJ,b_,bf,fA,fx.1,fx.2.1,w,↓ad,af,simprocAttr]
         refine ⟨⟨j+1,rfl,aX,?_,?_⟩,by omega⟩
         · have t:dd al aO aa aL aO (aa.set (ed aL (S.st.length+j)) (.aq [.int .i64 3,.int .i64 bg[j].x,.str [],.ay,jB,f_,.bool false] 0 false)) aL (·=.val (S.st.length+j)):=dd.s' kM fq
           have kK:aO ar≠.no:=by rw [M.dv];simp
           have dq:ax.h' T.e S.st.length T.st (bg.take (j+1))=(ax.h' T.e S.st.length T.st (bg.take j)).set (S.st.length+j) (.fn bg[j].x (bg[j].l.headD bg[j]) T.e):=by
            rw [List.take_succ_eq_append_getElem aX,Iy,List.length_take,Nat.min_eq_left (by omega)]
           rw [dq]
           have FT:eE aa aO aL f_ T.e:=M.dB
           refine ⟨M.rep.D9 (i:=S.st.length+j) t (by intro k an;simpa using an) (by simp) (by simp) ?_,M.dv,?_,M.co,M.dB.cy t (by simp),M.wr.cy t (by simp) (by simp),M.dk.cy t (by simp)⟩
           · exact ⟨kM,cC,f_,_,by rw [du,if_pos rfl],⟨jB,CJ,rfl⟩,trivial,FT.cy t (by simp)⟩
           · rw [t.get ar kK (by rw [M.dv];simp)];exact M.get
         · have m:Mod (fun b=>b=ed aL (S.st.length+j)) aa (aa.set (ed aL (S.st.length+j)) (.aq [.int .i64 3,.int .i64 bg[j].x,.str [],.ay,jB,f_,.bool false] 0 false)):=(Mod.refl (fun b=>b=ed aL (S.st.length+j)) aa).set (fun _=>rfl) _
           refine dW.mod m fun b q e=>?_
           rw [e] at q
           rw [ig _ q] at kM
           cases kM
       · have bM:((j:Int) < (bg.length:Int))=False:=eq_false (by omega)
         obtain rfl:j=bg.length:=by omega
         rw [List.take_length] at M
         obtain ⟨q,Hy,a2⟩:=ib.et cw (k:=.i64) (i:=bg.length) (by omega)
         have ta:=a2.one
         simp +contextual only [bl,bm,Qy,Qz,QA,bM,cJ,lc.2.2.2.2.2.2,Hy,ta.1,ta.2.1,↓ad,af,simprocAttr]
         have Ha:S.pj={T with st:=ax.h' T.e S.st.length T.st bg,c:=S.c.l[bg.length]'(by omega)}:=by
          simp only [ax.pj,jT,cr]
          congr 1
          rw [List.getLastD_eq_getLast?,List.getLast?_eq_getElem?,List.getElem?_eq_getElem (by omega)]
          simp only [Option.getD_some]
          congr 1
          omega
         rw [Ha]
         exact ⟨aO,aL,_,_,_,_,M.next {T with st:=ax.h' T.e S.st.length T.st bg,c:=S.c.l[bg.length]'(by omega)} steps q f_ fG da rfl a2 M.dB M.wr M.dk⟩
end
end Go.Proofs.YtjbiefneffiogaaGreat
namespace Go.Proofs.YtjbiefneffiogaaGreat
open Go bA
structure Shape (c:aY):Prop where
 oo:c.a.length≤1048576
 st:c.t.length≤1048576
 g_:c.l.length≤1048576
 at_:∀a ∈ c.a,gS a=true
 bw:c.k=1∨c.k=5∨c.k=9∨c.k=10∨c.k=12→c.a.length=1
 b3:c.k=6→c.a.length=2
 eJ:c.k=2∨c.k=11→c.l.length=2
 cE:c.k=3→(c.a.length:Int)=eO c.s∧0<eO c.s
 n5:c.k=5→0≤c.n∧c.n≤1048575
 HK:c.k=7→c.l.length=1
 HL:c.k=8→2≤c.l.length∧∀f ∈ c.l.dropLast,f.l.length=1
 t9:c.k=9∨c.k=10→diff c.t=true
 no:c.k≠13∧c.k≠14
theorem NJ (us:List (List V)) (u:List V):(us++[u]).flatten=us.flatten++u:=by simp
theorem Ok.atoms {S:ax} (O:Ok S) (l:List At) (h:∀a ∈ l,gS a=true):Ok (S.atoms l).1:=by
 have key:∀(l:List At) (p:ax × List Nat),(∀a ∈ l,gS a=true)→Ok p.1→Ok (l.foldl ax.oK p).1:=by
  intro l
  induction l with
  | nil=>intro p _ h;exact h
  | cons a l bN=>
    intro p bU aT
    rw [List.foldl_cons]
    refine bN _ (fun b ah=>bU b (by simp [ah])) ?_
    have hr:=bU a (by simp)
    simp only [ax.oK,ax.atom]
    by_cases bQ:a.k=1
    · rw [if_pos bQ];exact aT
    · rw [if_neg bQ]
      by_cases cB:a.k=2
      · rw [if_pos cB]
        refine aT.gf (fun n q=>?_) (fun s q=>by cases q)
        cases q
        simp only [gS,if_neg bQ,if_pos cB,Bool.and_eq_true,o',decide_eq_true_eq] at hr
        omega
      · rw [if_neg cB]
        refine aT.gf (fun n q=>by cases q) (fun s q=>?_)
        cases q
        simp only [gS,if_neg bQ,if_neg cB] at hr
        by_cases fX:a.k=3
        · rw [if_pos fX] at hr
          simp only [Bool.and_eq_true,decide_eq_true_eq] at hr
          omega
        · rw [if_neg fX] at hr;cases hr
 exact key l (S,[]) h O
section
variable {al h aa:aj} {ar:a6} {K aO:fs} {au:List a6} {aS pm:V} {S:ax} {steps:Int} {dY b4 b8 bn:V} {Y:mM}
theorem eE.p7 (dh:∀b,K b≠.no→aO b=K b) {p:V} {L:ix} (H:eE h K au p L):eE h aO au p L:=by
 induction H with
 | nil=>exact .nil
 | cons q bp bS bd bN=>exact .cons (by rw [dh _ (by rw [q];simp),q]) bp bS bN
theorem hU.p7 (dh:∀b,K b≠.no→aO b=K b) (a7:∀b,aO b≠.no→al.next≤cu b∧cu b<h.next) {st:List eR} (H:hU Y al h K au st):hU Y al h aO au st:=by
 refine ⟨H.ext,a7,H.len,fun i v q=>?_⟩
 obtain ⟨k,cC,b4,cs,g,a',cn,ea⟩:=H.val i v q
 refine ⟨by rw [dh _ (by rw [k];simp),k],cC,b4,cs,g,a',?_,?_⟩
 · cases v<;>first | trivial | skip
   exact ⟨cn.1,fun b ah=>by rw [dh _ (by rw [cn.2.1 b ah];simp),cn.2.1 b ah],cn.2.2⟩
 · cases v<;>first | trivial | exact eE.p7 dh ea
theorem eo.p7 (M:eo al h ar K au aS pm S steps dY b4 b8 bn) (dh:∀b,K b≠.no→aO b=K b) (a7:∀b,aO b≠.no→al.next≤cu b∧cu b<h.next):eo al h ar aO au aS pm S steps dY b4 b8 bn:=by
 obtain ⟨us,aQ,aB,a',cn⟩:=M.wr
 refine ⟨M.rep.p7 dh a7,by rw [dh _ (by rw [M.dv];simp),M.dv],M.get,M.co,M.dB.p7 dh,⟨us,aQ,fun b ah=>by rw [dh _ (by rw [aB b ah];simp),aB b ah],a',fun i a u aI bh=>?_⟩,M.dk.1,fun b ah=>by rw [dh _ (by rw [M.dk.2 b ah];simp),M.dk.2 b ah]⟩
 obtain ⟨bw,b3,p,a3,a4⟩:=cn i a u aI bh
 exact ⟨bw,b3,p,a3,a4.p7 dh⟩
theorem eo.HV (M:eo al h ar K au aS pm S steps dY b4 b8 bn) {t:Int} {bg:List Nat} {cC y:V} (F:g7 h aa y [.int .i64 4,.int .i64 t,.str [],cC,.ch,.ch,.bool false]) (hK:cm al.next h 1 cC bg.length (bg.map (c5 au))) (ht:∀b,cC.bb b→K b=.no) (jT:∀j ∈ bg,j<au.length):
 ∃aO aL,eo al aa ar aO aL aS pm (S.gf (.dn t bg)) steps dY b4 b8 bn∧y=c5 aL S.st.length∧S.st.length<aL.length:=by
 obtain ⟨b,rfl,aI,qz,bD,bp⟩:=F
 have gv:eo al h ar (jP K (fun q=>cC.bb q) (.lE S.st.length)) au aS pm S steps dY b4 b8 bn:=by
  refine M.p7 (fun c aD=>mI fun q=>aD (ht c q)) fun c aD=>?_
  by_cases q:cC.bb c
  · exact ⟨hK.base q,hK.v.b6 q⟩
  · rw [mI q] at aD;exact M.rep.new c aD
 have GA:∀c,cC.bb c→(jP K (fun q=>cC.bb q) (.lE S.st.length)) c=.lE S.st.length:=fun c q=>mJ q
 generalize jP K (fun q=>cC.bb q) (.lE S.st.length)=jA at *
 have t1:=gv.rep.role aI (fun q=>q=b) (.val S.st.length) [b] (fun q a2=>by subst a2;exact ⟨qz,bD⟩)
 have jt:ed (au++[b]) S.st.length=b:=by
  unfold ed
  rw [List.getD_eq_getElem?_getD,List.getElem?_append_right (by rw [M.rep.len];exact Nat.le_refl _),M.rep.len,Nat.sub_self]
  rfl
 have fp:hU sn al aa (jP jA (fun q=>q=b) (.val S.st.length)) (au++[b]) (S.gf (.dn t bg)).st:=by
  refine gv.rep.push t1 (by simp) (by simp) (by simp) ?_
  have vr:q6 al h jA au S.st.length (.dn t bg) cC:=⟨hK,GA,jT⟩
  exact ⟨by rw [jt];exact mJ rfl,cC,.ch,_,by rw [jt];exact bp,rfl,vr.cy t1 id,trivial⟩
 have hm:jA ar≠.no:=by rw [gv.dv];simp
 have E:=gv.dB.cy t1 id
 have W:=gv.wr.cy t1 id id
 have O:=gv.dk.cy t1 id
 exact ⟨_,_,⟨fp,by rw [t1.role ar hm,gv.dv],by rw [t1.get ar hm id,gv.get];rfl,gv.co,E,W,O⟩,by unfold c5;rw [jt],by rw [List.length_append,M.rep.len];simp⟩
theorem eo.waited (M:eo al h ar K au aS pm S steps dY b4 b8 bn) {v p q:V} {a:j2} {us:List V} (a2:ib al q a.c) (aT:eE h K au p a.e) (Hl:cm al.next h 4 b8 S.w.length us)
 (c':cm al.next aa 4 v (S.w.length+1) (us++[.bool a.jY,.int .i64 a.x,q,p])) (hm:Mod b8.bb h aa) (ah:∀b,v.bb b→b8.bb b∨h.next≤cu b) (hu:∃nH:List (List V),us=nH.flatten∧nH.length=S.w.length∧∀(i:Nat) (a:j2) (u:List V),S.w.reverse[i]? =some a→nH[i]? =some u→u.length=4∧gh u=true∧∃p,sn.xh al a p u∧eE h K au p a.e):
 ∃aO,eo al (aa.set ar (.aq [aS,.int .i64 S.eZ,.int .i64 S.fg,.int .i64 S.read,.int .i64 steps,bn,.bool S.fQ,dY,b4,v,.ay,pm] 0 false)) ar aO au aS pm {S with w:=a::S.w} steps dY b4 v bn:=by
 have Ah:∀b,b8.bb b→K b=.iS:=by obtain ⟨_,_,aB,_⟩:=M.wr;exact aB
 have t:dd al K h au (jP K (fun b=>v.bb b∧h.next≤cu b) .iS) aa au (·=.iS):=by
  refine ⟨hm.next,fun b eF=>?_,fun b eF je=>?_,fun b eF aD=>?_,fun b eF=>?_,[],by simp⟩
  · exact mI fun q=>eF (M.rep.tmp q.2)
  · by_cases q:v.bb b∧h.next≤cu b
    · exact ⟨q.2,c'.v.b6 q.1⟩
    · rw [mI q] at je;exact absurd eF je
  · exact hm.get b (M.rep.new b eF).2 fun q=>aD (Ah b q)
  · refine hm.get b (Nat.lt_of_lt_of_le eF M.rep.ext.next) fun q=>?_
    have:=Hl.base q
    omega
 have kK:K ar≠.no:=by rw [M.dv];simp
 obtain ⟨nH,rfl,ha,gB⟩:=hu
 have op:=aT.one
 have da:=a2.one
 refine ⟨_,eo.lay (c1:={S with w:=a::S.w}) (M.rep.cy t (by simp) (by simp) (by simp)) (by rw [t.role ar kK,M.dv]) M.co (M.dB.cy t (by simp)) ⟨nH++[[.bool a.jY,.int .i64 a.x,q,p]],?_,fun b r=>?_,by simp [ha],fun i cI u aI bh=>?_⟩ (M.dk.cy t (by simp))⟩
 · rw [NJ];exact c'
 · rcases ah b r with s | s
   · have:=Ah b s
     rw [t.role b (by rw [this];simp),this]
   · exact mJ ⟨r,s⟩
 · simp only [List.reverse_cons] at aI
   by_cases aG:i<nH.length
   · rw [List.getElem?_append_left aG] at bh
     rw [List.getElem?_append_left (by rw [List.length_reverse];omega)] at aI
     obtain ⟨bt,fe,nD,Bg,Bh⟩:=gB i cI u aI bh
     exact ⟨bt,fe,nD,Bg,Bh.cy t (by simp)⟩
   · have qB:i=nH.length:=by
      have:=(List.getElem?_eq_some_iff.1 bh).1
      simp only [List.length_append,List.length_cons,List.length_nil] at this
      omega
     subst qB
     rw [List.getElem?_append_right (Nat.le_refl _),Nat.sub_self] at bh
     rw [List.getElem?_append_right (by rw [List.length_reverse];omega),List.length_reverse,ha,Nat.sub_self] at aI
     simp only [List.getElem?_cons_zero,Option.some.injEq] at aI bh
     subst aI bh
     exact ⟨rfl,by simp only [gh,da.1,op.1,Bool.and_self];rfl,p,⟨q,a2,rfl⟩,aT.cy t (by simp)⟩
end
end Go.Proofs.YtjbiefneffiogaaGreat
