/- The abstract machine and its walks (a verified interpreter of the model's code: plain definitions and lemmas, no condition). Printed by a program from longer texts: names made short. -/
import Derived.Test.YthemdhlheglhoaaGreatDoorM5
import Derived.Test.YthemdhlheglhoaaGreatDoorM7
set_option linter.unusedSectionVars false
set_option linter.unusedSimpArgs false
set_option linter.unusedVariables false
namespace Go.Proofs.YthemdhlheglhoaaGreatDoor.aX
variable [Lay]
open Go Go.RowKit
theorem du.room {B:Nat} {h:af} {size:Nat} {v:V} {n:Nat} {ad:List V} (H:du B h size v n ad):Aw v:=by
 intro b o l c e
 subst e
 have q:=H.2
 simp only at q
 omega
theorem Has.mod {M:aP→Prop} {h aa:af} {n:Nat} {l:List V} (B:Has h n l) (m:Mod M h aa) (aU:¬M (al n)):Has aa n l:=⟨Nat.lt_of_lt_of_le B.lt m.next,(m.get _ (eI B.lt) aU).trans B.g⟩
structure fo (B:Nat) (G:aP→Prop) (h:af) (size:Nat) (es:List (List D)) (v:V):Prop where
 ex:∃us:List (List V),du B h size v es.length us.flatten∧us.length=es.length∧(∀u ∈ us,u.length=size)∧∀(i:Nat) (e:List D) (u:List V),es[i]? =some e→us[i]? =some u→bJ (fun b=>G b∧¬v.aW b) h e u
section
variable {B:Nat} {G:aP→Prop} {h aa:af} {size:Nat} {es:List (List D)} {v:V}
theorem fo.nil (B:Nat) (G:aP→Prop) (h:af) (size:Nat):fo B G h size [] .b6:=⟨⟨[],⟨by simp,rfl⟩,rfl,fun u hu=>(by cases hu),fun i e u q=>(by simp at q)⟩⟩
theorem fo.one (H:fo B G h size es v):v.one=true∧v.cells=[v]∧v.fK=true:=by
 obtain ⟨us,a,_⟩:=H.ex
 exact a.v.one
theorem fo.base (H:fo B G h size es v) {b:aP} (ag:v.aW b):B≤dG b:=by
 obtain ⟨us,a,_⟩:=H.ex
 exact a.base ag
theorem fo.QQ (H:fo B G h size es v) {b:aP} (ag:v.aW b):Old h b:=by
 obtain ⟨us,a,_⟩:=H.ex
 exact a.v.b1 ag
theorem fo.ext (H:fo B G h size es v) (e:Ext h aa):fo B G aa size es v:=by
 obtain ⟨us,a,b,c,d⟩:=H.ex
 exact ⟨us,a.ext e,b,c,fun i x u an az=>(d i x u an az).ext e⟩
theorem fo.mod {M:aP→Prop} (H:fo B G h size es v) (m:Mod M h aa) (bs:∀b,v.aW b→¬M b) (G_:∀b,G b→Old h b→¬v.aW b→¬M b):fo B G aa size es v:=by
 obtain ⟨us,a,b,c,d⟩:=H.ex
 exact ⟨us,a.mod m bs,b,c,fun i x u an az=>(d i x u an az).mod m fun b q o=>⟨G_ b q.1 o q.2,q⟩⟩
theorem fo.fv {F:aP→Prop} (H:fo B G h size es v) (ai:es.length≤top) (G_:∀b,G b→F b) (c2:∀b,B≤dG b→F b):cw F h size es v:=by
 obtain ⟨us,a,b,c,d⟩:=H.ex
 exact ⟨a.room,ai,⟨us,a.v,b,c,fun i x u an az=>(d i x u an az).fg fun b q=>G_ b q.1⟩,fun b q=>c2 b (a.base q)⟩
theorem B7 {α:Type} {l:List α} {x y:α} {i:Nat} (q:(l++[x])[i]? =some y):(i<l.length∧l[i]? =some y)∨(i=l.length∧y=x):=by
 by_cases aC:i<l.length
 · rw [List.getElem?_append_left aC] at q
   exact .inl ⟨aC,q⟩
 · rw [List.getElem?_append_right (by omega)] at q
   obtain ⟨aL,_⟩:=List.getElem?_eq_some_iff.1 q
   simp only [List.length_cons,List.length_nil] at aL
   have:i=l.length:=by omega
   subst this
   simp only [Nat.sub_self,List.getElem?_cons_zero,Option.some.injEq] at q
   exact .inr ⟨rfl,q.symm⟩
theorem fo.add {ds:List D} {cs:List V} (H:fo B G h size es v) (E:bJ (fun b=>G b∧¬v.aW b) h ds cs) (ca:1≤size) (c2:B≤h.next) (hlen:(es.length+1) * size≤top) (gG:cs.length=size):
 ∃dn aa,kW size v (.slice (al h.next) 0 1 1) (h.new (.a1 cs 0 false))=.val dn aa∧fo B G aa size (es++[ds]) dn∧Mod v.aW h aa∧h.next+1≤aa.next∧∀b,dn.aW b→v.aW b∨h.next<dG b:=by
 obtain ⟨us,a,b,c,d⟩:=H.ex
 obtain ⟨dn,aa,an,az,aN,bM,dL⟩:=yx ca a c2 hlen gG E.eS
 have fz:∀b,(G b∧¬v.aW b)→Old h b→¬v.aW b∧(G b∧¬dn.aW b):=fun b q o=>⟨q.2,q.1,fun z=>by
  rcases dL b z with z | z
  · exact q.2 z
  · unfold Old at o;omega⟩
 refine ⟨dn,aa,an,⟨us++[cs],?_,by simp [b],?_,?_⟩,aN,bM,dL⟩
 · rw [List.length_append,List.length_singleton,List.flatten_append]
   simpa using az
 · intro u hu
   rcases List.mem_append.1 hu with hu | hu
   · exact c u hu
   · rw [List.mem_singleton] at hu;subst hu;exact gG
 · intro i e u aK aS
   rcases B7 aK with ⟨ab,aK⟩ | ⟨ab,rfl⟩
   · rcases B7 aS with ⟨ae,aS⟩ | ⟨ae,rfl⟩
     · exact (d i e u aK aS).mod aN fz
     · omega
   · rcases B7 aS with ⟨ae,aS⟩ | ⟨ae,rfl⟩
     · omega
     · exact E.mod aN fz
end
theorem aiL {P:Program} {n:Nat} (h:n≤4611686018427387904):(dV.int .quo).run P (.int .i64 (n:Int)) (.int .i64 100)=some (.int .i64 ((n / 100:Nat):Int)):=by
 simp only [dV.run,jK,uF,V.dZ]
 rw [show (ng .i64 .i64&&!Int.gb 100 0)=true from rfl,cond_true]
 rw [show (n:Int).tdiv 100=((n / 100:Nat):Int) from by rw [Int.tdiv_eq_ediv_of_nonneg (by omega)];rfl,wrap_i64 (by omega) (by omega)]
def encS (s:List UInt8):List D:=[.s s]
theorem cw.aj4 {F:aP→Prop} {h:af} {l:List (List UInt8)} {v:V} (H:cw F h 1 (l.map encS) v) {k:IntKind} {i:Nat} (aC:i<l.length):
 ∃b off,iT 1 v (.int k i)=some (.ptr b (off+i * 1))∧l[i].length≤top∧∀aa,Ext h aa→iw (aa.get b) (off+i * 1)=some (.str l[i]):=by
 obtain ⟨b,off,u,aK,aS,bn,_,b2⟩:=H.at (k:=k) (i:=i) (by rw [List.length_map];exact aC)
 rw [List.getElem_map,encS] at aS
 obtain ⟨us,rfl,ag,fJ⟩:=bJ.str aS
 obtain rfl:=fJ.no
 exact ⟨b,off,aK,ag,fun aa e=>by simpa using b2 aa e 0 (by omega)⟩
def pS (l:List Int):List V:=l.map (V.int .i64)
theorem aej (a b:List Int):pS (a++b)=pS a++pS b:=List.map_append
theorem ah0:∀l:List Int,eS (pS l)=true
 | []=>rfl
 | i::l=>by simpa [pS,eS,V.one] using ah0 l
theorem NQ:∀l:List Int,(l.map fun i=>[V.int .i64 i]).flatten=pS l
 | []=>rfl
 | i::l=>by rw [List.map_cons,List.flatten_cons,NQ l];rfl
theorem hn.Kc {h:af} {v:V} {l:List Int} (H:hn h 1 v l.length (pS l)) (aJ:Aw v) (ai:l.length≤top):cw Any h 1 (l.map encI) v:=
 ⟨aJ,by rw [List.length_map];exact ai,⟨l.map fun i=>[V.int .i64 i],by rw [List.length_map,NQ];exact H,by simp,fun u hu=>by
   obtain ⟨i,_,rfl⟩:=List.mem_map.1 hu
   rfl,fun i e u an az=>by
   rw [List.getElem?_map] at an az
   cases aC:l[i]? with
   | none=>rw [aC] at an;cases an
   | some y=>
     rw [aC] at an az
     simp only [Option.map_some,Option.some.injEq] at an az
     subst an az
     exact .i .nil⟩,fun _ _=>trivial⟩
theorem du.Kc {B:Nat} {h:af} {v:V} {l:List Int} (H:du B h 1 v l.length (pS l)) (ai:l.length≤top):cw Any h 1 (l.map encI) v:=H.v.Kc H.room ai
theorem IP (h:af) (size n:Nat) (ad:List V) (ai:ad.length=n * size) (aU:n≤top):∃H,h.new (.a1 ad 0 false)=H∧Ext h H∧du h.next H size (.slice (al h.next) 0 n n) n ad:=
 ⟨_,rfl,(Ext.refl h).new _,ai,rfl,by rw [cK];exact Nat.le_refl _,eI (by rw [eU];omega),Nat.le_refl _,aU,ad,0,false,ku _,by omega,by rw [List.drop_zero,List.take_length]⟩
end Go.Proofs.YthemdhlheglhoaaGreatDoor.aX
namespace Go.Proofs.YthemdhlheglhoaaGreatDoor.aX
variable [Lay]
open Go Go.RowKit
section
variable {α:Type}
def te (e:α→V):List (Int × α)→List cO→Prop
 | [],[]=>True
 | (s,a)::c0,m::es=>m.k=.int .i64 s∧m.v=e a∧te e c0 es
 | _,_=>False
def dJ (s:Int):List (Int × α)→Option α
 | []=>none
 | (n,a)::c0=>if s=n then some a else dJ s c0
def mI (s:Int) (x:α):List (Int × α)→List (Int × α)
 | []=>[(s,x)]
 | (n,a)::c0=>if s=n then (s,x)::c0 else (n,a)::mI s x c0
structure j2 (e:α→V) (h:af) (b:aP) (c0:List (Int × α)):Prop where
 ex:∃es clock,h.get b=.mp es clock∧te e c0 es∧na clock 0 es=true
 b1:Old h b
variable {e:α→V} {h aa:af} {b:aP} {c0:List (Int × α)} {es:List cO}
theorem te.find (H:te e c0 es) (s:Int):nk ks (.int .i64 s) es=some ((dJ s c0).map e):=by
 induction c0 generalizing es with
 | nil=>
   cases es with
   | nil=>rfl
   | cons m es=>exact H.elim
 | cons p c0 bk=>
   obtain ⟨n,a⟩:=p
   cases es with
   | nil=>exact H.elim
   | cons m es=>
     obtain ⟨ab,ae,aG⟩:=H
     simp only [nk,ab,R8,dJ]
     by_cases q:s=n
     · subst q;simp [ae]
     · simp only [q,decide_false,cond_false,if_false]
       exact bk aG
theorem te.put (H:te e c0 es) (s:Int) (x:α) (clock:Nat) (bR:Nat) (eD:bR≤clock) (B:na clock bR es=true):
 ∃hq f,kO ks (.int .i64 s) (e x) clock es=some (hq,f)∧te e (mI s x c0) hq∧na (bif f then clock+1 else clock) bR hq=true:=by
 induction c0 generalizing es bR with
 | nil=>
   cases es with
   | nil=>
     refine ⟨_,true,rfl,⟨rfl,rfl,trivial⟩,?_⟩
     simp only [na,cond_true,Bool.and_true,Bool.and_eq_true,Nat.ble_eq,Nat.blt_eq]
     omega
   | cons m es=>exact H.elim
 | cons p c0 bk=>
   obtain ⟨n,a⟩:=p
   cases es with
   | nil=>exact H.elim
   | cons m es=>
     obtain ⟨ab,ae,aG⟩:=H
     simp only [na,Bool.and_eq_true,Nat.ble_eq,Nat.blt_eq] at B
     obtain ⟨⟨cC,ck⟩,hF⟩:=B
     simp only [kO,ab,R8,mI]
     by_cases q:s=n
     · subst q
       refine ⟨⟨.int .i64 s,e x,m.born⟩::es,false,by simp only [decide_true,cond_true],?_,?_⟩
       · rw [if_pos rfl];exact ⟨rfl,rfl,aG⟩
       · simp only [cond_false,na,hF,Bool.and_true,Bool.and_eq_true,Nat.ble_eq,Nat.blt_eq];exact ⟨cC,ck⟩
     · obtain ⟨hq,f,an,az,aN⟩:=bk (bR:=m.born+1) aG (by omega) hF
       refine ⟨m::hq,f,by simp only [q,decide_false,cond_false,an],by rw [if_neg q];exact ⟨ab,ae,az⟩,?_⟩
       simp only [na,aN,Bool.and_true,Bool.and_eq_true,Nat.ble_eq,Nat.blt_eq]
       refine ⟨cC,?_⟩
       cases f<;>simp only [cond_true,cond_false]<;>omega
theorem j2.ext (H:j2 e h b c0) (x:Ext h aa):j2 e aa b c0:=by
 obtain ⟨es,clock,an,az,aN⟩:=H.ex
 exact ⟨⟨es,clock,by rw [x.get b H.b1];exact an,az,aN⟩,x.b1 H.b1⟩
theorem j2.mod {M:aP→Prop} (H:j2 e h b c0) (m:Mod M h aa) (ag:¬M b):j2 e aa b c0:=by
 obtain ⟨es,clock,an,az,aN⟩:=H.ex
 exact ⟨⟨es,clock,by rw [m.get b H.b1 ag];exact an,az,aN⟩,m.b1 H.b1⟩
theorem j2.look (H:j2 e h b c0) (s:Int) (z:V) (ok:Bool):nD ks z ok h (.map b) (.int .i64 s)=some (match dJ s c0 with
 | some a=>(bif ok then .tuple [e a,.bool true] else e a)
 | none=>(bif ok then .tuple [z,.bool false] else z)):=by
 obtain ⟨es,clock,an,az,aN⟩:=H.ex
 simp only [nD,an,q6,su,cb.kg,az.find]
 cases dJ s c0<;>rfl
theorem j2.l' (H:j2 e h b c0) (s:Int) (x:α):∃aa,mN ks h (.map b) (.int .i64 s) (e x)=some aa∧j2 e aa b (mI s x c0)∧Mod (fun p=>p=b) h aa∧aa.next=h.next:=by
 obtain ⟨es,clock,an,az,aN⟩:=H.ex
 obtain ⟨hq,f,bl,bT,cg⟩:=az.put s x clock 0 (Nat.zero_le _) aN
 refine ⟨h.set b (.mp hq (bif f then clock+1 else clock)),by simp only [mN,an,cb.kg,bl],⟨⟨hq,_,by rw [c4,if_pos rfl],bT,cg⟩,?_⟩,(Mod.refl (fun p=>p=b) h).set (fun _=>rfl) _,rfl⟩
 exact ((Mod.refl (fun p=>p=b) h).set (fun _=>rfl) _).b1 H.b1
theorem j2.new (e:α→V) (h:af):j2 e (h.new (.mp [] 0)) (al h.next) []:=
 ⟨⟨[],0,ku _,trivial,rfl⟩,eI (by rw [eU];omega)⟩
theorem Qh (s:Int) (x:α) (t:Int):∀c0:List (Int × α),dJ t (mI s x c0)=if t=s then some x else dJ t c0
 | []=>by simp only [mI,dJ]
 | (n,a)::c0=>by
   simp only [mI]
   by_cases q:s=n
   · subst q
     simp only [if_true,dJ]
     split<;>rfl
   · rw [if_neg q]
     simp only [dJ,Qh s x t c0]
     by_cases r:t=n
     · rw [if_pos r,if_neg (fun z=>q (z.symm.trans r)),if_pos r]
     · rw [if_neg r,if_neg r]
end
end Go.Proofs.YthemdhlheglhoaaGreatDoor.aX
