/- The abstract machine and its walks (a verified interpreter of the model's code: plain definitions and lemmas, no condition). Printed by a program from longer texts: names made short. -/
import Derived.Test.YthemdhlheglhoaaGreatDoorM4
import Derived.Test.YthemdhlheglhoaaGreatDoorM3
set_option linter.unusedSectionVars false
set_option linter.unusedSimpArgs false
set_option linter.unusedVariables false
set_option maxHeartbeats 64000000
noncomputable section
namespace Go.Proofs.YthemdhlheglhoaaGreatDoor.a8
section
open Go Go.RowKit
variable [Lay]
inductive D where
 | i (k:IntKind) (n:Int)
 | b (x:Bool)
 | s (x:List UInt8)
 | l (size:Nat) (es:List (List D))
inductive cW (F:aQ->Prop) (h:ah):List D->List V->Prop
 | nil:cW F h [] []
 | i {k:IntKind} {n:Int} {ds:List D} {ai:List V} (t:cW F h ds ai):cW F h (.i k n::ds) (.int k n::ai)
 | b {x:Bool} {ds:List D} {ai:List V} (t:cW F h ds ai):cW F h (.b x::ds) (.bool x::ai)
 | s {x:List UInt8} {ds:List D} {ai:List V} (ae:x.length<=top) (t:cW F h ds ai):cW F h (.s x::ds) (.str x::ai)
 | l {size:Nat} {es:List (List D)} {v:V} {us:List (List V)} {ds:List D} {ai:List V} (aE:s9 v) (ae:es.length<=top) (aS:fG h size v es.length us.flatten) (hu:us.length=es.length) (bn:∀u ∈ us,u.length=size)
    (kids:∀(i:Nat) (e:List D) (u:List V),es[i]? =some e->us[i]? =some u->cW F h e u) (az:∀b,v.aN b->F b) (t:cW F h ds ai):cW F h (.l size es::ds) (v::ai)
structure dc (F:aQ->Prop) (h:ah) (size:Nat) (es:List (List D)) (v:V):Prop where
 room:s9 v
 le:es.length<=top
 ex:∃us:List (List V),fG h size v es.length us.flatten/\us.length=es.length/\(∀u ∈ us,u.length=size)/\∀(i:Nat) (e:List D) (u:List V),es[i]? =some e->us[i]? =some u->cW F h e u
 ES:∀b,v.aN b->F b
section
variable {F:aQ->Prop} {h ab:ah} {ds:List D} {ai:List V}
theorem cW.mod {fD M:aQ->Prop} (m:Mod M h ab) (dz:∀b,F b->Old h b->¬M b/\fD b) (H:cW F h ds ai):cW fD ab ds ai:=by
 induction H with
 | nil=>exact .nil
 | i t bq=>exact .i bq
 | b t bq=>exact .b bq
 | s ae t bq=>exact .s ae bq
 | l aE ae aS hu bn kids az t uo sP=>exact .l aE ae (aS.mod m fun b q=>(dz b (az b q) (aS.bF q)).1) hu bn uo (fun b q=>(dz b (az b q) (aS.bF q)).2) sP
theorem cW.ext (H:cW F h ds ai) (e:Ext h ab):cW F ab ds ai:=by
 induction H with
 | nil=>exact .nil
 | i t bq=>exact .i bq
 | b t bq=>exact .b bq
 | s ae t bq=>exact .s ae bq
 | l aE ae aS hu bn kids az t uo sP=>exact .l aE ae (aS.ext e) hu bn uo az sP
theorem cW.k1 {fD:aQ->Prop} (H:cW F h ds ai) (w:∀b,F b->fD b):cW fD h ds ai:=by
 induction H with
 | nil=>exact .nil
 | i t bq=>exact .i bq
 | b t bq=>exact .b bq
 | s ae t bq=>exact .s ae bq
 | l aE ae aS hu bn kids az t uo sP=>exact .l aE ae aS hu bn uo (fun b q=>w b (az b q)) sP
theorem cW.bF (H:cW F h ds ai):cW (fun b=>F b/\Old h b) h ds ai:=by
 induction H with
 | nil=>exact .nil
 | i t bq=>exact .i bq
 | b t bq=>exact .b bq
 | s ae t bq=>exact .s ae bq
 | l aE ae aS hu bn kids az t uo sP=>exact .l aE ae aS hu bn uo (fun b q=>⟨az b q,aS.bF q⟩) sP
theorem cW.eI (H:cW F h ds ai):eI ai=true:=by
 induction H with
 | nil=>rfl
 | i t bq=>simpa [Go.Proofs.YthemdhlheglhoaaGreatDoor.a8.eI,V.one] using bq
 | b t bq=>simpa [Go.Proofs.YthemdhlheglhoaaGreatDoor.a8.eI,V.one] using bq
 | s ae t bq=>simpa [Go.Proofs.YthemdhlheglhoaaGreatDoor.a8.eI,V.one] using bq
 | l aE ae aS hu bn kids az t uo sP=>simp only [Go.Proofs.YthemdhlheglhoaaGreatDoor.a8.eI,aS.one.1,sP,Bool.and_self]
theorem cW.int {k:IntKind} {n:Int} (H:cW F h (.i k n::ds) ai):∃us,ai=.int k n::us/\cW F h ds us:=by
 cases H with
 | i t=>exact ⟨_,rfl,t⟩
theorem cW.str {x:List UInt8} (H:cW F h (.s x::ds) ai):∃us,ai=.str x::us/\x.length<=top/\cW F h ds us:=by
 cases H with
 | s ae t=>exact ⟨_,rfl,ae,t⟩
theorem cW.fY {size:Nat} {es:List (List D)} (H:cW F h (.l size es::ds) ai):∃v us,ai=v::us/\dc F h size es v/\cW F h ds us:=by
 cases H with
 | l aE ae aS hu bn kids az t=>exact ⟨_,_,rfl,⟨aE,ae,⟨_,aS,hu,bn,kids⟩,az⟩,t⟩
theorem cW.no (H:cW F h [] ai):ai=[]:=by cases H;rfl
end
theorem yw {size:Nat}:∀(us:List (List V)) (i:Nat) (u:List V),(∀u ∈ us,u.length=size)->us[i]? =some u->(us.flatten.drop (i * size)).take size=u
 | [],i,u,_,h=>by simp at h
 | w::us,0,u,aA,h=>by simp only [List.getElem?_cons_zero,Option.some.injEq] at h;subst h;rw [Nat.zero_mul,List.drop_zero,List.flatten_cons,List.take_left' (aA _ (by simp))]
 | w::us,i+1,u,aA,h=>by rw [show (i+1) * size=size+i * size from by rw [Nat.succ_mul,Nat.add_comm],<-List.drop_drop,List.flatten_cons,List.drop_left' (aA _ (by simp))];exact yw us i u (fun u hu=>aA u (by simp [hu])) (by simpa using h)
theorem sq {size:Nat}:∀(us:List (List V)),(∀u ∈ us,u.length=size)->us.flatten.length=us.length * size
 | [],_=>by simp
 | w::us,aA=>by rw [List.flatten_cons,List.length_append,aA w (by simp),sq us (fun u hu=>aA u (by simp [hu])),List.length_cons,Nat.succ_mul,Nat.add_comm]
section
variable {F:aQ->Prop} {h ab:ah} {size:Nat} {es:List (List D)} {v:V}
theorem dc.cons {ds:List D} {ai:List V} (H:dc F h size es v) (t:cW F h ds ai):cW F h (.l size es::ds) (v::ai):=by obtain ⟨us,a,b,c,d⟩:=H.ex;exact .l H.room H.le a b c d H.ES t
theorem dc.ext (H:dc F h size es v) (e:Ext h ab):dc F ab size es v:=by obtain ⟨us,a,b,c,d⟩:=H.ex;exact ⟨H.room,H.le,⟨us,a.ext e,b,c,fun i x u ar aw=>(d i x u ar aw).ext e⟩,H.ES⟩
theorem dc.mod {fD M:aQ->Prop} (m:Mod M h ab) (dz:∀b,F b->Old h b->¬M b/\fD b) (H:dc F h size es v):dc fD ab size es v:=by obtain ⟨us,a,b,c,d⟩:=H.ex;exact ⟨H.room,H.le,⟨us,a.mod m fun x q=>(dz x (H.ES x q) (a.bF q)).1,b,c,fun i x u ar aw=>(d i x u ar aw).mod m dz⟩,fun x q=>(dz x (H.ES x q) (a.bF q)).2⟩
theorem dc.len (H:dc F h size es v):ny v=some (.int .i64 es.length):=by obtain ⟨us,a,_⟩:=H.ex;exact a.len
theorem dc.one (H:dc F h size es v):v.one=true/\v.cells=[v]/\v.gd=true:=by obtain ⟨us,a,_⟩:=H.ex;exact a.one
theorem dc.nil (F:aQ->Prop) (h:ah) (size:Nat):dc F h size [] .bB:=⟨fun b o l c e=>(by cases e),Nat.zero_le _,⟨[],⟨by simp,rfl⟩,rfl,fun u hu=>(by cases hu),fun i e u q=>(by simp at q)⟩,fun b q=>q.elim⟩
theorem dc.at (H:dc F h size es v) {k:IntKind} {i:Nat} (ao:i<es.length):
 ∃b off u,ka size v (.int k i)=some (.ptr b (off+i * size))/\cW F h es[i] u/\u.length=size/\(∀ab,Ext h ab->pk size (ab.get b) (off+i * size)=some (.agg u))/\∀ab,Ext h ab->∀j,j<size->ia (ab.get b) (off+i * size+j)=u[j]? :=by
 obtain ⟨us,aa,ad,aA,aJ⟩:=H.ex;have yP:i<us.length:=by omega
 have hu:=List.getElem?_eq_getElem yP;obtain ⟨b,off,aP,bf⟩:=aa.cH (k:=k) ao;have az:=yw us i _ aA hu;have jP:=sq us aA;have hle:i * size+size<=us.length * size:=by have:=Nat.mul_le_mul_right size (show i+1<=us.length by omega);rw [Nat.succ_mul] at this;exact this
 have Te:us[i].length=size:=aA _ (List.getElem_mem yP);refine ⟨b,off,us[i],aP,aJ i _ _ (List.getElem?_eq_getElem ao) hu,Te,fun ab e=>?_,fun ab e j aU=>?_⟩
 . rw [(bf.ext e).iM (i:=i * size) (n:=size) (by omega),az]
 . rw [Nat.add_assoc,(bf.ext e).d' (i:=i * size+j) (by omega)];have:((us.flatten.drop (i * size)).take size)[j]? =us[i][j]? :=by rw [az]
   rw [List.getElem?_take_of_lt aU,List.getElem?_drop] at this;rw [<-this,List.getElem?_eq_getElem (by omega)]
end
def Any (_:aQ):Prop:=True
end
section
open Go Go.RowKit
set_option linter.defProp false
variable [Lay]
def al:=And.intro @aou<|And.intro @aov @aow
def aol:=And.intro @aox<|And.intro @aoy<|And.intro @aoz<|And.intro @aoA<|And.intro @aoB @aoC
def aom:=And.intro @Option.isSome_some.{0}<|And.intro @Option.getD_some.{0}<|And.intro @if_true.{1}<|And.intro @if_false.{1}<|And.intro @true_and<|And.intro @and_true<|And.intro @List.getElem?_cons_zero.{0}<|And.intro @List.getElem?_cons_succ.{0}<|And.intro @List.length_cons.{0}<|And.intro @List.length_nil.{0}<|
 And.intro @List.drop_zero.{0}<|And.intro @List.drop_succ_cons.{0}<|And.intro @List.take_succ_cons.{0}<|And.intro @List.take_zero.{0}<|And.intro @List.cons_append.{0}<|And.intro @List.nil_append.{0}<|And.intro @Option.some.injEq.{0}<|And.intro @exists_eq_left'.{1}<|And.intro @List.cons.injEq.{0}<|
 And.intro @Nat.succ_ne_zero<|And.intro @agz<|And.intro @agy<|And.intro @List.getElem?_nil.{0}<|And.intro @decide_true<|And.intro @decide_false<|And.intro @eq_self.{1}<|And.intro @not_true_eq_false<|And.intro @not_false_eq_true<|And.intro @ite_true.{1} @ite_false.{1}
def bs:=And.intro aol (And.intro aom (And.intro @hG.eq_1 (And.intro @hG.eq_2 (And.intro @aX.ga.eq_1 (And.intro @aX.ga.eq_2 (And.intro @nK.eq_1 (And.intro @nK.eq_2 (And.intro @nK.eq_3 (And.intro @over.eq_1 (And.intro @over.eq_2 (And.intro @over.eq_3 (And.intro @eI.eq_1 (@eI.eq_2)))))))))))))
def aG:=And.intro bs (And.intro @dm.ends.eq_1 (And.intro @dm.ends.eq_2 (And.intro @la.eq_1 (And.intro @la.eq_2 (And.intro @la.eq_3 (And.intro @la.eq_4 (And.intro @oneOf.eq_1 (And.intro @oneOf.eq_2 top.eq_1))))))))
end
section
open Go Go.RowKit
variable [Lay]
structure Has (h:ah) (n:Nat) (l:List V):Prop where
 lt:n<h.next
 g:h.get (aj n)=.bE l 0 false
theorem Has.ext {h ab:ah} {n:Nat} {l:List V} (B:Has h n l) (e:Ext h ab):Has ab n l:=⟨Nat.lt_of_lt_of_le B.lt e.next,(e.get _ (fW B.lt)).trans B.g⟩
theorem h7 (h:ah) (l:List V):∃H,h.new (.bE l 0 false)=H/\Ext h H/\Has H h.next l:=⟨_,rfl,(Ext.refl h).new _,by rw [gk];omega,nd _⟩
theorem n' (h:ah) (z l:List V):∃H,(h.new (.bE z 0 false)).set (aj h.next) (.bE l 0 false)=H/\Ext h H/\Has H h.next l:=
 ⟨_,rfl,((Ext.refl h).new _).set (Nat.le_refl _) _,by rw [l5,gk];omega,by rw [dC,if_pos rfl]⟩
theorem Has.set {h:ah} {n m:Nat} {l:List V} (B:Has h n l) (hm:n≠m) (k:cd):Has (h.set (aj m) k) n l:=⟨by rw [l5];exact B.lt,by rw [dC,if_neg (by rw [rH];exact fun q=>hm q.symm)];exact B.g⟩
theorem Has.put {h:ah} {n:Nat} {l:List V} (B:Has h n l) (fh:List V):Has (h.set (aj n) (.bE fh 0 false)) n fh:=⟨by rw [l5];exact B.lt,by rw [dC,if_pos rfl]⟩
theorem dc.set {F:aQ->Prop} {h:ah} {size:Nat} {es:List (List D)} {v:V} (H:dc F h size es v) {b:aQ} (ae:¬F b) (k:cd):dc F (h.set b k) size es v:=
 H.mod ((Mod.refl (fun x=>x=b) h).set (fun _=>rfl) k) fun x q _=>⟨fun e=>ae (e ▸ q),q⟩
theorem cW.rE {F:aQ->Prop} {h:ah} {ds:List D} {ai:List V} (H:cW F h ds ai):cW (Old h) h ds ai:=H.bF.k1 fun _ q=>q.2
theorem dc.rE {F:aQ->Prop} {h:ah} {size:Nat} {es:List (List D)} {v:V} (H:dc F h size es v):dc (Old h) h size es v:=by obtain ⟨us,a,b,c,d⟩:=H.ex;exact ⟨H.room,H.le,⟨us,a,b,c,fun i x u ar aw=>(d i x u ar aw).rE⟩,fun b q=>a.bF q⟩
theorem Gr {h:ah} {n:Nat} (aV:h.next<=n):¬Old h (aj n):=fun q=>by unfold Old at q;rw [b9] at q;omega
theorem kB {i n:Nat} (h:i<n) (aV:n<=4611686018427387904):IntKind.i64.wrap ((i:Int)+1)=((i+1:Nat):Int):=by rw [wrap_i64 (by omega) (by omega)];rfl
section
variable {ay:Fr} {E cm:Env} {h aD:ah} {w b2:World}
end
section
variable {h aD:ah}
end
inductive Dx (F:aQ->Prop) (h:ah):List (Int × List D)->List cI->Prop
 | nil:Dx F h [] []
 | cons {n:Int} {ds:List D} {y:V} {born:Nat} {bM:List (Int × List D)} {es:List cI} (bb:cW F h ds y.cells) (t:Dx F h bM es):Dx F h ((n,ds)::bM) (⟨.int .i64 n,y,born⟩::es)
structure ao3 (F:aQ->Prop) (h:ah) (bM:List (Int × List D)) (v:V):Prop where
 ex:∃b es,v=.map b/\Old h b/\((∃clock,h.get b=.mp es clock)\/h.get b=.jW es/\(bM.map Prod.fst).Nodup)/\Dx F h bM es/\F b
section
variable {F:aQ->Prop} {h ab:ah} {bM:List (Int × List D)} {es:List cI} {v:V}
theorem Wf (k n:Int):oa.run (.int .i64 k) (.int .i64 n)=some (decide (k=n)):=by simp only [oa,V.ep,o4,cond_true,Bg]
end
section
variable {h aD:ah}
end
section
variable {C:Ctx} (dz:C.P.follows .mixedOrders=true) (bJ:eO C.P) (iF:r2 C) {n:Nat} {f:FuncId} (az:Nat.beq f dy=false) (ak:C.ext f=none) (jQ:∃fn,C.P.funcs[f]? =some fn/\fn.body.isSome=true)
include dz bJ iF az ak jQ
end
end
end Go.Proofs.YthemdhlheglhoaaGreatDoor.a8
