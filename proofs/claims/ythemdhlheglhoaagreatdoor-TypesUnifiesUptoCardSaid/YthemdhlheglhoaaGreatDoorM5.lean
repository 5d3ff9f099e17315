/- The abstract machine and its walks (a verified interpreter of the model's code: plain definitions and lemmas, no condition). Printed by a program from longer texts: names made short. -/
import Derived.Test.YthemdhlheglhoaaGreatDoorM4
import Derived.Test.YthemdhlheglhoaaGreatDoorM3
set_option linter.unusedSectionVars false
set_option linter.unusedSimpArgs false
set_option linter.unusedVariables false
set_option maxHeartbeats 64000000
noncomputable section
namespace Go.Proofs.YthemdhlheglhoaaGreatDoor.a7
section
open Go Go.RowKit
variable [Lay]
inductive D where
 | i (k:IntKind) (n:Int)
 | b (x:Bool)
 | s (x:List UInt8)
 | l (size:Nat) (es:List (List D))
inductive cW (F:aQ->Prop) (h:ai):List D->List V->Prop
 | nil:cW F h [] []
 | i {k:IntKind} {n:Int} {ds:List D} {ah:List V} (t:cW F h ds ah):cW F h (.i k n::ds) (.int k n::ah)
 | b {x:Bool} {ds:List D} {ah:List V} (t:cW F h ds ah):cW F h (.b x::ds) (.bool x::ah)
 | s {x:List UInt8} {ds:List D} {ah:List V} (ae:x.length<=top) (t:cW F h ds ah):cW F h (.s x::ds) (.str x::ah)
 | l {size:Nat} {es:List (List D)} {v:V} {us:List (List V)} {ds:List D} {ah:List V} (aF:rN v) (ae:es.length<=top) (aR:fC h size v es.length us.flatten) (hu:us.length=es.length) (bn:∀u ∈ us,u.length=size)
    (kids:∀(i:Nat) (e:List D) (u:List V),es[i]? =some e->us[i]? =some u->cW F h e u) (aA:∀b,v.aM b->F b) (t:cW F h ds ah):cW F h (.l size es::ds) (v::ah)
structure cJ (F:aQ->Prop) (h:ai) (size:Nat) (es:List (List D)) (v:V):Prop where
 room:rN v
 le:es.length<=top
 ex:∃us:List (List V),fC h size v es.length us.flatten/\us.length=es.length/\(∀u ∈ us,u.length=size)/\∀(i:Nat) (e:List D) (u:List V),es[i]? =some e->us[i]? =some u->cW F h e u
 Bh:∀b,v.aM b->F b
section
variable {F:aQ->Prop} {h ab:ai} {ds:List D} {ah:List V}
theorem cW.mod {fq M:aQ->Prop} (m:Mod M h ab) (dE:∀b,F b->Old h b->¬M b/\fq b) (H:cW F h ds ah):cW fq ab ds ah:=by
 induction H with
 | nil=>exact .nil
 | i t br=>exact .i br
 | b t br=>exact .b br
 | s ae t br=>exact .s ae br
 | l aF ae aR hu bn kids aA t uo sT=>exact .l aF ae (aR.mod m fun b q=>(dE b (aA b q) (aR.bG q)).1) hu bn uo (fun b q=>(dE b (aA b q) (aR.bG q)).2) sT
theorem cW.ext (H:cW F h ds ah) (e:Ext h ab):cW F ab ds ah:=by
 induction H with
 | nil=>exact .nil
 | i t br=>exact .i br
 | b t br=>exact .b br
 | s ae t br=>exact .s ae br
 | l aF ae aR hu bn kids aA t uo sT=>exact .l aF ae (aR.ext e) hu bn uo aA sT
theorem cW.jG {fq:aQ->Prop} (H:cW F h ds ah) (w:∀b,F b->fq b):cW fq h ds ah:=by
 induction H with
 | nil=>exact .nil
 | i t br=>exact .i br
 | b t br=>exact .b br
 | s ae t br=>exact .s ae br
 | l aF ae aR hu bn kids aA t uo sT=>exact .l aF ae aR hu bn uo (fun b q=>w b (aA b q)) sT
theorem cW.bG (H:cW F h ds ah):cW (fun b=>F b/\Old h b) h ds ah:=by
 induction H with
 | nil=>exact .nil
 | i t br=>exact .i br
 | b t br=>exact .b br
 | s ae t br=>exact .s ae br
 | l aF ae aR hu bn kids aA t uo sT=>exact .l aF ae aR hu bn uo (fun b q=>⟨aA b q,aR.bG q⟩) sT
theorem cW.ev (H:cW F h ds ah):ev ah=true:=by
 induction H with
 | nil=>rfl
 | i t br=>simpa [Go.Proofs.YthemdhlheglhoaaGreatDoor.a7.ev,V.one] using br
 | b t br=>simpa [Go.Proofs.YthemdhlheglhoaaGreatDoor.a7.ev,V.one] using br
 | s ae t br=>simpa [Go.Proofs.YthemdhlheglhoaaGreatDoor.a7.ev,V.one] using br
 | l aF ae aR hu bn kids aA t uo sT=>simp only [Go.Proofs.YthemdhlheglhoaaGreatDoor.a7.ev,aR.one.1,sT,Bool.and_self]
theorem cW.int {k:IntKind} {n:Int} (H:cW F h (.i k n::ds) ah):∃us,ah=.int k n::us/\cW F h ds us:=by
 cases H with
 | i t=>exact ⟨_,rfl,t⟩
theorem cW.str {x:List UInt8} (H:cW F h (.s x::ds) ah):∃us,ah=.str x::us/\x.length<=top/\cW F h ds us:=by
 cases H with
 | s ae t=>exact ⟨_,rfl,ae,t⟩
theorem cW.fU {size:Nat} {es:List (List D)} (H:cW F h (.l size es::ds) ah):∃v us,ah=v::us/\cJ F h size es v/\cW F h ds us:=by
 cases H with
 | l aF ae aR hu bn kids aA t=>exact ⟨_,_,rfl,⟨aF,ae,⟨_,aR,hu,bn,kids⟩,aA⟩,t⟩
theorem cW.no (H:cW F h [] ah):ah=[]:=by cases H;rfl
end
theorem tU {size:Nat}:∀(us:List (List V)) (i:Nat) (u:List V),(∀u ∈ us,u.length=size)->us[i]? =some u->(us.flatten.drop (i * size)).take size=u
 | [],i,u,_,h=>by simp at h
 | w::us,0,u,ay,h=>by simp only [List.getElem?_cons_zero,Option.some.injEq] at h;subst h;rw [Nat.zero_mul,List.drop_zero,List.flatten_cons,List.take_left' (ay _ (by simp))]
 | w::us,i+1,u,ay,h=>by rw [show (i+1) * size=size+i * size from by rw [Nat.succ_mul,Nat.add_comm],<-List.drop_drop,List.flatten_cons,List.drop_left' (ay _ (by simp))];exact tU us i u (fun u hu=>ay u (by simp [hu])) (by simpa using h)
theorem q2 {size:Nat}:∀(us:List (List V)),(∀u ∈ us,u.length=size)->us.flatten.length=us.length * size
 | [],_=>by simp
 | w::us,ay=>by rw [List.flatten_cons,List.length_append,ay w (by simp),q2 us (fun u hu=>ay u (by simp [hu])),List.length_cons,Nat.succ_mul,Nat.add_comm]
section
variable {F:aQ->Prop} {h ab:ai} {size:Nat} {es:List (List D)} {v:V}
theorem cJ.cons {ds:List D} {ah:List V} (H:cJ F h size es v) (t:cW F h ds ah):cW F h (.l size es::ds) (v::ah):=by obtain ⟨us,a,b,c,d⟩:=H.ex;exact .l H.room H.le a b c d H.Bh t
theorem cJ.ext (H:cJ F h size es v) (e:Ext h ab):cJ F ab size es v:=by obtain ⟨us,a,b,c,d⟩:=H.ex;exact ⟨H.room,H.le,⟨us,a.ext e,b,c,fun i x u ar av=>(d i x u ar av).ext e⟩,H.Bh⟩
theorem cJ.mod {fq M:aQ->Prop} (m:Mod M h ab) (dE:∀b,F b->Old h b->¬M b/\fq b) (H:cJ F h size es v):cJ fq ab size es v:=by obtain ⟨us,a,b,c,d⟩:=H.ex;exact ⟨H.room,H.le,⟨us,a.mod m fun x q=>(dE x (H.Bh x q) (a.bG q)).1,b,c,fun i x u ar av=>(d i x u ar av).mod m dE⟩,fun x q=>(dE x (H.Bh x q) (a.bG q)).2⟩
theorem cJ.jG {fq:aQ->Prop} (H:cJ F h size es v) (w:∀b,F b->fq b):cJ fq h size es v:=by obtain ⟨us,a,b,c,d⟩:=H.ex;exact ⟨H.room,H.le,⟨us,a,b,c,fun i x u ar av=>(d i x u ar av).jG w⟩,fun b q=>w b (H.Bh b q)⟩
theorem cJ.len (H:cJ F h size es v):lA v=some (.int .i64 es.length):=by obtain ⟨us,a,_⟩:=H.ex;exact a.len
theorem cJ.one (H:cJ F h size es v):v.one=true/\v.cells=[v]/\v.fY=true:=by obtain ⟨us,a,_⟩:=H.ex;exact a.one
theorem cJ.nil (F:aQ->Prop) (h:ai) (size:Nat):cJ F h size [] .bF:=⟨fun b o l c e=>(by cases e),Nat.zero_le _,⟨[],⟨by simp,rfl⟩,rfl,fun u hu=>(by cases hu),fun i e u q=>(by simp at q)⟩,fun b q=>q.elim⟩
theorem cJ.at (H:cJ F h size es v) {k:IntKind} {i:Nat} (an:i<es.length):
 ∃b off u,iT size v (.int k i)=some (.ptr b (off+i * size))/\cW F h es[i] u/\u.length=size/\(∀ab,Ext h ab->oA size (ab.get b) (off+i * size)=some (.agg u))/\∀ab,Ext h ab->∀j,j<size->hd (ab.get b) (off+i * size+j)=u[j]? :=by
 obtain ⟨us,aa,ad,ay,aJ⟩:=H.ex;have o_:i<us.length:=by omega
 have hu:=List.getElem?_eq_getElem o_;obtain ⟨b,off,aP,a'⟩:=aa.ct (k:=k) an;have aA:=tU us i _ ay hu;have jd:=q2 us ay;have hle:i * size+size<=us.length * size:=by have:=Nat.mul_le_mul_right size (show i+1<=us.length by omega);rw [Nat.succ_mul] at this;exact this
 have Ts:us[i].length=size:=ay _ (List.getElem_mem o_);refine ⟨b,off,us[i],aP,aJ i _ _ (List.getElem?_eq_getElem an) hu,Ts,fun ab e=>?_,fun ab e j aU=>?_⟩
 . rw [(a'.ext e).iV (i:=i * size) (n:=size) (by omega),aA]
 . rw [Nat.add_assoc,(a'.ext e).d_ (i:=i * size+j) (by omega)];have:((us.flatten.drop (i * size)).take size)[j]? =us[i][j]? :=by rw [aA]
   rw [List.getElem?_take_of_lt aU,List.getElem?_drop] at this;rw [<-this,List.getElem?_eq_getElem (by omega)]
end
def Any (_:aQ):Prop:=True
theorem Xi:∀{ms:List Nat},(∀(i k:Nat),ms[i]? =some k->1<=k)->ms.length<=ms.sum
 | [],_=>Nat.le_refl _
 | m::ms,h=>by have aX:=h 0 m rfl;have:=Xi (ms:=ms) fun i k q=>h (i+1) k (by simpa using q);simp only [List.length_cons,List.sum_cons];omega
theorem Xh:∀{ms:List Nat} {i k:Nat},ms[i]? =some k->k<=ms.sum
 | [],_,_,h=>by simp at h
 | m::ms,0,k,h=>by simp only [List.getElem?_cons_zero,Option.some.injEq] at h;subst h;simp only [List.sum_cons];omega
 | m::ms,i+1,k,h=>by have:=Xh (ms:=ms) (i:=i) (k:=k) (by simpa using h);simp only [List.sum_cons];omega
end
section
open Go Go.RowKit
set_option linter.defProp false
variable [Lay]
def al:=And.intro @aoH<|And.intro @aoI @aoJ
def aoy:=And.intro @aoK<|And.intro @aoL<|And.intro @aoM<|And.intro @aoN<|And.intro @aoO @aoP
def aoz:=And.intro @Option.isSome_some.{0}<|And.intro @Option.getD_some.{0}<|And.intro @if_true.{1}<|And.intro @if_false.{1}<|And.intro @true_and<|And.intro @and_true<|And.intro @List.getElem?_cons_zero.{0}<|And.intro @List.getElem?_cons_succ.{0}<|And.intro @List.length_cons.{0}<|And.intro @List.length_nil.{0}<|
 And.intro @List.drop_zero.{0}<|And.intro @List.drop_succ_cons.{0}<|And.intro @List.take_succ_cons.{0}<|And.intro @List.take_zero.{0}<|And.intro @List.cons_append.{0}<|And.intro @List.nil_append.{0}<|And.intro @Option.some.injEq.{0}<|And.intro @exists_eq_left'.{1}<|And.intro @List.cons.injEq.{0}<|
 And.intro @Nat.succ_ne_zero<|And.intro @agQ<|And.intro @agP<|And.intro @List.getElem?_nil.{0}<|And.intro @decide_true<|And.intro @decide_false<|And.intro @eq_self.{1}<|And.intro @not_true_eq_false<|And.intro @not_false_eq_true<|And.intro @ite_true.{1} @ite_false.{1}
def bs:=And.intro aoy (And.intro aoz (And.intro @hM.eq_1 (And.intro @hM.eq_2 (And.intro @aY.gg.eq_1 (And.intro @aY.gg.eq_2 (And.intro @nP.eq_1 (And.intro @nP.eq_2 (And.intro @nP.eq_3 (And.intro @over.eq_1 (And.intro @over.eq_2 (And.intro @over.eq_3 (And.intro @ev.eq_1 (@ev.eq_2)))))))))))))
def aE:=And.intro bs (And.intro @dm.ends.eq_1 (And.intro @dm.ends.eq_2 (And.intro @lo.eq_1 (And.intro @lo.eq_2 (And.intro @lo.eq_3 (And.intro @lo.eq_4 (And.intro @oneOf.eq_1 (And.intro @oneOf.eq_2 top.eq_1))))))))
end
section
open Go Go.RowKit
variable [Lay]
structure Has (h:ai) (n:Nat) (l:List V):Prop where
 lt:n<h.next
 g:h.get (aj n)=.bC l 0 false
theorem Has.ext {h ab:ai} {n:Nat} {l:List V} (B:Has h n l) (e:Ext h ab):Has ab n l:=⟨Nat.lt_of_lt_of_le B.lt e.next,(e.get _ (gi B.lt)).trans B.g⟩
theorem ic (h:ai) (l:List V):∃H,h.new (.bC l 0 false)=H/\Ext h H/\Has H h.next l:=⟨_,rfl,(Ext.refl h).new _,by rw [gN];omega,ni _⟩
theorem o1 (h:ai) (z l:List V):∃H,(h.new (.bC z 0 false)).set (aj h.next) (.bC l 0 false)=H/\Ext h H/\Has H h.next l:=
 ⟨_,rfl,((Ext.refl h).new _).set (Nat.le_refl _) _,by rw [lC,gN];omega,by rw [dy,if_pos rfl]⟩
theorem Has.set {h:ai} {n m:Nat} {l:List V} (B:Has h n l) (hm:n≠m) (k:cf):Has (h.set (aj m) k) n l:=⟨by rw [lC];exact B.lt,by rw [dy,if_neg (by rw [rJ];exact fun q=>hm q.symm)];exact B.g⟩
theorem Has.put {h:ai} {n:Nat} {l:List V} (B:Has h n l) (dT:List V):Has (h.set (aj n) (.bC dT 0 false)) n dT:=⟨by rw [lC];exact B.lt,by rw [dy,if_pos rfl]⟩
theorem cJ.set {F:aQ->Prop} {h:ai} {size:Nat} {es:List (List D)} {v:V} (H:cJ F h size es v) {b:aQ} (ae:¬F b) (k:cf):cJ F (h.set b k) size es v:=
 H.mod ((Mod.refl (fun x=>x=b) h).set (fun _=>rfl) k) fun x q _=>⟨fun e=>ae (e ▸ q),q⟩
theorem cW.rG {F:aQ->Prop} {h:ai} {ds:List D} {ah:List V} (H:cW F h ds ah):cW (Old h) h ds ah:=H.bG.jG fun _ q=>q.2
theorem cJ.rG {F:aQ->Prop} {h:ai} {size:Nat} {es:List (List D)} {v:V} (H:cJ F h size es v):cJ (Old h) h size es v:=by obtain ⟨us,a,b,c,d⟩:=H.ex;exact ⟨H.room,H.le,⟨us,a,b,c,fun i x u ar av=>(d i x u ar av).rG⟩,fun b q=>a.bG q⟩
theorem Gn {h:ai} {n:Nat} (aV:h.next<=n):¬Old h (aj n):=fun q=>by unfold Old at q;rw [cc] at q;omega
theorem jj {i n:Nat} (h:i<n) (aV:n<=4611686018427387904):IntKind.i64.wrap ((i:Int)+1)=((i+1:Nat):Int):=by rw [wrap_i64 (by omega) (by omega)];rfl
section
variable {az:Fr} {E cp:Env} {h aD:ai} {w b0:World}
end
section
variable {h aD:ai}
end
inductive Du (F:aQ->Prop) (h:ai):List (Int × List D)->List cL->Prop
 | nil:Du F h [] []
 | cons {n:Int} {ds:List D} {y:V} {born:Nat} {bM:List (Int × List D)} {es:List cL} (bc:cW F h ds y.cells) (t:Du F h bM es):Du F h ((n,ds)::bM) (⟨.int .i64 n,y,born⟩::es)
structure aph (F:aQ->Prop) (h:ai) (bM:List (Int × List D)) (v:V):Prop where
 ex:∃b es,v=.map b/\Old h b/\((∃clock,h.get b=.mp es clock)\/h.get b=.j4 es/\(bM.map Prod.fst).Nodup)/\Du F h bM es/\F b
section
variable {F:aQ->Prop} {h ab:ai} {bM:List (Int × List D)} {es:List cL} {v:V}
theorem Wy (k n:Int):oc.run (.int .i64 k) (.int .i64 n)=some (decide (k=n)):=by simp only [oc,V.eu,pY,cond_true,EC]
end
section
variable {h aD:ai}
end
def vo (h:ai) (b:aQ):Prop:=h.next<=cI b
section
variable {C:Ctx} (dE:C.P.follows .mixedOrders=true) (bJ:eT C.P) (iN:r5 C) {n:Nat} {f:FuncId} (aA:Nat.beq f dC=false) (ak:C.ext f=none) (kD:∃fn,C.P.funcs[f]? =some fn/\fn.body.isSome=true)
include dE bJ iN aA ak kD
end
end
end Go.Proofs.YthemdhlheglhoaaGreatDoor.a7
