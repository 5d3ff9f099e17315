/- The chapter's functions, walked by the abstract machine: plain lemmas, no condition. Printed by a program from longer texts: names made short. -/
import Derived.Test.YtgmhjhgoamjeeaaGreatDoorM16
import Derived.Test.YtgmhjhgoamjeeaaGreatDoorM17
set_option linter.unusedSectionVars false
set_option linter.unusedSimpArgs false
set_option linter.unusedVariables false
set_option maxHeartbeats 64000000
noncomputable section
namespace Go.Proofs.YtgmhjhgoamjeeaaGreatDoor
section
open Go aX
section
variable [Lay] {B:Nat} {G:aL->Prop} {h ab:ae} {X:aL->Prop}
inductive lB (B:Nat) (G:aL->Prop) (h:ae):(aL->Prop)->List (List aQ)->List V->Prop
 | nil {X:aL->Prop}:lB B G h X [] []
 | cons {X Y:aL->Prop} {bn:List aQ} {cf:List (List aQ)} {w:V} {ws:List V} (aH:eA B G h 5 (bn.map aQ.enc) w) (hw:∀b,w.aW b->X b/\¬Y b) (a6:∀b,Y b->X b) (jw:lB B G h Y cf ws):lB B G h X (bn::cf) (w::ws)
theorem lB.mod {M:aL->Prop} {cf:List (List aQ)} {ws:List V} (H:lB B G h X cf ws) (m:Mod M h ab) (aj:∀b,X b->¬M b) (dX:∀b,G b->Old h b->¬M b):lB B G ab X cf ws:=by
 induction H with
 | nil=>exact .nil
 | cons aH hw a6 jw bb=>exact .cons (aH.mod m (fun b q=>aj b (hw b q).1) fun b q o _=>dX b q o) hw a6 (bb fun b q=>aj b (a6 b q))
theorem lB.len {cf:List (List aQ)} {ws:List V} (H:lB B G h X cf ws):ws.length=cf.length:=by
 induction H with
 | nil=>rfl
 | cons aH hw a6 jw bb=>simp [bb]
theorem lB.snoc {cf:List (List aQ)} {ws:List V} (H:lB B G h X cf ws):lB B G h X (cf++[[]]) (ws++[.bg]):=by
 induction H with
 | nil=>exact .cons (Y:=fun _=>False) (eA.nil _ _ _ _) (fun b q=>q.elim) (fun b q=>q.elim) .nil
 | cons aH hw a6 jw bb=>exact .cons aH hw a6 bb
theorem lB.at {cf:List (List aQ)} {ws:List V} (H:lB B G h X cf ws) {j:Nat} (bp:j<cf.length):
 ∃(w:V) (Z:aL->Prop),ws[j]? =some w/\eA B G h 5 (cf[j].map aQ.enc) w/\(∀b,w.aW b->X b/\¬Z b)/\(∀b,Z b->X b)/\
  ∀(ab:ae) (M:aL->Prop),Mod M h ab->(∀b,Z b->¬M b)->(∀b,G b->Old h b->¬M b)->∀Ci w',eA B G ab 5 (List.map aQ.enc Ci) w'->(∀b,w'.aW b->¬Z b)->lB B G ab (fun b=>Z b\/w'.aW b) (cf.set j Ci) (ws.set j w'):=by
 induction H generalizing j with
 | nil=>simp at bp
 | @cons X Y bn cf w ws aH hw a6 jw bb=>
   cases j with
   | zero=>
     refine ⟨w,Y,rfl,aH,hw,a6,fun ab M m bk dX Ci w' o jo=>?_⟩;exact .cons o (fun b q=>⟨.inr q,jo b q⟩) (fun b q=>.inl q) (jw.mod m bk dX)
   | succ j=>
     simp only [apB] at bp;obtain ⟨ay,Z,aK,aS,bU,b9,dP⟩:=bb (j:=j) (by omega);refine ⟨ay,fun b=>Z b\/w.aW b,by simpa using aK,by simpa using aS,fun b q=>⟨a6 b (bU b q).1,fun z=>?_⟩,fun b q=>?_,fun ab M m bk dX Ci w' o jo=>?_⟩
     . rcases z with z | z
       . exact (bU b q).2 z
       . exact (hw b z).2 (bU b q).1
     . rcases q with q | q
       . exact a6 b (b9 b q)
       . exact (hw b q).1
     . have t:=dP ab M m (fun b q=>bk b (.inl q)) dX Ci w' o fun b q z=>jo b q (.inl z);refine .cons (aH.mod m (fun b q=>bk b (.inr q)) fun b q o _=>dX b q o) (fun b q=>⟨.inl (.inr q),fun z=>?_⟩) (fun b q=>?_) t
       . rcases z with z | z
         . exact (hw b q).2 (b9 b z)
         . exact jo b z (.inr q)
       . rcases q with q | q
         . exact .inl (.inl q)
         . exact .inr q
structure ny (B:Nat) (G:aL->Prop) (h:ae) (X:aL->Prop) (cf:List (List aQ)) (v:V):Prop where
 ex:∃(ws:List V) (Y:aL->Prop),dS B h 1 v cf.length ws/\(∀b,v.aW b->X b/\¬Y b)/\(∀b,Y b->X b)/\lB B G h Y cf ws
theorem ny.mod {M:aL->Prop} {cf:List (List aQ)} {v:V} (H:ny B G h X cf v) (m:Mod M h ab) (aj:∀b,X b->¬M b) (dX:∀b,G b->Old h b->¬M b):ny B G ab X cf v:=by obtain ⟨ws,Y,ak,al,aI,bB⟩:=H.ex;exact ⟨ws,Y,ak.mod m fun b q=>aj b (al b q).1,al,aI,bB.mod m (fun b q=>aj b (aI b q)) dX⟩
theorem ny.nil (B:Nat) (G:aL->Prop) (h:ae):ny B G h (fun _=>False) [] .bg:=⟨[],fun _=>False,⟨by simp,rfl⟩,fun b q=>q.elim,fun b q=>q,.nil⟩
variable {α:Type}
def du (s:c_):List (c_ × α)->Option α
 | []=>none
 | (n,a)::aN=>if s=n then some a else du s aN
def h5 (s:c_) (x:α):List (c_ × α)->List (c_ × α)
 | []=>[(s,x)]
 | (n,a)::aN=>if s=n then (s,x)::aN else (n,a)::h5 s x aN
inductive kl (B:Nat) (G:aL->Prop) (h:ae):(aL->Prop)->List (c_ × List (List aQ))->List (c_ × V)->Prop
 | nil {X:aL->Prop}:kl B G h X [] []
 | cons {X hh Y:aL->Prop} {aH:c_} {cf:List (List aQ)} {v:V} {st:List (c_ × List (List aQ))} {aN:List (c_ × V)} (o:ny B G h hh cf v) (aa:∀b,hh b->X b/\¬Y b) (a6:∀b,Y b->X b) (jw:kl B G h Y st aN):kl B G h X ((aH,cf)::st) ((aH,v)::aN)
theorem kl.mod {M:aL->Prop} {st:List (c_ × List (List aQ))} {aN:List (c_ × V)} (H:kl B G h X st aN) (m:Mod M h ab) (aj:∀b,X b->¬M b) (dX:∀b,G b->Old h b->¬M b):kl B G ab X st aN:=by
 induction H with
 | nil=>exact .nil
 | cons o aa a6 jw bb=>exact .cons (o.mod m (fun b q=>aj b (aa b q).1) dX) aa a6 (bb fun b q=>aj b (a6 b q))
theorem kl.ext {st:List (c_ × List (List aQ))} {aN:List (c_ × V)} (H:kl B G h X st aN) (e:Ext h ab):kl B G ab X st aN:=H.mod (e.mod fun _=>False) (fun _ _ f=>f) (fun _ _ _ f=>f)
theorem kl.lens {st:List (c_ × List (List aQ))} {aN:List (c_ × V)} (H:kl B G h X st aN) (aH:c_):
 ∃(hh Z:aL->Prop),ny B G h hh ((du aH st).getD []) ((d_ aH aN).getD .bg)/\(∀b,hh b->X b/\¬Z b)/\(∀b,Z b->X b)/\
  ∀(ab:ae) (M:aL->Prop),Mod M h ab->(∀b,Z b->¬M b)->(∀b,G b->Old h b->¬M b)->∀vj rz cd,ny B G ab vj rz cd->(∀b,vj b->¬Z b)->kl B G ab (fun b=>Z b\/vj b) (h5 aH rz st) (jP aH cd aN):=by
 induction H with
 | nil=>exact ⟨fun _=>False,fun _=>False,ny.nil _ _ _,fun b q=>q.elim,fun b q=>q.elim,fun ab M m bk dX vj rz cd o aj=>.cons (Y:=fun _=>False) o (fun b q=>⟨.inr q,fun f=>f⟩) (fun b q=>q.elim) .nil⟩
 | @cons X hh Y n cf v st aN o aa a6 jw bb=>
   by_cases c:aH=n
   . subst c;simp only [du,d_,ap3,apX,h5,jP];exact ⟨hh,Y,o,aa,a6,fun ab M m bk dX vj rz cd b2 aj=>.cons b2 (fun b q=>⟨.inr q,aj b q⟩) (fun b q=>.inl q) (jw.mod m bk dX)⟩
   . simp only [du,d_,apw c,h5,jP];obtain ⟨r5,Z,aK,aS,bU,b9⟩:=bb;refine ⟨r5,fun b=>Z b\/hh b,aK,fun b q=>⟨a6 b (aS b q).1,fun z=>?_⟩,fun b q=>?_,fun ab M m bk dX vj rz cd b2 aj=>?_⟩
     . rcases z with z | z
       . exact (aS b q).2 z
       . exact (aa b z).2 (aS b q).1
     . rcases q with q | q
       . exact a6 b (bU b q)
       . exact (aa b q).1
     . have t:=b9 ab M m (fun b q=>bk b (.inl q)) dX vj rz cd b2 fun b q z=>aj b q (.inl z);refine .cons (o.mod m (fun b q=>bk b (.inr q)) dX) (fun b q=>⟨.inl (.inr q),fun z=>?_⟩) (fun b q=>?_) t
       . rcases z with z | z
         . exact (aa b q).2 (bU b z)
         . exact aj b z (.inr q)
       . rcases q with q | q
         . exact .inl (.inl q)
         . exact .inr q
theorem kl.mem {st:List (c_ × List (List aQ))} {aN:List (c_ × V)} (H:kl B G h X st aN):(∀p ∈ aN,∃cf hh,(p.1,cf) ∈ st/\ny B G h hh cf p.2/\∀b,hh b->X b)/\∀q ∈ st,∃v,(q.1,v) ∈ aN/\∃hh,ny B G h hh q.2 v:=by
 induction H with
 | nil=>exact ⟨fun p af=>(by cases af),fun q az=>(by cases az)⟩
 | @cons X hh Y n cf v st aN o aa a6 jw bb=>
   refine ⟨fun p af=>?_,fun q az=>?_⟩
   . rcases apJ.1 af with rfl | af
     . exact ⟨cf,hh,aqb,o,fun b z=>(aa b z).1⟩
     . obtain ⟨rz,r5,a,b,c⟩:=bb.1 p af;exact ⟨rz,r5,apZ _ a,b,fun x z=>a6 x (c x z)⟩
   . rcases apJ.1 az with rfl | az
     . exact ⟨v,aqb,hh,o⟩
     . obtain ⟨cd,a,b⟩:=bb.2 q az;exact ⟨cd,apZ _ a,b⟩
end
theorem wH {α:Type} (s:c_) (x:α) (t:c_):∀aN:List (c_ × α),du t (h5 s x aN)=if t=s then some x else du t aN
 | []=>by simp only [h5,du]
 | (n,a)::aN=>by
   simp only [h5];by_cases q:s=n
   . subst q;simp only [ap3,du]
     split<;>rfl
   . rw [apw q];simp only [du,wH s x t aN];by_cases r:t=n
     . rw [apz r,apw (fun z=>q (z.symm.trans r)),apz r]
     . rw [apw r,apw r]
theorem Ui {α:Type} (s:c_) (x:α):∀aN:List (c_ × α),(h5 s x aN).map Prod.fst=if s ∈ aN.map Prod.fst then aN.map Prod.fst else aN.map Prod.fst++[s]
 | []=>by simp [h5]
 | (n,a)::aN=>by
   simp only [h5];by_cases q:s=n
   . subst q;simp
   . rw [apw q,aqu,Ui s x aN,aqu];simp only [apJ,q,false_or]
     split<;>simp
theorem BU {α:Type} {s:c_} {x:α}:∀{aN:List (c_ × α)},(aN.map Prod.fst).Nodup->((s,x) ∈ aN↔du s aN=some x)
 | [],_=>by simp [du]
 | (n,a)::aN,aV=>by
   simp only [aqu,aro] at aV;simp only [apJ,aqD,du];by_cases q:s=n
   . subst q;simp only [arj,ap3,aps];refine ⟨fun z=>?_,fun z=>.inl z.symm⟩;rcases z with z | z
     . exact z.symm
     . exact absurd (List.mem_map_of_mem (f:=Prod.fst) z) aV.1
   . rw [apw q];simp only [q,arI,false_or];exact BU aV.2
def qs (cf:List (List aQ)) (l:List aQ):List (List aQ):=List.zipWith (fun bn x=>bn++[x]) cf l
def Dh (st:List (c_ × List (List aQ))) (q:aQ):List (c_ × List (List aQ)):=if q.l=[] then st else h5 (fs q) (qs ((du (fs q) st).getD (q.l.map fun _=>[])) q.l) st
structure qE (s:List aQ) (st:List (c_ × List (List aQ))):Prop where
 wM:(st.map Prod.fst).Nodup
 el:∀aH cf,du aH st=some cf->(cf.length:Int)=aH.2.2.2/\(∃q ∈ s,fs q=aH/\q.l≠[])/\∀j (bp:j<cf.length),cf[j]=gO s aH j
 Di:∀q ∈ s,q.l≠[]->∃cf,du (fs q) st=some cf
theorem Lf (s:List aQ) (q:aQ) (aH:c_) (j:Nat):gO (s++[q]) aH j=gO s aH j++(if fs q=aH then (match q.l[j]? with
 | some x=>[x]
 | none=>[]) else []):=by
 unfold gO;rw [List.filter_append,List.filterMap_append];congr 1;by_cases c:fs q=aH
 . simp only [arf,c,aq3,ap3,List.filter_nil];cases az:q.l[j]? <;>simp [az]
 . simp [c]
theorem akv {s:List aQ} {aH:c_} {j:Nat} (h:∀q ∈ s,fs q=aH->q.l=[]):gO s aH j=[]:=by unfold gO;rw [List.filterMap_eq_nil_iff];intro q az;rw [arn,apF] at az;rw [h q az.1 az.2];rfl
theorem qE.nil:qE [] []:=⟨by simp,fun aH cf h=>(by cases h),fun q az=>(by cases az)⟩
theorem qE.add {s:List aQ} {st:List (c_ × List (List aQ))} (H:qE s st) (q:aQ):qE (s++[q]) (Dh st q):=by
 unfold Dh;by_cases az:q.l=[]
 . rw [apz az];refine ⟨H.wM,fun aH cf h=>?_,fun x aj c4=>?_⟩
   . obtain ⟨a,⟨y,b,c,d⟩,e⟩:=H.el aH cf h;refine ⟨a,⟨y,List.mem_append_left _ b,c,d⟩,fun j bp=>?_⟩;rw [e j bp,Lf,az];simp
   . rcases aqR.1 aj with aj | aj
     . exact H.Di x aj c4
     . rw [aqp] at aj;subst aj;exact absurd az c4
 . rw [apw az];have hold:∀Ck,(du (fs q) st).getD (q.l.map fun _=>[])=Ck->Ck.length=q.l.length/\∀j (bp:j<Ck.length),Ck[j]=gO s (fs q) j:=by
    intro Ck e;cases aA:du (fs q) st with
    | some p=>
      rw [aA,apX] at e;subst e;obtain ⟨a,_,c⟩:=H.el _ _ aA;exact ⟨by simp only [fs] at a;omega,c⟩
    | none=>
      rw [aA,Option.getD_none] at e;subst e;refine ⟨by simp,fun j bp=>?_⟩;rw [aq4,akv];intro x aj a';by_cases bk:x.l=[]
      . exact bk
      . obtain ⟨cf,e⟩:=H.Di x aj bk;rw [a',aA] at e;cases e
   obtain ⟨hlen,db⟩:=hold _ rfl;refine ⟨?_,fun aH cf h=>?_,fun x aj c4=>?_⟩
   . rw [Ui]
     split
     . exact H.wM
     . rename_i hm;rw [arA];refine ⟨H.wM,by simp,fun a bt b ah=>?_⟩;rw [aqp] at ah;rw [ah];exact fun z=>hm (z ▸ bt)
   . rw [wH] at h;by_cases c:aH=fs q
     . subst c;rw [apz rfl,aps] at h;subst h;have kB:(qs ((du (fs q) st).getD (q.l.map fun _=>[])) q.l).length=q.l.length:=by unfold qs;rw [art,hlen,Nat.min_self]
       refine ⟨by rw [kB];rfl,⟨q,List.mem_append_right _ (aqp.2 rfl),rfl,az⟩,fun j bp=>?_⟩;rw [Lf,apz rfl];have Ji:j<q.l.length:=by omega
       have e:(qs ((du (fs q) st).getD (q.l.map fun _=>[])) q.l)[j]=((du (fs q) st).getD (q.l.map fun _=>[]))[j]'(by omega)++[q.l[j]]:=by simp only [qs,List.getElem_zipWith]
       rw [e,db j (by omega),apr Ji]
     . rw [apw c] at h;obtain ⟨a,⟨y,b,d,e⟩,f⟩:=H.el aH cf h;refine ⟨a,⟨y,List.mem_append_left _ b,d,e⟩,fun j bp=>?_⟩;rw [f j bp,Lf,apw (fun z=>c z.symm)];simp
   . by_cases c:fs x=fs q
     . exact ⟨_,by rw [wH,apz c]⟩
     . rcases aqR.1 aj with aj | aj
       . obtain ⟨cf,e⟩:=H.Di x aj c4;exact ⟨cf,by rw [wH,apw c];exact e⟩
       . rw [aqp] at aj;subst aj;exact absurd rfl c
theorem qE.all {s:List aQ} {st:List (c_ × List (List aQ))} (H:qE s st) (f:List aQ->Bool):(st.all fun x=>x.2.all f)=s.all fun q=>(List.range q.l.length).all fun i=>f (gO s (fs q) i):=by
 rw [aqm];simp only [apU,aqQ];constructor
 . intro h q az i ax;obtain ⟨cf,e⟩:=H.Di q az (by intro z;rw [z] at ax;simp at ax);obtain ⟨a,_,c⟩:=H.el _ _ e;have hlen:cf.length=q.l.length:=by simp only [fs] at a;omega
   rw [<-c i (by omega)];exact h _ ((BU H.wM).2 e) _ (ap1 _)
 . rintro h ⟨aH,cf⟩ aj bn hq;obtain ⟨a,⟨q,b,c,d⟩,e⟩:=H.el _ _ ((BU H.wM).1 aj);obtain ⟨j,bp,rfl⟩:=aru hq;rw [e j bp,<-c];refine h q b j ?_;rw [<-c] at a;simp only [fs] at a bp;omega
theorem kl.keys [Lay] {B:Nat} {G:aL->Prop} {h:ae} {X:aL->Prop} {st:List (c_ × List (List aQ))} {aN:List (c_ × V)} (H:kl B G h X st aN) (aH:c_):(du aH st).isSome=(d_ aH aN).isSome:=by
 induction H with
 | nil=>rfl
 | @cons X hh Y n cf v st aN o aa a6 jw bb=>
   simp only [du,d_]
   split
   . rfl
   . exact bb
theorem Uj {κ:Type} [DecidableEq κ] {s:κ} {x:V}:∀{aN:List (κ × V)},d_ s aN=some x->jP s x aN=aN
 | [],h=>by cases h
 | (n,a)::aN,h=>by
   simp only [d_] at h;simp only [jP];by_cases q:s=n
   . rw [apz q,aps] at h;rw [apz q,h,q]
   . rw [apw q] at h ⊢;rw [Uj h]
section
variable [Lay]
structure gT (B:Nat) (G E:aL->Prop) (g:ae) (m:Nat) (st:List (c_ × List (List aQ))) (aN:List (c_ × V)):Prop where
 ex:∃X:aL->Prop,kl B G g X st aN/\(∀b,X b->Old g b/\B<=bX b/\¬E b)/\gS j3 g (aw m) aN
 em:E (aw m)
variable {B:Nat} {G E:aL->Prop} {g:ae} {m:Nat} {st:List (c_ × List (List aQ))} {aN:List (c_ × V)}
theorem gT.ext {dM:ae} (S:gT B G E g m st aN) (e:Ext g dM):gT B G E dM m st aN:=by obtain ⟨X,ak,al,aI⟩:=S.ex;exact ⟨⟨X,ak.ext e,fun b z=>⟨e.bG (al b z).1,(al b z).2⟩,aI.ext e⟩,S.em⟩
theorem gT.nil {E:aL->Prop} {g:ae} (hm:E (aw m)) (H:gS j3 g (aw m) []):gT B G E g m [] []:=⟨⟨fun _=>False,.nil,fun b z=>z.elim,H⟩,hm⟩
theorem gT.more {ar:aL->Prop} (S:gT B G E g m st aN) (h:∀b,ar b->E b\/¬Old g b) (hm:ar (aw m)):gT B G ar g m st aN:=by
 obtain ⟨X,ak,al,aI⟩:=S.ex;refine ⟨⟨X,ak,fun b z=>⟨(al b z).1,(al b z).2.1,fun w=>?_⟩,aI⟩,hm⟩;rcases h b w with w | w
 . exact (al b z).2.2 w
 . exact w (al b z).1
theorem gT.look (S:gT B G E g m st aN) (aH:c_):ha (structEq Tryz.prog 111) .bg false g (.map (aw m)) (j3 aH)=some ((d_ aH aN).getD .bg):=by obtain ⟨X,ak,al,aI⟩:=S.ex;rw [aI.look I0];cases d_ aH aN<;>rfl
theorem gT.len (S:gT B G E g m st aN) (aH:c_):hJ ((d_ aH aN).getD .bg)=some (.int .i64 ((du aH st).getD []).length)/\((d_ aH aN).getD .bg).one=true/\((d_ aH aN).getD .bg).cells=[(d_ aH aN).getD .bg]:=by obtain ⟨X,ak,al,aI⟩:=S.ex;obtain ⟨hh,Z,o,_⟩:=ak.lens aH;obtain ⟨ws,Y,a,_⟩:=o.ex;exact ⟨a.v.len,a.v.one.1,a.v.one.2.1⟩
theorem gT.push (S:gT B G E g m st aN) (cD:B<=g.next) (dX:∀b,G b->bX b<B) (iy:∀b,E b->Old g b) (sB:B<=m) (aH:c_) (hlen:((du aH st).getD []).length+1<=top):
 ∃g1 g2 c g3 w' g4,g.new (.bQ [.bg] 0 false)=g1/\Ext g g1/\xX Tryz.prog 111 .bg (.map (aw m)) (j3 aH) g1=.val (.tuple [(d_ aH aN).getD .bg,.int .i64 (c:Nat)]) g2/\
  jZ 1 ((d_ aH aN).getD .bg) (.slice (aw g.next) 0 1 1) g2=.val w' g3/\qP g3 (.map (aw m)) (.int .i64 (c:Nat)) w'=some g4/\
  gT B G E g4 m (h5 aH ((du aH st).getD []++[[]]) st) (jP aH w' aN)/\Mod (fun b=>B<=bX b/\(¬E b\/b=aw m)) g g4:=by
 obtain ⟨X,ak,al,aI⟩:=S.ex;obtain ⟨g1,bD,a2,a3⟩:=Fm g 1 1 [.bg] rfl (by unfold top;simp);have Hj:=ak.ext a2;have tA:=aI.ext a2;obtain ⟨hh,Z,o,gA,bk,L_⟩:=Hj.lens aH;obtain ⟨c,g2,b8,cg,eM,jE⟩:=tA.entry I0 aH .bg;have tX:∀b,X b->¬b=aw m:=fun b z w=>(al b z).2.2 (w ▸ S.em);have Tz:∀b,G b->Old g1 b->¬b=aw m:=fun b z _ w=>by have:=dX b z;rw [w,c1] at this;omega
 have ck:=o.mod cg (fun b z=>tX b (gA b z).1) Tz;obtain ⟨ws,Y,s1,s2,lu,n_⟩:=ck.ex;have kv:¬aw g.next=aw m:=fun w=>by have:=iy _ S.em;rw [<-w] at this;unfold Old at this;rw [c1] at this;omega
 have di:=a2.next
 obtain ⟨w',g3,d1,d2,d3,d4⟩:=Hy (x:=.slice (aw g.next) 0 1 1) (m:=1) (by omega) s1 ((a3.v.mod cg (fun b z=>by rw [show b=aw g.next from z];exact kv))) (by rw [eM];omega) (by omega) rfl;have R':∀b,((d_ aH aN).getD V.bg).aW b->¬b=aw m:=fun b z=>tX b (gA b (s2 b z).1).1;have Ef:g3.get (aw m)=g2.get (aw m):=by
  have aU:Old g2 (aw m):=by have:=tA.bG;unfold Old at this ⊢;rw [eM];exact this
  exact d3.get _ aU fun z=>R' _ z rfl
 have TR:Old g3 (aw m):=by have:=tA.bG;have:=d3.next;unfold Old at *;omega
 obtain ⟨g4,aK,aS,bU,b9⟩:=jE g3 Ef TR w';have ajJ:∀b,Old g2 b↔Old g1 b:=fun b=>by unfold Old;rw [eM]
 have WH:Mod (fun b=>b=aw m\/((d_ aH aN).getD V.bg).aW b) g1 g3:=(cg.mono fun b _ z=>.inl z).trans (d3.mono fun b _ z=>.inr z);have Hb:Mod (fun b=>b=aw m\/((d_ aH aN).getD V.bg).aW b) g1 g4:=WH.trans (bU.mono fun b _ z=>.inl z);have eP:∀b,Z b->¬(b=aw m\/((d_ aH aN).getD V.bg).aW b):=fun b z w=>by
  rcases w with w | w
  . exact tX b (bk b z) w
  . exact (gA b (s2 b w).1).2 z
 have IH:∀b,G b->Old g1 b->¬(b=aw m\/((d_ aH aN).getD V.bg).aW b):=fun b z o w=>by
  rcases w with w | w
  . exact Tz b z o w
  . have:=dX b z;have:=(al b (gA b (s2 b w).1).1).2.1;omega
 have jo:∀b,w'.aW b->(((d_ aH aN).getD V.bg).aW b\/g1.next<=bX b):=fun b z=>by
  rcases d4 b z with z | z
  . exact .inl z
  . exact .inr (by rw [eM] at z;exact z)
 have ac9:∀b,Y b->Old g1 b:=fun b z=>a2.bG (al b (gA b (lu b z)).1).1;have KX:ny B G g4 (fun b=>hh b\/w'.aW b) ((du aH st).getD []++[[]]) w':=by
  refine ⟨ws++[.bg],Y,?_,fun b z=>⟨.inr z,fun y=>?_⟩,fun b z=>.inl (lu b z),?_⟩
  . rw [apD,ark];exact d2.mod bU fun b z w=>by
     rcases jo b z with z | z
     . exact R' b z w
     . have:=tA.bG;rw [<-show b=aw m from w] at this;unfold Old at this;omega
  . rcases jo b z with z | z
    . exact (s2 b z).2 y
    . have:=ac9 b y;unfold Old at this;omega
  . have t:=n_.mod (d3.mono fun b _ z=>.inr z) (M:=fun b=>b=aw m\/((d_ aH aN).getD V.bg).aW b) (fun b z w=>?_) (fun b z o w=>IH b z ((ajJ b).1 o) w)
    . have t2:=t.mod (bU.mono fun b _ z=>.inl z) (M:=fun b=>b=aw m\/((d_ aH aN).getD V.bg).aW b) (fun b z w=>?_) (fun b z o w=>IH b z (by have:=dX b z;unfold Old;omega) w)
      . exact t2.snoc
      . rcases w with w | w
        . exact tX b (gA b (lu b z)).1 w
        . exact (s2 b w).2 z
    . rcases w with w | w
      . exact tX b (gA b (lu b z)).1 w
      . exact (s2 b w).2 z
 have fin:=L_ g4 _ Hb eP IH _ _ w' KX (fun b z w=>by
  rcases z with z | z
  . exact (gA b z).2 w
  . rcases jo b z with z | z
    . exact (gA b (s2 b z).1).2 w
    . have:=a2.bG (al b (bk b w)).1;unfold Old at this;omega)
 refine ⟨g1,g2,c,g3,w',g4,bD,a2,?_,d1,aK,⟨⟨_,fin,fun b z=>?_,aS⟩,S.em⟩,?_⟩
 . simp only [xX,Rk,apu,b8]
 . have eR:X b->Old g4 b/\B<=bX b/\¬E b:=fun z=>⟨Hb.bG (a2.bG (al b z).1),(al b z).2⟩;rcases z with z | z | z
   . exact eR (bk b z)
   . exact eR (gA b z).1
   . rcases jo b z with w | w
     . exact eR (gA b (s2 b w).1).1
     . have kK:Old g3 b:=d2.v.bG z;refine ⟨by unfold Old at kK ⊢;rw [b9];exact kK,by omega,fun y=>?_⟩;have:=iy b y;unfold Old at this;omega
 . refine (a2.mod _).trans (Hb.mono fun b _ z=>?_);rcases z with z | z
   . exact ⟨by rw [z,c1];exact sB,.inr z⟩
   . exact ⟨(al b (gA b (s2 b z).1).1).2.1,.inl (al b (gA b (s2 b z).1).1).2.2⟩
theorem gT.put (S:gT B G E g m st aN) (cD:B<=g.next) (dX:∀b,G b->bX b<B) (iy:∀b,E b->Old g b) (sB:B<=m) (aH:c_) {j:Nat} (bp:j < ((du aH st).getD []).length) {x:aQ} {cs:List V} (C:bN G g x.enc cs) (ic:cs.length=5) (hlen:(((du aH st).getD [])[j].length+1) * 5<=top):
 ∃b off w g1 w' g2 g3,fK 1 ((d_ aH aN).getD .bg) (.int .i64 j)=some (.ptr b (off+j))/\fZ (g.get b) (off+j)=some w/\g.new (.bQ cs 0 false)=g1/\Ext g g1/\fZ (g1.get b) (off+j)=some w/\
  jZ 5 w (.slice (aw g.next) 0 1 1) g1=.val w' g2/\(w'.one=true/\w'.cells=[w'])/\m' 1 g2 b (off+j) w' (g2.get b)=some g3/\
  (∀aH,ha (structEq Tryz.prog 111) .bg false g2 (.map (aw m)) (j3 aH)=some ((d_ aH aN).getD .bg))/\
  Mod (fun b=>B<=bX b/\¬E b) g g2/\
  gT B G E g3 m (h5 aH (((du aH st).getD []).set j (((du aH st).getD [])[j]++[x])) st) aN/\Mod (fun b=>B<=bX b/\¬E b) g g3:=by
 obtain ⟨X,ak,al,aI⟩:=S.ex;have aB:=ak.keys aH;obtain ⟨hh,Z,o,gA,bk,L_⟩:=ak.lens aH;obtain ⟨ws,Y,s1,s2,lu,n_⟩:=o.ex;have p1:ws.length=((du aH st).getD []).length:=by have:=s1.1;omega
 obtain ⟨w,xG,t1,t2,t3,t4,am1⟩:=n_.at bp;have EZ:ws[j]'(by omega)=w:=by have:=apr (l:=ws) (i:=j) (by omega);rw [t1] at this;exact (aqB this).symm
 obtain ⟨b,off,bD,a2,a3⟩:=s1.v.jI (k:=.i64) bp;have fI:=Nr s1.v bp bD;rw [arC] at bD;have bG:∀b,X b->Old g b:=fun b z=>(al b z).1;have tX:∀b,X b->¬b=aw m:=fun b z w=>(al b z).2.2 (w ▸ S.em);have j':=a2.dJ (i:=j) (by omega);rw [EZ] at j';have aK:Ext g (g.new (.bQ cs 0 false)):=(Ext.refl g).new _;have eX:=(a2.ext aK).dJ (i:=j) (by omega);rw [EZ] at eX;have CB:∀c,w.aW c->X c:=fun c z=>(gA c (lu c (t3 c z).1)).1;obtain ⟨w',g2,bK,bR,c3,hU,c5⟩:=t2.add (ds:=x.enc) (cs:=cs) (C.gR fun b z=>⟨z,fun y=>by have:=dX b z;have:=(al b (CB b y)).2.1;omega⟩) (by omega) cD (by rw [apG];exact hlen) ic;have aS:∀c,w'.aW c->w.aW c\/g.next<bX c:=c5
 have outer:∀c,((d_ aH aN).getD V.bg).aW c->¬w.aW c:=fun c z y=>(s2 c z).2 (t3 c y).1;have alz:=s1.mod c3 outer;have fN:g2.get b=g.get b:=c3.get b (bG b (gA b (s2 b a3).1).1) (outer b a3);obtain ⟨k,d1,_,d2,_⟩:=alz.Ut fI (c:=j) (by omega) (y:=w') bR.one.2.1 bR.one.1;have rV:Mod (fun c=>w.aW c\/c=b) g g2:=c3.mono fun c _ z=>.inl z;have M2:Mod (fun c=>w.aW c\/c=b) g (g2.set b k):=rV.set (fun _=>.inr rfl) k;have Ds:X b:=(gA b (s2 b a3).1).1;have Ra:∀c,(w.aW c\/c=b)->X c:=fun c z=>by
  rcases z with z | z
  . exact CB c z
  . rw [z];exact Ds
 have Q_:∀c,G c->Old g c->¬(w.aW c\/c=b):=fun c z _ y=>by have:=dX c z;have:=(al c (Ra c y)).2.1;omega
 have eP:∀c,Z c->¬(w.aW c\/c=b):=fun c z y=>by
  rcases y with y | y
  . exact (gA c (lu c (t3 c y).1)).2 z
  . exact (gA c (y ▸ (s2 b a3).1)).2 z
 have jo:∀c,w'.aW c->w.aW c\/¬Old g c:=fun c z=>(aS c z).imp_right fun q o=>by unfold Old at o;omega
 have ae1:∀c,w'.aW c->¬c=b:=fun c z y=>by
  rcases jo c z with q | q
  . exact outer b a3 (y ▸ q)
  . exact q (y ▸ bG b Ds)
 have inner:lB B G (g2.set b k) (fun c=>xG c\/w'.aW c) (((du aH st).getD []).set j (((du aH st).getD [])[j]++[x])) (ws.set j w'):=by
  refine am1 _ _ M2 (fun c z y=>?_) Q_ _ w' ?_ fun c z y=>?_
  . rcases y with y | y
    . exact (t3 c y).2 z
    . exact (s2 b a3).2 (t4 b (y ▸ z))
  . rw [arl];exact bR.mod ((Mod.refl (fun c=>c=b) g2).set (fun _=>rfl) k) ae1 fun c z _ _ y=>by have:=dX c z;have:=(al b Ds).2.1;rw [y] at *;omega
  . rcases jo c z with q | q
    . exact (t3 c q).2 y
    . exact q (bG c (gA c (lu c (t4 c y))).1)
 have KX:ny B G (g2.set b k) (fun c=>hh c\/w'.aW c) (((du aH st).getD []).set j (((du aH st).getD [])[j]++[x])) ((d_ aH aN).getD .bg):=by
  refine ⟨ws.set j w',fun c=>xG c\/w'.aW c,?_,fun c z=>⟨.inl (s2 c z).1,fun y=>?_⟩,fun c z=>?_,inner⟩
  . rw [aq_];exact d2
  . rcases y with y | y
    . exact (s2 c z).2 (t4 c y)
    . rcases jo c y with q | q
      . exact outer c z q
      . exact q (bG c (gA c (s2 c z).1).1)
  . rcases z with z | z
    . exact .inl (lu c (t4 c z))
    . exact .inr z
 have fin:=L_ _ _ M2 eP Q_ _ _ _ KX fun c z y=>by
  rcases z with z | z
  . exact (gA c z).2 y
  . rcases jo c z with q | q
    . exact (gA c (lu c (t3 c q).1)).2 y
    . exact q (bG c (bk c y))
 have Jm:jP aH ((d_ aH aN).getD .bg) aN=aN:=by
  cases aA:d_ aH aN with
  | some v=>rw [apX];exact Uj aA
  | none=>
    rw [aA] at aB;cases kB:du aH st with
    | some p=>rw [kB] at aB;cases aB
    | none=>rw [kB] at bp;simp at bp
 rw [Jm] at fin;have ML:=aI.mod c3 fun z=>tX _ (CB _ z) rfl;have Yo:¬aw m=b:=fun z=>tX b Ds z.symm;refine ⟨b,off,w,_,w',g2,_,bD,j',rfl,aK,eX,bK,⟨bR.one.1,bR.one.2.1⟩,d1,fun Ey=>?_,c3.mono fun c _ z=>(al c (CB c z)).2,⟨⟨_,fin,fun c z=>?_,ML.mod ((Mod.refl (fun c=>c=b) g2).set (fun _=>rfl) k) Yo⟩,S.em⟩,M2.mono fun c _ z=>(al c (Ra c z)).2⟩
 . rw [ML.look I0];cases d_ Ey aN<;>rfl
 . have eR:X c->Old (g2.set b k) c/\B<=bX c/\¬E c:=fun z=>⟨M2.bG (bG c z),(al c z).2⟩;rcases z with z | z | z
   . exact eR (bk c z)
   . exact eR (gA c z).1
   . rcases jo c z with q | q
     . exact eR (CB c q)
     . have kK:Old g2 c:=bR.ru z;refine ⟨by unfold Old at kK ⊢;rw [nd];exact kK,?_,fun y=>q (iy c y)⟩;unfold Old at q;omega
end
theorem ed {A B:Prop}:cO.normal.andThen A B=A:=(rfl)
theorem gU {A B:Prop}:cO.ret.andThen A B=B:=(rfl)
theorem vn {i:Nat} {A B:Prop}:(cO.exit i).andThen A B=B:=(rfl)
theorem l4 [Lay] {P:Program} {a b:a1} {r:bc} {h:ae} {Q:cO->bc->ae->Prop} (J:bc->ae->Prop) (aV:a.lR=true) (H:e7 P a r h fun e a_ ab=>e.andThen (J a_ ab) (Q e a_ ab)) (K:∀a_ ab,J a_ ab->fa P b a_ ab Q):fa P (.seq a b) r h Q:=
 Ib a aV (fun e a_ ab q=>Ag (K a_ ab) (fun q=>q) q) H
theorem Ic [Lay] {P:Program} {a b:a1} {r:bc} {h:ae} {Q:cO->bc->ae->Prop}:fa P (.seq a b) r h Q=fa P a r h fun e a_ ab=>e.andThen (fa P b a_ ab Q) (Q e a_ ab):=by simp only [fa]
theorem Ia [Lay] {P:Program} {id:Nat} {b:a1} {r:bc} {h:ae} {Q:cO->bc->ae->Prop}:fa P (.block id b) r h Q=fa P b r h fun e a_ ab=>Q (e.leave id) a_ ab:=by simp only [fa]
theorem PW [Lay] {P:Program} {b:a1} {r:bc} {h:ae} {Q:cO->bc->ae->Prop} (I:bc->ae->Prop) (μ:bc->ae->Nat) (aY:I r h) (aC:∀r h,I r h->fa P b r h fun e a_ ab=>e.andThen (I a_ ab/\μ a_ ab<μ r h) (Q e a_ ab)):fa P (.loop b) r h Q:=by simp only [fa];exact ⟨I,μ,aY,aC⟩
theorem PX [Lay] {P:Program} {d t:Nat} {os:List bw} {b:a1} {r:bc} {h:ae} {Q:cO->bc->ae->Prop} (H:C9 (r t) h fun v ab=>fa P (.seq (.au os) b) (r.set (some d) v) ab Q):fa P (.seq (.au (⟨some d,.lS (.t t),none,[t]⟩::os)) b) r h Q:=by
 have e:(aT.t t).aP (r.trim [t])=r t:=by simp [aT.aP,bc.trim]
 simp only [fa] at H;simp only [fa,xT,bw.sl];rw [e];exact H
def Gc {κ:Type} (aN:List (κ × V)) (b:aL) (it:Nat) (g:ae):Nat:=match g.get b,g.get (aw it) with
 | .mp es _,.gD _ _ seen _=>(gC seen aN es).length
 | _,_=>0
theorem Gb [Lay] {κ:Type} {dy:κ->V} {aN hK:List (κ × V)} {b:aL} {it:Nat} {g:ae} (R:nB dy g b it aN hK):Gc aN b it g=hK.length:=by obtain ⟨es,clock,seen,ak,al,aI,bB,cG⟩:=R.ex;simp only [Gc,ak,bB,cG]
def yL (m:Nat) (aH:c_) (g:ae):Nat:=match ha (structEq Tryz.prog 111) .bg false g (.map (aw m)) (j3 aH) with
 | some w=>(match hJ w with
   | some (.int _ i)=>i.toNat
   | _=>0)
 | none=>0
theorem gT.yL [Lay] {B:Nat} {G E:aL->Prop} {g:ae} {m:Nat} {st:List (c_ × List (List aQ))} {aN:List (c_ × V)} (S:gT B G E g m st aN) (aH:c_):Go.Proofs.YtgmhjhgoamjeeaaGreatDoor.yL m aH g=((du aH st).getD []).length:=by simp only [Go.Proofs.YtgmhjhgoamjeeaaGreatDoor.yL,S.look aH,(S.len aH).1,apx]
def nY (cur:List (List aQ)) (l:List aQ) (j:Nat):List (List aQ):=qs (cur.take j) (l.take j)++cur.drop j
theorem Tm {cur:List (List aQ)} {l:List aQ} {j:Nat} (h:cur.length=l.length):(nY cur l j).length=l.length:=by unfold nY qs;simp only [apD,art,ap4,aqa];omega
theorem aiZ {cur:List (List aQ)} {l:List aQ} {j:Nat} (h:cur.length=l.length) (bp:j<l.length):(nY cur l j)[j]'(by rw [Tm h];exact bp)=cur[j]'(by omega):=by
 unfold nY qs;have aA:(List.zipWith (fun bn x=>bn++[x]) (cur.take j) (l.take j)).length=j:=by simp only [art,ap4];omega
 rw [List.getElem_append_right (by omega)];simp only [aA,aq7,List.getElem_drop,aqC]
theorem ai0 {cur:List (List aQ)} {l:List aQ} {j:Nat} (h:cur.length=l.length) (bp:j<l.length):(nY cur l j).set j (cur[j]'(by omega)++[l[j]])=nY cur l (j+1):=by
 have RA:j<cur.length:=by omega
 unfold nY qs;have aA:(List.zipWith (fun bn x=>bn++[x]) (cur.take j) (l.take j)).length=j:=by simp only [art,ap4];omega
 rw [List.set_append_right _ _ (by omega),aA,aq7,ap0 RA,List.set_cons_zero,aqd RA,aqd bp,List.zipWith_append (by simp only [ap4];omega)];simp
theorem aiY {cur:List (List aQ)} {l:List aQ} (h:cur.length=l.length):nY cur l l.length=qs cur l:=by unfold nY;rw [aqX,<-h,aqX,are,aqF]
theorem Lm {α:Type} (s:c_) (x y:α):∀aN:List (c_ × α),h5 s y (h5 s x aN)=h5 s y aN
 | []=>by simp [h5]
 | (n,a)::aN=>by
   simp only [h5];by_cases q:s=n
   . subst q;simp [h5]
   . simp only [apw q,h5,Lm s x y aN]
theorem aku (s:List aQ) (aH:c_) (j:Nat):(gO s aH j).length<=s.length:=by unfold gO;exact aqo (List.length_filterMap_le _ _) (List.length_filter_le _ _)
theorem Vk (l:List aQ) (p:aQ):iq (l++[p])=if ob p=true then iq l else iq l++[p]:=by unfold iq;rw [List.filter_append];cases h:ob p<;>simp [h]
theorem Vj:∀l:List aQ,cA (iq l)<=cA l
 | []=>apv _
 | p::l=>by
   have:=Vj l;unfold iq at this ⊢;rw [arf,cA]
   split
   . rw [cA];omega
   . omega
theorem akw {aH:c_} {j:Nat}:∀s:List aQ,s≠[]->cA (gO s aH j)<cA s/\True
 | [],h=>absurd rfl h
 | q::s,_=>by
   refine ⟨?_,trivial⟩;have key:∀s:List aQ,cA (gO s aH j)<=cA s:=by
    intro s
    induction s with
    | nil=>exact apv _
    | cons q s bb=>
      have e:gO (q::s) aH j=(if fs q=aH then (match q.l[j]? with
       | some x=>[x]
       | none=>[]) else [])++gO s aH j:=by
       unfold gO;by_cases c:fs q=aH
       . simp only [arf,c,aq3,ap3];cases az:q.l[j]? <;>simp [az]
       . simp [c]
      rw [e,Cj,cA]
      have:cA (if fs q=aH then (match q.l[j]? with
       | some x=>[x]
       | none=>[]) else [])<=q.size:=by
       split
       . cases az:q.l[j]? with
         | none=>simp [cA]
         | some x=>
           have:=za (apY az);simp only [cA];omega
       . simp [cA]
      omega
   have e:gO (q::s) aH j=(if fs q=aH then (match q.l[j]? with
    | some x=>[x]
    | none=>[]) else [])++gO s aH j:=by
    unfold gO;by_cases c:fs q=aH
    . simp only [arf,c,aq3,ap3];cases az:q.l[j]? <;>simp [az]
    . simp [c]
   rw [e,Cj,cA];have:=key s
   have ad:cA (if fs q=aH then (match q.l[j]? with
    | some x=>[x]
    | none=>[]) else [])<q.size:=by
    have af:=o6 q
    split
    . cases az:q.l[j]? with
      | none=>simp only [cA];omega
      | some x=>
        have:=za (apY az);simp only [cA];omega
    . simp only [cA];omega
   omega
def O2:a1:=
 a1.seq (a1.au [⟨(some 64),.cM (.t 8),none,[8]⟩,
  ⟨(some 65),.bin (.int .eql) (.t 64) (.c (.int .i64 16)),none,[64]⟩])
  (a1.cond (.t 65)
   (a1.seq (a1.draw [⟨(some 67),.cM (.t 0),none,[0]⟩,
     ⟨(some 68),.sY (.t 67),none,[67]⟩,
     ⟨(some 69),.dH 0 (.t 68),none,[68]⟩,
     ⟨(some 70),.dJ (.t 69),none,[69]⟩,
     ⟨(some 71),.dH 3 (.t 12),none,[12]⟩,
     ⟨(some 72),.dJ (.t 71),none,[71]⟩,
     ⟨(some 73),.look .str (.agg [(.str []),(.str []),(.int .i64 0),(.int .i64 0),.bg]) true (.t 70) (.t 72),none,[70,72]⟩,
     ⟨(some 66),.cM (.t 73),none,[73]⟩,
     ⟨(some 74),.ext (.t 66) 0,none,[66]⟩,
     ⟨(some 75),.ext (.t 66) 1,none,[66]⟩,
     ⟨(some 13),.new [(.str []),(.str []),(.int .i64 0),(.int .i64 0),.bg],none,[]⟩,
     ⟨none,.st 5 (.t 13) (.t 74),none,[13,74]⟩,
     ⟨(some 14),.cM (.t 75),none,[75]⟩] [(3,[11]),(5,[11]),(6,[11])])
    (a1.seq (a1.au [⟨(some 76),.cM (.t 14),none,[14]⟩,
      ⟨(some 77),.un .not (.t 76),none,[76]⟩,
      ⟨(some 78),.cM (.t 77),none,[77]⟩,
      ⟨(some 79),.dH 1 (.t 13),(some (78,false)),[13,78]⟩,
      ⟨(some 80),.dJ (.t 79),(some (78,false)),[79,78]⟩,
      ⟨(some 81),.cM (.t 9),(some (78,false)),[9,78]⟩,
      ⟨(some 82),.bin (.str .neq) (.t 80) (.t 81),(some (78,false)),[80,81,78]⟩,
      ⟨(some 83),.pick (.t 78) (.c (.bool true)) (.t 82),none,[78,82]⟩,
      ⟨(some 84),.cM (.t 83),none,[83]⟩,
      ⟨(some 85),.dH 4 (.t 13),(some (84,false)),[13,84]⟩,
      ⟨(some 86),.dJ (.t 85),(some (84,false)),[85,84]⟩,
      ⟨(some 87),.len .slice (.t 86),(some (84,false)),[86,84]⟩,
      ⟨(some 88),.dH 4 (.t 12),(some (84,false)),[12,84]⟩,
      ⟨(some 89),.dJ (.t 88),(some (84,false)),[88,84]⟩,
      ⟨(some 90),.len .slice (.t 89),(some (84,false)),[89,84]⟩,
      ⟨(some 91),.bin (.int .neq) (.t 87) (.t 90),(some (84,false)),[87,90,84]⟩,
      ⟨(some 92),.pick (.t 84) (.c (.bool true)) (.t 91),none,[84,91]⟩])
    (a1.cond (.t 92)
     (a1.seq (a1.au [⟨(some 4),.cM (.c (.bool false)),none,[]⟩])
      (a1.ret))
     (a1.skip))))
   (a1.skip))
def O3:a1:=
 a1.seq (a1.au [⟨(some 93),.fh 5 (.t 12),none,[12]⟩,
  ⟨(some 94),.call 73 [(.t 93)],none,[93]⟩,
  ⟨(some 15),.new [(.int .i64 0),(.int .i64 0),(.str []),(.int .i64 0)],none,[]⟩,
  ⟨none,.st 4 (.t 15) (.t 94),none,[15,94]⟩])
  (a1.seq (a1.block 4 (a1.loop HT))
  (a1.seq (a1.au [⟨(some 110),.dH 4 (.t 12),none,[12]⟩,
    ⟨(some 111),.dJ (.t 110),none,[110]⟩,
    ⟨(some 112),.len .slice (.t 111),none,[111]⟩,
    ⟨(some 113),.cM (.c (.int .i64 0)),none,[]⟩])
  (a1.block 6 (a1.loop HU))))
theorem Zo:OZ=(a1.seq (a1.au [⟨(some 57),.bin (.int .lss) (.t 56) (.t 55),none,[56,55]⟩])
 (a1.seq (a1.cond (.t 57)
   (a1.skip)
   (a1.exit 2))
 (a1.seq (a1.block 3 (a1.seq (a1.au [⟨(some 58),.cr 5 (.t 54) (.t 56),none,[54,56]⟩,
   ⟨(some 59),.fh 5 (.t 58),none,[58]⟩,
   ⟨(some 12),.new [(.int .i64 0),(.int .i64 0),(.int .i64 0),(.str []),.bg],none,[]⟩,
   ⟨none,.st 5 (.t 12) (.t 59),none,[12,59]⟩])
   (a1.seq (a1.seq (a1.au [⟨(some 60),.dH 0 (.t 12),none,[12]⟩,
     ⟨(some 61),.dJ (.t 60),none,[60]⟩,
     ⟨(some 62),.cM (.t 8),none,[8]⟩,
     ⟨(some 63),.bin (.int .neq) (.t 61) (.t 62),none,[61,62]⟩])
    (a1.cond (.t 63)
     (a1.seq (a1.au [⟨(some 4),.cM (.c (.bool false)),none,[]⟩])
      (a1.ret))
     (a1.skip)))
   (a1.seq (O2)
   (O3)))))
 (a1.au [⟨(some 133),.bin (.int .add) (.t 56) (.c (.int .i64 1)),none,[56]⟩,
   ⟨(some 56),.cM (.t 133),none,[133]⟩])))):=rfl
theorem T2 [Lay] {B:Nat} {G:aL->Prop} {h:ae} {l:List aQ} {v:V} (H:eA B G h 5 (l.map aQ.enc) v) {k:IntKind} {i:Nat} (ax:i<l.length):
 ∃b off cB,fK 5 v (.int k i)=some (.ptr b (off+i * 5))/\bN G h l[i].enc (dL l[i] cB)/\b0 G h 5 (l[i].l.map aQ.enc) cB/\
  ml 5 (h.get b) (off+i * 5)=some (.agg (dL l[i] cB))/\fZ (h.get b) (off+i * 5)=some (.int .i64 l[i].k)/\fZ (h.get b) (off+i * 5+3)=some (.str l[i].s):=by
 obtain ⟨us,a,ah,ao,aH⟩:=H.ex;have sy:i<us.length:=by rw [ah,apG];exact ax
 have hu:=apr sy;have aK:=aH i (l[i].enc) us[i] (by rw [aqi,apr ax];rfl) hu;obtain ⟨cB,EX,L,_⟩:=aQ.open (aK.gR fun b q=>q.1);rw [EX] at aK;obtain ⟨b,off,f1,f2⟩:=a.v.cr (k:=k) (i:=i) (by rw [List.length_map];exact ax);have av:=D7 us i _ ao hu;have iK:=x5 us ao;have hle:i * 5+5<=us.length * 5:=by omega
 have mH:∀j,j<5->us.flatten[i * 5+j]? =us[i][j]? :=fun j bp=>by
  have:((us.flatten.drop (i * 5)).take 5)[j]? =us[i][j]? :=by rw [av]
  rw [aqs bp,aqJ] at this;exact this
 refine ⟨b,off,cB,f1,aK.gR fun b q=>q.1,L,?_,?_,?_⟩
 . have:=f2.fh (i:=i * 5) (n:=5) (by omega);rw [this,av,EX]
 . rw [f2.dJ (i:=i * 5) (by omega)];have:=mH 0 (by omega);rw [aqC,EX,apr (by omega)] at this;simpa using this
 . rw [aqx,f2.dJ (i:=i * 5+3) (by omega)];have:=mH 3 (by omega);rw [EX,apr (by omega)] at this;simpa using this
theorem qx.find [Lay] {cs:List bI} {h:ae} {cn:aL} (H:qx Any cs h cn) (s:List UInt8):∃(py pz:List UInt8) (sj sk:Int) (fW:V),pz=kW cs s/\fW.one=true/\fW.cells=[fW]/\(∀c,dZ s cs=some c->pz=c.ty/\hJ fW=some (.int .i64 c.arg.length))/\(∃n:Nat,hJ fW=some (.int .i64 n))/\
 (∀g,Ext h g->gk ja.str.eq (.agg [.str [],.str [],.int .i64 0,.int .i64 0,.bg]) true g (.map cn) (.str s)=some (.tuple [.agg [.str py,.str pz,.int .i64 sj,.int .i64 sk,fW],.bool (dZ s cs).isSome]))/\
 (∀g,Ext h g->gk ja.str.eq (.agg [.str [],.str [],.int .i64 0,.int .i64 0,.bg]) false g (.map cn) (.str s)=some (.agg [.str py,.str pz,.int .i64 sj,.int .i64 sk,fW])):=by
 obtain ⟨aN,ak,al⟩:=H.ex;have m:=al s
 have look:∀ok g,Ext h g->gk ja.str.eq (.agg [.str [],.str [],.int .i64 0,.int .i64 0,.bg]) ok g (.map cn) (.str s)=some (match ij s aN with
  | some a=>(bif ok then .tuple [a,.bool true] else a)
  | none=>(bif ok then .tuple [.agg lU,.bool false] else .agg lU)):=fun ok g e=>by
  show gk jh _ _ _ _ _=_;rw [(ak.ext e).look s (.agg lU) ok];cases ij s aN<;>rfl
 cases ao:dZ s cs with
 | none=>
   rw [ao] at m;rw [show ij s aN=none from m] at look;exact ⟨[],[],0,0,.bg,by simp [kW,ao],rfl,rfl,fun c q=>(by cases q),⟨0,rfl⟩,look true,look false⟩
 | some c=>
   rw [ao] at m;obtain ⟨dq,f1,f2⟩:=m;rw [f1] at look;exact ⟨c.name,c.ty,c.tag,c.par,dq,by simp [kW,ao],f2.one.1,f2.one.2.1,fun fD q=>(by cases q;exact ⟨rfl,f2.len⟩),⟨_,f2.len⟩,look true,look false⟩
abbrev z5:List V:=[.int .i64 0,.int .i64 0,.int .i64 0,.str [],.bg]
theorem Vq (cs:List bI) (n:Nat) (ue:n<=1000000000) (l:List aQ) (aZ:cA l<=n)
 (bb:∀m,n=m+1->∀eS,cA eS<=m->∀(k v:V) (h:ae),rU cs h k->b0 Any h 5 (eS.map aQ.enc) v->eV Tryz.prog 71 [k,v] h (.bool (gH cs m eS)) h)
 (k v:V) (h:ae) (qF:rU cs h k) (G':b0 Any h 5 (l.map aQ.enc) v):eV Tryz.prog 71 [k,v] h (.bool (gH cs n l)) h:=by
 obtain ⟨g',cn,mo,rfl,C3,Mn,_⟩:=qF.ex;have aA:=G'.len;have hle:=G'.le;rw [apG] at aA hle;have db:=ni l;refine Zn.d rfl ?_;unfold OX;refine l4 (fun r g=>r 0=.ptr (aw g') 0/\r 1=v/\h=g) rfl (cw ?_) fun r g ⟨bh,bM,e⟩=>?_
 . simp only [ed,↓an,aF,simprocAttr]
 subst e;refine l4 (fun r g=>r 0=.ptr (aw g') 0/\r 1=v/\r 5=.bg/\h=g) rfl (cw ?_) fun r g ⟨bh,bM,bT,e⟩=>?_
 . simp only [bh,bM,ed,↓an,aF,simprocAttr]
 subst e;refine l4 (fun r g=>r 0=.ptr (aw g') 0/\Ext h g/\∃h7,r 5=h7/\eA h.next (Old h) g 5 ((iq l).map aQ.enc) h7) rfl (cw ?_) fun r g ⟨bh,eC,h7,bT,nx⟩=>?_
 . simp +contextual only [bh,bM,bT,aA,↓an,aF,simprocAttr];refine gl (fun r g=>r 0=.ptr (aw g') 0/\r 22=v/\r 23=.int .i64 l.length/\Ext h g/\∃(i:Nat) (h7:V),r 24=.int .i64 i/\i<=l.length/\r 5=h7/\eA h.next (Old h) g 5 ((iq (l.take i)).map aQ.enc) h7) (fun r g=>l.length - (r 24).toN) ?_ ?_
   . exact ⟨by simp only [bh,↓an,bH,simprocAttr],by simp only [↓an,bH,simprocAttr],by simp only [↓an,bH,simprocAttr],Ext.refl h,0,_,by simp only [↓an,bH,simprocAttr]<;>rfl,by omega,by simp only [bT,↓an,bH,simprocAttr],eA.nil _ _ _ _⟩
   rintro r g ⟨bh,FZ,s7,eC,i,h7,s8,ax,bT,nx⟩;unfold OY;by_cases aR:i<l.length
   . have g0:((i:Int) < (l.length:Int))=True:=apC (by omega);obtain ⟨b,off,cB,cr,X,fe,ld,_,_,_⟩:=aQ.oX G' (k:=.i64) aR;have d5:=ld g eC;have ol:=fe.one;have dU:=h8 aR (by unfold top at hle;omega);obtain ⟨g1,ak,aK,c8⟩:=fw g z5 (dL l[i] cB);simp +contextual only [bh,FZ,s7,s8,bT,g0,cr,d5,ol.1,ol.2.1,ak,c8.g,↓an,aF,simprocAttr];refine cu (am3 l[i] _ g1 ((X.ext eC).ext aK)) ?_;rintro x g2 ⟨rfl,aS⟩;have c6:=c8.ext aS;have MU:=(nx.ext aK).ext aS;have iO:=((eC.trans aK).trans aS).next
     cases hw:ob l[i] with
     | true=>
       simp +contextual only [bh,FZ,s7,s8,bT,dU,↓an,aF,simprocAttr];refine ⟨⟨(eC.trans aK).trans aS,i+1,h7,rfl,aR,rfl,?_⟩,by omega⟩;rw [take_one aR,Vk,apz hw];exact MU
     | false=>
       obtain ⟨amj,g3,bD,a2,a3,a4,a5⟩:=MU.add (ds:=l[i].enc) (cs:=dL l[i] cB) (((X.rv.ext eC).ext aK).ext aS |>.gR fun b q=>⟨q,fun z=>by have:=nx.base z;unfold Old at q;omega⟩) (by omega) iO (by have aa:(iq (l.take i)).length<=(l.take i).length:=List.length_filter_le _ _;rw [apG,ap4] at *;unfold top;omega) rfl;simp +contextual only [bh,FZ,s7,s8,bT,ol.1,ol.2.1,c6.g,bD,dU,↓an,aF,simprocAttr];refine ⟨⟨((eC.trans aK).trans aS).nZ a3 fun b z=>nx.base z,i+1,amj,rfl,aR,rfl,?_⟩,by omega⟩;rw [take_one aR,Vk,apw (by rw [hw];simp),arl];exact a2
   . have g0:((i:Int) < (l.length:Int))=False:=apy (by omega);rw [aqn (by omega)] at nx;simp +contextual only [bh,FZ,s7,s8,bT,g0,ed,↓an,aF,simprocAttr];exact ⟨eC,nx⟩
 have l_:=nx.len;rw [apG] at l_;have KQ:=eC.next
 have dN:iq l=[]->gH cs n l=true:=fun z=>by
  cases n with
  | zero=>rfl
  | succ n=>simp only [gH,z]
 refine l4 (fun r dM=>r 0=.ptr (aw g') 0/\r 5=h7/\g=dM/\iq l≠[]) rfl (cw ?_) fun r dM ⟨bh,bT,e,c4⟩=>?_
 . by_cases bk:iq l=[]
   . have g0:((((iq l).length:Nat):Int)=0)=True:=apC (by rw [bk];rfl);simp +contextual only [bh,bT,l_,g0,gU,↓an,aF,simprocAttr];exact ⟨eC,by rw [dN bk]⟩
   . have g0:((((iq l).length:Nat):Int)=0)=False:=apy (fun z=>bk (aqe (by omega)));simp +contextual only [bh,bT,l_,g0,ed,↓an,aF,simprocAttr];exact bk
 subst e;obtain ⟨p,s,JZ⟩:∃p s,iq l=p::s:=List.exists_cons_of_ne_nil c4;have cq:=Vj l;obtain ⟨m,rfl⟩:∃m,n=m+1:=⟨n-1,by have af:=o6 p;rw [JZ,cA] at cq;omega⟩;have afg:=bb m rfl;rw [JZ] at nx l_ cq;have Bu:gH cs (m+1) l=((p::s).all (ks cs p)&&(p::s).all fun q=>(List.range q.l.length).all fun i=>gH cs m (gO (p::s) (fs q) i)):=by simp only [gH,JZ]
 have aok:(p::s).length<=1000000000:=by have:=ni (p::s);omega
 refine l4 (fun r dM=>r 0=.ptr (aw g') 0/\r 5=h7/\r 8=.int .i64 p.k/\r 9=.str (kW cs p.s)/\g=dM) rfl (cw ?_) fun r dM ⟨bh,bT,ch,dK,e⟩=>?_
 . obtain ⟨b,off,cB,cr,X,fe,ld,g_,nW⟩:=T2 nx (k:=.i64) (i:=0) (by simp);obtain ⟨py,pz,sj,sk,fW,t1,t2,t3,t4,t5,t6,t7⟩:=Mn.find p.s;have lL:=t7 g eC;simp only [arE,aqC,apW,List.getElem_cons_zero] at cr g_ nW;have jI:fK 5 h7 (.int .i64 0)=some (.ptr b off):=cr;simp +contextual only [bh,bT,jI,g_,nW,(C3.ext eC).g,lL,ed,↓an,aF,simprocAttr];rw [t1]
 subst e;obtain ⟨g1,ak,aK,tA⟩:∃H,g.new (.mp [] 0)=H/\Ext g H/\gS j3 H (aw g.next) []:=⟨_,rfl,(Ext.refl g).new _,gS.new _ g⟩;refine l4 (fun r dM=>r 0=.ptr (aw g') 0/\r 5=h7/\r 8=.int .i64 p.k/\r 9=.str (kW cs p.s)/\r 10=.map (aw g.next)/\g1=dM) rfl (cw ?_) fun r dM ⟨bh,bT,ch,dK,ek,e⟩=>?_
 . simp +contextual only [bh,bT,ch,dK,ak,rn,sX,aT.opt,ed,↓an,aF,simprocAttr]
 subst e;have AG:=eC.trans aK;have WR:=nx.ext aK;have di:g1.next=g.next+1:=by rw [<-ak];rfl
 generalize cJ:g.next=h0 at *
 have k7:∀b,h7.aW b->h.next<=bX b/\bX b<h0:=fun b z=>⟨nx.base z,by have:=nx.ru z;unfold Old at this;omega⟩
 have Q9:∀e,e=(fun b=>b=aw h0\/h7.aW b)->∀b,e b->Old g1 b:=fun e he b z=>by
  subst he;rcases z with z | z
  . subst z;exact hv (by omega)
  . exact aK.bG (nx.ru z)
 generalize iy:(fun b=>b=aw h0\/h7.aW b)=ga at Q9;have acT:=Q9 ga rfl;have AW:∀b,Old h b->bX b<h.next:=fun b z=>z
 have sB:h.next<=h0:=KQ
 have tH:gT h.next (Old h) ga g1 h0 [] []:=gT.nil (by rw [<-iy];exact .inl rfl) tA
 have kx:∀q ∈ p::s,ks cs p q=false->gH cs (m+1) l=false:=fun q az z=>by
  rw [Bu];have:(p::s).all (ks cs p)=false:=by rw [arq];exact ⟨q,az,by rw [z];simp⟩
  rw [this,ap7]
 generalize Je:p::s=ca at *;refine l4 (fun r dM=>r 0=.ptr (aw g') 0/\r 10=.map (aw h0)/\Ext h dM/\(∀q ∈ ca,ks cs p q=true)/\∃st aN,gT h.next (Old h) ga dM h0 st aN/\qE ca st) rfl (cw ?_) fun r dM ⟨bh,ek,mL,A8,st,aN,S,qD⟩=>?_
 . simp +contextual only [bh,bT,ch,dK,ek,l_,↓an,aF,simprocAttr];refine gl (fun r dM=>r 0=.ptr (aw g') 0/\r 8=.int .i64 p.k/\r 9=.str (kW cs p.s)/\r 10=.map (aw h0)/\r 54=h7/\r 55=.int .i64 ca.length/\Ext h dM/\g1.next<=dM.next/\eA h.next (Old h) dM 5 (ca.map aQ.enc) h7/\∃i:Nat,r 56=.int .i64 i/\i<=ca.length/\(∀q ∈ ca.take i,ks cs p q=true)/\∃st aN,gT h.next (Old h) ga dM h0 st aN/\qE (ca.take i) st) (fun r g=>ca.length - (r 56).toN) ?_ ?_
   . exact ⟨by simp only [bh,↓an,bH,simprocAttr],by simp only [ch,↓an,bH,simprocAttr],by simp only [dK,↓an,bH,simprocAttr],by simp only [ek,↓an,bH,simprocAttr],by simp only [bT,↓an,bH,simprocAttr],by simp only [↓an,bH,simprocAttr],AG,apv _,WR,0,by simp only [↓an,bH,simprocAttr]<;>rfl,by omega,fun q az=>by simp at az,[],[],tH,by simpa using qE.nil⟩
   rintro r dM ⟨bh,ch,dK,ek,kf,kg,mL,yq,MT,i,kh,ax,A8,st,aN,S,qD⟩;rw [Zo];by_cases aR:i<ca.length
   . have g0:((i:Int) < (ca.length:Int))=True:=apC (by omega);obtain ⟨b,off,cB,cr,X,fe,ld,g_,nW⟩:=T2 MT (k:=.i64) aR;have ol:=fe.one;have dU:=h8 aR (by omega);have az:ca[i] ∈ ca:=ap1 aR;obtain ⟨g2,al,aS,c6⟩:=fw dM z5 (dL ca[i] cB);have iO:g2.next=dM.next+1:=by rw [<-al];rfl
     have aoJ:=mL.next
     have aoh:=C3.lt;by_cases aB:ca[i].k=p.k
     . have gz:(ca[i].k=p.k)=True:=apC aB;simp +contextual only [bh,ch,dK,ek,kf,kg,kh,g0,cr,ld,ol.1,ol.2.1,al,c6.g,gz,↓an,aF,simprocAttr];refine Mf (fun r g3=>r 0=.ptr (aw g') 0/\r 8=.int .i64 p.k/\r 9=.str (kW cs p.s)/\r 10=.map (aw h0)/\r 12=.ptr (aw dM.next) 0/\r 54=h7/\r 55=.int .i64 ca.length/\r 56=.int .i64 i/\Ext g2 g3/\ks cs p ca[i]=true) rfl (cw ?_) ?_
       . unfold O2;by_cases ia:p.k=16
         . have x':(p.k=16)=True:=apC ia;obtain ⟨py,pz,sj,sk,fW,t1,t2,t3,t4,⟨aoM,t5⟩,t6,t7⟩:=Mn.find ca[i].s;have aA:=fe.len;rw [apG] at aA;have yN:=t6 g2 (mL.trans aS);obtain ⟨Eg,o7,cI,rM⟩:=fM g2 lU;have yO:=t6 Eg ((mL.trans aS).trans cI);have C5:=((C3.ext mL).ext aS).ext cI;have CE:=c6.ext cI;obtain ⟨g3,aI,bU,CN⟩:=fw g2 lU [.str py,.str pz,.int .i64 sj,.int .i64 sk,fW];rw [o7] at aI;have C4:=(C3.ext mL).ext aS;have e0:=c6.ext bU;have bF:(g2.next=g')=False:=apy (by omega);have hy:(g'=g2.next)=False:=apy (by omega);have pb:(g2.next=dM.next)=False:=apy (by omega);have tp:(dM.next=g2.next)=False:=apy (by omega);cases ao:(dZ ca[i].s cs) with
           | none=>
             rw [ao] at yN yO;have ah:=kx ca[i] az (by simp [ks,aB,ia,ao]);simp +contextual only [bh,ch,dK,ek,kf,kg,kh,x',yN,yO,t2,t3,t5,aA,C4.g,C5.g,c6.g,CE.g,e0.g,rM.g,CN.g,o7,aI,bF,hy,pb,tp,tL,Option.isSome_none,gU,↓an,aF,simprocAttr];exact ⟨(mL.trans aS).trans bU,by rw [ah]⟩
           | some c=>
             rw [ao] at yN yO;obtain ⟨rfl,LX⟩:=t4 c ao;by_cases wm:c.ty=kW cs p.s
             . by_cases iL:(c.arg.length:Int)=(ca[i].l.length:Int)
               . have ua:ks cs p ca[i]=true:=by
                  have:c.arg.length=ca[i].l.length:=by omega
                  simp [ks,aB,ao,wm,this]
                 simp +contextual only [bh,ch,dK,ek,kf,kg,kh,x',yN,yO,t2,t3,LX,aA,apC wm,apC iL,C4.g,C5.g,c6.g,CE.g,e0.g,rM.g,CN.g,o7,aI,bF,hy,pb,tp,tL,aqK,ed,↓an,aF,simprocAttr];exact ⟨bU,ua⟩
               . have ah:=kx ca[i] az (by
                  have:¬c.arg.length=ca[i].l.length:=by omega
                  simp [ks,aB,ia,ao,this])
                 simp +contextual only [bh,ch,dK,ek,kf,kg,kh,x',yN,yO,t2,t3,LX,aA,apC wm,apy iL,C4.g,C5.g,c6.g,CE.g,e0.g,rM.g,CN.g,o7,aI,bF,hy,pb,tp,tL,aqK,gU,↓an,aF,simprocAttr];exact ⟨(mL.trans aS).trans bU,by rw [ah]⟩
             . have ah:=kx ca[i] az (by simp [ks,aB,ia,ao,wm]);simp +contextual only [bh,ch,dK,ek,kf,kg,kh,x',yN,yO,t2,t3,LX,aA,apy wm,C4.g,C5.g,c6.g,CE.g,e0.g,rM.g,CN.g,o7,aI,bF,hy,pb,tp,tL,aqK,gU,↓an,aF,simprocAttr];exact ⟨(mL.trans aS).trans bU,by rw [ah]⟩
         . have x':=apy ia;have ua:ks cs p ca[i]=true:=by simp [ks,aB,ia]
           simp +contextual only [bh,ch,dK,ek,kf,kg,kh,x',ed,↓an,aF,simprocAttr];exact ⟨Ext.refl g2,ua⟩
       rintro r g3 ⟨bh,ch,dK,ek,jR,kf,kg,kh,bU,ua⟩;unfold O3;have e0:=c6.ext bU;simp +contextual only [jR,e0.g,↓an,aF,simprocAttr];refine cu (adx ca[i] _ g3 (((X.gR fun _ _=>trivial).ext aS).ext bU)) ?_;rintro x g4 ⟨rfl,b9⟩;have jy:=e0.ext b9;have xV:=(aS.trans bU).trans b9;have n4:=(bU.trans b9).next
       generalize Rx:fs ca[i]=aH;have aA:=fe.len;rw [apG] at aA;have aol:aH.2.2.2=(ca[i].l.length:Int):=by rw [<-Rx];rfl
       have qp:=Rk aH;simp only [j3] at qp;have EV:ca[i].l.length<=1000000000:=by have aa:=qh az;have ad:=size_eq ca[i];have aJ:=ni ca[i].l;omega
       obtain ⟨g5,cG,dP,rQ⟩:=fw g4 [.int .i64 0,.int .i64 0,.str [],.int .i64 0] [.int .i64 aH.1,.int .i64 aH.2.1,.str aH.2.2.1,.int .i64 aH.2.2.2];have Tr:g5.next=g4.next+1:=by rw [<-cG];rfl
       have tC:Mod (fun b=>h.next<=bX b) dM g5:=(xV.trans dP).mod _;generalize k6:(fun b=>ga b\/b=aw dM.next\/b=aw g4.next)=bA;have GO:bA (aw h0):=by rw [<-k6];exact .inl S.em
       have Wg:bA (aw dM.next):=by rw [<-k6];exact .inr (.inl rfl)
       have Wf:bA (aw g4.next):=by rw [<-k6];exact .inr (.inr rfl)
       have Wh:∀b,h7.aW b->bA b:=fun b z=>by rw [<-k6,<-iy];exact .inl (.inr z)
       have Mx:∀b,bA b->Old g5 b:=fun b z=>by
        rw [<-k6] at z;rcases z with z | rfl | rfl
        . have:=acT b z;unfold Old at this ⊢;omega
        . exact hv (by omega)
        . exact hv (by omega)
       have Hk:gT h.next (Old h) bA g5 h0 st aN:=(S.more (ar:=bA) (fun b z=>by
        rw [<-k6] at z;rcases z with z | rfl | rfl
        . exact .inl z
        . exact .inr (y0 (apv _))
        . exact .inr (y0 (by omega))) GO).ext (xV.trans dP)
       have SA:∀{G og:ae},Mod (fun b=>h.next<=bX b/\(¬bA b\/b=aw h0)) G og->eA h.next (Old h) G 5 (ca.map aQ.enc) h7->eA h.next (Old h) og 5 (ca.map aQ.enc) h7:=fun m o=>o.mod m (fun b z w=>by
        rcases w.2 with w | w
        . exact w (Wh b z)
        . have:=(k7 b z).2;rw [w,c1] at this;omega) fun b z _ _ w=>by have:=AW b z;omega
       have Sz:∀{G og:ae} {sh:List V},Mod (fun b=>h.next<=bX b/\(¬bA b\/b=aw h0)) G og->Has G dM.next sh->Has og dM.next sh:=fun m o=>o.mod m fun w=>by
        rcases w.2 with w | w
        . exact w Wg
        . have:=hN w;omega
       have Kj:∀{G og:ae} {sh:List V},Mod (fun b=>h.next<=bX b/\(¬bA b\/b=aw h0)) G og->Has G g4.next sh->Has og g4.next sh:=fun m o=>o.mod m fun w=>by
        rcases w.2 with w | w
        . exact w Wf
        . have:=hN w;omega
       have JD:∀cf,du aH st=some cf->cf.length=ca[i].l.length/\∀bn ∈ cf,bn.length<=1000000000:=fun cf af=>by obtain ⟨a,_,c⟩:=qD.el aH cf af;refine ⟨by omega,fun bn hq=>?_⟩;obtain ⟨j,bp,rfl⟩:=aru hq;rw [c j bp];have:=aku (ca.take i) aH j;rw [ap4] at this;omega
       simp +contextual only [bh,ch,dK,ek,jR,kf,kg,kh,j3,cG,↓an,aF,simprocAttr]
       refine gl (fun r G=>r 0=.ptr (aw g') 0/\r 8=.int .i64 p.k/\r 9=.str (kW cs p.s)/\r 10=.map (aw h0)/\r 12=.ptr (aw dM.next) 0/\r 15=.ptr (aw g4.next) 0/\r 54=h7/\r 55=.int .i64 ca.length/\r 56=.int .i64 i/\
        Mod (fun b=>h.next<=bX b) dM G/\g5.next<=G.next/\eA h.next (Old h) G 5 (ca.map aQ.enc) h7/\Has G dM.next (dL ca[i] cB)/\Has G g4.next [.int .i64 aH.1,.int .i64 aH.2.1,.str aH.2.2.1,.int .i64 aH.2.2.2]/\
        ∃iY Ki,gT h.next (Old h) bA G h0 iY Ki/\(∀x,h5 aH x iY=h5 aH x st)/\((∃cf,du aH st=some cf/\iY=st)\/(du aH st=none/\∃c,c<=ca[i].l.length/\(du aH iY).getD []=List.replicate c []/\(c=0->iY=st)))) (fun r G=>ca[i].l.length-yL h0 aH G) ?_ ?_
       . refine ⟨by simp only [bh,↓an,bH,simprocAttr],by simp only [ch,↓an,bH,simprocAttr],by simp only [dK,↓an,bH,simprocAttr],by simp only [ek,↓an,bH,simprocAttr],by simp only [jR,↓an,bH,simprocAttr],by simp only [↓an,bH,simprocAttr],by simp only [kf,↓an,bH,simprocAttr],by simp only [kg,↓an,bH,simprocAttr],by simp only [kh,↓an,bH,simprocAttr],tC,apv _,MT.ext (xV.trans dP),jy.ext dP,rQ,st,aN,Hk,fun x=>rfl,?_⟩;cases af:du aH st with
         | some cf=>exact .inl ⟨cf,rfl,rfl⟩
         | none=>exact .inr ⟨rfl,0,aqS _,rfl,fun _=>rfl⟩
       rintro r G ⟨bh,ch,dK,ek,jR,w0,kf,kg,kh,vf,Fu,rY,mx,jB,iY,Ki,r3,dF,q0⟩;unfold HT;have look:=r3.look aH;obtain ⟨Ky,aij,aik⟩:=r3.len aH;have Se:=r3.yL aH;simp only [j3] at look;by_cases RO:((du aH iY).getD []).length<ca[i].l.length
       . have g0:((((du aH iY).getD []).length:Int) < (ca[i].l.length:Int))=True:=apC (by omega);rcases q0 with ⟨cf,af,rfl⟩ | ⟨af,c,ao,q0,nN⟩
         . exfalso;rw [af,apX] at RO;have:=(JD cf af).1;omega
         obtain ⟨jA,qC,bK,xn,w',GS,b8,cg,eM,jE,jc,Dd,rW⟩:=r3.push (by omega) AW (fun b z=>by have:=Mx b z;unfold Old at this ⊢;omega) sB aH (by unfold top;omega);simp only [j3] at eM;have Ml:=mx.ext cg;have zU:=jB.ext cg;simp +contextual only [bh,ch,dK,ek,jR,w0,kf,kg,kh,mx.g,jB.g,look,Ky,aA,g0,b8,eM,jE,jc,qp,apu,↓mw,↓an,aF,simprocAttr];have fJ:((du aH iY).getD []).length=c:=by rw [q0,apP]
         have n6:=rW.next
         refine ⟨⟨vf.trans (rW.mono fun b _ z=>z.1),by omega,SA rW rY,Sz rW mx,Kj rW jB,_,_,Dd,fun x=>by rw [Lm,dF],.inr ⟨af,c+1,by omega,?_,fun z=>by omega⟩⟩,?_⟩
         . rw [wH,apz rfl,apX,q0,List.replicate_succ']
         . rw [Dd.yL,Se,wH,apz rfl,apX,apD,ark];omega
       . have g0:((((du aH iY).getD []).length:Int) < (ca[i].l.length:Int))=False:=apy (by omega);obtain ⟨fJ,Rj⟩:((du aH iY).getD []).length=ca[i].l.length/\(du aH iY).getD []=(du aH st).getD (ca[i].l.map fun _=>[]):=by
          rcases q0 with ⟨cf,af,rfl⟩ | ⟨af,c,ao,q0,nN⟩
          . rw [af,apX,apX];exact ⟨(JD cf af).1,rfl⟩
          . rw [q0,apP] at RO;rw [q0,apP,af,Option.getD_none,List.map_const',show c=ca[i].l.length by omega];exact ⟨rfl,rfl⟩
         have aeN:ca[i].l.length=0->iY=st:=fun z=>by
          rcases q0 with ⟨cf,af,e⟩ | ⟨af,c,ao,q0,nN⟩
          . exact e
          . exact nN (by omega)
         have adm:∀j (bp:j < ((du aH iY).getD []).length),((du aH iY).getD [])[j].length<=1000000000:=fun j bp=>by
          have hm:((du aH iY).getD [])[j] ∈ (du aH iY).getD []:=ap1 bp;generalize ((du aH iY).getD [])[j]=bn at hm;rw [Rj] at hm;cases af:du aH st with
          | some cf=>rw [af,apX] at hm;exact (JD cf af).2 bn hm
          | none=>
            rw [af,Option.getD_none,List.mem_map] at hm;obtain ⟨_,_,rfl⟩:=hm;simp
         generalize adp:(du aH iY).getD []=cur at *;simp +contextual only [bh,ch,dK,ek,jR,w0,kf,kg,kh,mx.g,jB.g,look,Ky,aA,g0,qp,apu,↓mw,↓an,aF,simprocAttr];clear look Ky aij aik Se g0
         refine gl (fun r G=>r 0=.ptr (aw g') 0/\r 8=.int .i64 p.k/\r 9=.str (kW cs p.s)/\r 10=.map (aw h0)/\r 12=.ptr (aw dM.next) 0/\r 15=.ptr (aw g4.next) 0/\r 54=h7/\r 55=.int .i64 ca.length/\r 56=.int .i64 i/\r 111=cB/\r 112=.int .i64 ca[i].l.length/\
          Mod (fun b=>h.next<=bX b) dM G/\g5.next<=G.next/\eA h.next (Old h) G 5 (ca.map aQ.enc) h7/\Has G dM.next (dL ca[i] cB)/\Has G g4.next [.int .i64 aH.1,.int .i64 aH.2.1,.str aH.2.2.1,.int .i64 aH.2.2.2]/\
          ∃(j:Nat) (nn:List (c_ × List (List aQ))) (BH:List (c_ × V)),r 113=.int .i64 j/\j<=ca[i].l.length/\gT h.next (Old h) bA G h0 nn BH/\(du aH nn).getD []=nY cur ca[i].l j/\(∀x,h5 aH x nn=h5 aH x st)/\(j=0->nn=iY)/\(0<j->nn=h5 aH (nY cur ca[i].l j) st)) (fun r G=>ca[i].l.length - (r 113).toN) ?_ ?_
         . refine ⟨by simp only [bh,↓an,bH,simprocAttr],by simp only [ch,↓an,bH,simprocAttr],by simp only [dK,↓an,bH,simprocAttr],by simp only [ek,↓an,bH,simprocAttr],by simp only [jR,↓an,bH,simprocAttr],by simp only [w0,↓an,bH,simprocAttr],by simp only [kf,↓an,bH,simprocAttr],by simp only [kg,↓an,bH,simprocAttr],by simp only [kh,↓an,bH,simprocAttr],by simp only [↓an,bH,simprocAttr],by simp only [↓an,bH,simprocAttr],vf,Fu,rY,mx,jB,0,iY,Ki,by simp only [↓an,bH,simprocAttr]<;>rfl,by omega,r3,?_,dF,fun _=>rfl,fun z=>by omega⟩;rw [adp];simp [nY,qs]
         clear mx jB rY r3 vf Fu bh ch dK ek jR w0 kf kg kh dF;rintro r G ⟨bh,ch,dK,ek,jR,w0,kf,kg,kh,Uz,UA,vf,Fu,rY,mx,jB,j,nn,BH,UB,bp,r3,Jw,dF,adX,EI⟩;unfold HU;have Jy:=Tm (j:=j) fJ;by_cases fE:j<ca[i].l.length
         . have g0:((j:Int) < (ca[i].l.length:Int))=True:=apC (by omega);have Xd:b0 (Old h) G 5 (ca[i].l.map aQ.enc) cB:=fe.mod vf (fun b z _=>⟨fun w=>by have:=AW b z;omega,z⟩);obtain ⟨bL,kL,wl,jI,Df,Xe,aia,_,_,_⟩:=aQ.oX Xd (k:=.i64) fE;have d5:=aia G (Ext.refl G);have TN:=Xe.one;have am2:=h8 fE (by omega);obtain ⟨jA,MX,tw,my⟩:=fw G z5 (dL ca[i].l[j] wl);have anC:jA.next=G.next+1:=by rw [<-MX];rfl
           generalize Em:(fun b=>bA b\/b=aw G.next)=fU;have CO:∀b,bA b->fU b:=fun b z=>by rw [<-Em];exact .inl z
           have anw:fU (aw G.next):=by rw [<-Em];exact .inr rfl
           have Wi:∀b,fU b->Old jA b:=fun b z=>by
            rw [<-Em] at z;rcases z with z | rfl
            . have:=Mx b z;unfold Old at this ⊢;omega
            . exact hv (by omega)
           have qH:gT h.next (Old h) fU jA h0 nn BH:=(r3.more (ar:=fU) (fun b z=>by
            rw [<-Em] at z;rcases z with z | rfl
            . exact .inl z
            . exact .inr (y0 (apv _))) (CO _ GO)).ext tw
           have fI:∀(az:j < ((du aH nn).getD []).length),((du aH nn).getD [])[j]=cur[j]'(by omega):=fun az=>by simp only [Jw];exact aiZ fJ fE
           have rb:j < ((du aH nn).getD []).length:=by rw [Jw,Jy];exact fE
           obtain ⟨aoV,h3,w,qC,w',xn,GS,cc,cx,eF,kd,o3,ake,⟨akf,akg⟩,akh,aki,WJ,Dc,nw⟩:=qH.put (by omega) AW Wi sB aH (j:=j) rb (x:=ca[i].l[j]) (cs:=dL ca[i].l[j] wl) (Df.ext tw) rfl (by rw [fI rb];have:=adm j (by omega);unfold top;omega);have aeG:((du aH nn).getD []).set j (((du aH nn).getD [])[j]++[ca[i].l[j]])=nY cur ca[i].l (j+1):=by rw [fI rb,Jw];exact ai0 fJ fE
           rw [aeG] at Dc;have S_:=qH.look aH;have Ta:=(qH.ext kd).look aH;have Tb:=aki aH;simp only [j3] at S_ Ta Tb;have m3:Mod (fun b=>h.next<=bX b/\(¬bA b\/b=aw h0)) jA xn:=WJ.mono fun b _ z=>⟨z.1,.inl fun y=>z.2 (CO b y)⟩;have m4:Mod (fun b=>h.next<=bX b/\(¬bA b\/b=aw h0)) jA GS:=nw.mono fun b _ z=>⟨z.1,.inl fun y=>z.2 (CO b y)⟩;have zU:=jB.ext tw;have Wp:=zU.ext kd;have Wq:=Kj m3 zU;have dv:=my.ext kd;simp only [dL] at eF;simp +contextual only [bh,ch,dK,ek,jR,w0,kf,kg,kh,Uz,UA,UB,g0,jI,d5,TN.1,TN.2.1,MX,my.g,dv.g,zU.g,Wp.g,Wq.g,S_,Ta,Tb,qp,apu,cc,cx,eF,o3,ake,akf,akg,akh,am2,XW,↓mw,↓an,aF,simprocAttr];have n4:=nw.next
           refine ⟨⟨(vf.trans (tw.mod _)).trans (nw.mono fun b _ z=>z.1),by omega,SA m4 (rY.ext tw),Sz m4 (mx.ext tw),Kj m4 zU,j+1,_,BH,rfl,fE,Dc.more (fun b z=>.inl (CO b z)) GO,?_,fun x=>by rw [Lm,dF],fun z=>by omega,fun _=>dF _⟩,by omega⟩;rw [wH,apz rfl,apX]
         . have g0:((j:Int) < (ca[i].l.length:Int))=False:=apy (by omega);have Bc:j=ca[i].l.length:=by omega
           have ac_:nn=Dh st ca[i]:=by
            unfold Dh;by_cases bk:ca[i].l=[]
            . rw [apz bk];have afa:ca[i].l.length=0:=by rw [bk];rfl
              rw [adX (by omega),aeN afa]
            . rw [apw bk,Rx,EI (by have:=List.length_pos_iff.2 bk;omega),Bc,aiY fJ,Rj]
           have ME:=qD.add ca[i];rw [<-ac_,<-take_one aR] at ME;simp +contextual only [bh,ch,dK,ek,jR,w0,kf,kg,kh,Uz,UA,UB,g0,dU,↓an,aF,simprocAttr];refine ⟨⟨mL.nZ vf fun b z=>z,by omega,rY,i+1,rfl,aR,fun q az=>?_,nn,BH,r3.more (fun b z=>.inl (by rw [<-k6];exact .inl z)) S.em,ME⟩,by omega⟩;rw [take_one aR] at az;rcases aqR.1 az with az | az
           . exact A8 q az
           . rw [aqp] at az;subst az;exact ua
     . have gz:=apy aB;have ah:=kx ca[i] az (by simp [ks,aB]);simp +contextual only [bh,ch,dK,ek,kf,kg,kh,g0,cr,ld,ol.1,ol.2.1,al,c6.g,gz,gU,↓an,aF,simprocAttr];exact ⟨mL.trans aS,by rw [ah]⟩
   . have g0:((i:Int) < (ca.length:Int))=False:=apy (by omega);rw [aqn (by omega)] at qD A8;simp +contextual only [bh,ek,kf,kg,kh,g0,ed,↓an,aF,simprocAttr];exact ⟨mL,A8,st,aN,S,qD⟩
 have cW:gH cs (m+1) l=st.all fun x=>x.2.all (gH cs m):=by rw [Bu,qD.all,apU.2 A8,ap6]
 obtain ⟨X,WO,dh,Hc⟩:=S.ex;obtain ⟨cT,bJ,RK⟩:=Hc.range;have ajm:=mL.next
 have xW:Ext dM (dM.new cT):=(Ext.refl dM).new cT;rw [Ic];refine PY rfl (cw ?_);simp +contextual only [bh,ek,bJ,ed,↓mw,↓an,aF,simprocAttr];rw [Ia];refine PW (fun r G=>r 0=.ptr (aw g') 0/\r 135=.ptr (aw dM.next) 0/\Ext h G/\kl h.next (Old h) G X st aN/\∃hK,nB j3 G (aw h0) dM.next aN hK/\∀lq ∈ aN,lq ∈ hK\/∀cf,(lq.1,cf) ∈ st->cf.all (gH cs m)=true) (fun r G=>Gc aN (aw h0) dM.next G) ?_ ?_
 . exact ⟨by simp only [bh,↓an,bH,simprocAttr],by simp only [↓an,bH,simprocAttr],mL.trans xW,WO.ext xW,aN,RK,fun lq af=>.inl af⟩
 clear RK bh ek xW bJ;rintro r G ⟨bh,qi,tQ,rY,hK,RK,Ew⟩;unfold O1;refine PX ?_;rw [qi];refine RK.next (fun uc=>?_) fun lq JN jA p9 I7 Da aR wj Ex rV ue=>?_
 . refine nH rfl (cw ?_);simp +contextual only [bh,qi,ed,vn,↓an,aF,simprocAttr];refine nH rfl (cw ?_);simp +contextual only [bh,qi,↓an,aF,simprocAttr];refine ⟨tQ,?_⟩;have:gH cs (m+1) l=true:=by
    rw [cW,apU];rintro ⟨aH,cf⟩ aj;obtain ⟨w,hw,_⟩:=rY.mem.2 _ aj;rcases Ew _ hw with z | z
    . rw [uc] at z;cases z
    . exact z cf aj
   rw [this]
 . have hit:∀b,X b->¬b=aw dM.next:=fun b z w=>y0 (apv _) (w ▸ (dh b z).1)
   have MS:=rY.mod rV hit (fun b z _ w=>by have:=AW b z;rw [w,c1] at this;omega);have AF:Ext h jA:=tQ.nZ rV fun b z=>by rw [show b=aw dM.next from z,c1];exact ajm
   have Jm:lq ∈ aN:=by
    obtain ⟨es,clock,seen,_,_,_,_,e⟩:=RK.ex;have sub:∀(aN:List (c_ × V)) (es:List b3),∀x ∈ gC seen aN es,x ∈ aN:=by
     intro aN
     induction aN with
     | nil=>intro es x aj;cases es<;>simp [gC] at aj
     | cons y aN bb=>
       intro es x aj;cases es with
       | nil=>simp [gC] at aj
       | cons z es=>
         simp only [gC] at aj
         split at aj
         . exact apZ _ (bb es x aj)
         . rcases apJ.1 aj with rfl | aj
           . exact aqb
           . exact apZ _ (bb es x aj)
    exact sub aN es lq (e ▸ JN)
   obtain ⟨cf,hh,cz,WQ,_⟩:=MS.mem.1 lq Jm;obtain ⟨aH,w⟩:=lq;obtain ⟨ws,Y,s1,s2,lu,n_⟩:=WQ.ex;have Be:=(BU qD.wM).1 cz;obtain ⟨db,_,aeq⟩:=qD.el aH cf Be;have p1:=s1.v.len;have aou:ws.length=cf.length:=n_.len;have c4:ca≠[]:=by rw [<-Je];simp
   have aer:∀j (bp:j<cf.length),cA cf[j]<=m:=fun j bp=>by rw [aeq j bp];have:=(akw (aH:=aH) (j:=j) ca c4).1;omega
   have aoq:cf.length<=1000000000:=by obtain ⟨_,⟨q,az,a',_⟩,_⟩:=qD.el aH cf Be;have aa:=qh az;have ad:=size_eq q;have aJ:=ni q.l;rw [<-a'] at db;simp only [fs] at db;omega
   have ae2:hJ w=some (.int .i64 cf.length):=p1;have adG:so (.ptr (aw dM.next) 0) jA=.val (.tuple [j3 aH,w]) jA:=I7;refine nH rfl (cw ?_);simp +contextual only [bh,qi,adG,ae2,ed,vn,↓mw,↓an,aF,simprocAttr];refine gl (fun r g=>r 0=.ptr (aw g') 0/\r 135=.ptr (aw dM.next) 0/\r 140=w/\r 141=.int .i64 cf.length/\jA=g/\∃j:Nat,r 142=.int .i64 j/\j<=cf.length/\∀bn ∈ cf.take j,gH cs m bn=true) (fun r g=>cf.length - (r 142).toN) ?_ ?_
   . exact ⟨by simp only [bh,↓an,bH,simprocAttr],by simp only [qi,↓an,bH,simprocAttr],by simp only [↓an,bH,simprocAttr],by simp only [↓an,bH,simprocAttr],rfl,0,by simp only [↓an,bH,simprocAttr]<;>rfl,by omega,fun q az=>by simp at az⟩
   clear bh qi;rintro r g ⟨bh,qi,FW,FX,e,j,FY,bp,q5⟩;subst e;unfold O0;by_cases fE:j<cf.length
   . have g0:((j:Int) < (cf.length:Int))=True:=apC (by omega);obtain ⟨b,off,bD,a2,_⟩:=s1.v.jI (k:=.i64) fE;rw [arC] at bD;have j':=a2.dJ (i:=j) (by omega);obtain ⟨GF,xG,t1,t2,t3,t4,_⟩:=n_.at fE;have EZ:ws[j]'(by omega)=GF:=by
      have:=apr (l:=ws) (i:=j) (by omega);rw [t1] at this;exact (aqB this).symm
     rw [EZ] at j';have dU:=h8 fE (by omega);have RV:=aer j fE;have aop:=ni cf[j];simp +contextual only [bh,qi,FW,FX,FY,g0,bD,j',↓an,aF,simprocAttr];refine cu (K:=fun x ab=>x=.bool (gH cs m cf[j])/\jA=ab) ⟨_,_,afg cf[j] RV _ GF jA (qF.ext AF) (t2.eZ (by rw [apG];unfold top;omega) (fun _ _=>trivial) fun _ _=>trivial),rfl,rfl⟩ ?_;rintro x g ⟨rfl,e⟩;subst e;cases nT:gH cs m cf[j] with
     | true=>
       simp +contextual only [bh,qi,FW,FX,FY,dU,↓an,aF,simprocAttr];refine ⟨⟨j+1,rfl,fE,fun bn hq=>?_⟩,by omega⟩;rw [aqd fE] at hq;rcases aqR.1 hq with hq | hq
       . exact q5 bn hq
       . rw [aqp] at hq;subst hq;exact nT
     | false=>
       have ah:gH cs (m+1) l=false:=by rw [cW,arq];refine ⟨(aH,cf),cz,?_⟩;rw [ap2,arq];exact ⟨cf[j],ap1 fE,by rw [nT];simp⟩
       simp +contextual only [bh,qi,FW,FX,FY,gU,↓an,aF,simprocAttr];exact ⟨AF,by rw [ah]⟩
   . have g0:((j:Int) < (cf.length:Int))=False:=apy (by omega);rw [aqn (by omega)] at q5;have BB:=Gb Da;have BA:=Gb RK;simp +contextual only [bh,qi,FW,FX,FY,g0,ed,↓an,aF,simprocAttr];refine ⟨⟨AF,MS,p9,Da,fun Ue af=>?_⟩,by rw [BB,BA];exact aR⟩;rcases Ew Ue af with z | z
     . rcases Ex Ue z with rfl | z
       . refine .inr fun rz gZ=>?_;have aK:=(BU qD.wM).1 gZ;have aS:du aH st=some rz:=aK;rw [Be,aps] at aS;rw [<-aS,apU];exact q5
       . exact .inl z
     . exact .inr z
theorem Vo (cs:List bI):∀(n:Nat),n<=1000000000->∀(l:List aQ),cA l<=n->∀(k v:V) (h:ae),rU cs h k->b0 Any h 5 (l.map aQ.enc) v->eV Tryz.prog 71 [k,v] h (.bool (gH cs n l)) h
 | 0,aV,l,aZ,k,v,h,qF,L=>Vq cs 0 aV l aZ (fun m e=>by omega) k v h qF L
 | n+1,aV,l,aZ,k,v,h,qF,L=>Vq cs (n+1) aV l aZ (fun m e eS fg br cd ab Wx Wy=>by
   obtain rfl:n=m:=by omega
   exact Vo cs n (by omega) eS fg br cd ab Wx Wy) k v h qF L
theorem ami (cs:List bI) (l:List aQ) (aZ:cA l<=1000000000) (k v:V) (h:ae) (qF:rU cs h k) (L:b0 Any h 5 (l.map aQ.enc) v):c9 Tryz.prog 71 [k,v] h fun x ab=>x=.bool (gH cs (cA l) l)/\h=ab:=
 ⟨_,_,Vo cs (cA l) aZ l (apv _) k v h qF L,rfl,rfl⟩
theorem abe {cs:List bI} {l:List aQ} (aa:jL [] cs=true) (ad:∀p ∈ l,jr p=true):h_ cs l=if gH cs (cA l) l=true then 0 else 2:=by unfold h_;rw [aa,apU.2 ad,ap6,ap6]
theorem abf {cs:List bI} {l:List aQ} {p:aQ} (af:p ∈ l) (h:jr p=false):h_ cs l=2:=by
 unfold h_;have:l.all jr=false:=by rw [arq];exact ⟨p,af,by rw [h];simp⟩
 rw [this,aqG,ap7];simp
theorem Qj {cs:List bI} {l:List aQ} (h:jL [] cs=false):h_ cs l=2:=by unfold h_;rw [h,ap7,ap7];simp
theorem akr (cs:List bI) (l:List aQ) (aZ:cA l+2<=1000000000) (eB v:V) (h:ae) (oh:b0 Any h 5 (cs.map bI.enc) eB) (L:b0 Any h 5 (l.map aQ.enc) v):
 c9 Tryz.prog 46 [eB,v] h fun x ab=>∃k,x=.tuple [k,.int .i64 (h_ cs l)]/\Ext h ab/\(h_ cs l=0->rU cs ab k):=by
 have aA:=L.len;have hle:=L.le;rw [apG] at aA hle;refine Za.z rfl (cw ?_);unfold OA;simp +contextual only [↓an,aF,simprocAttr];refine cu (aid cs eB h oh) ?_;rintro x aa ⟨k,rfl,aK,qF⟩;cases q':jL [] cs with
 | false=>
   simp +contextual only [↓an,aF,simprocAttr];exact ⟨_,by rw [Qj q'],aK,fun z=>by rw [Qj q'] at z;cases z⟩
 | true=>
   have MM:=qF q';simp +contextual only [aA,↓an,aF,simprocAttr];refine gl (fun r g=>r 1=v/\r 6=k/\r 17=v/\r 18=.int .i64 l.length/\Ext aa g/\∃i:Nat,r 19=.int .i64 i/\i<=l.length/\∀p ∈ l.take i,jr p=true) (fun r g=>l.length - (r 19).toN) ?_ ?_
   . exact ⟨by simp only [↓an,bH,simprocAttr],by simp only [↓an,bH,simprocAttr],by simp only [↓an,bH,simprocAttr],by simp only [↓an,bH,simprocAttr],Ext.refl aa,0,by simp only [↓an,bH,simprocAttr]<;>rfl,by omega,fun q az=>by simp at az⟩
   rintro r g ⟨bM,eU,n9,rC,eC,i,Lo,ax,q5⟩;unfold OB;by_cases aR:i<l.length
   . have g0:((i:Int) < (l.length:Int))=True:=apC (by omega);obtain ⟨b,off,cB,cr,X,fe,ld,_,_,_⟩:=aQ.oX L (k:=.i64) aR;have d5:=ld g (aK.trans eC);have ol:=fe.one;have dU:=h8 aR (by unfold top at hle;omega);obtain ⟨g1,ak,aS,c8⟩:=fw g z5 (dL l[i] cB);have af:l[i] ∈ l:=ap1 aR;simp +contextual only [bM,eU,n9,rC,Lo,g0,cr,d5,ol.1,ol.2.1,ak,c8.g,↓an,aF,simprocAttr];refine cu (Ua l[i] (by have:=qh af;omega) _ g1 (((X.ext aK).ext eC).ext aS)) ?_;rintro x g2 ⟨rfl,bU⟩;cases hm:jr l[i] with
     | false=>
       have ah:=abf (cs:=cs) af hm;simp +contextual only [bM,eU,↓an,aF,simprocAttr];exact ⟨_,by rw [ah],((aK.trans eC).trans aS).trans bU,fun z=>by rw [ah] at z;cases z⟩
     | true=>
       simp +contextual only [bM,eU,n9,rC,Lo,dU,↓an,aF,simprocAttr];refine ⟨⟨(eC.trans aS).trans bU,i+1,rfl,aR,fun q az=>?_⟩,by omega⟩;rw [take_one aR] at az;rcases aqR.1 az with az | az
       . exact q5 q az
       . rw [aqp] at az;subst az;exact hm
   . have g0:((i:Int) < (l.length:Int))=False:=apy (by omega);rw [aqn (by omega)] at q5;simp +contextual only [bM,eU,n9,rC,Lo,g0,↓an,aF,simprocAttr];have AG:=aK.trans eC;refine cu (ami cs l (by omega) k v g (MM.ext eC) (L.ext AG)) ?_;rintro x dM ⟨rfl,e⟩;subst e;have he:=abe q' q5;cases nT:gH cs (cA l) l with
     | true=>
       rw [nT] at he;simp +contextual only [eU,he,ap3,↓an,aF,simprocAttr];exact ⟨_,rfl,AG,MM.ext eC⟩
     | false=>
       rw [nT] at he;simp +contextual only [eU,he,apH,ap9,↓an,aF,simprocAttr];exact ⟨_,rfl,AG⟩
theorem T7 (cs:List bI) (l:List aQ) (aZ:cA l+2<=1000000000) (eB v:V) (h:ae) (oh:b0 Any h 5 (cs.map bI.enc) eB) (L:b0 Any h 5 (l.map aQ.enc) v):
 c9 Tryz.prog 20 [eB,v] h fun x ab=>x=.int .i64 (h_ cs l)/\Ext h ab:=by
 refine YY.z rfl (cw ?_);unfold Od;simp +contextual only [↓an,aF,simprocAttr];refine cu (akr cs l aZ eB v h oh L) ?_;rintro x aa ⟨k,rfl,aK,_⟩;simp +contextual only [↓an,aF,simprocAttr];exact aK
end
end Go.Proofs.YtgmhjhgoamjeeaaGreatDoor
