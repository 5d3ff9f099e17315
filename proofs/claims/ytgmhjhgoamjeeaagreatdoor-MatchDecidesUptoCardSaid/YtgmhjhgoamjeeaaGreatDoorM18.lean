/- The chapter's functions, walked by the abstract machine: plain lemmas, no condition. Printed by a program from longer texts: names made short. -/
import Derived.Test.YtgmhjhgoamjeeaaGreatDoorM16
import Derived.Test.YtgmhjhgoamjeeaaGreatDoorM17
set_option linter.unusedSectionVars false
set_option linter.unusedSimpArgs false
set_option linter.unusedVariables false
set_option maxHeartbeats 64000000
noncomputable section
namespace Go.Proofs.YtgmhjhgoamjeeaaGreatDoor
section
open Go aX
section
variable [Lay] {B:Nat} {G:aM->Prop} {h ab:ae} {X:aM->Prop}
inductive l1 (B:Nat) (G:aM->Prop) (h:ae):(aM->Prop)->List (List aL)->List V->Prop
 | nil {X:aM->Prop}:l1 B G h X [] []
 | cons {X Y:aM->Prop} {bo:List aL} {cn:List (List aL)} {w:V} {ws:List V} (aI:eH B G h 5 (bo.map aL.enc) w) (hw:∀b,w.aZ b->X b/\¬Y b) (a6:∀b,Y b->X b) (jQ:l1 B G h Y cn ws):l1 B G h X (bo::cn) (w::ws)
theorem l1.mod {M:aM->Prop} {cn:List (List aL)} {ws:List V} (H:l1 B G h X cn ws) (m:Mod M h ab) (ak:∀b,X b->¬M b) (d':∀b,G b->Old h b->¬M b):l1 B G ab X cn ws:=by
 induction H with
 | nil=>exact .nil
 | cons aI hw a6 jQ bc=>exact .cons (aI.mod m (fun b q=>ak b (hw b q).1) fun b q o _=>d' b q o) hw a6 (bc fun b q=>ak b (a6 b q))
theorem l1.len {cn:List (List aL)} {ws:List V} (H:l1 B G h X cn ws):ws.length=cn.length:=by
 induction H with
 | nil=>rfl
 | cons aI hw a6 jQ bc=>simp [bc]
theorem l1.snoc {cn:List (List aL)} {ws:List V} (H:l1 B G h X cn ws):l1 B G h X (cn++[[]]) (ws++[.bj]):=by
 induction H with
 | nil=>exact .cons (Y:=fun _=>False) (eH.nil _ _ _ _) (fun b q=>q.elim) (fun b q=>q.elim) .nil
 | cons aI hw a6 jQ bc=>exact .cons aI hw a6 bc
theorem l1.at {cn:List (List aL)} {ws:List V} (H:l1 B G h X cn ws) {j:Nat} (bp:j<cn.length):
 ∃(w:V) (Z:aM->Prop),ws[j]? =some w/\eH B G h 5 (cn[j].map aL.enc) w/\(∀b,w.aZ b->X b/\¬Z b)/\(∀b,Z b->X b)/\
  ∀(ab:ae) (M:aM->Prop),Mod M h ab->(∀b,Z b->¬M b)->(∀b,G b->Old h b->¬M b)->∀CX w',eH B G ab 5 (List.map aL.enc CX) w'->(∀b,w'.aZ b->¬Z b)->l1 B G ab (fun b=>Z b\/w'.aZ b) (cn.set j CX) (ws.set j w'):=by
 induction H generalizing j with
 | nil=>simp at bp
 | @cons X Y bo cn w ws aI hw a6 jQ bc=>
   cases j with
   | zero=>
     refine ⟨w,Y,rfl,aI,hw,a6,fun ab M m bk d' CX w' o ku=>?_⟩;exact .cons o (fun b q=>⟨.inr q,ku b q⟩) (fun b q=>.inl q) (jQ.mod m bk d')
   | succ j=>
     simp only [arA] at bp;obtain ⟨aA,Z,aJ,aR,bP,b4,dD⟩:=bc (j:=j) (by omega);refine ⟨aA,fun b=>Z b\/w.aZ b,by simpa using aJ,by simpa using aR,fun b q=>⟨a6 b (bP b q).1,fun z=>?_⟩,fun b q=>?_,fun ab M m bk d' CX w' o ku=>?_⟩
     . rcases z with z | z
       . exact (bP b q).2 z
       . exact (hw b z).2 (bP b q).1
     . rcases q with q | q
       . exact a6 b (b4 b q)
       . exact (hw b q).1
     . have t:=dD ab M m (fun b q=>bk b (.inl q)) d' CX w' o fun b q z=>ku b q (.inl z);refine .cons (aI.mod m (fun b q=>bk b (.inr q)) fun b q o _=>d' b q o) (fun b q=>⟨.inl (.inr q),fun z=>?_⟩) (fun b q=>?_) t
       . rcases z with z | z
         . exact (hw b q).2 (b4 b z)
         . exact ku b z (.inr q)
       . rcases q with q | q
         . exact .inl (.inl q)
         . exact .inr q
structure oa (B:Nat) (G:aM->Prop) (h:ae) (X:aM->Prop) (cn:List (List aL)) (v:V):Prop where
 ex:∃(ws:List V) (Y:aM->Prop),dY B h 1 v cn.length ws/\(∀b,v.aZ b->X b/\¬Y b)/\(∀b,Y b->X b)/\l1 B G h Y cn ws
theorem oa.mod {M:aM->Prop} {cn:List (List aL)} {v:V} (H:oa B G h X cn v) (m:Mod M h ab) (ak:∀b,X b->¬M b) (d':∀b,G b->Old h b->¬M b):oa B G ab X cn v:=by obtain ⟨ws,Y,al,ao,aK,bG⟩:=H.ex;exact ⟨ws,Y,al.mod m fun b q=>ak b (ao b q).1,ao,aK,bG.mod m (fun b q=>ak b (aK b q)) d'⟩
theorem oa.nil (B:Nat) (G:aM->Prop) (h:ae):oa B G h (fun _=>False) [] .bj:=⟨[],fun _=>False,⟨by simp,rfl⟩,fun b q=>q.elim,fun b q=>q,.nil⟩
variable {α:Type}
def dF (s:de):List (de × α)->Option α
 | []=>none
 | (n,a)::aO=>if s=n then some a else dF s aO
def iw (s:de) (x:α):List (de × α)->List (de × α)
 | []=>[(s,x)]
 | (n,a)::aO=>if s=n then (s,x)::aO else (n,a)::iw s x aO
inductive kL (B:Nat) (G:aM->Prop) (h:ae):(aM->Prop)->List (de × List (List aL))->List (de × V)->Prop
 | nil {X:aM->Prop}:kL B G h X [] []
 | cons {X hF Y:aM->Prop} {aI:de} {cn:List (List aL)} {v:V} {st:List (de × List (List aL))} {aO:List (de × V)} (o:oa B G h hF cn v) (aa:∀b,hF b->X b/\¬Y b) (a6:∀b,Y b->X b) (jQ:kL B G h Y st aO):kL B G h X ((aI,cn)::st) ((aI,v)::aO)
theorem kL.mod {M:aM->Prop} {st:List (de × List (List aL))} {aO:List (de × V)} (H:kL B G h X st aO) (m:Mod M h ab) (ak:∀b,X b->¬M b) (d':∀b,G b->Old h b->¬M b):kL B G ab X st aO:=by
 induction H with
 | nil=>exact .nil
 | cons o aa a6 jQ bc=>exact .cons (o.mod m (fun b q=>ak b (aa b q).1) d') aa a6 (bc fun b q=>ak b (a6 b q))
theorem kL.ext {st:List (de × List (List aL))} {aO:List (de × V)} (H:kL B G h X st aO) (e:Ext h ab):kL B G ab X st aO:=H.mod (e.mod fun _=>False) (fun _ _ f=>f) (fun _ _ _ f=>f)
theorem kL.lens {st:List (de × List (List aL))} {aO:List (de × V)} (H:kL B G h X st aO) (aI:de):
 ∃(hF Z:aM->Prop),oa B G h hF ((dF aI st).getD []) ((ek aI aO).getD .bj)/\(∀b,hF b->X b/\¬Z b)/\(∀b,Z b->X b)/\
  ∀(ab:ae) (M:aM->Prop),Mod M h ab->(∀b,Z b->¬M b)->(∀b,G b->Old h b->¬M b)->∀vR rY cl,oa B G ab vR rY cl->(∀b,vR b->¬Z b)->kL B G ab (fun b=>Z b\/vR b) (iw aI rY st) (j' aI cl aO):=by
 induction H with
 | nil=>exact ⟨fun _=>False,fun _=>False,oa.nil _ _ _,fun b q=>q.elim,fun b q=>q.elim,fun ab M m bk d' vR rY cl o ak=>.cons (Y:=fun _=>False) o (fun b q=>⟨.inr q,fun f=>f⟩) (fun b q=>q.elim) .nil⟩
 | @cons X hF Y n cn v st aO o aa a6 jQ bc=>
   by_cases c:aI=n
   . subst c;simp only [dF,ek,ar2,ar0,iw,j'];exact ⟨hF,Y,o,aa,a6,fun ab M m bk d' vR rY cl b9 ak=>.cons b9 (fun b q=>⟨.inr q,ak b q⟩) (fun b q=>.inl q) (jQ.mod m bk d')⟩
   . simp only [dF,ek,arw c,iw,j'];obtain ⟨sv,Z,aJ,aR,bP,b4⟩:=bc;refine ⟨sv,fun b=>Z b\/hF b,aJ,fun b q=>⟨a6 b (aR b q).1,fun z=>?_⟩,fun b q=>?_,fun ab M m bk d' vR rY cl b9 ak=>?_⟩
     . rcases z with z | z
       . exact (aR b q).2 z
       . exact (aa b z).2 (aR b q).1
     . rcases q with q | q
       . exact a6 b (bP b q)
       . exact (aa b q).1
     . have t:=b4 ab M m (fun b q=>bk b (.inl q)) d' vR rY cl b9 fun b q z=>ak b q (.inl z);refine .cons (o.mod m (fun b q=>bk b (.inr q)) d') (fun b q=>⟨.inl (.inr q),fun z=>?_⟩) (fun b q=>?_) t
       . rcases z with z | z
         . exact (aa b q).2 (bP b z)
         . exact ak b z (.inr q)
       . rcases q with q | q
         . exact .inl (.inl q)
         . exact .inr q
theorem kL.mem {st:List (de × List (List aL))} {aO:List (de × V)} (H:kL B G h X st aO):(∀p ∈ aO,∃cn hF,(p.1,cn) ∈ st/\oa B G h hF cn p.2/\∀b,hF b->X b)/\∀q ∈ st,∃v,(q.1,v) ∈ aO/\∃hF,oa B G h hF q.2 v:=by
 induction H with
 | nil=>exact ⟨fun p ag=>(by cases ag),fun q ay=>(by cases ay)⟩
 | @cons X hF Y n cn v st aO o aa a6 jQ bc=>
   refine ⟨fun p ag=>?_,fun q ay=>?_⟩
   . rcases arM.1 ag with rfl | ag
     . exact ⟨cn,hF,ar1,o,fun b z=>(aa b z).1⟩
     . obtain ⟨rY,sv,a,b,c⟩:=bc.1 p ag;exact ⟨rY,sv,arT _ a,b,fun x z=>a6 x (c x z)⟩
   . rcases arM.1 ay with rfl | ay
     . exact ⟨v,ar1,hF,o⟩
     . obtain ⟨cl,a,b⟩:=bc.2 q ay;exact ⟨cl,arT _ a,b⟩
end
theorem w_ {α:Type} (s:de) (x:α) (t:de):∀aO:List (de × α),dF t (iw s x aO)=if t=s then some x else dF t aO
 | []=>by simp only [iw,dF]
 | (n,a)::aO=>by
   simp only [iw];by_cases q:s=n
   . subst q;simp only [ar2,dF]
     split<;>rfl
   . rw [arw q];simp only [dF,w_ s x t aO];by_cases r:t=n
     . rw [arz r,arw (fun z=>q (z.symm.trans r)),arz r]
     . rw [arw r,arw r]
theorem VH {α:Type} (s:de) (x:α):∀aO:List (de × α),(iw s x aO).map Prod.fst=if s ∈ aO.map Prod.fst then aO.map Prod.fst else aO.map Prod.fst++[s]
 | []=>by simp [iw]
 | (n,a)::aO=>by
   simp only [iw];by_cases q:s=n
   . subst q;simp
   . rw [arw q,ast,VH s x aO,ast];simp only [arM,q,false_or]
     split<;>simp
theorem Cw {α:Type} {s:de} {x:α}:∀{aO:List (de × α)},(aO.map Prod.fst).Nodup->((s,x) ∈ aO↔dF s aO=some x)
 | [],_=>by simp [dF]
 | (n,a)::aO,aV=>by
   simp only [ast,atr] at aV;simp only [arM,asi,dF];by_cases q:s=n
   . subst q;simp only [atn,ar2,arq];refine ⟨fun z=>?_,fun z=>.inl z.symm⟩;rcases z with z | z
     . exact z.symm
     . exact absurd (List.mem_map_of_mem (f:=Prod.fst) z) aV.1
   . rw [arw q];simp only [q,atL,false_or];exact Cw aV.2
def qS (cn:List (List aL)) (l:List aL):List (List aL):=List.zipWith (fun bo x=>bo++[x]) cn l
def DY (st:List (de × List (List aL))) (q:aL):List (de × List (List aL)):=if q.l=[] then st else iw (fB q) (qS ((dF (fB q) st).getD (q.l.map fun _=>[])) q.l) st
structure q3 (s:List aL) (st:List (de × List (List aL))):Prop where
 xe:(st.map Prod.fst).Nodup
 el:∀aI cn,dF aI st=some cn->(cn.length:Int)=aI.2.2.2/\(∃q ∈ s,fB q=aI/\q.l≠[])/\∀j (bp:j<cn.length),cn[j]=hh s aI j
 DZ:∀q ∈ s,q.l≠[]->∃cn,dF (fB q) st=some cn
theorem Ma (s:List aL) (q:aL) (aI:de) (j:Nat):hh (s++[q]) aI j=hh s aI j++(if fB q=aI then (match q.l[j]? with
 | some x=>[x]
 | none=>[]) else []):=by
 unfold hh;rw [List.filter_append,List.filterMap_append];congr 1;by_cases c:fB q=aI
 . simp only [atl,c,as7,ar2,List.filter_nil];cases ay:q.l[j]? <;>simp [ay]
 . simp [c]
theorem amj {s:List aL} {aI:de} {j:Nat} (h:∀q ∈ s,fB q=aI->q.l=[]):hh s aI j=[]:=by unfold hh;rw [List.filterMap_eq_nil_iff];intro q ay;rw [atq,arF] at ay;rw [h q ay.1 ay.2];rfl
theorem q3.nil:q3 [] []:=⟨by simp,fun aI cn h=>(by cases h),fun q ay=>(by cases ay)⟩
theorem q3.add {s:List aL} {st:List (de × List (List aL))} (H:q3 s st) (q:aL):q3 (s++[q]) (DY st q):=by
 unfold DY;by_cases ay:q.l=[]
 . rw [arz ay];refine ⟨H.xe,fun aI cn h=>?_,fun x ak c_=>?_⟩
   . obtain ⟨a,⟨y,b,c,d⟩,e⟩:=H.el aI cn h;refine ⟨a,⟨y,List.mem_append_left _ b,c,d⟩,fun j bp=>?_⟩;rw [e j bp,Ma,ay];simp
   . rcases asX.1 ak with ak | ak
     . exact H.DZ x ak c_
     . rw [asl] at ak;subst ak;exact absurd ay c_
 . rw [arw ay];have hold:∀CY,(dF (fB q) st).getD (q.l.map fun _=>[])=CY->CY.length=q.l.length/\∀j (bp:j<CY.length),CY[j]=hh s (fB q) j:=by
    intro CY e;cases ax:dF (fB q) st with
    | some p=>
      rw [ax,ar0] at e;subst e;obtain ⟨a,_,c⟩:=H.el _ _ ax;exact ⟨by simp only [fB] at a;omega,c⟩
    | none=>
      rw [ax,Option.getD_none] at e;subst e;refine ⟨by simp,fun j bp=>?_⟩;rw [as8,amj];intro x ak a8;by_cases bk:x.l=[]
      . exact bk
      . obtain ⟨cn,e⟩:=H.DZ x ak bk;rw [a8,ax] at e;cases e
   obtain ⟨hlen,dh⟩:=hold _ rfl;refine ⟨?_,fun aI cn h=>?_,fun x ak c_=>?_⟩
   . rw [VH]
     split
     . exact H.xe
     . rename_i hm;rw [atE];refine ⟨H.xe,by simp,fun a bs b ah=>?_⟩;rw [asl] at ah;rw [ah];exact fun z=>hm (z ▸ bs)
   . rw [w_] at h;by_cases c:aI=fB q
     . subst c;rw [arz rfl,arq] at h;subst h;have kX:(qS ((dF (fB q) st).getD (q.l.map fun _=>[])) q.l).length=q.l.length:=by unfold qS;rw [atw,hlen,Nat.min_self]
       refine ⟨by rw [kX];rfl,⟨q,List.mem_append_right _ (asl.2 rfl),rfl,ay⟩,fun j bp=>?_⟩;rw [Ma,arz rfl];have J':j<q.l.length:=by omega
       have e:(qS ((dF (fB q) st).getD (q.l.map fun _=>[])) q.l)[j]=((dF (fB q) st).getD (q.l.map fun _=>[]))[j]'(by omega)++[q.l[j]]:=by simp only [qS,List.getElem_zipWith]
       rw [e,dh j (by omega),ars J']
     . rw [arw c] at h;obtain ⟨a,⟨y,b,d,e⟩,f⟩:=H.el aI cn h;refine ⟨a,⟨y,List.mem_append_left _ b,d,e⟩,fun j bp=>?_⟩;rw [f j bp,Ma,arw (fun z=>c z.symm)];simp
   . by_cases c:fB x=fB q
     . exact ⟨_,by rw [w_,arz c]⟩
     . rcases asX.1 ak with ak | ak
       . obtain ⟨cn,e⟩:=H.DZ x ak c_;exact ⟨cn,by rw [w_,arw c];exact e⟩
       . rw [asl] at ak;subst ak;exact absurd rfl c
theorem q3.all {s:List aL} {st:List (de × List (List aL))} (H:q3 s st) (f:List aL->Bool):(st.all fun x=>x.2.all f)=s.all fun q=>(List.range q.l.length).all fun i=>f (hh s (fB q) i):=by
 rw [ass];simp only [arU,asW];constructor
 . intro h q ay i aw;obtain ⟨cn,e⟩:=H.DZ q ay (by intro z;rw [z] at aw;simp at aw);obtain ⟨a,_,c⟩:=H.el _ _ e;have hlen:cn.length=q.l.length:=by simp only [fB] at a;omega
   rw [<-c i (by omega)];exact h _ ((Cw H.xe).2 e) _ (arY _)
 . rintro h ⟨aI,cn⟩ ak bo hM;obtain ⟨a,⟨q,b,c,d⟩,e⟩:=H.el _ _ ((Cw H.xe).1 ak);obtain ⟨j,bp,rfl⟩:=atx hM;rw [e j bp,<-c];refine h q b j ?_;rw [<-c] at a;simp only [fB] at a bp;omega
theorem kL.keys [Lay] {B:Nat} {G:aM->Prop} {h:ae} {X:aM->Prop} {st:List (de × List (List aL))} {aO:List (de × V)} (H:kL B G h X st aO) (aI:de):(dF aI st).isSome=(ek aI aO).isSome:=by
 induction H with
 | nil=>rfl
 | @cons X hF Y n cn v st aO o aa a6 jQ bc=>
   simp only [dF,ek]
   split
   . rfl
   . exact bc
theorem VI {κ:Type} [DecidableEq κ] {s:κ} {x:V}:∀{aO:List (κ × V)},ek s aO=some x->j' s x aO=aO
 | [],h=>by cases h
 | (n,a)::aO,h=>by
   simp only [ek] at h;simp only [j'];by_cases q:s=n
   . rw [arz q,arq] at h;rw [arz q,h,q]
   . rw [arw q] at h ⊢;rw [VI h]
section
variable [Lay]
structure hl (B:Nat) (G E:aM->Prop) (g:ae) (m:Nat) (st:List (de × List (List aL))) (aO:List (de × V)):Prop where
 ex:∃X:aM->Prop,kL B G g X st aO/\(∀b,X b->Old g b/\B<=b0 b/\¬E b)/\hk km g (az m) aO
 em:E (az m)
variable {B:Nat} {G E:aM->Prop} {g:ae} {m:Nat} {st:List (de × List (List aL))} {aO:List (de × V)}
theorem hl.ext {dz:ae} (S:hl B G E g m st aO) (e:Ext g dz):hl B G E dz m st aO:=by obtain ⟨X,al,ao,aK⟩:=S.ex;exact ⟨⟨X,al.ext e,fun b z=>⟨e.bL (ao b z).1,(ao b z).2⟩,aK.ext e⟩,S.em⟩
theorem hl.nil {E:aM->Prop} {g:ae} (hm:E (az m)) (H:hk km g (az m) []):hl B G E g m [] []:=⟨⟨fun _=>False,.nil,fun b z=>z.elim,H⟩,hm⟩
theorem hl.more {au:aM->Prop} (S:hl B G E g m st aO) (h:∀b,au b->E b\/¬Old g b) (hm:au (az m)):hl B G au g m st aO:=by
 obtain ⟨X,al,ao,aK⟩:=S.ex;refine ⟨⟨X,al,fun b z=>⟨(ao b z).1,(ao b z).2.1,fun w=>?_⟩,aK⟩,hm⟩;rcases h b w with w | w
 . exact (ao b z).2.2 w
 . exact w (ao b z).1
theorem hl.look (S:hl B G E g m st aO) (aI:de):hv (structEq Tryz.prog 111) .bj false g (.map (az m)) (km aI)=some ((ek aI aO).getD .bj):=by obtain ⟨X,al,ao,aK⟩:=S.ex;rw [aK.look JR];cases ek aI aO<;>rfl
theorem hl.len (S:hl B G E g m st aO) (aI:de):ht ((ek aI aO).getD .bj)=some (.int .i64 ((dF aI st).getD []).length)/\((ek aI aO).getD .bj).one=true/\((ek aI aO).getD .bj).cells=[(ek aI aO).getD .bj]:=by obtain ⟨X,al,ao,aK⟩:=S.ex;obtain ⟨hF,Z,o,_⟩:=al.lens aI;obtain ⟨ws,Y,a,_⟩:=o.ex;exact ⟨a.v.len,a.v.one.1,a.v.one.2.1⟩
theorem hl.push (S:hl B G E g m st aO) (cG:B<=g.next) (d':∀b,G b->b0 b<B) (iR:∀b,E b->Old g b) (s0:B<=m) (aI:de) (hlen:((dF aI st).getD []).length+1<=top):
 ∃g1 g2 c g3 w' g4,g.new (.bU [.bj] 0 false)=g1/\Ext g g1/\ym Tryz.prog 111 .bj (.map (az m)) (km aI) g1=.val (.tuple [(ek aI aO).getD .bj,.int .i64 (c:Nat)]) g2/\
  kg 1 ((ek aI aO).getD .bj) (.slice (az g.next) 0 1 1) g2=.val w' g3/\ri g3 (.map (az m)) (.int .i64 (c:Nat)) w'=some g4/\
  hl B G E g4 m (iw aI ((dF aI st).getD []++[[]]) st) (j' aI w' aO)/\Mod (fun b=>B<=b0 b/\(¬E b\/b=az m)) g g4:=by
 obtain ⟨X,al,ao,aK⟩:=S.ex;obtain ⟨g1,bE,a2,a3⟩:=F6 g 1 1 [.bj] rfl (by unfold top;simp);have H8:=al.ext a2;have ua:=aK.ext a2;obtain ⟨hF,Z,o,gT,bk,M8⟩:=H8.lens aI;obtain ⟨c,g2,cc,cj,eI,jX⟩:=ua.entry JR aI .bj;have uD:∀b,X b->¬b=az m:=fun b z w=>(ao b z).2.2 (w ▸ S.em);have UT:∀b,G b->Old g1 b->¬b=az m:=fun b z _ w=>by have:=d' b z;rw [w,c7] at this;omega
 have cw:=o.mod cj (fun b z=>uD b (gT b z).1) UT;obtain ⟨ws,Y,s1,s2,iO,oT⟩:=cw.ex;have kT:¬az g.next=az m:=fun w=>by have:=iR _ S.em;rw [<-w] at this;unfold Old at this;rw [c7] at this;omega
 have dp:=a2.next
 obtain ⟨w',g3,d1,d2,d3,d4⟩:=Io (x:=.slice (az g.next) 0 1 1) (m:=1) (by omega) s1 ((a3.v.mod cj (fun b z=>by rw [show b=az g.next from z];exact kT))) (by rw [eI];omega) (by omega) rfl;have Tq:∀b,((ek aI aO).getD V.bj).aZ b->¬b=az m:=fun b z=>uD b (gT b (s2 b z).1).1;have E0:g3.get (az m)=g2.get (az m):=by
  have aW:Old g2 (az m):=by have:=ua.bL;unfold Old at this ⊢;rw [eI];exact this
  exact d3.get _ aW fun z=>Tq _ z rfl
 have Va:Old g3 (az m):=by have:=ua.bL;have:=d3.next;unfold Old at *;omega
 obtain ⟨g4,aJ,aR,bP,b4⟩:=jX g3 E0 Va w';have alu:∀b,Old g2 b↔Old g1 b:=fun b=>by unfold Old;rw [eI]
 have Yd:Mod (fun b=>b=az m\/((ek aI aO).getD V.bj).aZ b) g1 g3:=(cj.mono fun b _ z=>.inl z).trans (d3.mono fun b _ z=>.inr z);have HZ:Mod (fun b=>b=az m\/((ek aI aO).getD V.bj).aZ b) g1 g4:=Yd.trans (bP.mono fun b _ z=>.inl z);have eZ:∀b,Z b->¬(b=az m\/((ek aI aO).getD V.bj).aZ b):=fun b z w=>by
  rcases w with w | w
  . exact uD b (bk b z) w
  . exact (gT b (s2 b w).1).2 z
 have JB:∀b,G b->Old g1 b->¬(b=az m\/((ek aI aO).getD V.bj).aZ b):=fun b z o w=>by
  rcases w with w | w
  . exact UT b z o w
  . have:=d' b z;have:=(ao b (gT b (s2 b w).1).1).2.1;omega
 have ku:∀b,w'.aZ b->(((ek aI aO).getD V.bj).aZ b\/g1.next<=b0 b):=fun b z=>by
  rcases d4 b z with z | z
  . exact .inl z
  . exact .inr (by rw [eI] at z;exact z)
 have aeQ:∀b,Y b->Old g1 b:=fun b z=>a2.bL (ao b (gT b (iO b z)).1).1;have LR:oa B G g4 (fun b=>hF b\/w'.aZ b) ((dF aI st).getD []++[[]]) w':=by
  refine ⟨ws++[.bj],Y,?_,fun b z=>⟨.inr z,fun y=>?_⟩,fun b z=>.inl (iO b z),?_⟩
  . rw [arE,ato];exact d2.mod bP fun b z w=>by
     rcases ku b z with z | z
     . exact Tq b z w
     . have:=ua.bL;rw [<-show b=az m from w] at this;unfold Old at this;omega
  . rcases ku b z with z | z
    . exact (s2 b z).2 y
    . have:=aeQ b y;unfold Old at this;omega
  . have t:=oT.mod (d3.mono fun b _ z=>.inr z) (M:=fun b=>b=az m\/((ek aI aO).getD V.bj).aZ b) (fun b z w=>?_) (fun b z o w=>JB b z ((alu b).1 o) w)
    . have t2:=t.mod (bP.mono fun b _ z=>.inl z) (M:=fun b=>b=az m\/((ek aI aO).getD V.bj).aZ b) (fun b z w=>?_) (fun b z o w=>JB b z (by have:=d' b z;unfold Old;omega) w)
      . exact t2.snoc
      . rcases w with w | w
        . exact uD b (gT b (iO b z)).1 w
        . exact (s2 b w).2 z
    . rcases w with w | w
      . exact uD b (gT b (iO b z)).1 w
      . exact (s2 b w).2 z
 have fin:=M8 g4 _ HZ eZ JB _ _ w' LR (fun b z w=>by
  rcases z with z | z
  . exact (gT b z).2 w
  . rcases ku b z with z | z
    . exact (gT b (s2 b z).1).2 w
    . have:=a2.bL (ao b (bk b w)).1;unfold Old at this;omega)
 refine ⟨g1,g2,c,g3,w',g4,bE,a2,?_,d1,aJ,⟨⟨_,fin,fun b z=>?_,aR⟩,S.em⟩,?_⟩
 . simp only [ym,SE,aru,cc]
 . have e1:X b->Old g4 b/\B<=b0 b/\¬E b:=fun z=>⟨HZ.bL (a2.bL (ao b z).1),(ao b z).2⟩;rcases z with z | z | z
   . exact e1 (bk b z)
   . exact e1 (gT b z).1
   . rcases ku b z with w | w
     . exact e1 (gT b (s2 b w).1).1
     . have ml:Old g3 b:=d2.v.bL z;refine ⟨by unfold Old at ml ⊢;rw [b4];exact ml,by omega,fun y=>?_⟩;have:=iR b y;unfold Old at this;omega
 . refine (a2.mod _).trans (HZ.mono fun b _ z=>?_);rcases z with z | z
   . exact ⟨by rw [z,c7];exact s0,.inr z⟩
   . exact ⟨(ao b (gT b (s2 b z).1).1).2.1,.inl (ao b (gT b (s2 b z).1).1).2.2⟩
theorem hl.put (S:hl B G E g m st aO) (cG:B<=g.next) (d':∀b,G b->b0 b<B) (iR:∀b,E b->Old g b) (s0:B<=m) (aI:de) {j:Nat} (bp:j < ((dF aI st).getD []).length) {x:aL} {cs:List V} (C:bM G g x.enc cs) (iG:cs.length=5) (hlen:(((dF aI st).getD [])[j].length+1) * 5<=top):
 ∃b off w g1 w' g2 g3,fX 1 ((ek aI aO).getD .bj) (.int .i64 j)=some (.ptr b (off+j))/\gq (g.get b) (off+j)=some w/\g.new (.bU cs 0 false)=g1/\Ext g g1/\gq (g1.get b) (off+j)=some w/\
  kg 5 w (.slice (az g.next) 0 1 1) g1=.val w' g2/\(w'.one=true/\w'.cells=[w'])/\nK 1 g2 b (off+j) w' (g2.get b)=some g3/\
  (∀aI,hv (structEq Tryz.prog 111) .bj false g2 (.map (az m)) (km aI)=some ((ek aI aO).getD .bj))/\
  Mod (fun b=>B<=b0 b/\¬E b) g g2/\
  hl B G E g3 m (iw aI (((dF aI st).getD []).set j (((dF aI st).getD [])[j]++[x])) st) aO/\Mod (fun b=>B<=b0 b/\¬E b) g g3:=by
 obtain ⟨X,al,ao,aK⟩:=S.ex;have aB:=al.keys aI;obtain ⟨hF,Z,o,gT,bk,M8⟩:=al.lens aI;obtain ⟨ws,Y,s1,s2,iO,oT⟩:=o.ex;have qq:ws.length=((dF aI st).getD []).length:=by have:=s1.1;omega
 obtain ⟨w,x7,t1,t2,t3,t4,aoQ⟩:=oT.at bp;have FJ:ws[j]'(by omega)=w:=by have:=ars (l:=ws) (i:=j) (by omega);rw [t1] at this;exact (asK this).symm
 obtain ⟨b,off,bE,a2,a3⟩:=s1.v.j1 (k:=.i64) bp;have fa:=Ov s1.v bp bE;rw [atG] at bE;have bL:∀b,X b->Old g b:=fun b z=>(ao b z).1;have uD:∀b,X b->¬b=az m:=fun b z w=>(ao b z).2.2 (w ▸ S.em);have kx:=a2.dR (i:=j) (by omega);rw [FJ] at kx;have aJ:Ext g (g.new (.bU cs 0 false)):=(Ext.refl g).new _;have e8:=(a2.ext aJ).dR (i:=j) (by omega);rw [FJ] at e8;have Dd:∀c,w.aZ c->X c:=fun c z=>(gT c (iO c (t3 c z).1)).1;obtain ⟨w',g2,bJ,bO,c3,hT,c5⟩:=t2.add (ds:=x.enc) (cs:=cs) (C.gy fun b z=>⟨z,fun y=>by have:=d' b z;have:=(ao b (Dd b y)).2.1;omega⟩) (by omega) cG (by rw [arC];exact hlen) iG;have aR:∀c,w'.aZ c->w.aZ c\/g.next<b0 c:=c5
 have outer:∀c,((ek aI aO).getD V.bj).aZ c->¬w.aZ c:=fun c z y=>(s2 c z).2 (t3 c y).1;have ano:=s1.mod c3 outer;have ga:g2.get b=g.get b:=c3.get b (bL b (gT b (s2 b a3).1).1) (outer b a3);obtain ⟨k,d1,_,d2,_⟩:=ano.VS fa (c:=j) (by omega) (y:=w') bO.one.2.1 bO.one.1;have sh:Mod (fun c=>w.aZ c\/c=b) g g2:=c3.mono fun c _ z=>.inl z;have M2:Mod (fun c=>w.aZ c\/c=b) g (g2.set b k):=sh.set (fun _=>.inr rfl) k;have D8:X b:=(gT b (s2 b a3).1).1;have Sv:∀c,(w.aZ c\/c=b)->X c:=fun c z=>by
  rcases z with z | z
  . exact Dd c z
  . rw [z];exact D8
 have Su:∀c,G c->Old g c->¬(w.aZ c\/c=b):=fun c z _ y=>by have:=d' c z;have:=(ao c (Sv c y)).2.1;omega
 have eZ:∀c,Z c->¬(w.aZ c\/c=b):=fun c z y=>by
  rcases y with y | y
  . exact (gT c (iO c (t3 c y).1)).2 z
  . exact (gT c (y ▸ (s2 b a3).1)).2 z
 have ku:∀c,w'.aZ c->w.aZ c\/¬Old g c:=fun c z=>(aR c z).imp_right fun q o=>by unfold Old at o;omega
 have agM:∀c,w'.aZ c->¬c=b:=fun c z y=>by
  rcases ku c z with q | q
  . exact outer b a3 (y ▸ q)
  . exact q (y ▸ bL b D8)
 have inner:l1 B G (g2.set b k) (fun c=>x7 c\/w'.aZ c) (((dF aI st).getD []).set j (((dF aI st).getD [])[j]++[x])) (ws.set j w'):=by
  refine aoQ _ _ M2 (fun c z y=>?_) Su _ w' ?_ fun c z y=>?_
  . rcases y with y | y
    . exact (t3 c y).2 z
    . exact (s2 b a3).2 (t4 b (y ▸ z))
  . rw [atp];exact bO.mod ((Mod.refl (fun c=>c=b) g2).set (fun _=>rfl) k) agM fun c z _ _ y=>by have:=d' c z;have:=(ao b D8).2.1;rw [y] at *;omega
  . rcases ku c z with q | q
    . exact (t3 c q).2 y
    . exact q (bL c (gT c (iO c (t4 c y))).1)
 have LR:oa B G (g2.set b k) (fun c=>hF c\/w'.aZ c) (((dF aI st).getD []).set j (((dF aI st).getD [])[j]++[x])) ((ek aI aO).getD .bj):=by
  refine ⟨ws.set j w',fun c=>x7 c\/w'.aZ c,?_,fun c z=>⟨.inl (s2 c z).1,fun y=>?_⟩,fun c z=>?_,inner⟩
  . rw [atd];exact d2
  . rcases y with y | y
    . exact (s2 c z).2 (t4 c y)
    . rcases ku c y with q | q
      . exact outer c z q
      . exact q (bL c (gT c (s2 c z).1).1)
  . rcases z with z | z
    . exact .inl (iO c (t4 c z))
    . exact .inr z
 have fin:=M8 _ _ M2 eZ Su _ _ _ LR fun c z y=>by
  rcases z with z | z
  . exact (gT c z).2 y
  . rcases ku c z with q | q
    . exact (gT c (iO c (t3 c q).1)).2 y
    . exact q (bL c (bk c y))
 have Kd:j' aI ((ek aI aO).getD .bj) aO=aO:=by
  cases ax:ek aI aO with
  | some v=>rw [ar0];exact VI ax
  | none=>
    rw [ax] at aB;cases kX:dF aI st with
    | some p=>rw [kX] at aB;cases aB
    | none=>rw [kX] at bp;simp at bp
 rw [Kd] at fin;have NL:=aK.mod c3 fun z=>uD _ (Dd _ z) rfl;have ZU:¬az m=b:=fun z=>uD b D8 z.symm;refine ⟨b,off,w,_,w',g2,_,bE,kx,rfl,aJ,e8,bJ,⟨bO.one.1,bO.one.2.1⟩,d1,fun Fg=>?_,c3.mono fun c _ z=>(ao c (Dd c z)).2,⟨⟨_,fin,fun c z=>?_,NL.mod ((Mod.refl (fun c=>c=b) g2).set (fun _=>rfl) k) ZU⟩,S.em⟩,M2.mono fun c _ z=>(ao c (Sv c z)).2⟩
 . rw [NL.look JR];cases ek Fg aO<;>rfl
 . have e1:X c->Old (g2.set b k) c/\B<=b0 c/\¬E c:=fun z=>⟨M2.bL (bL c z),(ao c z).2⟩;rcases z with z | z | z
   . exact e1 (bk c z)
   . exact e1 (gT c z).1
   . rcases ku c z with q | q
     . exact e1 (Dd c q)
     . have ml:Old g2 c:=bO.rW z;refine ⟨by unfold Old at ml ⊢;rw [nP];exact ml,?_,fun y=>q (iR c y)⟩;unfold Old at q;omega
end
theorem er {A B:Prop}:cT.normal.andThen A B=A:=(rfl)
theorem hn {A B:Prop}:cT.ret.andThen A B=B:=(rfl)
theorem vV {i:Nat} {A B:Prop}:(cT.exit i).andThen A B=B:=(rfl)
theorem mD [Lay] {P:Program} {a b:a1} {r:bf} {h:ae} {Q:cT->bf->ae->Prop} (J:bf->ae->Prop) (aV:a.mi=true) (H:ff P a r h fun e a7 ab=>e.andThen (J a7 ab) (Q e a7 ab)) (K:∀a7 ab,J a7 ab->fj P b a7 ab Q):fj P (.seq a b) r h Q:=
 I_ a aV (fun e a7 ab q=>AR (K a7 ab) (fun q=>q) q) H
theorem Ja [Lay] {P:Program} {a b:a1} {r:bf} {h:ae} {Q:cT->bf->ae->Prop}:fj P (.seq a b) r h Q=fj P a r h fun e a7 ab=>e.andThen (fj P b a7 ab Q) (Q e a7 ab):=by simp only [fj]
theorem I' [Lay] {P:Program} {id:Nat} {b:a1} {r:bf} {h:ae} {Q:cT->bf->ae->Prop}:fj P (.block id b) r h Q=fj P b r h fun e a7 ab=>Q (e.leave id) a7 ab:=by simp only [fj]
theorem Ra [Lay] {P:Program} {b:a1} {r:bf} {h:ae} {Q:cT->bf->ae->Prop} (I:bf->ae->Prop) (μ:bf->ae->Nat) (aY:I r h) (aD:∀r h,I r h->fj P b r h fun e a7 ab=>e.andThen (I a7 ab/\μ a7 ab<μ r h) (Q e a7 ab)):fj P (.loop b) r h Q:=by simp only [fj];exact ⟨I,μ,aY,aD⟩
theorem Rb [Lay] {P:Program} {d t:Nat} {os:List bx} {b:a1} {r:bf} {h:ae} {Q:cT->bf->ae->Prop} (H:DP (r t) h fun v ab=>fj P (.seq (.an os) b) (r.set (some d) v) ab Q):fj P (.seq (.an (⟨some d,.mj (.t t),none,[t]⟩::os)) b) r h Q:=by
 have e:(aT.t t).aQ (r.trim [t])=r t:=by simp [aT.aQ,bf.trim]
 simp only [fj] at H;simp only [fj,yi,bx.sL];rw [e];exact H
def GX {κ:Type} (aO:List (κ × V)) (b:aM) (it:Nat) (g:ae):Nat:=match g.get b,g.get (az it) with
 | .mp es _,.gW _ _ seen _=>(gV seen aO es).length
 | _,_=>0
theorem GW [Lay] {κ:Type} {dK:κ->V} {aO h2:List (κ × V)} {b:aM} {it:Nat} {g:ae} (R:od dK g b it aO h2):GX aO b it g=h2.length:=by obtain ⟨es,clock,seen,al,ao,aK,bG,cK⟩:=R.ex;simp only [GX,al,bG,cK]
def ze (m:Nat) (aI:de) (g:ae):Nat:=match hv (structEq Tryz.prog 111) .bj false g (.map (az m)) (km aI) with
 | some w=>(match ht w with
   | some (.int _ i)=>i.toNat
   | _=>0)
 | none=>0
theorem hl.ze [Lay] {B:Nat} {G E:aM->Prop} {g:ae} {m:Nat} {st:List (de × List (List aL))} {aO:List (de × V)} (S:hl B G E g m st aO) (aI:de):Go.Proofs.YtgmhjhgoamjeeaaGreatDoor.ze m aI g=((dF aI st).getD []).length:=by simp only [Go.Proofs.YtgmhjhgoamjeeaaGreatDoor.ze,S.look aI,(S.len aI).1,ary]
def oK (cur:List (List aL)) (l:List aL) (j:Nat):List (List aL):=qS (cur.take j) (l.take j)++cur.drop j
theorem UG {cur:List (List aL)} {l:List aL} {j:Nat} (h:cur.length=l.length):(oK cur l j).length=l.length:=by unfold oK qS;simp only [arE,atw,ar6,asc];omega
theorem akJ {cur:List (List aL)} {l:List aL} {j:Nat} (h:cur.length=l.length) (bp:j<l.length):(oK cur l j)[j]'(by rw [UG h];exact bp)=cur[j]'(by omega):=by
 unfold oK qS;have ax:(List.zipWith (fun bo x=>bo++[x]) (cur.take j) (l.take j)).length=j:=by simp only [atw,ar6];omega
 rw [List.getElem_append_right (by omega)];simp only [ax,as6,List.getElem_drop,asB]
theorem akK {cur:List (List aL)} {l:List aL} {j:Nat} (h:cur.length=l.length) (bp:j<l.length):(oK cur l j).set j (cur[j]'(by omega)++[l[j]])=oK cur l (j+1):=by
 have SV:j<cur.length:=by omega
 unfold oK qS;have ax:(List.zipWith (fun bo x=>bo++[x]) (cur.take j) (l.take j)).length=j:=by simp only [atw,ar6];omega
 rw [List.set_append_right _ _ (by omega),ax,as6,ar3 SV,List.set_cons_zero,asg SV,asg bp,List.zipWith_append (by simp only [ar6];omega)];simp
theorem akI {cur:List (List aL)} {l:List aL} (h:cur.length=l.length):oK cur l l.length=qS cur l:=by unfold oK;rw [asZ,<-h,asZ,atk,asS]
theorem Mi {α:Type} (s:de) (x y:α):∀aO:List (de × α),iw s y (iw s x aO)=iw s y aO
 | []=>by simp [iw]
 | (n,a)::aO=>by
   simp only [iw];by_cases q:s=n
   . subst q;simp [iw]
   . simp only [arw q,iw,Mi s x y aO]
theorem ami (s:List aL) (aI:de) (j:Nat):(hh s aI j).length<=s.length:=by unfold hh;exact asq (List.length_filterMap_le _ _) (List.length_filter_le _ _)
theorem WO (l:List aL) (p:aL):h8 (l++[p])=if nY p=true then h8 l else h8 l++[p]:=by unfold h8;rw [List.filter_append];cases h:nY p<;>simp [h]
theorem WN:∀l:List aL,b8 (h8 l)<=b8 l
 | []=>arv _
 | p::l=>by
   have:=WN l;unfold h8 at this ⊢;rw [atl,b8]
   split
   . rw [b8];omega
   . omega
theorem amk {aI:de} {j:Nat}:∀s:List aL,s≠[]->b8 (hh s aI j)<b8 s/\True
 | [],h=>absurd rfl h
 | q::s,_=>by
   refine ⟨?_,trivial⟩;have key:∀s:List aL,b8 (hh s aI j)<=b8 s:=by
    intro s
    induction s with
    | nil=>exact arv _
    | cons q s bc=>
      have e:hh (q::s) aI j=(if fB q=aI then (match q.l[j]? with
       | some x=>[x]
       | none=>[]) else [])++hh s aI j:=by
       unfold hh;by_cases c:fB q=aI
       . simp only [atl,c,as7,ar2];cases ay:q.l[j]? <;>simp [ay]
       . simp [c]
      rw [e,zD,b8]
      have:b8 (if fB q=aI then (match q.l[j]? with
       | some x=>[x]
       | none=>[]) else [])<=q.size:=by
       split
       . cases ay:q.l[j]? with
         | none=>simp [b8]
         | some x=>
           have:=zE (arX ay);simp only [b8];omega
       . simp [b8]
      omega
   have e:hh (q::s) aI j=(if fB q=aI then (match q.l[j]? with
    | some x=>[x]
    | none=>[]) else [])++hh s aI j:=by
    unfold hh;by_cases c:fB q=aI
    . simp only [atl,c,as7,ar2];cases ay:q.l[j]? <;>simp [ay]
    . simp [c]
   rw [e,zD,b8];have:=key s
   have ad:b8 (if fB q=aI then (match q.l[j]? with
    | some x=>[x]
    | none=>[]) else [])<q.size:=by
    have ag:=nT q
    split
    . cases ay:q.l[j]? with
      | none=>simp only [b8];omega
      | some x=>
        have:=zE (arX ay);simp only [b8];omega
    . simp only [b8];omega
   omega
def Qd:a1:=
 a1.seq (a1.an [⟨(some 64),.cO (.t 8),none,[8]⟩,
  ⟨(some 65),.bin (.int .eql) (.t 64) (.c (.int .i64 16)),none,[64]⟩])
  (a1.cond (.t 65)
   (a1.seq (a1.draw [⟨(some 67),.cO (.t 0),none,[0]⟩,
     ⟨(some 68),.tq (.t 67),none,[67]⟩,
     ⟨(some 69),.dZ 0 (.t 68),none,[68]⟩,
     ⟨(some 70),.dR (.t 69),none,[69]⟩,
     ⟨(some 71),.dZ 3 (.t 12),none,[12]⟩,
     ⟨(some 72),.dR (.t 71),none,[71]⟩,
     ⟨(some 73),.look .str (.agg [(.str []),(.str []),(.int .i64 0),(.int .i64 0),.bj]) true (.t 70) (.t 72),none,[70,72]⟩,
     ⟨(some 66),.cO (.t 73),none,[73]⟩,
     ⟨(some 74),.ext (.t 66) 0,none,[66]⟩,
     ⟨(some 75),.ext (.t 66) 1,none,[66]⟩,
     ⟨(some 13),.new [(.str []),(.str []),(.int .i64 0),(.int .i64 0),.bj],none,[]⟩,
     ⟨none,.st 5 (.t 13) (.t 74),none,[13,74]⟩,
     ⟨(some 14),.cO (.t 75),none,[75]⟩] [(3,[11]),(5,[11]),(6,[11])])
    (a1.seq (a1.an [⟨(some 76),.cO (.t 14),none,[14]⟩,
      ⟨(some 77),.un .not (.t 76),none,[76]⟩,
      ⟨(some 78),.cO (.t 77),none,[77]⟩,
      ⟨(some 79),.dZ 1 (.t 13),(some (78,false)),[13,78]⟩,
      ⟨(some 80),.dR (.t 79),(some (78,false)),[79,78]⟩,
      ⟨(some 81),.cO (.t 9),(some (78,false)),[9,78]⟩,
      ⟨(some 82),.bin (.str .neq) (.t 80) (.t 81),(some (78,false)),[80,81,78]⟩,
      ⟨(some 83),.pick (.t 78) (.c (.bool true)) (.t 82),none,[78,82]⟩,
      ⟨(some 84),.cO (.t 83),none,[83]⟩,
      ⟨(some 85),.dZ 4 (.t 13),(some (84,false)),[13,84]⟩,
      ⟨(some 86),.dR (.t 85),(some (84,false)),[85,84]⟩,
      ⟨(some 87),.len .slice (.t 86),(some (84,false)),[86,84]⟩,
      ⟨(some 88),.dZ 4 (.t 12),(some (84,false)),[12,84]⟩,
      ⟨(some 89),.dR (.t 88),(some (84,false)),[88,84]⟩,
      ⟨(some 90),.len .slice (.t 89),(some (84,false)),[89,84]⟩,
      ⟨(some 91),.bin (.int .neq) (.t 87) (.t 90),(some (84,false)),[87,90,84]⟩,
      ⟨(some 92),.pick (.t 84) (.c (.bool true)) (.t 91),none,[84,91]⟩])
    (a1.cond (.t 92)
     (a1.seq (a1.an [⟨(some 4),.cO (.c (.bool false)),none,[]⟩])
      (a1.ret))
     (a1.skip))))
   (a1.skip))
def Qe:a1:=
 a1.seq (a1.an [⟨(some 93),.fL 5 (.t 12),none,[12]⟩,
  ⟨(some 94),.call 73 [(.t 93)],none,[93]⟩,
  ⟨(some 15),.new [(.int .i64 0),(.int .i64 0),(.str []),(.int .i64 0)],none,[]⟩,
  ⟨none,.st 4 (.t 15) (.t 94),none,[15,94]⟩])
  (a1.seq (a1.block 4 (a1.loop IK))
  (a1.seq (a1.an [⟨(some 110),.dZ 4 (.t 12),none,[12]⟩,
    ⟨(some 111),.dR (.t 110),none,[110]⟩,
    ⟨(some 112),.len .slice (.t 111),none,[111]⟩,
    ⟨(some 113),.cO (.c (.int .i64 0)),none,[]⟩])
  (a1.block 6 (a1.loop IL))))
theorem aa0:Qa=(a1.seq (a1.an [⟨(some 57),.bin (.int .lss) (.t 56) (.t 55),none,[56,55]⟩])
 (a1.seq (a1.cond (.t 57)
   (a1.skip)
   (a1.exit 2))
 (a1.seq (a1.block 3 (a1.seq (a1.an [⟨(some 58),.cd 5 (.t 54) (.t 56),none,[54,56]⟩,
   ⟨(some 59),.fL 5 (.t 58),none,[58]⟩,
   ⟨(some 12),.new [(.int .i64 0),(.int .i64 0),(.int .i64 0),(.str []),.bj],none,[]⟩,
   ⟨none,.st 5 (.t 12) (.t 59),none,[12,59]⟩])
   (a1.seq (a1.seq (a1.an [⟨(some 60),.dZ 0 (.t 12),none,[12]⟩,
     ⟨(some 61),.dR (.t 60),none,[60]⟩,
     ⟨(some 62),.cO (.t 8),none,[8]⟩,
     ⟨(some 63),.bin (.int .neq) (.t 61) (.t 62),none,[61,62]⟩])
    (a1.cond (.t 63)
     (a1.seq (a1.an [⟨(some 4),.cO (.c (.bool false)),none,[]⟩])
      (a1.ret))
     (a1.skip)))
   (a1.seq (Qd)
   (Qe)))))
 (a1.an [⟨(some 133),.bin (.int .add) (.t 56) (.c (.int .i64 1)),none,[56]⟩,
   ⟨(some 56),.cO (.t 133),none,[133]⟩])))):=rfl
theorem Vp [Lay] {B:Nat} {G:aM->Prop} {h:ae} {l:List aL} {v:V} (H:eH B G h 5 (l.map aL.enc) v) {k:IntKind} {i:Nat} (aw:i<l.length):
 ∃b off cm,fX 5 v (.int k i)=some (.ptr b (off+i * 5))/\bM G h l[i].enc (dq l[i] cm)/\bY G h 5 (l[i].l.map aL.enc) cm/\
  mW 5 (h.get b) (off+i * 5)=some (.agg (dq l[i] cm))/\gq (h.get b) (off+i * 5)=some (.int .i64 l[i].k)/\gq (h.get b) (off+i * 5+3)=some (.str l[i].s):=by
 obtain ⟨us,a,ah,aq,aI⟩:=H.ex;have sW:i<us.length:=by rw [ah,arC];exact aw
 have hu:=ars sW;have aJ:=aI i (l[i].enc) us[i] (by rw [ase,ars aw];rfl) hu;obtain ⟨cm,FH,L,_⟩:=aL.open (aJ.gy fun b q=>q.1);rw [FH] at aJ;obtain ⟨b,off,f1,f2⟩:=a.v.cd (k:=k) (i:=i) (by rw [List.length_map];exact aw);have av:=EP us i _ aq hu;have jd:=yw us aq;have hle:i * 5+5<=us.length * 5:=by omega
 have nr:∀j,j<5->us.flatten[i * 5+j]? =us[i][j]? :=fun j bp=>by
  have:((us.flatten.drop (i * 5)).take 5)[j]? =us[i][j]? :=by rw [av]
  rw [asw bp,asH] at this;exact this
 refine ⟨b,off,cm,f1,aJ.gy fun b q=>q.1,L,?_,?_,?_⟩
 . have:=f2.fL (i:=i * 5) (n:=5) (by omega);rw [this,av,FH]
 . rw [f2.dR (i:=i * 5) (by omega)];have:=nr 0 (by omega);rw [asB,FH,ars (by omega)] at this;simpa using this
 . rw [asC,f2.dR (i:=i * 5+3) (by omega)];have:=nr 3 (by omega);rw [FH,ars (by omega)] at this;simpa using this
theorem qX.find [Lay] {cs:List bz} {h:ae} {cv:aM} (H:qX Any cs h cv) (s:List UInt8):∃(p0 p1:List UInt8) (sJ sK:Int) (gm:V),p1=jR cs s/\gm.one=true/\gm.cells=[gm]/\(∀c,eh s cs=some c->p1=c.ty/\ht gm=some (.int .i64 c.arg.length))/\(∃n:Nat,ht gm=some (.int .i64 n))/\
 (∀g,Ext h g->gK jt.str.eq (.agg [.str [],.str [],.int .i64 0,.int .i64 0,.bj]) true g (.map cv) (.str s)=some (.tuple [.agg [.str p0,.str p1,.int .i64 sJ,.int .i64 sK,gm],.bool (eh s cs).isSome]))/\
 (∀g,Ext h g->gK jt.str.eq (.agg [.str [],.str [],.int .i64 0,.int .i64 0,.bj]) false g (.map cv) (.str s)=some (.agg [.str p0,.str p1,.int .i64 sJ,.int .i64 sK,gm])):=by
 obtain ⟨aO,al,ao⟩:=H.ex;have m:=ao s
 have look:∀ok g,Ext h g->gK jt.str.eq (.agg [.str [],.str [],.int .i64 0,.int .i64 0,.bj]) ok g (.map cv) (.str s)=some (match iK s aO with
  | some a=>(bif ok then .tuple [a,.bool true] else a)
  | none=>(bif ok then .tuple [.agg mo,.bool false] else .agg mo)):=fun ok g e=>by
  show gK jE _ _ _ _ _=_;rw [(al.ext e).look s (.agg mo) ok];cases iK s aO<;>rfl
 cases aq:eh s cs with
 | none=>
   rw [aq] at m;rw [show iK s aO=none from m] at look;exact ⟨[],[],0,0,.bj,by simp [jR,aq],rfl,rfl,fun c q=>(by cases q),⟨0,rfl⟩,look true,look false⟩
 | some c=>
   rw [aq] at m;obtain ⟨dA,f1,f2⟩:=m;rw [f1] at look;exact ⟨c.name,c.ty,c.tag,c.par,dA,by simp [jR,aq],f2.one.1,f2.one.2.1,fun fz q=>(by cases q;exact ⟨rfl,f2.len⟩),⟨_,f2.len⟩,look true,look false⟩
abbrev z5:List V:=[.int .i64 0,.int .i64 0,.int .i64 0,.str [],.bj]
theorem WX (cs:List bz) (n:Nat) (uM:n<=1000000000) (l:List aL) (aU:b8 l<=n)
 (bc:∀m,n=m+1->∀eE,b8 eE<=m->∀(k v:V) (h:ae),sg cs h k->bY Any h 5 (eE.map aL.enc) v->e4 Tryz.prog 71 [k,v] h (.bool (gk cs m eE)) h)
 (k v:V) (h:ae) (q5:sg cs h k) (HW:bY Any h 5 (l.map aL.enc) v):e4 Tryz.prog 71 [k,v] h (.bool (gk cs n l)) h:=by
 obtain ⟨hr,cv,mZ,rfl,DJ,No,_⟩:=q5.ex;have ax:=HW.len;have hle:=HW.le;rw [arC] at ax hle;have dh:=nc l;refine aaZ.d rfl ?_;unfold P';refine mD (fun r g=>r 0=.ptr (az hr) 0/\r 1=v/\h=g) rfl (cp ?_) fun r g ⟨a_,bH,e⟩=>?_
 . simp only [er,↓aj,aC,simprocAttr]
 subst e;refine mD (fun r g=>r 0=.ptr (az hr) 0/\r 1=v/\r 5=.bj/\h=g) rfl (cp ?_) fun r g ⟨a_,bH,bK,e⟩=>?_
 . simp only [a_,bH,er,↓aj,aC,simprocAttr]
 subst e;refine mD (fun r g=>r 0=.ptr (az hr) 0/\Ext h g/\∃iz,r 5=iz/\eH h.next (Old h) g 5 ((h8 l).map aL.enc) iz) rfl (cp ?_) fun r g ⟨a_,ei,iz,bK,n_⟩=>?_
 . simp +contextual only [a_,bH,bK,ax,↓aj,aC,simprocAttr];refine fR (fun r g=>r 0=.ptr (az hr) 0/\r 22=v/\r 23=.int .i64 l.length/\Ext h g/\∃(i:Nat) (iz:V),r 24=.int .i64 i/\i<=l.length/\r 5=iz/\eH h.next (Old h) g 5 ((h8 (l.take i)).map aL.enc) iz) (fun r g=>l.length - (r 24).toN) ?_ ?_
   . exact ⟨by simp only [a_,↓aj,bD,simprocAttr],by simp only [↓aj,bD,simprocAttr],by simp only [↓aj,bD,simprocAttr],Ext.refl h,0,_,by simp only [↓aj,bD,simprocAttr]<;>rfl,by omega,by simp only [bK,↓aj,bD,simprocAttr],eH.nil _ _ _ _⟩
   rintro r g ⟨a_,GH,tw,ei,i,iz,tx,aw,bK,n_⟩;unfold P_;by_cases aS:i<l.length
   . have g0:((i:Int) < (l.length:Int))=True:=arD (by omega);obtain ⟨b,off,cm,cd,X,eT,ld,_,_,_⟩:=aL.nJ HW (k:=.i64) aS;have d5:=ld g ei;have ol:=eT.one;have dM:=hj aS (by unfold top at hle;omega);obtain ⟨g1,al,aJ,cH⟩:=fy g z5 (dq l[i] cm);simp +contextual only [a_,GH,tw,tx,bK,g0,cd,d5,ol.1,ol.2.1,al,cH.g,↓aj,aC,simprocAttr];refine cb (aoS l[i] _ g1 ((X.ext ei).ext aJ)) ?_;rintro x g2 ⟨rfl,aR⟩;have c1:=cH.ext aR;have NU:=(n_.ext aJ).ext aR;have fZ:=((ei.trans aJ).trans aR).next
     cases hw:nY l[i] with
     | true=>
       simp +contextual only [a_,GH,tw,tx,bK,dM,↓aj,aC,simprocAttr];refine ⟨⟨(ei.trans aJ).trans aR,i+1,iz,rfl,aS,rfl,?_⟩,by omega⟩;rw [take_one aS,WO,arz hw];exact NU
     | false=>
       obtain ⟨an9,g3,bE,a2,a3,a4,a5⟩:=NU.add (ds:=l[i].enc) (cs:=dq l[i] cm) (((X.qC.ext ei).ext aJ).ext aR |>.gy fun b q=>⟨q,fun z=>by have:=n_.base z;unfold Old at q;omega⟩) (by omega) fZ (by have aa:(h8 (l.take i)).length<=(l.take i).length:=List.length_filter_le _ _;rw [arC,ar6] at *;unfold top;omega) rfl;simp +contextual only [a_,GH,tw,tx,bK,ol.1,ol.2.1,c1.g,bE,dM,↓aj,aC,simprocAttr];refine ⟨⟨((ei.trans aJ).trans aR).oL a3 fun b z=>n_.base z,i+1,an9,rfl,aS,rfl,?_⟩,by omega⟩;rw [take_one aS,WO,arw (by rw [hw];simp),atp];exact a2
   . have g0:((i:Int) < (l.length:Int))=False:=arx (by omega);rw [asu (by omega)] at n_;simp +contextual only [a_,GH,tw,tx,bK,g0,er,↓aj,aC,simprocAttr];exact ⟨ei,n_⟩
 have mK:=n_.len;rw [arC] at mK;have LK:=ei.next
 have dI:h8 l=[]->gk cs n l=true:=fun z=>by
  cases n with
  | zero=>rfl
  | succ n=>simp only [gk,z]
 refine mD (fun r dz=>r 0=.ptr (az hr) 0/\r 5=iz/\g=dz/\h8 l≠[]) rfl (cp ?_) fun r dz ⟨a_,bK,e,c_⟩=>?_
 . by_cases bk:h8 l=[]
   . have g0:((((h8 l).length:Nat):Int)=0)=True:=arD (by rw [bk];rfl);simp +contextual only [a_,bK,mK,g0,hn,↓aj,aC,simprocAttr];exact ⟨ei,by rw [dI bk]⟩
   . have g0:((((h8 l).length:Nat):Int)=0)=False:=arx (fun z=>bk (asj (by omega)));simp +contextual only [a_,bK,mK,g0,er,↓aj,aC,simprocAttr];exact bk
 subst e;obtain ⟨p,s,KQ⟩:∃p s,h8 l=p::s:=ath c_;have cu:=WN l;obtain ⟨m,rfl⟩:∃m,n=m+1:=⟨n-1,by have ag:=nT p;rw [KQ,b8] at cu;omega⟩;have ag3:=bc m rfl;rw [KQ] at n_ mK cu;have y7:gk cs (m+1) l=((p::s).all (kl cs p)&&(p::s).all fun q=>(List.range q.l.length).all fun i=>gk cs m (hh (p::s) (fB q) i)):=by simp only [gk,KQ]
 have aqe:(p::s).length<=1000000000:=by have:=nc (p::s);omega
 refine mD (fun r dz=>r 0=.ptr (az hr) 0/\r 5=iz/\r 8=.int .i64 p.k/\r 9=.str (jR cs p.s)/\g=dz) rfl (cp ?_) fun r dz ⟨a_,bK,b',dS,e⟩=>?_
 . obtain ⟨b,off,cm,cd,X,eT,ld,fK,mV⟩:=Vp n_ (k:=.i64) (i:=0) (by simp);obtain ⟨p0,p1,sJ,sK,gm,t1,t2,t3,t4,t5,t6,t7⟩:=No.find p.s;have mb:=t7 g ei;simp only [atu,asB,arV,List.getElem_cons_zero] at cd fK mV;have j1:fX 5 iz (.int .i64 0)=some (.ptr b off):=cd;simp +contextual only [a_,bK,j1,fK,mV,(DJ.ext ei).g,mb,er,↓aj,aC,simprocAttr];rw [t1]
 subst e;obtain ⟨g1,al,aJ,ua⟩:∃H,g.new (.mp [] 0)=H/\Ext g H/\hk km H (az g.next) []:=⟨_,rfl,(Ext.refl g).new _,hk.new _ g⟩;refine mD (fun r dz=>r 0=.ptr (az hr) 0/\r 5=iz/\r 8=.int .i64 p.k/\r 9=.str (jR cs p.s)/\r 10=.map (az g.next)/\g1=dz) rfl (cp ?_) fun r dz ⟨a_,bK,b',dS,dG,e⟩=>?_
 . simp +contextual only [a_,bK,b',dS,al,rS,tp,aT.opt,er,↓aj,aC,simprocAttr]
 subst e;have Bg:=ei.trans aJ;have Ym:=n_.ext aJ;have dp:g1.next=g.next+1:=by rw [<-al];rfl
 generalize cN:g.next=iq at *
 have lC:∀b,iz.aZ b->h.next<=b0 b/\b0 b<iq:=fun b z=>⟨n_.base z,by have:=n_.rW z;unfold Old at this;omega⟩
 have Ss:∀e,e=(fun b=>b=az iq\/iz.aZ b)->∀b,e b->Old g1 b:=fun e he b z=>by
  subst he;rcases z with z | z
  . subst z;exact hP (by omega)
  . exact aJ.bL (n_.rW z)
 generalize iR:(fun b=>b=az iq\/iz.aZ b)=gz at Ss;have aeA:=Ss gz rfl;have Bz:∀b,Old h b->b0 b<h.next:=fun b z=>z
 have s0:h.next<=iq:=LK
 have uh:hl h.next (Old h) gz g1 iq [] []:=hl.nil (by rw [<-iR];exact .inl rfl) ua
 have kU:∀q ∈ p::s,kl cs p q=false->gk cs (m+1) l=false:=fun q ay z=>by
  rw [y7];have:(p::s).all (kl cs p)=false:=by rw [att];exact ⟨q,ay,by rw [z];simp⟩
  rw [this,ar9]
 generalize Fp:p::s=ch at *;refine mD (fun r dz=>r 0=.ptr (az hr) 0/\r 10=.map (az iq)/\Ext h dz/\(∀q ∈ ch,kl cs p q=true)/\∃st aO,hl h.next (Old h) gz dz iq st aO/\q3 ch st) rfl (cp ?_) fun r dz ⟨a_,dG,jC,BM,st,aO,S,q2⟩=>?_
 . simp +contextual only [a_,bK,b',dS,dG,mK,↓aj,aC,simprocAttr];refine fR (fun r dz=>r 0=.ptr (az hr) 0/\r 8=.int .i64 p.k/\r 9=.str (jR cs p.s)/\r 10=.map (az iq)/\r 54=iz/\r 55=.int .i64 ch.length/\Ext h dz/\g1.next<=dz.next/\eH h.next (Old h) dz 5 (ch.map aL.enc) iz/\∃i:Nat,r 56=.int .i64 i/\i<=ch.length/\(∀q ∈ ch.take i,kl cs p q=true)/\∃st aO,hl h.next (Old h) gz dz iq st aO/\q3 (ch.take i) st) (fun r g=>ch.length - (r 56).toN) ?_ ?_
   . exact ⟨by simp only [a_,↓aj,bD,simprocAttr],by simp only [b',↓aj,bD,simprocAttr],by simp only [dS,↓aj,bD,simprocAttr],by simp only [dG,↓aj,bD,simprocAttr],by simp only [bK,↓aj,bD,simprocAttr],by simp only [↓aj,bD,simprocAttr],Bg,arv _,Ym,0,by simp only [↓aj,bD,simprocAttr]<;>rfl,by omega,fun q ay=>by simp at ay,[],[],uh,by simpa using q3.nil⟩
   rintro r dz ⟨a_,b',dS,dG,kE,kF,jC,nE,NT,i,kG,aw,BM,st,aO,S,q2⟩;rw [aa0];by_cases aS:i<ch.length
   . have g0:((i:Int) < (ch.length:Int))=True:=arD (by omega);obtain ⟨b,off,cm,cd,X,eT,ld,fK,mV⟩:=Vp NT (k:=.i64) aS;have ol:=eT.one;have dM:=hj aS (by omega);have ay:ch[i] ∈ ch:=arY aS;obtain ⟨g2,ao,aR,c1⟩:=fy dz z5 (dq ch[i] cm);have fZ:g2.next=dz.next+1:=by rw [<-ao];rfl
     have aqH:=jC.next
     have aqb:=DJ.lt;by_cases aB:ch[i].k=p.k
     . have gn:(ch[i].k=p.k)=True:=arD aB;simp +contextual only [a_,b',dS,dG,kE,kF,kG,g0,cd,ld,ol.1,ol.2.1,ao,c1.g,gn,↓aj,aC,simprocAttr];refine Nc (fun r g3=>r 0=.ptr (az hr) 0/\r 8=.int .i64 p.k/\r 9=.str (jR cs p.s)/\r 10=.map (az iq)/\r 12=.ptr (az dz.next) 0/\r 54=iz/\r 55=.int .i64 ch.length/\r 56=.int .i64 i/\Ext g2 g3/\kl cs p ch[i]=true) rfl (cp ?_) ?_
       . unfold Qd;by_cases hc:p.k=16
         . have yA:(p.k=16)=True:=arD hc;obtain ⟨p0,p1,sJ,sK,gm,t1,t2,t3,t4,⟨aqK,t5⟩,t6,t7⟩:=No.find ch[i].s;have ax:=eT.len;rw [arC] at ax;have zg:=t6 g2 (jC.trans aR);obtain ⟨E1,pK,cr,r_⟩:=fq g2 mo;have zh:=t6 E1 ((jC.trans aR).trans cr);have DL:=((DJ.ext jC).ext aR).ext cr;have Dg:=c1.ext cr;obtain ⟨g3,aK,bP,Dq⟩:=fy g2 mo [.str p0,.str p1,.int .i64 sJ,.int .i64 sK,gm];rw [pK] at aK;have DK:=(DJ.ext jC).ext aR;have ep:=c1.ext bP;have bu:(g2.next=hr)=False:=arx (by omega);have eQ:(hr=g2.next)=False:=arx (by omega);have ng:(g2.next=dz.next)=False:=arx (by omega);have tR:(dz.next=g2.next)=False:=arx (by omega);cases aq:(eh ch[i].s cs) with
           | none=>
             rw [aq] at zg zh;have ah:=kU ch[i] ay (by simp [kl,aB,hc,aq]);simp +contextual only [a_,b',dS,dG,kE,kF,kG,yA,zg,zh,t2,t3,t5,ax,DK.g,DL.g,c1.g,Dg.g,ep.g,r_.g,Dq.g,pK,aK,bu,eQ,ng,tR,um,Option.isSome_none,hn,↓aj,aC,simprocAttr];exact ⟨(jC.trans aR).trans bP,by rw [ah]⟩
           | some c=>
             rw [aq] at zg zh;obtain ⟨rfl,MV⟩:=t4 c aq;by_cases wX:c.ty=jR cs p.s
             . by_cases je:(c.arg.length:Int)=(ch[i].l.length:Int)
               . have qd:kl cs p ch[i]=true:=by
                  have:c.arg.length=ch[i].l.length:=by omega
                  simp [kl,aB,aq,wX,this]
                 simp +contextual only [a_,b',dS,dG,kE,kF,kG,yA,zg,zh,t2,t3,MV,ax,arD wX,arD je,DK.g,DL.g,c1.g,Dg.g,ep.g,r_.g,Dq.g,pK,aK,bu,eQ,ng,tR,um,asQ,er,↓aj,aC,simprocAttr];exact ⟨bP,qd⟩
               . have ah:=kU ch[i] ay (by
                  have:¬c.arg.length=ch[i].l.length:=by omega
                  simp [kl,aB,hc,aq,this])
                 simp +contextual only [a_,b',dS,dG,kE,kF,kG,yA,zg,zh,t2,t3,MV,ax,arD wX,arx je,DK.g,DL.g,c1.g,Dg.g,ep.g,r_.g,Dq.g,pK,aK,bu,eQ,ng,tR,um,asQ,hn,↓aj,aC,simprocAttr];exact ⟨(jC.trans aR).trans bP,by rw [ah]⟩
             . have ah:=kU ch[i] ay (by simp [kl,aB,hc,aq,wX]);simp +contextual only [a_,b',dS,dG,kE,kF,kG,yA,zg,zh,t2,t3,MV,ax,arx wX,DK.g,DL.g,c1.g,Dg.g,ep.g,r_.g,Dq.g,pK,aK,bu,eQ,ng,tR,um,asQ,hn,↓aj,aC,simprocAttr];exact ⟨(jC.trans aR).trans bP,by rw [ah]⟩
         . have yA:=arx hc;have qd:kl cs p ch[i]=true:=by simp [kl,aB,hc]
           simp +contextual only [a_,b',dS,dG,kE,kF,kG,yA,er,↓aj,aC,simprocAttr];exact ⟨Ext.refl g2,qd⟩
       rintro r g3 ⟨a_,b',dS,dG,ka,kE,kF,kG,bP,qd⟩;unfold Qe;have ep:=c1.ext bP;simp +contextual only [ka,ep.g,↓aj,aC,simprocAttr];refine cb (afd ch[i] _ g3 (((X.gy fun _ _=>trivial).ext aR).ext bP)) ?_;rintro x g4 ⟨rfl,b4⟩;have iB:=ep.ext b4;have yk:=(aR.trans bP).trans b4;have n4:=(bP.trans b4).next
       generalize SR:fB ch[i]=aI;have ax:=eT.len;rw [arC] at ax;have aqf:aI.2.2.2=(ch[i].l.length:Int):=by rw [<-SR];rfl
       have qQ:=SE aI;simp only [km] at qQ;have FF:ch[i].l.length<=1000000000:=by have aa:=nb ay;have ad:=size_eq ch[i];have aH:=nc ch[i].l;omega
       obtain ⟨g5,cK,dD,sc⟩:=fy g4 [.int .i64 0,.int .i64 0,.str [],.int .i64 0] [.int .i64 aI.1,.int .i64 aI.2.1,.str aI.2.2.1,.int .i64 aI.2.2.2];have UL:g5.next=g4.next+1:=by rw [<-cK];rfl
       have uc:Mod (fun b=>h.next<=b0 b) dz g5:=(yk.trans dD).mod _;generalize lB:(fun b=>gz b\/b=az dz.next\/b=az g4.next)=bC;have Hy:bC (az iq):=by rw [<-lB];exact .inl S.em
       have XP:bC (az dz.next):=by rw [<-lB];exact .inr (.inl rfl)
       have XO:bC (az g4.next):=by rw [<-lB];exact .inr (.inr rfl)
       have XQ:∀b,iz.aZ b->bC b:=fun b z=>by rw [<-lB,<-iR];exact .inl (.inr z)
       have Ny:∀b,bC b->Old g5 b:=fun b z=>by
        rw [<-lB] at z;rcases z with z | rfl | rfl
        . have:=aeA b z;unfold Old at this ⊢;omega
        . exact hP (by omega)
        . exact hP (by omega)
       have H9:hl h.next (Old h) bC g5 iq st aO:=(S.more (au:=bC) (fun b z=>by
        rw [<-lB] at z;rcases z with z | rfl | rfl
        . exact .inl z
        . exact .inr (zt (arv _))
        . exact .inr (zt (by omega))) Hy).ext (yk.trans dD)
       have TS:∀{G oY:ae},Mod (fun b=>h.next<=b0 b/\(¬bC b\/b=az iq)) G oY->eH h.next (Old h) G 5 (ch.map aL.enc) iz->eH h.next (Old h) oY 5 (ch.map aL.enc) iz:=fun m o=>o.mod m (fun b z w=>by
        rcases w.2 with w | w
        . exact w (XQ b z)
        . have:=(lC b z).2;rw [w,c7] at this;omega) fun b z _ _ w=>by have:=Bz b z;omega
       have TR:∀{G oY:ae} {rb:List V},Mod (fun b=>h.next<=b0 b/\(¬bC b\/b=az iq)) G oY->Has G dz.next rb->Has oY dz.next rb:=fun m o=>o.mod m fun w=>by
        rcases w.2 with w | w
        . exact w XP
        . have:=h5 w;omega
       have La:∀{G oY:ae} {rb:List V},Mod (fun b=>h.next<=b0 b/\(¬bC b\/b=az iq)) G oY->Has G g4.next rb->Has oY g4.next rb:=fun m o=>o.mod m fun w=>by
        rcases w.2 with w | w
        . exact w XO
        . have:=h5 w;omega
       have Ku:∀cn,dF aI st=some cn->cn.length=ch[i].l.length/\∀bo ∈ cn,bo.length<=1000000000:=fun cn ag=>by obtain ⟨a,_,c⟩:=q2.el aI cn ag;refine ⟨by omega,fun bo hM=>?_⟩;obtain ⟨j,bp,rfl⟩:=atx hM;rw [c j bp];have:=ami (ch.take i) aI j;rw [ar6] at this;omega
       simp +contextual only [a_,b',dS,dG,ka,kE,kF,kG,km,cK,↓aj,aC,simprocAttr]
       refine fR (fun r G=>r 0=.ptr (az hr) 0/\r 8=.int .i64 p.k/\r 9=.str (jR cs p.s)/\r 10=.map (az iq)/\r 12=.ptr (az dz.next) 0/\r 15=.ptr (az g4.next) 0/\r 54=iz/\r 55=.int .i64 ch.length/\r 56=.int .i64 i/\
        Mod (fun b=>h.next<=b0 b) dz G/\g5.next<=G.next/\eH h.next (Old h) G 5 (ch.map aL.enc) iz/\Has G dz.next (dq ch[i] cm)/\Has G g4.next [.int .i64 aI.1,.int .i64 aI.2.1,.str aI.2.2.1,.int .i64 aI.2.2.2]/\
        ∃jq K_,hl h.next (Old h) bC G iq jq K_/\(∀x,iw aI x jq=iw aI x st)/\((∃cn,dF aI st=some cn/\jq=st)\/(dF aI st=none/\∃c,c<=ch[i].l.length/\(dF aI jq).getD []=List.replicate c []/\(c=0->jq=st)))) (fun r G=>ch[i].l.length-ze iq aI G) ?_ ?_
       . refine ⟨by simp only [a_,↓aj,bD,simprocAttr],by simp only [b',↓aj,bD,simprocAttr],by simp only [dS,↓aj,bD,simprocAttr],by simp only [dG,↓aj,bD,simprocAttr],by simp only [ka,↓aj,bD,simprocAttr],by simp only [↓aj,bD,simprocAttr],by simp only [kE,↓aj,bD,simprocAttr],by simp only [kF,↓aj,bD,simprocAttr],by simp only [kG,↓aj,bD,simprocAttr],uc,arv _,NT.ext (yk.trans dD),iB.ext dD,sc,st,aO,H9,fun x=>rfl,?_⟩;cases ag:dF aI st with
         | some cn=>exact .inl ⟨cn,rfl,rfl⟩
         | none=>exact .inr ⟨rfl,0,asP _,rfl,fun _=>rfl⟩
       rintro r G ⟨a_,b',dS,dG,ka,xt,kE,kF,kG,vO,Ga,sk,nh,jU,jq,K_,ss,dP,ru⟩;unfold IK;have look:=ss.look aI;obtain ⟨Lp,Uf,aj8⟩:=ss.len aI;have Tw:=ss.ze aI;simp only [km] at look;by_cases S6:((dF aI jq).getD []).length<ch[i].l.length
       . have g0:((((dF aI jq).getD []).length:Int) < (ch[i].l.length:Int))=True:=arD (by omega);rcases ru with ⟨cn,ag,rfl⟩ | ⟨ag,c,aq,ru,mG⟩
         . exfalso;rw [ag,ar0] at S6;have:=(Ku cn ag).1;omega
         obtain ⟨jT,q1,bJ,xP,w',HE,cc,cj,eI,jX,jv,DU,si⟩:=ss.push (by omega) Bz (fun b z=>by have:=Ny b z;unfold Old at this ⊢;omega) s0 aI (by unfold top;omega);simp only [km] at eI;have Nl:=nh.ext cj;have Au:=jU.ext cj;simp +contextual only [a_,b',dS,dG,ka,xt,kE,kF,kG,nh.g,jU.g,look,Lp,ax,g0,cc,eI,jX,jv,qQ,aru,↓nf,↓aj,aC,simprocAttr];have fQ:((dF aI jq).getD []).length=c:=by rw [ru,arP]
         have n6:=si.next
         refine ⟨⟨vO.trans (si.mono fun b _ z=>z.1),by omega,TS si sk,TR si nh,La si jU,_,_,DU,fun x=>by rw [Mi,dP],.inr ⟨ag,c+1,by omega,?_,fun z=>by omega⟩⟩,?_⟩
         . rw [w_,arz rfl,ar0,ru,List.replicate_succ']
         . rw [DU.ze,Tw,w_,arz rfl,ar0,arE,ato];omega
       . have g0:((((dF aI jq).getD []).length:Int) < (ch[i].l.length:Int))=False:=arx (by omega);obtain ⟨fQ,SD⟩:((dF aI jq).getD []).length=ch[i].l.length/\(dF aI jq).getD []=(dF aI st).getD (ch[i].l.map fun _=>[]):=by
          rcases ru with ⟨cn,ag,rfl⟩ | ⟨ag,c,aq,ru,mG⟩
          . rw [ag,ar0,ar0];exact ⟨(Ku cn ag).1,rfl⟩
          . rw [ru,arP] at S6;rw [ru,arP,ag,Option.getD_none,List.map_const',show c=ch[i].l.length by omega];exact ⟨rfl,rfl⟩
         have agx:ch[i].l.length=0->jq=st:=fun z=>by
          rcases ru with ⟨cn,ag,e⟩ | ⟨ag,c,aq,ru,mG⟩
          . exact e
          . exact mG (by omega)
         have ae3:∀j (bp:j < ((dF aI jq).getD []).length),((dF aI jq).getD [])[j].length<=1000000000:=fun j bp=>by
          have hm:((dF aI jq).getD [])[j] ∈ (dF aI jq).getD []:=arY bp;generalize ((dF aI jq).getD [])[j]=bo at hm;rw [SD] at hm;cases ag:dF aI st with
          | some cn=>rw [ag,ar0] at hm;exact (Ku cn ag).2 bo hm
          | none=>
            rw [ag,Option.getD_none,atM] at hm;obtain ⟨_,_,rfl⟩:=hm;simp
         generalize ae7:(dF aI jq).getD []=cur at *;simp +contextual only [a_,b',dS,dG,ka,xt,kE,kF,kG,nh.g,jU.g,look,Lp,ax,g0,qQ,aru,↓nf,↓aj,aC,simprocAttr];clear look Lp Uf aj8 Tw g0
         refine fR (fun r G=>r 0=.ptr (az hr) 0/\r 8=.int .i64 p.k/\r 9=.str (jR cs p.s)/\r 10=.map (az iq)/\r 12=.ptr (az dz.next) 0/\r 15=.ptr (az g4.next) 0/\r 54=iz/\r 55=.int .i64 ch.length/\r 56=.int .i64 i/\r 111=cm/\r 112=.int .i64 ch[i].l.length/\
          Mod (fun b=>h.next<=b0 b) dz G/\g5.next<=G.next/\eH h.next (Old h) G 5 (ch.map aL.enc) iz/\Has G dz.next (dq ch[i] cm)/\Has G g4.next [.int .i64 aI.1,.int .i64 aI.2.1,.str aI.2.2.1,.int .i64 aI.2.2.2]/\
          ∃(j:Nat) (nW:List (de × List (List aL))) (Cj:List (de × V)),r 113=.int .i64 j/\j<=ch[i].l.length/\hl h.next (Old h) bC G iq nW Cj/\(dF aI nW).getD []=oK cur ch[i].l j/\(∀x,iw aI x nW=iw aI x st)/\(j=0->nW=jq)/\(0<j->nW=iw aI (oK cur ch[i].l j) st)) (fun r G=>ch[i].l.length - (r 113).toN) ?_ ?_
         . refine ⟨by simp only [a_,↓aj,bD,simprocAttr],by simp only [b',↓aj,bD,simprocAttr],by simp only [dS,↓aj,bD,simprocAttr],by simp only [dG,↓aj,bD,simprocAttr],by simp only [ka,↓aj,bD,simprocAttr],by simp only [xt,↓aj,bD,simprocAttr],by simp only [kE,↓aj,bD,simprocAttr],by simp only [kF,↓aj,bD,simprocAttr],by simp only [kG,↓aj,bD,simprocAttr],by simp only [↓aj,bD,simprocAttr],by simp only [↓aj,bD,simprocAttr],vO,Ga,sk,nh,jU,0,jq,K_,by simp only [↓aj,bD,simprocAttr]<;>rfl,by omega,ss,?_,dP,fun _=>rfl,fun z=>by omega⟩;rw [ae7];simp [oK,qS]
         clear nh jU sk ss vO Ga a_ b' dS dG ka xt kE kF kG dP;rintro r G ⟨a_,b',dS,dG,ka,xt,kE,kF,kG,VY,VZ,vO,Ga,sk,nh,jU,j,nW,Cj,V0,bp,ss,Kn,dP,afE,Ft⟩;unfold IL;have Kp:=UG (j:=j) fQ;by_cases fC:j<ch[i].l.length
         . have g0:((j:Int) < (ch[i].l.length:Int))=True:=arD (by omega);have YK:bY (Old h) G 5 (ch[i].l.map aL.enc) cm:=eT.mod vO (fun b z _=>⟨fun w=>by have:=Bz b z;omega,z⟩);obtain ⟨bR,k7,wl,j1,DW,YL,aj0,_,_,_⟩:=aL.nJ YK (k:=.i64) fC;have d5:=aj0 G (Ext.refl G);have U8:=YL.one;have aoR:=hj fC (by omega);obtain ⟨jT,NX,tY,lW⟩:=fy G z5 (dq ch[i].l[j] wl);have apr:jT.next=G.next+1:=by rw [<-NX];rfl
           generalize E6:(fun b=>bC b\/b=az G.next)=e';have Dr:∀b,bC b->e' b:=fun b z=>by rw [<-E6];exact .inl z
           have apl:e' (az G.next):=by rw [<-E6];exact .inr rfl
           have XR:∀b,e' b->Old jT b:=fun b z=>by
            rw [<-E6] at z;rcases z with z | rfl
            . have:=Ny b z;unfold Old at this ⊢;omega
            . exact hP (by omega)
           have q7:hl h.next (Old h) e' jT iq nW Cj:=(ss.more (au:=e') (fun b z=>by
            rw [<-E6] at z;rcases z with z | rfl
            . exact .inl z
            . exact .inr (zt (arv _))) (Dr _ Hy)).ext tY
           have fa:∀(ay:j < ((dF aI nW).getD []).length),((dF aI nW).getD [])[j]=cur[j]'(by omega):=fun ay=>by simp only [Kn];exact akJ fQ fC
           have rJ:j < ((dF aI nW).getD []).length:=by rw [Kn,Kp];exact fC
           obtain ⟨aqT,gw,w,q1,w',xP,HE,ck,cB,eL,kC,pH,al4,⟨al5,al6⟩,al7,al8,Yf,oe,n'⟩:=q7.put (by omega) Bz XR s0 aI (j:=j) rJ (x:=ch[i].l[j]) (cs:=dq ch[i].l[j] wl) (DW.ext tY) rfl (by rw [fa rJ];have:=ae3 j (by omega);unfold top;omega);have agq:((dF aI nW).getD []).set j (((dF aI nW).getD [])[j]++[ch[i].l[j]])=oK cur ch[i].l (j+1):=by rw [fa rJ,Kn];exact akK fQ fC
           rw [agq] at oe;have Ut:=q7.look aI;have Uu:=(q7.ext kC).look aI;have Uv:=al8 aI;simp only [km] at Ut Uu Uv;have m3:Mod (fun b=>h.next<=b0 b/\(¬bC b\/b=az iq)) jT xP:=Yf.mono fun b _ z=>⟨z.1,.inl fun y=>z.2 (Dr b y)⟩;have m4:Mod (fun b=>h.next<=b0 b/\(¬bC b\/b=az iq)) jT HE:=n'.mono fun b _ z=>⟨z.1,.inl fun y=>z.2 (Dr b y)⟩;have Au:=jU.ext tY;have XX:=Au.ext kC;have XY:=La m3 Au;have dv:=lW.ext kC;simp only [dq] at eL;simp +contextual only [a_,b',dS,dG,ka,xt,kE,kF,kG,VY,VZ,V0,g0,j1,d5,U8.1,U8.2.1,NX,lW.g,dv.g,Au.g,XX.g,XY.g,Ut,Uu,Uv,qQ,aru,ck,cB,eL,pH,al4,al5,al6,al7,aoR,Zr,↓nf,↓aj,aC,simprocAttr];have n4:=n'.next
           refine ⟨⟨(vO.trans (tY.mod _)).trans (n'.mono fun b _ z=>z.1),by omega,TS m4 (sk.ext tY),TR m4 (nh.ext tY),La m4 Au,j+1,_,Cj,rfl,fC,oe.more (fun b z=>.inl (Dr b z)) Hy,?_,fun x=>by rw [Mi,dP],fun z=>by omega,fun _=>dP _⟩,by omega⟩;rw [w_,arz rfl,ar0]
         . have g0:((j:Int) < (ch[i].l.length:Int))=False:=arx (by omega);have BS:j=ch[i].l.length:=by omega
           have aeS:nW=DY st ch[i]:=by
            unfold DY;by_cases bk:ch[i].l=[]
            . rw [arz bk];have agX:ch[i].l.length=0:=by rw [bk];rfl
              rw [afE (by omega),agx agX]
            . rw [arw bk,SR,Ft (by have:=List.length_pos_iff.2 bk;omega),BS,akI fQ,SD]
           have NF:=q2.add ch[i];rw [<-aeS,<-take_one aS] at NF;simp +contextual only [a_,b',dS,dG,ka,xt,kE,kF,kG,VY,VZ,V0,g0,dM,↓aj,aC,simprocAttr];refine ⟨⟨jC.oL vO fun b z=>z,by omega,sk,i+1,rfl,aS,fun q ay=>?_,nW,Cj,ss.more (fun b z=>.inl (by rw [<-lB];exact .inl z)) S.em,NF⟩,by omega⟩;rw [take_one aS] at ay;rcases asX.1 ay with ay | ay
           . exact BM q ay
           . rw [asl] at ay;subst ay;exact qd
     . have gn:=arx aB;have ah:=kU ch[i] ay (by simp [kl,aB]);simp +contextual only [a_,b',dS,dG,kE,kF,kG,g0,cd,ld,ol.1,ol.2.1,ao,c1.g,gn,hn,↓aj,aC,simprocAttr];exact ⟨jC.trans aR,by rw [ah]⟩
   . have g0:((i:Int) < (ch.length:Int))=False:=arx (by omega);rw [asu (by omega)] at q2 BM;simp +contextual only [a_,dG,kE,kF,kG,g0,er,↓aj,aC,simprocAttr];exact ⟨jC,BM,st,aO,S,q2⟩
 have cY:gk cs (m+1) l=st.all fun x=>x.2.all (gk cs m):=by rw [y7,q2.all,arU.2 BM,ar8]
 obtain ⟨X,Yk,dr,H0⟩:=S.ex;obtain ⟨cZ,bN,RK⟩:=H0.range;have ak8:=jC.next
 have yl:Ext dz (dz.new cZ):=(Ext.refl dz).new cZ;rw [Ja];refine Rc rfl (cp ?_);simp +contextual only [a_,dG,bN,er,↓nf,↓aj,aC,simprocAttr];rw [I'];refine Ra (fun r G=>r 0=.ptr (az hr) 0/\r 135=.ptr (az dz.next) 0/\Ext h G/\kL h.next (Old h) G X st aO/\∃h2,od km G (az iq) dz.next aO h2/\∀lQ ∈ aO,lQ ∈ h2\/∀cn,(lQ.1,cn) ∈ st->cn.all (gk cs m)=true) (fun r G=>GX aO (az iq) dz.next G) ?_ ?_
 . exact ⟨by simp only [a_,↓aj,bD,simprocAttr],by simp only [↓aj,bD,simprocAttr],jC.trans yl,Yk.ext yl,aO,RK,fun lQ ag=>.inl ag⟩
 clear RK a_ dG yl bN;rintro r G ⟨a_,qJ,uw,sk,h2,RK,Fe⟩;unfold Qc;refine Rb ?_;rw [qJ];refine RK.next (fun uK=>?_) fun lQ KE jT qy JY DS aS s8 Ff sh uM=>?_
 . refine ov rfl (cp ?_);simp +contextual only [a_,qJ,er,vV,↓aj,aC,simprocAttr];refine ov rfl (cp ?_);simp +contextual only [a_,qJ,↓aj,aC,simprocAttr];refine ⟨uw,?_⟩;have:gk cs (m+1) l=true:=by
    rw [cY,arU];rintro ⟨aI,cn⟩ ak;obtain ⟨w,hw,_⟩:=sk.mem.2 _ ak;rcases Fe _ hw with z | z
    . rw [uK] at z;cases z
    . exact z cn ak
   rw [this]
 . have hit:∀b,X b->¬b=az dz.next:=fun b z w=>zt (arv _) (w ▸ (dr b z).1)
   have NS:=sk.mod sh hit (fun b z _ w=>by have:=Bz b z;rw [w,c7] at this;omega);have Bf:Ext h jT:=uw.oL sh fun b z=>by rw [show b=az dz.next from z,c7];exact ak8
   have Kd:lQ ∈ aO:=by
    obtain ⟨es,clock,seen,_,_,_,_,e⟩:=RK.ex;have sub:∀(aO:List (de × V)) (es:List b_),∀x ∈ gV seen aO es,x ∈ aO:=by
     intro aO
     induction aO with
     | nil=>intro es x ak;cases es<;>simp [gV] at ak
     | cons y aO bc=>
       intro es x ak;cases es with
       | nil=>simp [gV] at ak
       | cons z es=>
         simp only [gV] at ak
         split at ak
         . exact arT _ (bc es x ak)
         . rcases arM.1 ak with rfl | ak
           . exact ar1
           . exact arT _ (bc es x ak)
    exact sub aO es lQ (e ▸ KE)
   obtain ⟨cn,hF,cE,Yl,_⟩:=NS.mem.1 lQ Kd;obtain ⟨aI,w⟩:=lQ;obtain ⟨ws,Y,s1,s2,iO,oT⟩:=Yl.ex;have BT:=(Cw q2.xe).1 cE;obtain ⟨dh,_,af'⟩:=q2.el aI cn BT;have qq:=s1.v.len;have aqp:ws.length=cn.length:=oT.len;have c_:ch≠[]:=by rw [<-Fp];simp
   have af_:∀j (bp:j<cn.length),b8 cn[j]<=m:=fun j bp=>by rw [af' j bp];have:=(amk (aI:=aI) (j:=j) ch c_).1;omega
   have aqk:cn.length<=1000000000:=by obtain ⟨_,⟨q,ay,a8,_⟩,_⟩:=q2.el aI cn BT;have aa:=nb ay;have ad:=size_eq q;have aH:=nc q.l;rw [<-a8] at dh;simp only [fB] at dh;omega
   have agN:ht w=some (.int .i64 cn.length):=qq;have afn:sM (.ptr (az dz.next) 0) jT=.val (.tuple [km aI,w]) jT:=JY;refine ov rfl (cp ?_);simp +contextual only [a_,qJ,afn,agN,er,vV,↓nf,↓aj,aC,simprocAttr];refine fR (fun r g=>r 0=.ptr (az hr) 0/\r 135=.ptr (az dz.next) 0/\r 140=w/\r 141=.int .i64 cn.length/\jT=g/\∃j:Nat,r 142=.int .i64 j/\j<=cn.length/\∀bo ∈ cn.take j,gk cs m bo=true) (fun r g=>cn.length - (r 142).toN) ?_ ?_
   . exact ⟨by simp only [a_,↓aj,bD,simprocAttr],by simp only [qJ,↓aj,bD,simprocAttr],by simp only [↓aj,bD,simprocAttr],by simp only [↓aj,bD,simprocAttr],rfl,0,by simp only [↓aj,bD,simprocAttr]<;>rfl,by omega,fun q ay=>by simp at ay⟩
   clear a_ qJ;rintro r g ⟨a_,qJ,GD,GF,e,j,GG,bp,rB⟩;subst e;unfold Qb;by_cases fC:j<cn.length
   . have g0:((j:Int) < (cn.length:Int))=True:=arD (by omega);obtain ⟨b,off,bE,a2,_⟩:=s1.v.j1 (k:=.i64) fC;rw [atG] at bE;have kx:=a2.dR (i:=j) (by omega);obtain ⟨vB,x7,t1,t2,t3,t4,_⟩:=oT.at fC;have FJ:ws[j]'(by omega)=vB:=by
      have:=ars (l:=ws) (i:=j) (by omega);rw [t1] at this;exact (asK this).symm
     rw [FJ] at kx;have dM:=hj fC (by omega);have Tb:=af_ j fC;have aqj:=nc cn[j];simp +contextual only [a_,qJ,GD,GF,GG,g0,bE,kx,↓aj,aC,simprocAttr];refine cb (K:=fun x ab=>x=.bool (gk cs m cn[j])/\jT=ab) ⟨_,_,ag3 cn[j] Tb _ vB jT (q5.ext Bf) (t2.eW (by rw [arC];unfold top;omega) (fun _ _=>trivial) fun _ _=>trivial),rfl,rfl⟩ ?_;rintro x g ⟨rfl,e⟩;subst e;cases mP:gk cs m cn[j] with
     | true=>
       simp +contextual only [a_,qJ,GD,GF,GG,dM,↓aj,aC,simprocAttr];refine ⟨⟨j+1,rfl,fC,fun bo hM=>?_⟩,by omega⟩;rw [asg fC] at hM;rcases asX.1 hM with hM | hM
       . exact rB bo hM
       . rw [asl] at hM;subst hM;exact mP
     | false=>
       have ah:gk cs (m+1) l=false:=by rw [cY,att];refine ⟨(aI,cn),cE,?_⟩;rw [ar4,att];exact ⟨cn[j],arY fC,by rw [mP];simp⟩
       simp +contextual only [a_,qJ,GD,GF,GG,hn,↓aj,aC,simprocAttr];exact ⟨Bf,by rw [ah]⟩
   . have g0:((j:Int) < (cn.length:Int))=False:=arx (by omega);rw [asu (by omega)] at rB;have Cc:=GW DS;have Cb:=GW RK;simp +contextual only [a_,qJ,GD,GF,GG,g0,er,↓aj,aC,simprocAttr];refine ⟨⟨Bf,NS,qy,DS,fun VD ag=>?_⟩,by rw [Cc,Cb];exact aS⟩;rcases Fe VD ag with z | z
     . rcases Ff VD z with rfl | z
       . refine .inr fun rY gF=>?_;have aJ:=(Cw q2.xe).1 gF;have aR:dF aI st=some rY:=aJ;rw [BT,arq] at aR;rw [<-aR,arU];exact rB
       . exact .inl z
     . exact .inr z
theorem WV (cs:List bz):∀(n:Nat),n<=1000000000->∀(l:List aL),b8 l<=n->∀(k v:V) (h:ae),sg cs h k->bY Any h 5 (l.map aL.enc) v->e4 Tryz.prog 71 [k,v] h (.bool (gk cs n l)) h
 | 0,aV,l,aU,k,v,h,q5,L=>WX cs 0 aV l aU (fun m e=>by omega) k v h q5 L
 | n+1,aV,l,aU,k,v,h,q5,L=>WX cs (n+1) aV l aU (fun m e eE fs br cl ab X6 X7=>by
   obtain rfl:n=m:=by omega
   exact WV cs n (by omega) eE fs br cl ab X6 X7) k v h q5 L
theorem an8 (cs:List bz) (l:List aL) (aU:b8 l<=1000000000) (k v:V) (h:ae) (q5:sg cs h k) (L:bY Any h 5 (l.map aL.enc) v):cR Tryz.prog 71 [k,v] h fun x ab=>x=.bool (gk cs (b8 l) l)/\h=ab:=
 ⟨_,_,WV cs (b8 l) aU l (arv _) k v h q5 L,rfl,rfl⟩
theorem RA {cs:List bz} {l:List aL} (aa:j6 [] cs=true) (ad:∀p ∈ l,jk p=true):gC cs l=if gk cs (b8 l) l=true then 0 else 2:=by unfold gC;rw [aa,arU.2 ad,ar8,ar8]
theorem ac0 {cs:List bz} {l:List aL} {p:aL} (ag:p ∈ l) (h:jk p=false):gC cs l=2:=by
 unfold gC;have:l.all jk=false:=by rw [att];exact ⟨p,ag,by rw [h];simp⟩
 rw [this,asL,ar9];simp
theorem RB {cs:List bz} {l:List aL} (h:j6 [] cs=false):gC cs l=2:=by unfold gC;rw [h,ar9,ar9];simp
theorem amf (cs:List bz) (l:List aL) (aU:b8 l+2<=1000000000) (dC v:V) (h:ae) (iD:bY Any h 5 (cs.map bz.enc) dC) (L:bY Any h 5 (l.map aL.enc) v):
 cR Tryz.prog 46 [dC,v] h fun x ab=>∃k,x=.tuple [k,.int .i64 (gC cs l)]/\Ext h ab/\(gC cs l=0->sg cs ab k):=by
 have ax:=L.len;have hle:=L.le;rw [arC] at ax hle;refine aaJ.z rfl (cp ?_);unfold PH;simp +contextual only [↓aj,aC,simprocAttr];refine cb (aj3 cs dC h iD) ?_;rintro x aa ⟨k,rfl,aJ,q5⟩;cases rG:j6 [] cs with
 | false=>
   simp +contextual only [↓aj,aC,simprocAttr];exact ⟨_,by rw [RB rG],aJ,fun z=>by rw [RB rG] at z;cases z⟩
 | true=>
   have NM:=q5 rG;simp +contextual only [ax,↓aj,aC,simprocAttr];refine fR (fun r g=>r 1=v/\r 6=k/\r 17=v/\r 18=.int .i64 l.length/\Ext aa g/\∃i:Nat,r 19=.int .i64 i/\i<=l.length/\∀p ∈ l.take i,jk p=true) (fun r g=>l.length - (r 19).toN) ?_ ?_
   . exact ⟨by simp only [↓aj,bD,simprocAttr],by simp only [↓aj,bD,simprocAttr],by simp only [↓aj,bD,simprocAttr],by simp only [↓aj,bD,simprocAttr],Ext.refl aa,0,by simp only [↓aj,bD,simprocAttr]<;>rfl,by omega,fun q ay=>by simp at ay⟩
   rintro r g ⟨bH,ed,oQ,r1,ei,i,Mk,aw,rB⟩;unfold PI;by_cases aS:i<l.length
   . have g0:((i:Int) < (l.length:Int))=True:=arD (by omega);obtain ⟨b,off,cm,cd,X,eT,ld,_,_,_⟩:=aL.nJ L (k:=.i64) aS;have d5:=ld g (aJ.trans ei);have ol:=eT.one;have dM:=hj aS (by unfold top at hle;omega);obtain ⟨g1,al,aR,cH⟩:=fy g z5 (dq l[i] cm);have ag:l[i] ∈ l:=arY aS;simp +contextual only [bH,ed,oQ,r1,Mk,g0,cd,d5,ol.1,ol.2.1,al,cH.g,↓aj,aC,simprocAttr];refine cb (Vz l[i] (by have:=nb ag;omega) _ g1 (((X.ext aJ).ext ei).ext aR)) ?_;rintro x g2 ⟨rfl,bP⟩;cases hm:jk l[i] with
     | false=>
       have ah:=ac0 (cs:=cs) ag hm;simp +contextual only [bH,ed,↓aj,aC,simprocAttr];exact ⟨_,by rw [ah],((aJ.trans ei).trans aR).trans bP,fun z=>by rw [ah] at z;cases z⟩
     | true=>
       simp +contextual only [bH,ed,oQ,r1,Mk,dM,↓aj,aC,simprocAttr];refine ⟨⟨(ei.trans aR).trans bP,i+1,rfl,aS,fun q ay=>?_⟩,by omega⟩;rw [take_one aS] at ay;rcases asX.1 ay with ay | ay
       . exact rB q ay
       . rw [asl] at ay;subst ay;exact hm
   . have g0:((i:Int) < (l.length:Int))=False:=arx (by omega);rw [asu (by omega)] at rB;simp +contextual only [bH,ed,oQ,r1,Mk,g0,↓aj,aC,simprocAttr];have Bg:=aJ.trans ei;refine cb (an8 cs l (by omega) k v g (NM.ext ei) (L.ext Bg)) ?_;rintro x dz ⟨rfl,e⟩;subst e;have he:=RA rG rB;cases mP:gk cs (b8 l) l with
     | true=>
       rw [mP] at he;simp +contextual only [ed,he,ar2,↓aj,aC,simprocAttr];exact ⟨_,rfl,Bg,NM.ext ei⟩
     | false=>
       rw [mP] at he;simp +contextual only [ed,he,arK,ar5,↓aj,aC,simprocAttr];exact ⟨_,rfl,Bg⟩
theorem CT (cs:List bz) (l:List aL) (aU:b8 l+2<=1000000000) (dC v:V) (h:ae) (iD:bY Any h 5 (cs.map bz.enc) dC) (L:bY Any h 5 (l.map aL.enc) v):
 cR Tryz.prog 20 [dC,v] h fun x ab=>x=.int .i64 (gC cs l)/\Ext h ab:=by
 refine aat.z rfl (cp ?_);unfold Pk;simp +contextual only [↓aj,aC,simprocAttr];refine cb (amf cs l aU dC v h iD L) ?_;rintro x aa ⟨k,rfl,aJ,_⟩;simp +contextual only [↓aj,aC,simprocAttr];exact aJ
end
end Go.Proofs.YtgmhjhgoamjeeaaGreatDoor
