/- The chapter's functions, walked by the abstract machine: plain lemmas, no condition. Printed by a program from longer texts: names made short. -/
import Derived.Test.YtgmhjhgoamjeeaaGreatDoorM16
import Derived.Test.YtgmhjhgoamjeeaaGreatDoorM17
set_option linter.unusedSectionVars false
set_option linter.unusedSimpArgs false
set_option linter.unusedVariables false
set_option maxHeartbeats 64000000
noncomputable section
namespace Go.Proofs.YtgmhjhgoamjeeaaGreatDoor
section
open Go a7
section
variable [Lay] {B:Nat} {G:aQ->Prop} {h ab:ag} {X:aQ->Prop}
inductive me (B:Nat) (G:aQ->Prop) (h:ag):(aQ->Prop)->List (List aE)->List V->Prop
 | nil {X:aQ->Prop}:me B G h X [] []
 | cons {X Y:aQ->Prop} {bo:List aE} {cp:List (List aE)} {w:V} {ws:List V} (aq:db B G h 5 (bo.map aE.enc) w) (hw:∀b,w.a' b->X b/\¬Y b) (a6:∀b,Y b->X b) (q4:me B G h Y cp ws):me B G h X (bo::cp) (w::ws)
theorem me.mod {M:aQ->Prop} {cp:List (List aE)} {ws:List V} (H:me B G h X cp ws) (m:Mod M h ab) (ao:∀b,X b->¬M b) (e8:∀b,G b->Old h b->¬M b):me B G ab X cp ws:=by
 induction H with
 | nil=>exact .nil
 | cons aq hw a6 q4 bd=>exact .cons (aq.mod m (fun b q=>ao b (hw b q).1) fun b q o _=>e8 b q o) hw a6 (bd fun b q=>ao b (a6 b q))
theorem me.len {cp:List (List aE)} {ws:List V} (H:me B G h X cp ws):ws.length=cp.length:=by
 induction H with
 | nil=>rfl
 | cons aq hw a6 q4 bd=>simp [bd]
theorem me.snoc {cp:List (List aE)} {ws:List V} (H:me B G h X cp ws):me B G h X (cp++[[]]) (ws++[.bL]):=by
 induction H with
 | nil=>exact .cons (Y:=fun _=>False) (db.nil _ _ _ _) (fun b q=>q.elim) (fun b q=>q.elim) .nil
 | cons aq hw a6 q4 bd=>exact .cons aq hw a6 bd
theorem me.at {cp:List (List aE)} {ws:List V} (H:me B G h X cp ws) {j:Nat} (bG:j<cp.length):
 ∃(w:V) (Z:aQ->Prop),ws[j]? =some w/\db B G h 5 (cp[j].map aE.enc) w/\(∀b,w.a' b->X b/\¬Z b)/\(∀b,Z b->X b)/\
  ∀(ab:ag) (M:aQ->Prop),Mod M h ab->(∀b,Z b->¬M b)->(∀b,G b->Old h b->¬M b)->∀CS w',db B G ab 5 (List.map aE.enc CS) w'->(∀b,w'.a' b->¬Z b)->me B G ab (fun b=>Z b\/w'.a' b) (cp.set j CS) (ws.set j w'):=by
 induction H generalizing j with
 | nil=>simp at bG
 | @cons X Y bo cp w ws aq hw a6 q4 bd=>
   cases j with
   | zero=>
     refine ⟨w,Y,rfl,aq,hw,a6,fun ab M m bl e8 CS w' o iW=>?_⟩;exact .cons o (fun b q=>⟨.inr q,iW b q⟩) (fun b q=>.inl q) (q4.mod m bl e8)
   | succ j=>
     simp only [aqb] at bG;obtain ⟨aC,Z,ax,aH,bA,b5,cW⟩:=bd (j:=j) (by omega);refine ⟨aC,fun b=>Z b\/w.a' b,by simpa using ax,by simpa using aH,fun b q=>⟨a6 b (bA b q).1,fun z=>?_⟩,fun b q=>?_,fun ab M m bl e8 CS w' o iW=>?_⟩
     . rcases z with z | z
       . exact (bA b q).2 z
       . exact (hw b z).2 (bA b q).1
     . rcases q with q | q
       . exact a6 b (b5 b q)
       . exact (hw b q).1
     . have t:=cW ab M m (fun b q=>bl b (.inl q)) e8 CS w' o fun b q z=>iW b q (.inl z);refine .cons (aq.mod m (fun b q=>bl b (.inr q)) fun b q o _=>e8 b q o) (fun b q=>⟨.inl (.inr q),fun z=>?_⟩) (fun b q=>?_) t
       . rcases z with z | z
         . exact (hw b q).2 (b5 b z)
         . exact iW b z (.inr q)
       . rcases q with q | q
         . exact .inl (.inl q)
         . exact .inr q
structure oo (B:Nat) (G:aQ->Prop) (h:ag) (X:aQ->Prop) (cp:List (List aE)) (v:V):Prop where
 ex:∃(ws:List V) (Y:aQ->Prop),ec B h 1 v cp.length ws/\(∀b,v.a' b->X b/\¬Y b)/\(∀b,Y b->X b)/\me B G h Y cp ws
theorem oo.mod {M:aQ->Prop} {cp:List (List aE)} {v:V} (H:oo B G h X cp v) (m:Mod M h ab) (ao:∀b,X b->¬M b) (e8:∀b,G b->Old h b->¬M b):oo B G ab X cp v:=by obtain ⟨ws,Y,al,au,aJ,bE⟩:=H.ex;exact ⟨ws,Y,al.mod m fun b q=>ao b (au b q).1,au,aJ,bE.mod m (fun b q=>ao b (aJ b q)) e8⟩
theorem oo.nil (B:Nat) (G:aQ->Prop) (h:ag):oo B G h (fun _=>False) [] .bL:=⟨[],fun _=>False,⟨by simp,rfl⟩,fun b q=>q.elim,fun b q=>q,.nil⟩
variable {α:Type}
def dz (s:cF):List (cF × α)->Option α
 | []=>none
 | (n,a)::aV=>if s=n then some a else dz s aV
def iL (s:cF) (x:α):List (cF × α)->List (cF × α)
 | []=>[(s,x)]
 | (n,a)::aV=>if s=n then (s,x)::aV else (n,a)::iL s x aV
inductive kT (B:Nat) (G:aQ->Prop) (h:ag):(aQ->Prop)->List (cF × List (List aE))->List (cF × V)->Prop
 | nil {X:aQ->Prop}:kT B G h X [] []
 | cons {X hc Y:aQ->Prop} {aq:cF} {cp:List (List aE)} {v:V} {st:List (cF × List (List aE))} {aV:List (cF × V)} (o:oo B G h hc cp v) (aa:∀b,hc b->X b/\¬Y b) (a6:∀b,Y b->X b) (q4:kT B G h Y st aV):kT B G h X ((aq,cp)::st) ((aq,v)::aV)
theorem kT.mod {M:aQ->Prop} {st:List (cF × List (List aE))} {aV:List (cF × V)} (H:kT B G h X st aV) (m:Mod M h ab) (ao:∀b,X b->¬M b) (e8:∀b,G b->Old h b->¬M b):kT B G ab X st aV:=by
 induction H with
 | nil=>exact .nil
 | cons o aa a6 q4 bd=>exact .cons (o.mod m (fun b q=>ao b (aa b q).1) e8) aa a6 (bd fun b q=>ao b (a6 b q))
theorem kT.ext {st:List (cF × List (List aE))} {aV:List (cF × V)} (H:kT B G h X st aV) (e:Ext h ab):kT B G ab X st aV:=H.mod (e.mod fun _=>False) (fun _ _ f=>f) (fun _ _ _ f=>f)
theorem kT.lens {st:List (cF × List (List aE))} {aV:List (cF × V)} (H:kT B G h X st aV) (aq:cF):
 ∃(hc Z:aQ->Prop),oo B G h hc ((dz aq st).getD []) ((ev aq aV).getD .bL)/\(∀b,hc b->X b/\¬Z b)/\(∀b,Z b->X b)/\
  ∀(ab:ag) (M:aQ->Prop),Mod M h ab->(∀b,Z b->¬M b)->(∀b,G b->Old h b->¬M b)->∀vV r' cQ,oo B G ab vV r' cQ->(∀b,vV b->¬Z b)->kT B G ab (fun b=>Z b\/vV b) (iL aq r' st) (jt aq cQ aV):=by
 induction H with
 | nil=>exact ⟨fun _=>False,fun _=>False,oo.nil _ _ _,fun b q=>q.elim,fun b q=>q.elim,fun ab M m bl e8 vV r' cQ o ao=>.cons (Y:=fun _=>False) o (fun b q=>⟨.inr q,fun f=>f⟩) (fun b q=>q.elim) .nil⟩
 | @cons X hc Y n cp v st aV o aa a6 q4 bd=>
   by_cases c:aq=n
   . subst c;simp only [dz,ev,aqB,aqL,iL,jt];exact ⟨hc,Y,o,aa,a6,fun ab M m bl e8 vV r' cQ b_ ao=>.cons b_ (fun b q=>⟨.inr q,ao b q⟩) (fun b q=>.inl q) (q4.mod m bl e8)⟩
   . simp only [dz,ev,aqa c,iL,jt];obtain ⟨AW,Z,ax,aH,bA,b5⟩:=bd;refine ⟨AW,fun b=>Z b\/hc b,ax,fun b q=>⟨a6 b (aH b q).1,fun z=>?_⟩,fun b q=>?_,fun ab M m bl e8 vV r' cQ b_ ao=>?_⟩
     . rcases z with z | z
       . exact (aH b q).2 z
       . exact (aa b z).2 (aH b q).1
     . rcases q with q | q
       . exact a6 b (bA b q)
       . exact (aa b q).1
     . have t:=b5 ab M m (fun b q=>bl b (.inl q)) e8 vV r' cQ b_ fun b q z=>ao b q (.inl z);refine .cons (o.mod m (fun b q=>bl b (.inr q)) e8) (fun b q=>⟨.inl (.inr q),fun z=>?_⟩) (fun b q=>?_) t
       . rcases z with z | z
         . exact (aa b q).2 (bA b z)
         . exact ao b z (.inr q)
       . rcases q with q | q
         . exact .inl (.inl q)
         . exact .inr q
theorem kT.mem {st:List (cF × List (List aE))} {aV:List (cF × V)} (H:kT B G h X st aV):(∀p ∈ aV,∃cp hc,(p.1,cp) ∈ st/\oo B G h hc cp p.2/\∀b,hc b->X b)/\∀q ∈ st,∃v,(q.1,v) ∈ aV/\∃hc,oo B G h hc q.2 v:=by
 induction H with
 | nil=>exact ⟨fun p ai=>(by cases ai),fun q ar=>(by cases ar)⟩
 | @cons X hc Y n cp v st aV o aa a6 q4 bd=>
   refine ⟨fun p ai=>?_,fun q ar=>?_⟩
   . rcases aql.1 ai with rfl | ai
     . exact ⟨cp,hc,aqy,o,fun b z=>(aa b z).1⟩
     . obtain ⟨r',AW,a,b,c⟩:=bd.1 p ai;exact ⟨r',AW,aqs _ a,b,fun x z=>a6 x (c x z)⟩
   . rcases aql.1 ar with rfl | ar
     . exact ⟨v,aqy,hc,o⟩
     . obtain ⟨cQ,a,b⟩:=bd.2 q ar;exact ⟨cQ,aqs _ a,b⟩
end
theorem xd {α:Type} (s:cF) (x:α) (t:cF):∀aV:List (cF × α),dz t (iL s x aV)=if t=s then some x else dz t aV
 | []=>by simp only [iL,dz]
 | (n,a)::aV=>by
   simp only [iL];by_cases q:s=n
   . subst q;simp only [aqB,dz]
     split<;>rfl
   . rw [aqa q];simp only [dz,xd s x t aV];by_cases r:t=n
     . rw [aqf r,aqa (fun z=>q (z.symm.trans r)),aqf r]
     . rw [aqa r,aqa r]
theorem Vm {α:Type} (s:cF) (x:α):∀aV:List (cF × α),(iL s x aV).map Prod.fst=if s ∈ aV.map Prod.fst then aV.map Prod.fst else aV.map Prod.fst++[s]
 | []=>by simp [iL]
 | (n,a)::aV=>by
   simp only [iL];by_cases q:s=n
   . subst q;simp
   . rw [aqa q,are,Vm s x aV,are];simp only [aql,q,false_or]
     split<;>simp
theorem Ct {α:Type} {s:cF} {x:α}:∀{aV:List (cF × α)},(aV.map Prod.fst).Nodup->((s,x) ∈ aV↔dz s aV=some x)
 | [],_=>by simp [dz]
 | (n,a)::aV,aW=>by
   simp only [are,asj] at aW;simp only [aql,aq9,dz];by_cases q:s=n
   . subst q;simp only [asb,aqB,ap3];refine ⟨fun z=>?_,fun z=>.inl z.symm⟩;rcases z with z | z
     . exact z.symm
     . exact absurd (List.mem_map_of_mem (f:=Prod.fst) z) aW.1
   . rw [aqa q];simp only [q,asu,false_or];exact Ct aW.2
def q1 (cp:List (List aE)) (l:List aE):List (List aE):=List.zipWith (fun bo x=>bo++[x]) cp l
def DU (st:List (cF × List (List aE))) (q:aE):List (cF × List (List aE)):=if q.l=[] then st else iL (ch q) (q1 ((dz (ch q) st).getD (q.l.map fun _=>[])) q.l) st
structure rb (s:List aE) (st:List (cF × List (List aE))):Prop where
 xg:(st.map Prod.fst).Nodup
 el:∀aq cp,dz aq st=some cp->(cp.length:Int)=aq.2.2.2/\(∃q ∈ s,ch q=aq/\q.l≠[])/\∀j (bG:j<cp.length),cp[j]=gA s aq j
 DV:∀q ∈ s,q.l≠[]->∃cp,dz (ch q) st=some cp
theorem LI (s:List aE) (q:aE) (aq:cF) (j:Nat):gA (s++[q]) aq j=gA s aq j++(if ch q=aq then (match q.l[j]? with
 | some x=>[x]
 | none=>[]) else []):=by
 unfold gA;rw [asg,arT];congr 1;by_cases c:ch q=aq
 . simp only [arG,c,arP,aqB,List.filter_nil];cases ar:q.l[j]? <;>simp [ar]
 . simp [c]
theorem alf {s:List aE} {aq:cF} {j:Nat} (h:∀q ∈ s,ch q=aq->q.l=[]):gA s aq j=[]:=by unfold gA;rw [List.filterMap_eq_nil_iff];intro q ar;rw [arK,aqg] at ar;rw [h q ar.1 ar.2];rfl
theorem rb.nil:rb [] []:=⟨by simp,fun aq cp h=>(by cases h),fun q ar=>(by cases ar)⟩
theorem rb.add {s:List aE} {st:List (cF × List (List aE))} (H:rb s st) (q:aE):rb (s++[q]) (DU st q):=by
 unfold DU;by_cases ar:q.l=[]
 . rw [aqf ar];refine ⟨H.xg,fun aq cp h=>?_,fun x ao cK=>?_⟩
   . obtain ⟨a,⟨y,b,c,d⟩,e⟩:=H.el aq cp h;refine ⟨a,⟨y,List.mem_append_left _ b,c,d⟩,fun j bG=>?_⟩;rw [e j bG,LI,ar];simp
   . rcases aq0.1 ao with ao | ao
     . exact H.DV x ao cK
     . rw [aqU] at ao;subst ao;exact absurd ar cK
 . rw [aqa ar];have hold:∀CT,(dz (ch q) st).getD (q.l.map fun _=>[])=CT->CT.length=q.l.length/\∀j (bG:j<CT.length),CT[j]=gA s (ch q) j:=by
    intro CT e;cases aw:dz (ch q) st with
    | some p=>
      rw [aw,aqL] at e;subst e;obtain ⟨a,_,c⟩:=H.el _ _ aw;exact ⟨by simp only [ch] at a;omega,c⟩
    | none=>
      rw [aw,Option.getD_none] at e;subst e;refine ⟨by simp,fun j bG=>?_⟩;rw [arV,alf];intro x ao a_;by_cases bl:x.l=[]
      . exact bl
      . obtain ⟨cp,e⟩:=H.DV x ao bl;rw [a_,aw] at e;cases e
   obtain ⟨hlen,du⟩:=hold _ rfl;refine ⟨?_,fun aq cp h=>?_,fun x ao cK=>?_⟩
   . rw [Vm]
     split
     . exact H.xg
     . rename_i hm;rw [List.nodup_append];refine ⟨H.xg,by simp,fun a bp b ak=>?_⟩;rw [aqU] at ak;rw [ak];exact fun z=>hm (z ▸ bp)
   . rw [xd] at h;by_cases c:aq=ch q
     . subst c;rw [aqf rfl,ap3] at h;subst h;have kf:(q1 ((dz (ch q) st).getD (q.l.map fun _=>[])) q.l).length=q.l.length:=by unfold q1;rw [asp,hlen,Nat.min_self]
       refine ⟨by rw [kf];rfl,⟨q,List.mem_append_right _ (aqU.2 rfl),rfl,ar⟩,fun j bG=>?_⟩;rw [LI,aqf rfl];have aeE:j<q.l.length:=by omega
       have e:(q1 ((dz (ch q) st).getD (q.l.map fun _=>[])) q.l)[j]=((dz (ch q) st).getD (q.l.map fun _=>[]))[j]'(by omega)++[q.l[j]]:=by simp only [q1,List.getElem_zipWith]
       rw [e,du j (by omega),ap4 aeE]
     . rw [aqa c] at h;obtain ⟨a,⟨y,b,d,e⟩,f⟩:=H.el aq cp h;refine ⟨a,⟨y,List.mem_append_left _ b,d,e⟩,fun j bG=>?_⟩;rw [f j bG,LI,aqa (fun z=>c z.symm)];simp
   . by_cases c:ch x=ch q
     . exact ⟨_,by rw [xd,aqf c]⟩
     . rcases aq0.1 ao with ao | ao
       . obtain ⟨cp,e⟩:=H.DV x ao cK;exact ⟨cp,by rw [xd,aqa c];exact e⟩
       . rw [aqU] at ao;subst ao;exact absurd rfl c
theorem rb.all {s:List aE} {st:List (cF × List (List aE))} (H:rb s st) (f:List aE->Bool):(st.all fun x=>x.2.all f)=s.all fun q=>(List.range q.l.length).all fun i=>f (gA s (ch q) i):=by
 rw [aqX];simp only [aqu,arF];constructor
 . intro h q ar i aB;obtain ⟨cp,e⟩:=H.DV q ar (by intro z;rw [z] at aB;simp at aB);obtain ⟨a,_,c⟩:=H.el _ _ e;have hlen:cp.length=q.l.length:=by simp only [ch] at a;omega
   rw [<-c i (by omega)];exact h _ ((Ct H.xg).2 e) _ (aqC _)
 . rintro h ⟨aq,cp⟩ ao bo na;obtain ⟨a,⟨q,b,c,d⟩,e⟩:=H.el _ _ ((Ct H.xg).1 ao);obtain ⟨j,bG,rfl⟩:=List.getElem_of_mem na;rw [e j bG,<-c];refine h q b j ?_;rw [<-c] at a;simp only [ch] at a bG;omega
theorem kT.keys [Lay] {B:Nat} {G:aQ->Prop} {h:ag} {X:aQ->Prop} {st:List (cF × List (List aE))} {aV:List (cF × V)} (H:kT B G h X st aV) (aq:cF):(dz aq st).isSome=(ev aq aV).isSome:=by
 induction H with
 | nil=>rfl
 | @cons X hc Y n cp v st aV o aa a6 q4 bd=>
   simp only [dz,ev]
   split
   . rfl
   . exact bd
theorem Vn {κ:Type} [DecidableEq κ] {s:κ} {x:V}:∀{aV:List (κ × V)},ev s aV=some x->jt s x aV=aV
 | [],h=>by cases h
 | (n,a)::aV,h=>by
   simp only [ev] at h;simp only [jt];by_cases q:s=n
   . rw [aqf q,ap3] at h;rw [aqf q,h,q]
   . rw [aqa q] at h ⊢;rw [Vn h]
section
variable [Lay]
structure hL (B:Nat) (G E:aQ->Prop) (g:ag) (m:Nat) (st:List (cF × List (List aE))) (aV:List (cF × V)):Prop where
 ex:∃X:aQ->Prop,kT B G g X st aV/\(∀b,X b->Old g b/\B<=ck b/\¬E b)/\hz ef g (aG m) aV
 em:E (aG m)
variable {B:Nat} {G E:aQ->Prop} {g:ag} {m:Nat} {st:List (cF × List (List aE))} {aV:List (cF × V)}
theorem hL.ext {dI:ag} (S:hL B G E g m st aV) (e:Ext g dI):hL B G E dI m st aV:=by obtain ⟨X,al,au,aJ⟩:=S.ex;exact ⟨⟨X,al.ext e,fun b z=>⟨e.bY (au b z).1,(au b z).2⟩,aJ.ext e⟩,S.em⟩
theorem hL.nil {E:aQ->Prop} {g:ag} (hm:E (aG m)) (H:hz ef g (aG m) []):hL B G E g m [] []:=⟨⟨fun _=>False,.nil,fun b z=>z.elim,H⟩,hm⟩
theorem hL.more {az:aQ->Prop} (S:hL B G E g m st aV) (h:∀b,az b->E b\/¬Old g b) (hm:az (aG m)):hL B G az g m st aV:=by
 obtain ⟨X,al,au,aJ⟩:=S.ex;refine ⟨⟨X,al,fun b z=>⟨(au b z).1,(au b z).2.1,fun w=>?_⟩,aJ⟩,hm⟩;rcases h b w with w | w
 . exact (au b z).2.2 w
 . exact w (au b z).1
theorem hL.look (S:hL B G E g m st aV) (aq:cF):hI (structEq Tryz.prog 111) .bL false g (.map (aG m)) (ef aq)=some ((ev aq aV).getD .bL):=by obtain ⟨X,al,au,aJ⟩:=S.ex;rw [aJ.look BB];cases ev aq aV<;>rfl
theorem hL.len (S:hL B G E g m st aV) (aq:cF):iF ((ev aq aV).getD .bL)=some (.int .i64 ((dz aq st).getD []).length)/\((ev aq aV).getD .bL).one=true/\((ev aq aV).getD .bL).cells=[(ev aq aV).getD .bL]:=by obtain ⟨X,al,au,aJ⟩:=S.ex;obtain ⟨hc,Z,o,_⟩:=al.lens aq;obtain ⟨ws,Y,a,_⟩:=o.ex;exact ⟨a.v.len,a.v.one.1,a.v.one.2.1⟩
theorem hL.push (S:hL B G E g m st aV) (cJ:B<=g.next) (e8:∀b,G b->ck b<B) (jh:∀b,E b->Old g b) (yY:B<=m) (aq:cF) (hlen:((dz aq st).getD []).length+1<=top):
 ∃g1 g2 c g3 w' g4,g.new (.bU [.bL] 0 false)=g1/\Ext g g1/\yr Tryz.prog 111 .bL (.map (aG m)) (ef aq) g1=.val (.tuple [(ev aq aV).getD .bL,.int .i64 (c:Nat)]) g2/\
  lF 1 ((ev aq aV).getD .bL) (.slice (aG g.next) 0 1 1) g2=.val w' g3/\rA g3 (.map (aG m)) (.int .i64 (c:Nat)) w'=some g4/\
  hL B G E g4 m (iL aq ((dz aq st).getD []++[[]]) st) (jt aq w' aV)/\Mod (fun b=>B<=ck b/\(¬E b\/b=aG m)) g g4:=by
 obtain ⟨X,al,au,aJ⟩:=S.ex;obtain ⟨g1,bC,a2,a3⟩:=r4 g 1 1 [.bL] rfl (by unfold top;simp);have XU:=al.ext a2;have rh:=aJ.ext a2;obtain ⟨hc,Z,o,hS,bl,MM⟩:=XU.lens aq;obtain ⟨c,g2,bM,b1,dR,gD⟩:=rh.entry BB aq .bL;have uE:∀b,X b->¬b=aG m:=fun b z w=>(au b z).2.2 (w ▸ S.em);have Uv:∀b,G b->Old g1 b->¬b=aG m:=fun b z _ w=>by have:=e8 b z;rw [w,dx] at this;omega
 have cY:=o.mod b1 (fun b z=>uE b (hS b z).1) Uv;obtain ⟨ws,Y,s1,s2,jO,o0⟩:=cY.ex;have kZ:¬aG g.next=aG m:=fun w=>by have:=jh _ S.em;rw [<-w] at this;unfold Old at this;rw [dx] at this;omega
 have cg:=a2.next
 obtain ⟨w',g3,d1,d2,d3,d4⟩:=ye (x:=.slice (aG g.next) 0 1 1) (m:=1) (by omega) s1 ((a3.v.mod b1 (fun b z=>by rw [show b=aG g.next from z];exact kZ))) (by rw [dR];omega) (by omega) rfl;have S7:∀b,((ev aq aV).getD V.bL).a' b->¬b=aG m:=fun b z=>uE b (hS b (s2 b z).1).1;have EX:g3.get (aG m)=g2.get (aG m):=by
  have aY:Old g2 (aG m):=by have:=rh.bY;unfold Old at this ⊢;rw [dR];exact this
  exact d3.get _ aY fun z=>S7 _ z rfl
 have UP:Old g3 (aG m):=by have:=rh.bY;have:=d3.next;unfold Old at *;omega
 obtain ⟨g4,ax,aH,bA,b5⟩:=gD g3 EX UP w';have Gh:∀b,Old g2 b↔Old g1 b:=fun b=>by unfold Old;rw [dR]
 have XI:Mod (fun b=>b=aG m\/((ev aq aV).getD V.bL).a' b) g1 g3:=(b1.mono fun b _ z=>.inl z).trans (d3.mono fun b _ z=>.inr z);have HC:Mod (fun b=>b=aG m\/((ev aq aV).getD V.bL).a' b) g1 g4:=XI.trans (bA.mono fun b _ z=>.inl z);have fa:∀b,Z b->¬(b=aG m\/((ev aq aV).getD V.bL).a' b):=fun b z w=>by
  rcases w with w | w
  . exact uE b (bl b z) w
  . exact (hS b (s2 b w).1).2 z
 have Jg:∀b,G b->Old g1 b->¬(b=aG m\/((ev aq aV).getD V.bL).a' b):=fun b z o w=>by
  rcases w with w | w
  . exact Uv b z o w
  . have:=e8 b z;have:=(au b (hS b (s2 b w).1).1).2.1;omega
 have iW:∀b,w'.a' b->(((ev aq aV).getD V.bL).a' b\/g1.next<=ck b):=fun b z=>by
  rcases d4 b z with z | z
  . exact .inl z
  . exact .inr (by rw [dR] at z;exact z)
 have adO:∀b,Y b->Old g1 b:=fun b z=>a2.bY (au b (hS b (jO b z)).1).1;have Ll:oo B G g4 (fun b=>hc b\/w'.a' b) ((dz aq st).getD []++[[]]) w':=by
  refine ⟨ws++[.bL],Y,?_,fun b z=>⟨.inr z,fun y=>?_⟩,fun b z=>.inl (jO b z),?_⟩
  . rw [aqi,ar8];exact d2.mod bA fun b z w=>by
     rcases iW b z with z | z
     . exact S7 b z w
     . have:=rh.bY;rw [<-show b=aG m from w] at this;unfold Old at this;omega
  . rcases iW b z with z | z
    . exact (s2 b z).2 y
    . have:=adO b y;unfold Old at this;omega
  . have t:=o0.mod (d3.mono fun b _ z=>.inr z) (M:=fun b=>b=aG m\/((ev aq aV).getD V.bL).a' b) (fun b z w=>?_) (fun b z o w=>Jg b z ((Gh b).1 o) w)
    . have t2:=t.mod (bA.mono fun b _ z=>.inl z) (M:=fun b=>b=aG m\/((ev aq aV).getD V.bL).a' b) (fun b z w=>?_) (fun b z o w=>Jg b z (by have:=e8 b z;unfold Old;omega) w)
      . exact t2.snoc
      . rcases w with w | w
        . exact uE b (hS b (jO b z)).1 w
        . exact (s2 b w).2 z
    . rcases w with w | w
      . exact uE b (hS b (jO b z)).1 w
      . exact (s2 b w).2 z
 have fin:=MM g4 _ HC fa Jg _ _ w' Ll (fun b z w=>by
  rcases z with z | z
  . exact (hS b z).2 w
  . rcases iW b z with z | z
    . exact (hS b (s2 b z).1).2 w
    . have:=a2.bY (au b (bl b w)).1;unfold Old at this;omega)
 refine ⟨g1,g2,c,g3,w',g4,bC,a2,?_,d1,ax,⟨⟨_,fin,fun b z=>?_,aH⟩,S.em⟩,?_⟩
 . simp only [yr,E',ap8,bM]
 . have fc:X b->Old g4 b/\B<=ck b/\¬E b:=fun z=>⟨HC.bY (a2.bY (au b z).1),(au b z).2⟩;rcases z with z | z | z
   . exact fc (bl b z)
   . exact fc (hS b z).1
   . rcases iW b z with w | w
     . exact fc (hS b (s2 b w).1).1
     . have zI:Old g3 b:=d2.v.bY z;refine ⟨by unfold Old at zI ⊢;rw [b5];exact zI,by omega,fun y=>?_⟩;have:=jh b y;unfold Old at this;omega
 . refine (a2.mod _).trans (HC.mono fun b _ z=>?_);rcases z with z | z
   . exact ⟨by rw [z,dx];exact yY,.inr z⟩
   . exact ⟨(au b (hS b (s2 b z).1).1).2.1,.inl (au b (hS b (s2 b z).1).1).2.2⟩
theorem hL.put (S:hL B G E g m st aV) (cJ:B<=g.next) (e8:∀b,G b->ck b<B) (jh:∀b,E b->Old g b) (yY:B<=m) (aq:cF) {j:Nat} (bG:j < ((dz aq st).getD []).length) {x:aE} {cs:List V} (C:cb G g x.enc cs) (hD:cs.length=5) (hlen:(((dz aq st).getD [])[j].length+1) * 5<=top):
 ∃b off w g1 w' g2 g3,hG 1 ((ev aq aV).getD .bL) (.int .i64 j)=some (.ptr b (off+j))/\gX (g.get b) (off+j)=some w/\g.new (.bU cs 0 false)=g1/\Ext g g1/\gX (g1.get b) (off+j)=some w/\
  lF 5 w (.slice (aG g.next) 0 1 1) g1=.val w' g2/\(w'.one=true/\w'.cells=[w'])/\r0 1 g2 b (off+j) w' (g2.get b)=some g3/\
  (∀aq,hI (structEq Tryz.prog 111) .bL false g2 (.map (aG m)) (ef aq)=some ((ev aq aV).getD .bL))/\
  Mod (fun b=>B<=ck b/\¬E b) g g2/\
  hL B G E g3 m (iL aq (((dz aq st).getD []).set j (((dz aq st).getD [])[j]++[x])) st) aV/\Mod (fun b=>B<=ck b/\¬E b) g g3:=by
 obtain ⟨X,al,au,aJ⟩:=S.ex;have aA:=al.keys aq;obtain ⟨hc,Z,o,hS,bl,MM⟩:=al.lens aq;obtain ⟨ws,Y,s1,s2,jO,o0⟩:=o.ex;have qI:ws.length=((dz aq st).getD []).length:=by have:=s1.1;omega
 obtain ⟨w,sE,t1,t2,t3,t4,anR⟩:=o0.at bG;have Fy:ws[j]'(by omega)=w:=by have:=ap4 (l:=ws) (i:=j) (by omega);rw [t1] at this;exact (ars this).symm
 obtain ⟨b,off,bC,a2,a3⟩:=s1.v.k' (k:=.i64) bG;have uG:=YR s1.v bG bC;rw [asl] at bC;have bY:∀b,X b->Old g b:=fun b z=>(au b z).1;have uE:∀b,X b->¬b=aG m:=fun b z w=>(au b z).2.2 (w ▸ S.em);have lY:=a2.eD (i:=j) (by omega);rw [Fy] at lY;have ax:Ext g (g.new (.bU cs 0 false)):=(Ext.refl g).new _;have eA:=(a2.ext ax).eD (i:=j) (by omega);rw [Fy] at eA;have Db:∀c,w.a' c->X c:=fun c z=>(hS c (jO c (t3 c z).1)).1;obtain ⟨w',g2,bW,b6,c3,fU,c5⟩:=t2.add (ds:=x.enc) (cs:=cs) (C.e3 fun b z=>⟨z,fun y=>by have:=e8 b z;have:=(au b (Db b y)).2.1;omega⟩) (by omega) cJ (by rw [ap6];exact hlen) hD;have aH:∀c,w'.a' c->w.a' c\/g.next<ck c:=c5
 have outer:∀c,((ev aq aV).getD V.bL).a' c->¬w.a' c:=fun c z y=>(s2 c z).2 (t3 c y).1;have amq:=s1.mod c3 outer;have RO:g2.get b=g.get b:=c3.get b (bY b (hS b (s2 b a3).1).1) (outer b a3);obtain ⟨k,d1,_,d2,_⟩:=amq.alv uG (c:=j) (by omega) (y:=w') b6.one.2.1 b6.one.1;have DK:Mod (fun c=>w.a' c\/c=b) g g2:=c3.mono fun c _ z=>.inl z;have M2:Mod (fun c=>w.a' c\/c=b) g (g2.set b k):=DK.set (fun _=>.inr rfl) k;have D4:X b:=(hS b (s2 b a3).1).1;have R8:∀c,(w.a' c\/c=b)->X c:=fun c z=>by
  rcases z with z | z
  . exact Db c z
  . rw [z];exact D4
 have R7:∀c,G c->Old g c->¬(w.a' c\/c=b):=fun c z _ y=>by have:=e8 c z;have:=(au c (R8 c y)).2.1;omega
 have fa:∀c,Z c->¬(w.a' c\/c=b):=fun c z y=>by
  rcases y with y | y
  . exact (hS c (jO c (t3 c y).1)).2 z
  . exact (hS c (y ▸ (s2 b a3).1)).2 z
 have iW:∀c,w'.a' c->w.a' c\/¬Old g c:=fun c z=>(aH c z).imp_right fun q o=>by unfold Old at o;omega
 have afK:∀c,w'.a' c->¬c=b:=fun c z y=>by
  rcases iW c z with q | q
  . exact outer b a3 (y ▸ q)
  . exact q (y ▸ bY b D4)
 have inner:me B G (g2.set b k) (fun c=>sE c\/w'.a' c) (((dz aq st).getD []).set j (((dz aq st).getD [])[j]++[x])) (ws.set j w'):=by
  refine anR _ _ M2 (fun c z y=>?_) R7 _ w' ?_ fun c z y=>?_
  . rcases y with y | y
    . exact (t3 c y).2 z
    . exact (s2 b a3).2 (t4 b (y ▸ z))
  . rw [aqS];exact b6.mod ((Mod.refl (fun c=>c=b) g2).set (fun _=>rfl) k) afK fun c z _ _ y=>by have:=e8 c z;have:=(au b D4).2.1;rw [y] at *;omega
  . rcases iW c z with q | q
    . exact (t3 c q).2 y
    . exact q (bY c (hS c (jO c (t4 c y))).1)
 have Ll:oo B G (g2.set b k) (fun c=>hc c\/w'.a' c) (((dz aq st).getD []).set j (((dz aq st).getD [])[j]++[x])) ((ev aq aV).getD .bL):=by
  refine ⟨ws.set j w',fun c=>sE c\/w'.a' c,?_,fun c z=>⟨.inl (s2 c z).1,fun y=>?_⟩,fun c z=>?_,inner⟩
  . rw [List.length_set];exact d2
  . rcases y with y | y
    . exact (s2 c z).2 (t4 c y)
    . rcases iW c y with q | q
      . exact outer c z q
      . exact q (bY c (hS c (s2 c z).1).1)
  . rcases z with z | z
    . exact .inl (jO c (t4 c z))
    . exact .inr z
 have fin:=MM _ _ M2 fa R7 _ _ _ Ll fun c z y=>by
  rcases z with z | z
  . exact (hS c z).2 y
  . rcases iW c z with q | q
    . exact (hS c (jO c (t3 c q).1)).2 y
    . exact q (bY c (bl c y))
 have JR:jt aq ((ev aq aV).getD .bL) aV=aV:=by
  cases aw:ev aq aV with
  | some v=>rw [aqL];exact Vn aw
  | none=>
    rw [aw] at aA;cases kf:dz aq st with
    | some p=>rw [kf] at aA;cases aA
    | none=>rw [kf] at bG;simp at bG
 rw [JR] at fin;have DG:=aJ.mod c3 fun z=>uE _ (Db _ z) rfl;have Za:¬aG m=b:=fun z=>uE b D4 z.symm;refine ⟨b,off,w,_,w',g2,_,bC,lY,rfl,ax,eA,bW,⟨b6.one.1,b6.one.2.1⟩,d1,fun ad5=>?_,c3.mono fun c _ z=>(au c (Db c z)).2,⟨⟨_,fin,fun c z=>?_,DG.mod ((Mod.refl (fun c=>c=b) g2).set (fun _=>rfl) k) Za⟩,S.em⟩,M2.mono fun c _ z=>(au c (R8 c z)).2⟩
 . rw [DG.look BB];cases ev ad5 aV<;>rfl
 . have fc:X c->Old (g2.set b k) c/\B<=ck c/\¬E c:=fun z=>⟨M2.bY (bY c z),(au c z).2⟩;rcases z with z | z | z
   . exact fc (bl c z)
   . exact fc (hS c z).1
   . rcases iW c z with q | q
     . exact fc (Db c q)
     . have zI:Old g2 c:=b6.tu z;refine ⟨by unfold Old at zI ⊢;rw [oT];exact zI,?_,fun y=>q (jh c y)⟩;unfold Old at q;omega
end
theorem kt {A B:Prop}:cV.normal.andThen A B=A:=(rfl)
theorem uk {A B:Prop}:cV.ret.andThen A B=B:=(rfl)
theorem NW {i:Nat} {A B:Prop}:(cV.exit i).andThen A B=B:=(rfl)
theorem wh [Lay] {P:Program} {a b:aR} {r:bg} {h:ag} {Q:cV->bg->ag->Prop} (J:bg->ag->Prop) (aW:a.mF=true) (H:ft P a r h fun e bb ab=>e.andThen (J bb ab) (Q e bb ab)) (K:∀bb ab,J bb ab->gg P b bb ab Q):gg P (.seq a b) r h Q:=
 IG a aW (fun e bb ab q=>AX (K bb ab) (fun q=>q) q) H
theorem ab0 [Lay] {P:Program} {a b:aR} {r:bg} {h:ag} {Q:cV->bg->ag->Prop}:gg P (.seq a b) r h Q=gg P a r h fun e bb ab=>e.andThen (gg P b bb ab Q) (Q e bb ab):=by simp only [gg]
theorem abW [Lay] {P:Program} {id:Nat} {b:aR} {r:bg} {h:ag} {Q:cV->bg->ag->Prop}:gg P (.block id b) r h Q=gg P b r h fun e bb ab=>Q (e.leave id) bb ab:=by simp only [gg]
theorem abX [Lay] {P:Program} {b:aR} {r:bg} {h:ag} {Q:cV->bg->ag->Prop} (I:bg->ag->Prop) (μ:bg->ag->Nat) (a1:I r h) (aD:∀r h,I r h->gg P b r h fun e bb ab=>e.andThen (I bb ab/\μ bb ab<μ r h) (Q e bb ab)):gg P (.loop b) r h Q:=by simp only [gg];exact ⟨I,μ,a1,aD⟩
theorem abY [Lay] {P:Program} {d t:Nat} {os:List br} {b:aR} {r:bg} {h:ag} {Q:cV->bg->ag->Prop} (H:DM (r t) h fun v ab=>gg P (.seq (.aj os) b) (r.set (some d) v) ab Q):gg P (.seq (.aj (⟨some d,.nq (.t t),none,[t]⟩::os)) b) r h Q:=by
 have e:(aX.t t).aT (r.trim [t])=r t:=by simp [aX.aT,bg.trim]
 simp only [gg] at H;simp only [gg,ym,br.sS];rw [e];exact H
def Mb {κ:Type} (aV:List (κ × V)) (b:aQ) (it:Nat) (g:ag):Nat:=match g.get b,g.get (aG it) with
 | .mp es _,.hl _ _ seen _=>(hk seen aV es).length
 | _,_=>0
theorem VW [Lay] {κ:Type} {dF:κ->V} {aV nn:List (κ × V)} {b:aQ} {it:Nat} {g:ag} (R:x8 dF g b it aV nn):Mb aV b it g=nn.length:=by obtain ⟨es,clock,seen,al,au,aJ,bE,c1⟩:=R.ex;simp only [Mb,al,bE,c1]
def zt (m:Nat) (aq:cF) (g:ag):Nat:=match hI (structEq Tryz.prog 111) .bL false g (.map (aG m)) (ef aq) with
 | some w=>(match iF w with
   | some (.int _ i)=>i.toNat
   | _=>0)
 | none=>0
theorem hL.zt [Lay] {B:Nat} {G E:aQ->Prop} {g:ag} {m:Nat} {st:List (cF × List (List aE))} {aV:List (cF × V)} (S:hL B G E g m st aV) (aq:cF):Go.Proofs.YtgmhjhgoamjeeaaGreatDoor.zt m aq g=((dz aq st).getD []).length:=by simp only [Go.Proofs.YtgmhjhgoamjeeaaGreatDoor.zt,S.look aq,(S.len aq).1,aqc]
def oQ (cur:List (List aE)) (l:List aE) (j:Nat):List (List aE):=q1 (cur.take j) (l.take j)++cur.drop j
theorem Uk {cur:List (List aE)} {l:List aE} {j:Nat} (h:cur.length=l.length):(oQ cur l j).length=l.length:=by unfold oQ q1;simp only [aqi,asp,aqw,aqG];omega
theorem ajB {cur:List (List aE)} {l:List aE} {j:Nat} (h:cur.length=l.length) (bG:j<l.length):(oQ cur l j)[j]'(by rw [Uk h];exact bG)=cur[j]'(by omega):=by
 unfold oQ q1;have aw:(List.zipWith (fun bo x=>bo++[x]) (cur.take j) (l.take j)).length=j:=by simp only [asp,aqw];omega
 rw [List.getElem_append_right (by omega)];simp only [aw,ar6,List.getElem_drop,aro]
theorem ajC {cur:List (List aE)} {l:List aE} {j:Nat} (h:cur.length=l.length) (bG:j<l.length):(oQ cur l j).set j (cur[j]'(by omega)++[l[j]])=oQ cur l (j+1):=by
 have Su:j<cur.length:=by omega
 unfold oQ q1;have aw:(List.zipWith (fun bo x=>bo++[x]) (cur.take j) (l.take j)).length=j:=by simp only [asp,aqw];omega
 rw [List.set_append_right _ _ (by omega),aw,ar6,aqz Su,List.set_cons_zero,aqn Su,aqn bG,List.zipWith_append (by simp only [aqw];omega)];simp
theorem ajA {cur:List (List aE)} {l:List aE} (h:cur.length=l.length):oQ cur l l.length=q1 cur l:=by unfold oQ;rw [ar3,<-h,ar3,ase,aq7]
theorem LQ {α:Type} (s:cF) (x y:α):∀aV:List (cF × α),iL s y (iL s x aV)=iL s y aV
 | []=>by simp [iL]
 | (n,a)::aV=>by
   simp only [iL];by_cases q:s=n
   . subst q;simp [iL]
   . simp only [aqa q,iL,LQ s x y aV]
theorem ale (s:List aE) (aq:cF) (j:Nat):(gA s aq j).length<=s.length:=by unfold gA;exact aqK (aqO _ _) (arU _ _)
theorem G6 (l:List aE) (p:aE):fj (l++[p])=if e' p=true then fj l else fj l++[p]:=by unfold fj;rw [asg];cases h:e' p<;>simp [h]
theorem Mu:∀l:List aE,b0 (fj l)<=b0 l
 | []=>ap7 _
 | p::l=>by
   have:=Mu l;unfold fj at this ⊢;rw [arG,b0]
   split
   . rw [b0];omega
   . omega
theorem alg {aq:cF} {j:Nat}:∀s:List aE,s≠[]->b0 (gA s aq j)<b0 s/\True
 | [],h=>absurd rfl h
 | q::s,_=>by
   refine ⟨?_,trivial⟩;have key:∀s:List aE,b0 (gA s aq j)<=b0 s:=by
    intro s
    induction s with
    | nil=>exact ap7 _
    | cons q s bd=>
      have e:gA (q::s) aq j=(if ch q=aq then (match q.l[j]? with
       | some x=>[x]
       | none=>[]) else [])++gA s aq j:=by
       unfold gA;by_cases c:ch q=aq
       . simp only [arG,c,arP,aqB];cases ar:q.l[j]? <;>simp [ar]
       . simp [c]
      rw [e,xt,b0]
      have:b0 (if ch q=aq then (match q.l[j]? with
       | some x=>[x]
       | none=>[]) else [])<=q.size:=by
       split
       . cases ar:q.l[j]? with
         | none=>simp [b0]
         | some x=>
           have:=vf (aqv ar);simp only [b0];omega
       . simp [b0]
      omega
   have e:gA (q::s) aq j=(if ch q=aq then (match q.l[j]? with
    | some x=>[x]
    | none=>[]) else [])++gA s aq j:=by
    unfold gA;by_cases c:ch q=aq
    . simp only [arG,c,arP,aqB];cases ar:q.l[j]? <;>simp [ar]
    . simp [c]
   rw [e,xt,b0];have:=key s
   have ae:b0 (if ch q=aq then (match q.l[j]? with
    | some x=>[x]
    | none=>[]) else [])<q.size:=by
    have ai:=qV q
    split
    . cases ar:q.l[j]? with
      | none=>simp only [b0];omega
      | some x=>
        have:=vf (aqv ar);simp only [b0];omega
    . simp only [b0];omega
   omega
def PE:aR:=
 aR.seq (aR.aj [⟨(some 64),.bV (.t 8),none,[8]⟩,
  ⟨(some 65),.bin (.int .eql) (.t 64) (.c (.int .i64 16)),none,[64]⟩])
  (aR.cond (.t 65)
   (aR.seq (aR.draw [⟨(some 67),.bV (.t 0),none,[0]⟩,
     ⟨(some 68),.tr (.t 67),none,[67]⟩,
     ⟨(some 69),.fy 0 (.t 68),none,[68]⟩,
     ⟨(some 70),.eD (.t 69),none,[69]⟩,
     ⟨(some 71),.fy 3 (.t 12),none,[12]⟩,
     ⟨(some 72),.eD (.t 71),none,[71]⟩,
     ⟨(some 73),.look .str (.agg [(.str []),(.str []),(.int .i64 0),(.int .i64 0),.bL]) true (.t 70) (.t 72),none,[70,72]⟩,
     ⟨(some 66),.bV (.t 73),none,[73]⟩,
     ⟨(some 74),.ext (.t 66) 0,none,[66]⟩,
     ⟨(some 75),.ext (.t 66) 1,none,[66]⟩,
     ⟨(some 13),.new [(.str []),(.str []),(.int .i64 0),(.int .i64 0),.bL],none,[]⟩,
     ⟨none,.st 5 (.t 13) (.t 74),none,[13,74]⟩,
     ⟨(some 14),.bV (.t 75),none,[75]⟩] [(3,[11]),(5,[11]),(6,[11])])
    (aR.seq (aR.aj [⟨(some 76),.bV (.t 14),none,[14]⟩,
      ⟨(some 77),.un .not (.t 76),none,[76]⟩,
      ⟨(some 78),.bV (.t 77),none,[77]⟩,
      ⟨(some 79),.fy 1 (.t 13),(some (78,false)),[13,78]⟩,
      ⟨(some 80),.eD (.t 79),(some (78,false)),[79,78]⟩,
      ⟨(some 81),.bV (.t 9),(some (78,false)),[9,78]⟩,
      ⟨(some 82),.bin (.str .neq) (.t 80) (.t 81),(some (78,false)),[80,81,78]⟩,
      ⟨(some 83),.pick (.t 78) (.c (.bool true)) (.t 82),none,[78,82]⟩,
      ⟨(some 84),.bV (.t 83),none,[83]⟩,
      ⟨(some 85),.fy 4 (.t 13),(some (84,false)),[13,84]⟩,
      ⟨(some 86),.eD (.t 85),(some (84,false)),[85,84]⟩,
      ⟨(some 87),.len .slice (.t 86),(some (84,false)),[86,84]⟩,
      ⟨(some 88),.fy 4 (.t 12),(some (84,false)),[12,84]⟩,
      ⟨(some 89),.eD (.t 88),(some (84,false)),[88,84]⟩,
      ⟨(some 90),.len .slice (.t 89),(some (84,false)),[89,84]⟩,
      ⟨(some 91),.bin (.int .neq) (.t 87) (.t 90),(some (84,false)),[87,90,84]⟩,
      ⟨(some 92),.pick (.t 84) (.c (.bool true)) (.t 91),none,[84,91]⟩])
    (aR.cond (.t 92)
     (aR.seq (aR.aj [⟨(some 4),.bV (.c (.bool false)),none,[]⟩])
      (aR.ret))
     (aR.skip))))
   (aR.skip))
def PF:aR:=
 aR.seq (aR.aj [⟨(some 93),.fX 5 (.t 12),none,[12]⟩,
  ⟨(some 94),.call 73 [(.t 93)],none,[93]⟩,
  ⟨(some 15),.new [(.int .i64 0),(.int .i64 0),(.str []),(.int .i64 0)],none,[]⟩,
  ⟨none,.st 4 (.t 15) (.t 94),none,[15,94]⟩])
  (aR.seq (aR.block 4 (aR.loop Im))
  (aR.seq (aR.aj [⟨(some 110),.fy 4 (.t 12),none,[12]⟩,
    ⟨(some 111),.eD (.t 110),none,[110]⟩,
    ⟨(some 112),.len .slice (.t 111),none,[111]⟩,
    ⟨(some 113),.bV (.c (.int .i64 0)),none,[]⟩])
  (aR.block 6 (aR.loop Io))))
theorem Z9:PB=(aR.seq (aR.aj [⟨(some 57),.bin (.int .lss) (.t 56) (.t 55),none,[56,55]⟩])
 (aR.seq (aR.cond (.t 57)
   (aR.skip)
   (aR.exit 2))
 (aR.seq (aR.block 3 (aR.seq (aR.aj [⟨(some 58),.bQ 5 (.t 54) (.t 56),none,[54,56]⟩,
   ⟨(some 59),.fX 5 (.t 58),none,[58]⟩,
   ⟨(some 12),.new [(.int .i64 0),(.int .i64 0),(.int .i64 0),(.str []),.bL],none,[]⟩,
   ⟨none,.st 5 (.t 12) (.t 59),none,[12,59]⟩])
   (aR.seq (aR.seq (aR.aj [⟨(some 60),.fy 0 (.t 12),none,[12]⟩,
     ⟨(some 61),.eD (.t 60),none,[60]⟩,
     ⟨(some 62),.bV (.t 8),none,[8]⟩,
     ⟨(some 63),.bin (.int .neq) (.t 61) (.t 62),none,[61,62]⟩])
    (aR.cond (.t 63)
     (aR.seq (aR.aj [⟨(some 4),.bV (.c (.bool false)),none,[]⟩])
      (aR.ret))
     (aR.skip)))
   (aR.seq (PE)
   (PF)))))
 (aR.aj [⟨(some 133),.bin (.int .add) (.t 56) (.c (.int .i64 1)),none,[56]⟩,
   ⟨(some 56),.bV (.t 133),none,[133]⟩])))):=rfl
theorem U2 [Lay] {B:Nat} {G:aQ->Prop} {h:ag} {l:List aE} {v:V} (H:db B G h 5 (l.map aE.enc) v) {k:IntKind} {i:Nat} (aB:i<l.length):
 ∃b off cB,hG 5 v (.int k i)=some (.ptr b (off+i * 5))/\cb G h l[i].enc (dS l[i] cB)/\bB G h 5 (l[i].l.map aE.enc) cB/\
  nj 5 (h.get b) (off+i * 5)=some (.agg (dS l[i] cB))/\gX (h.get b) (off+i * 5)=some (.int .i64 l[i].k)/\gX (h.get b) (off+i * 5+3)=some (.str l[i].s):=by
 obtain ⟨us,a,ak,av,aq⟩:=H.ex;have Fi:i<us.length:=by rw [ak,ap6];exact aB
 have hu:=ap4 Fi;have ax:=aq i (l[i].enc) us[i] (by rw [aq2,ap4 aB];rfl) hu;obtain ⟨cB,rX,L,_⟩:=aE.open (ax.e3 fun b q=>q.1);rw [rX] at ax;obtain ⟨b,off,f1,f2⟩:=a.v.bQ (k:=k) (i:=i) (by rw [List.length_map];exact aB);have aF:=I1 us i _ av hu;have hh:=EN us av;have hle:i * 5+5<=us.length * 5:=by omega
 have nE:∀j,j<5->us.flatten[i * 5+j]? =us[i][j]? :=fun j bG=>by
  have:((us.flatten.drop (i * 5)).take 5)[j]? =us[i][j]? :=by rw [aF]
  rw [aq3 bG,arl] at this;exact this
 refine ⟨b,off,cB,f1,ax.e3 fun b q=>q.1,L,?_,?_,?_⟩
 . have:=f2.fX (i:=i * 5) (n:=5) (by omega);rw [this,aF,rX]
 . rw [f2.eD (i:=i * 5) (by omega)];have:=nE 0 (by omega);rw [aro,rX,ap4 (by omega)] at this;simpa using this
 . rw [ark,f2.eD (i:=i * 5+3) (by omega)];have:=nE 3 (by omega);rw [rX,ap4 (by omega)] at this;simpa using this
theorem q8.find [Lay] {cs:List b2} {h:ag} {gx:aQ} (H:q8 Any cs h gx) (s:List UInt8):∃(lG ku:List UInt8) (kx lH:Int) (eT:V),ku=fM cs s/\eT.one=true/\eT.cells=[eT]/\(∀c,gf s cs=some c->ku=c.ty/\iF eT=some (.int .i64 c.arg.length))/\(∃n:Nat,iF eT=some (.int .i64 n))/\
 (∀g,Ext h g->iq kS.str.eq (.agg [.str [],.str [],.int .i64 0,.int .i64 0,.bL]) true g (.map gx) (.str s)=some (.tuple [.agg [.str lG,.str ku,.int .i64 kx,.int .i64 lH,eT],.bool (gf s cs).isSome]))/\
 (∀g,Ext h g->iq kS.str.eq (.agg [.str [],.str [],.int .i64 0,.int .i64 0,.bL]) false g (.map gx) (.str s)=some (.agg [.str lG,.str ku,.int .i64 kx,.int .i64 lH,eT])):=by
 obtain ⟨aV,al,au⟩:=H.ex;have m:=au s
 have look:∀ok g,Ext h g->iq kS.str.eq (.agg [.str [],.str [],.int .i64 0,.int .i64 0,.bL]) ok g (.map gx) (.str s)=some (match mA s aV with
  | some a=>(bif ok then .tuple [a,.bool true] else a)
  | none=>(bif ok then .tuple [.agg l',.bool false] else .agg l')):=fun ok g e=>by
  show iq kb _ _ _ _ _=_;rw [(al.ext e).look s (.agg l') ok];cases mA s aV<;>rfl
 cases av:gf s cs with
 | none=>
   rw [av] at m;rw [show mA s aV=none from m] at look;exact ⟨[],[],0,0,.bL,by simp [fM,av],rfl,rfl,fun c q=>(by cases q),⟨0,rfl⟩,look true,look false⟩
 | some c=>
   rw [av] at m;obtain ⟨en,f1,f2⟩:=m;rw [f1] at look;exact ⟨c.name,c.ty,c.tag,c.par,en,by simp [fM,av],f2.one.1,f2.one.2.1,fun fT q=>(by cases q;exact ⟨rfl,f2.len⟩),⟨_,f2.len⟩,look true,look false⟩
abbrev z5:List V:=[.int .i64 0,.int .i64 0,.int .i64 0,.str [],.bL]
theorem Wz (cs:List b2) (n:Nat) (wX:n<=1000000000) (l:List aE) (aO:b0 l<=n)
 (bd:∀m,n=m+1->∀eH,b0 eH<=m->∀(k v:V) (h:ag),p4 cs h k->bB Any h 5 (eH.map aE.enc) v->e4 Tryz.prog 71 [k,v] h (.bool (dw cs m eH)) h)
 (k v:V) (h:ag) (je:p4 cs h k) (AQ:bB Any h 5 (l.map aE.enc) v):e4 Tryz.prog 71 [k,v] h (.bool (dw cs n l)) h:=by
 obtain ⟨hH,gx,l1,rfl,vK,Di,_⟩:=je.ex;have aw:=AQ.len;have hle:=AQ.le;rw [ap6] at aw hle;have du:=mG l;refine Z8.d rfl ?_;unfold Pz;refine wh (fun r g=>r 0=.ptr (aG hH) 0/\r 1=v/\h=g) rfl (cm ?_) fun r g ⟨aU,a8,e⟩=>?_
 . simp only [kt,↓af,an,simprocAttr]
 subst e;refine wh (fun r g=>r 0=.ptr (aG hH) 0/\r 1=v/\r 5=.bL/\h=g) rfl (cm ?_) fun r g ⟨aU,a8,bS,e⟩=>?_
 . simp only [aU,a8,kt,↓af,an,simprocAttr]
 subst e;refine wh (fun r g=>r 0=.ptr (aG hH) 0/\Ext h g/\∃f',r 5=f'/\db h.next (Old h) g 5 ((fj l).map aE.enc) f') rfl (cm ?_) fun r g ⟨aU,bK,f',bS,kr⟩=>?_
 . simp +contextual only [aU,a8,bS,aw,↓af,an,simprocAttr];refine ek (fun r g=>r 0=.ptr (aG hH) 0/\r 22=v/\r 23=.int .i64 l.length/\Ext h g/\∃(i:Nat) (f':V),r 24=.int .i64 i/\i<=l.length/\r 5=f'/\db h.next (Old h) g 5 ((fj (l.take i)).map aE.enc) f') (fun r g=>l.length - (r 24).toN) ?_ ?_
   . exact ⟨by simp only [aU,↓af,bq,simprocAttr],by simp only [↓af,bq,simprocAttr],by simp only [↓af,bq,simprocAttr],Ext.refl h,0,_,by simp only [↓af,bq,simprocAttr]<;>rfl,by omega,by simp only [bS,↓af,bq,simprocAttr],db.nil _ _ _ _⟩
   rintro r g ⟨aU,Gx,Gy,bK,i,f',Gz,aB,bS,kr⟩;unfold PA;by_cases aN:i<l.length
   . have g0:((i:Int) < (l.length:Int))=True:=aqh (by omega);obtain ⟨b,off,cB,bQ,X,eR,ld,_,_,_⟩:=aE.lX AQ (k:=.i64) aN;have d5:=ld g bK;have ol:=eR.one;have cv:=fk aN (by unfold top at hle;omega);obtain ⟨g1,al,ax,dG⟩:=gE g z5 (dS l[i] cB);simp +contextual only [aU,Gx,Gy,Gz,bS,g0,bQ,d5,ol.1,ol.2.1,al,dG.g,↓af,an,simprocAttr];refine bF (Dc l[i] _ g1 ((X.ext bK).ext ax)) ?_;rintro x g2 ⟨rfl,aH⟩;have fN:=dG.ext aH;have AT:=(kr.ext ax).ext aH;have dv:=((bK.trans ax).trans aH).next
     cases hw:e' l[i] with
     | true=>
       simp +contextual only [aU,Gx,Gy,Gz,bS,cv,↓af,an,simprocAttr];refine ⟨⟨(bK.trans ax).trans aH,i+1,f',rfl,aN,rfl,?_⟩,by omega⟩;rw [take_one aN,G6,aqf hw];exact AT
     | false=>
       obtain ⟨MB,g3,bC,a2,a3,a4,a5⟩:=AT.add (ds:=l[i].enc) (cs:=dS l[i] cB) (((X.kk.ext bK).ext ax).ext aH |>.e3 fun b q=>⟨q,fun z=>by have:=kr.base z;unfold Old at q;omega⟩) (by omega) dv (by have aa:(fj (l.take i)).length<=(l.take i).length:=arU _ _;rw [ap6,aqw] at *;unfold top;omega) rfl;simp +contextual only [aU,Gx,Gy,Gz,bS,ol.1,ol.2.1,fN.g,bC,cv,↓af,an,simprocAttr];refine ⟨⟨((bK.trans ax).trans aH).fp a3 fun b z=>kr.base z,i+1,MB,rfl,aN,rfl,?_⟩,by omega⟩;rw [take_one aN,G6,aqa (by rw [hw];simp),aqS];exact a2
   . have g0:((i:Int) < (l.length:Int))=False:=ap_ (by omega);rw [aqt (by omega)] at kr;simp +contextual only [aU,Gx,Gy,Gz,bS,g0,kt,↓af,an,simprocAttr];exact ⟨bK,kr⟩
 have mY:=kr.len;rw [ap6] at mY;have n5:=bK.next
 have dN:fj l=[]->dw cs n l=true:=fun z=>by
  cases n with
  | zero=>rfl
  | succ n=>simp only [dw,z]
 refine wh (fun r dI=>r 0=.ptr (aG hH) 0/\r 5=f'/\g=dI/\fj l≠[]) rfl (cm ?_) fun r dI ⟨aU,bS,e,cK⟩=>?_
 . by_cases bl:fj l=[]
   . have g0:((((fj l).length:Nat):Int)=0)=True:=aqh (by rw [bl];rfl);simp +contextual only [aU,bS,mY,g0,uk,↓af,an,simprocAttr];exact ⟨bK,by rw [dN bl]⟩
   . have g0:((((fj l).length:Nat):Int)=0)=False:=ap_ (fun z=>bl (arq (by omega)));simp +contextual only [aU,bS,mY,g0,kt,↓af,an,simprocAttr];exact bl
 subst e;obtain ⟨p,s,kE⟩:∃p s,fj l=p::s:=aqW cK;have cu:=Mu l;obtain ⟨m,rfl⟩:∃m,n=m+1:=⟨n-1,by have ai:=qV p;rw [kE,b0] at cu;omega⟩;have afZ:=bd m rfl;rw [kE] at kr mY cu;have zl:dw cs (m+1) l=((p::s).all (gh cs p)&&(p::s).all fun q=>(List.range q.l.length).all fun i=>dw cs m (gA (p::s) (ch q) i)):=by simp only [dw,kE]
 have ao1:(p::s).length<=1000000000:=by have:=mG (p::s);omega
 refine wh (fun r dI=>r 0=.ptr (aG hH) 0/\r 5=f'/\r 8=.int .i64 p.k/\r 9=.str (fM cs p.s)/\g=dI) rfl (cm ?_) fun r dI ⟨aU,bS,cZ,dV,e⟩=>?_
 . obtain ⟨b,off,cB,bQ,X,eR,ld,eW,oN⟩:=U2 kr (k:=.i64) (i:=0) (by simp);obtain ⟨lG,ku,kx,lH,eT,t1,t2,t3,t4,t5,t6,t7⟩:=Di.find p.s;have jJ:=t7 g bK;simp only [asm,aro,aqP,List.getElem_cons_zero] at bQ eW oN;have k':hG 5 f' (.int .i64 0)=some (.ptr b off):=bQ;simp +contextual only [aU,bS,k',eW,oN,(vK.ext bK).g,jJ,kt,↓af,an,simprocAttr];rw [t1]
 subst e;obtain ⟨g1,al,ax,rh⟩:∃H,g.new (.mp [] 0)=H/\Ext g H/\hz ef H (aG g.next) []:=⟨_,rfl,(Ext.refl g).new _,hz.new _ g⟩;refine wh (fun r dI=>r 0=.ptr (aG hH) 0/\r 5=f'/\r 8=.int .i64 p.k/\r 9=.str (fM cs p.s)/\r 10=.map (aG g.next)/\g1=dI) rfl (cm ?_) fun r dI ⟨aU,bS,cZ,dV,dK,e⟩=>?_
 . simp +contextual only [aU,bS,cZ,dV,al,r5,tq,aX.opt,kt,↓af,an,simprocAttr]
 subst e;have lK:=bK.trans ax;have XO:=kr.ext ax;have cg:g1.next=g.next+1:=by rw [<-al];rfl
 generalize c':g.next=iH at *
 have mm:∀b,f'.a' b->h.next<=ck b/\ck b<iH:=fun b z=>⟨kr.base z,by have:=kr.tu z;unfold Old at this;omega⟩
 have R5:∀e,e=(fun b=>b=aG iH\/f'.a' b)->∀b,e b->Old g1 b:=fun e he b z=>by
  subst he;rcases z with z | z
  . subst z;exact iJ (by omega)
  . exact ax.bY (kr.tu z)
 generalize jh:(fun b=>b=aG iH\/f'.a' b)=gR at R5;have adA:=R5 gR rfl;have Bu:∀b,Old h b->ck b<h.next:=fun b z=>z
 have yY:h.next<=iH:=n5
 have ug:hL h.next (Old h) gR g1 iH [] []:=hL.nil (by rw [<-jh];exact .inl rfl) rh
 have k0:∀q ∈ p::s,gh cs p q=false->dw cs (m+1) l=false:=fun q ar z=>by
  rw [zl];have:(p::s).all (gh cs p)=false:=by rw [arX];exact ⟨q,ar,by rw [z];simp⟩
  rw [this,aqV]
 generalize Fc:p::s=bm at *;refine wh (fun r dI=>r 0=.ptr (aG hH) 0/\r 10=.map (aG iH)/\Ext h dI/\(∀q ∈ bm,gh cs p q=true)/\∃st aV,hL h.next (Old h) gR dI iH st aV/\rb bm st) rfl (cm ?_) fun r dI ⟨aU,dK,nG,rN,st,aV,S,ra⟩=>?_
 . simp +contextual only [aU,bS,cZ,dV,dK,mY,↓af,an,simprocAttr];refine ek (fun r dI=>r 0=.ptr (aG hH) 0/\r 8=.int .i64 p.k/\r 9=.str (fM cs p.s)/\r 10=.map (aG iH)/\r 54=f'/\r 55=.int .i64 bm.length/\Ext h dI/\g1.next<=dI.next/\db h.next (Old h) dI 5 (bm.map aE.enc) f'/\∃i:Nat,r 56=.int .i64 i/\i<=bm.length/\(∀q ∈ bm.take i,gh cs p q=true)/\∃st aV,hL h.next (Old h) gR dI iH st aV/\rb (bm.take i) st) (fun r g=>bm.length - (r 56).toN) ?_ ?_
   . exact ⟨by simp only [aU,↓af,bq,simprocAttr],by simp only [cZ,↓af,bq,simprocAttr],by simp only [dV,↓af,bq,simprocAttr],by simp only [dK,↓af,bq,simprocAttr],by simp only [bS,↓af,bq,simprocAttr],by simp only [↓af,bq,simprocAttr],lK,ap7 _,XO,0,by simp only [↓af,bq,simprocAttr]<;>rfl,by omega,fun q ar=>by simp at ar,[],[],ug,by simpa using rb.nil⟩
   rintro r dI ⟨aU,cZ,dV,dK,kL,kM,nG,y1,Nx,i,kN,aB,rN,st,aV,S,ra⟩;rw [Z9];by_cases aN:i<bm.length
   . have g0:((i:Int) < (bm.length:Int))=True:=aqh (by omega);obtain ⟨b,off,cB,bQ,X,eR,ld,eW,oN⟩:=U2 Nx (k:=.i64) aN;have ol:=eR.one;have cv:=fk aN (by omega);have ar:bm[i] ∈ bm:=aqC aN;obtain ⟨g2,au,aH,fN⟩:=gE dI z5 (dS bm[i] cB);have dv:g2.next=dI.next+1:=by rw [<-au];rfl
     have apq:=nG.next
     have BO:=vK.lt;by_cases aA:bm[i].k=p.k
     . have gj:(bm[i].k=p.k)=True:=aqh aA;simp +contextual only [aU,cZ,dV,dK,kL,kM,kN,g0,bQ,ld,ol.1,ol.2.1,au,fN.g,gj,↓af,an,simprocAttr];refine MU (fun r g3=>r 0=.ptr (aG hH) 0/\r 8=.int .i64 p.k/\r 9=.str (fM cs p.s)/\r 10=.map (aG iH)/\r 12=.ptr (aG dI.next) 0/\r 54=f'/\r 55=.int .i64 bm.length/\r 56=.int .i64 i/\Ext g2 g3/\gh cs p bm[i]=true) rfl (cm ?_) ?_
       . unfold PE;by_cases jF:p.k=16
         . have rI:(p.k=16)=True:=aqh jF;obtain ⟨lG,ku,kx,lH,eT,t1,t2,t3,t4,⟨u9,t5⟩,t6,t7⟩:=Di.find bm[i].s;have aw:=eR.len;rw [ap6] at aw;have zw:=t6 g2 (nG.trans aH);obtain ⟨wy,ns,dC,ss⟩:=gb g2 l';have zx:=t6 wy ((nG.trans aH).trans dC);have DI:=((vK.ext nG).ext aH).ext dC;have Dg:=fN.ext dC;obtain ⟨g3,aJ,bA,sr⟩:=gE g2 l' [.str lG,.str ku,.int .i64 kx,.int .i64 lH,eT];rw [ns] at aJ;have DH:=(vK.ext nG).ext aH;have iO:=fN.ext bA;have bD:(g2.next=hH)=False:=ap_ (by omega);have er:(hH=g2.next)=False:=ap_ (by omega);have kQ:(g2.next=dI.next)=False:=ap_ (by omega);have p0:(dI.next=g2.next)=False:=ap_ (by omega);cases av:(gf bm[i].s cs) with
           | none=>
             rw [av] at zw zx;have ak:=k0 bm[i] ar (by simp [gh,aA,jF,av]);simp +contextual only [aU,cZ,dV,dK,kL,kM,kN,rI,zw,zx,t2,t3,t5,aw,DH.g,DI.g,fN.g,Dg.g,iO.g,ss.g,sr.g,ns,aJ,bD,er,kQ,p0,uj,Option.isSome_none,uk,↓af,an,simprocAttr];exact ⟨(nG.trans aH).trans bA,by rw [ak]⟩
           | some c=>
             rw [av] at zw zx;obtain ⟨rfl,MC⟩:=t4 c av;by_cases nc:c.ty=fM cs p.s
             . by_cases rT:(c.arg.length:Int)=(bm[i].l.length:Int)
               . have uK:gh cs p bm[i]=true:=by
                  have:c.arg.length=bm[i].l.length:=by omega
                  simp [gh,aA,av,nc,this]
                 simp +contextual only [aU,cZ,dV,dK,kL,kM,kN,rI,zw,zx,t2,t3,MC,aw,aqh nc,aqh rT,DH.g,DI.g,fN.g,Dg.g,iO.g,ss.g,sr.g,ns,aJ,bD,er,kQ,p0,uj,arD,kt,↓af,an,simprocAttr];exact ⟨bA,uK⟩
               . have ak:=k0 bm[i] ar (by
                  have:¬c.arg.length=bm[i].l.length:=by omega
                  simp [gh,aA,jF,av,this])
                 simp +contextual only [aU,cZ,dV,dK,kL,kM,kN,rI,zw,zx,t2,t3,MC,aw,aqh nc,ap_ rT,DH.g,DI.g,fN.g,Dg.g,iO.g,ss.g,sr.g,ns,aJ,bD,er,kQ,p0,uj,arD,uk,↓af,an,simprocAttr];exact ⟨(nG.trans aH).trans bA,by rw [ak]⟩
             . have ak:=k0 bm[i] ar (by simp [gh,aA,jF,av,nc]);simp +contextual only [aU,cZ,dV,dK,kL,kM,kN,rI,zw,zx,t2,t3,MC,aw,ap_ nc,DH.g,DI.g,fN.g,Dg.g,iO.g,ss.g,sr.g,ns,aJ,bD,er,kQ,p0,uj,arD,uk,↓af,an,simprocAttr];exact ⟨(nG.trans aH).trans bA,by rw [ak]⟩
         . have rI:=ap_ jF;have uK:gh cs p bm[i]=true:=by simp [gh,aA,jF]
           simp +contextual only [aU,cZ,dV,dK,kL,kM,kN,rI,kt,↓af,an,simprocAttr];exact ⟨Ext.refl g2,uK⟩
       rintro r g3 ⟨aU,cZ,dV,dK,hX,kL,kM,kN,bA,uK⟩;unfold PF;have iO:=fN.ext bA;simp +contextual only [hX,iO.g,↓af,an,simprocAttr];refine bF (yQ bm[i] _ g3 (((X.e3 fun _ _=>trivial).ext aH).ext bA)) ?_;rintro x g4 ⟨rfl,b5⟩;have p1:=iO.ext b5;have yq:=(aH.trans bA).trans b5;have n4:=(bA.trans b5).next
       generalize Sr:ch bm[i]=aq;have aw:=eR.len;rw [ap6] at aw;have ao2:aq.2.2.2=(bm[i].l.length:Int):=by rw [<-Sr];rfl
       have lq:=E' aq;simp only [ef] at lq;have Fv:bm[i].l.length<=1000000000:=by have aa:=pS ar;have ae:=size_eq bm[i];have aM:=mG bm[i].l;omega
       obtain ⟨g5,c1,cW,vB⟩:=gE g4 [.int .i64 0,.int .i64 0,.str [],.int .i64 0] [.int .i64 aq.1,.int .i64 aq.2.1,.str aq.2.2.1,.int .i64 aq.2.2.2];have F5:g5.next=g4.next+1:=by rw [<-c1];rfl
       have XJ:Mod (fun b=>h.next<=ck b) dI g5:=(yq.trans cW).mod _;generalize lO:(fun b=>gR b\/b=aG dI.next\/b=aG g4.next)=bO;have Hg:bO (aG iH):=by rw [<-lO];exact .inl S.em
       have Xh:bO (aG dI.next):=by rw [<-lO];exact .inr (.inl rfl)
       have Xg:bO (aG g4.next):=by rw [<-lO];exact .inr (.inr rfl)
       have Xi:∀b,f'.a' b->bO b:=fun b z=>by rw [<-lO,<-jh];exact .inl (.inr z)
       have M7:∀b,bO b->Old g5 b:=fun b z=>by
        rw [<-lO] at z;rcases z with z | rfl | rfl
        . have:=adA b z;unfold Old at this ⊢;omega
        . exact iJ (by omega)
        . exact iJ (by omega)
       have XV:hL h.next (Old h) bO g5 iH st aV:=(S.more (az:=bO) (fun b z=>by
        rw [<-lO] at z;rcases z with z | rfl | rfl
        . exact .inl z
        . exact .inr (Gb (ap7 _))
        . exact .inr (Gb (by omega))) Hg).ext (yq.trans cW)
       have Tz:∀{G tV:ag},Mod (fun b=>h.next<=ck b/\(¬bO b\/b=aG iH)) G tV->db h.next (Old h) G 5 (bm.map aE.enc) f'->db h.next (Old h) tV 5 (bm.map aE.enc) f':=fun m o=>o.mod m (fun b z w=>by
        rcases w.2 with w | w
        . exact w (Xi b z)
        . have:=(mm b z).2;rw [w,dx] at this;omega) fun b z _ _ w=>by have:=Bu b z;omega
       have Ty:∀{G tV:ag} {ie:List V},Mod (fun b=>h.next<=ck b/\(¬bO b\/b=aG iH)) G tV->Has G dI.next ie->Has tV dI.next ie:=fun m o=>o.mod m fun w=>by
        rcases w.2 with w | w
        . exact w Xh
        . have:=gZ w;omega
       have KO:∀{G tV:ag} {ie:List V},Mod (fun b=>h.next<=ck b/\(¬bO b\/b=aG iH)) G tV->Has G g4.next ie->Has tV g4.next ie:=fun m o=>o.mod m fun w=>by
        rcases w.2 with w | w
        . exact w Xg
        . have:=gZ w;omega
       have J7:∀cp,dz aq st=some cp->cp.length=bm[i].l.length/\∀bo ∈ cp,bo.length<=1000000000:=fun cp ai=>by obtain ⟨a,_,c⟩:=ra.el aq cp ai;refine ⟨by omega,fun bo na=>?_⟩;obtain ⟨j,bG,rfl⟩:=List.getElem_of_mem na;rw [c j bG];have:=ale (bm.take i) aq j;rw [aqw] at this;omega
       simp +contextual only [aU,cZ,dV,dK,hX,kL,kM,kN,ef,c1,↓af,an,simprocAttr]
       refine ek (fun r G=>r 0=.ptr (aG hH) 0/\r 8=.int .i64 p.k/\r 9=.str (fM cs p.s)/\r 10=.map (aG iH)/\r 12=.ptr (aG dI.next) 0/\r 15=.ptr (aG g4.next) 0/\r 54=f'/\r 55=.int .i64 bm.length/\r 56=.int .i64 i/\
        Mod (fun b=>h.next<=ck b) dI G/\g5.next<=G.next/\db h.next (Old h) G 5 (bm.map aE.enc) f'/\Has G dI.next (dS bm[i] cB)/\Has G g4.next [.int .i64 aq.1,.int .i64 aq.2.1,.str aq.2.2.1,.int .i64 aq.2.2.2]/\
        ∃jP KN,hL h.next (Old h) bO G iH jP KN/\(∀x,iL aq x jP=iL aq x st)/\((∃cp,dz aq st=some cp/\jP=st)\/(dz aq st=none/\∃c,c<=bm[i].l.length/\(dz aq jP).getD []=List.replicate c []/\(c=0->jP=st)))) (fun r G=>bm[i].l.length-zt iH aq G) ?_ ?_
       . refine ⟨by simp only [aU,↓af,bq,simprocAttr],by simp only [cZ,↓af,bq,simprocAttr],by simp only [dV,↓af,bq,simprocAttr],by simp only [dK,↓af,bq,simprocAttr],by simp only [hX,↓af,bq,simprocAttr],by simp only [↓af,bq,simprocAttr],by simp only [kL,↓af,bq,simprocAttr],by simp only [kM,↓af,bq,simprocAttr],by simp only [kN,↓af,bq,simprocAttr],XJ,ap7 _,Nx.ext (yq.trans cW),p1.ext cW,vB,st,aV,XV,fun x=>rfl,?_⟩;cases ai:dz aq st with
         | some cp=>exact .inl ⟨cp,rfl,rfl⟩
         | none=>exact .inr ⟨rfl,0,arj _,rfl,fun _=>rfl⟩
       rintro r G ⟨aU,cZ,dV,dK,hX,pT,kL,kM,kN,sw,K',sy,tQ,tW,jP,KN,sD,dO,rL⟩;unfold Im;have look:=sD.look aq;obtain ⟨KY,TV,ai2⟩:=sD.len aq;have Tc:=sD.zt aq;simp only [ef] at look;by_cases SG:((dz aq jP).getD []).length<bm[i].l.length
       . have g0:((((dz aq jP).getD []).length:Int) < (bm[i].l.length:Int))=True:=aqh (by omega);rcases rL with ⟨cp,ai,rfl⟩ | ⟨ai,c,av,rL,qt⟩
         . exfalso;rw [ai,aqL] at SG;have:=(J7 cp ai).1;omega
         obtain ⟨jT,o9,bW,ma,w',AE,bM,b1,dR,gD,jX,x',ua⟩:=sD.push (by omega) Bu (fun b z=>by have:=M7 b z;unfold Old at this ⊢;omega) yY aq (by unfold top;omega);simp only [ef] at dR;have aoj:=tQ.ext b1;have AF:=tW.ext b1;simp +contextual only [aU,cZ,dV,dK,hX,pT,kL,kM,kN,tQ.g,tW.g,look,KY,aw,g0,bM,dR,gD,jX,lq,ap8,↓o2,↓af,an,simprocAttr];have e2:((dz aq jP).getD []).length=c:=by rw [rL,ap9]
         have n6:=ua.next
         refine ⟨⟨sw.trans (ua.mono fun b _ z=>z.1),by omega,Tz ua sy,Ty ua tQ,KO ua tW,_,_,x',fun x=>by rw [LQ,dO],.inr ⟨ai,c+1,by omega,?_,fun z=>by omega⟩⟩,?_⟩
         . rw [xd,aqf rfl,aqL,rL,List.replicate_succ']
         . rw [x'.zt,Tc,xd,aqf rfl,aqL,aqi,ar8];omega
       . have g0:((((dz aq jP).getD []).length:Int) < (bm[i].l.length:Int))=False:=ap_ (by omega);obtain ⟨e2,Sh⟩:((dz aq jP).getD []).length=bm[i].l.length/\(dz aq jP).getD []=(dz aq st).getD (bm[i].l.map fun _=>[]):=by
          rcases rL with ⟨cp,ai,rfl⟩ | ⟨ai,c,av,rL,qt⟩
          . rw [ai,aqL,aqL];exact ⟨(J7 cp ai).1,rfl⟩
          . rw [rL,ap9] at SG;rw [rL,ap9,ai,Option.getD_none,List.map_const',show c=bm[i].l.length by omega];exact ⟨rfl,rfl⟩
         have afx:bm[i].l.length=0->jP=st:=fun z=>by
          rcases rL with ⟨cp,ai,e⟩ | ⟨ai,c,av,rL,qt⟩
          . exact e
          . exact qt (by omega)
         have adZ:∀j (bG:j < ((dz aq jP).getD []).length),((dz aq jP).getD [])[j].length<=1000000000:=fun j bG=>by
          have hm:((dz aq jP).getD [])[j] ∈ (dz aq jP).getD []:=aqC bG;generalize ((dz aq jP).getD [])[j]=bo at hm;rw [Sh] at hm;cases ai:dz aq st with
          | some cp=>rw [ai,aqL] at hm;exact (J7 cp ai).2 bo hm
          | none=>
            rw [ai,Option.getD_none,ass] at hm;obtain ⟨_,_,rfl⟩:=hm;simp
         generalize ad3:(dz aq jP).getD []=cur at *;simp +contextual only [aU,cZ,dV,dK,hX,pT,kL,kM,kN,tQ.g,tW.g,look,KY,aw,g0,lq,ap8,↓o2,↓af,an,simprocAttr];clear look KY TV ai2 Tc g0
         refine ek (fun r G=>r 0=.ptr (aG hH) 0/\r 8=.int .i64 p.k/\r 9=.str (fM cs p.s)/\r 10=.map (aG iH)/\r 12=.ptr (aG dI.next) 0/\r 15=.ptr (aG g4.next) 0/\r 54=f'/\r 55=.int .i64 bm.length/\r 56=.int .i64 i/\r 111=cB/\r 112=.int .i64 bm[i].l.length/\
          Mod (fun b=>h.next<=ck b) dI G/\g5.next<=G.next/\db h.next (Old h) G 5 (bm.map aE.enc) f'/\Has G dI.next (dS bm[i] cB)/\Has G g4.next [.int .i64 aq.1,.int .i64 aq.2.1,.str aq.2.2.1,.int .i64 aq.2.2.2]/\
          ∃(j:Nat) (od:List (cF × List (List aE))) (Ci:List (cF × V)),r 113=.int .i64 j/\j<=bm[i].l.length/\hL h.next (Old h) bO G iH od Ci/\(dz aq od).getD []=oQ cur bm[i].l j/\(∀x,iL aq x od=iL aq x st)/\(j=0->od=jP)/\(0<j->od=iL aq (oQ cur bm[i].l j) st)) (fun r G=>bm[i].l.length - (r 113).toN) ?_ ?_
         . refine ⟨by simp only [aU,↓af,bq,simprocAttr],by simp only [cZ,↓af,bq,simprocAttr],by simp only [dV,↓af,bq,simprocAttr],by simp only [dK,↓af,bq,simprocAttr],by simp only [hX,↓af,bq,simprocAttr],by simp only [pT,↓af,bq,simprocAttr],by simp only [kL,↓af,bq,simprocAttr],by simp only [kM,↓af,bq,simprocAttr],by simp only [kN,↓af,bq,simprocAttr],by simp only [↓af,bq,simprocAttr],by simp only [↓af,bq,simprocAttr],sw,K',sy,tQ,tW,0,jP,KN,by simp only [↓af,bq,simprocAttr]<;>rfl,by omega,sD,?_,dO,fun _=>rfl,fun z=>by omega⟩;rw [ad3];simp [oQ,q1]
         clear tQ tW sy sD sw K' aU cZ dV dK hX pT kL kM kN dO;rintro r G ⟨aU,cZ,dV,dK,hX,pT,kL,kM,kN,VA,VB,sw,K',sy,tQ,tW,j,od,Ci,VC,bG,sD,J2,dO,aeD,Fj⟩;unfold Io;have BU:=Uk (j:=j) e2;by_cases gi:j<bm[i].l.length
         . have g0:((j:Int) < (bm[i].l.length:Int))=True:=aqh (by omega);have X4:bB (Old h) G 5 (bm[i].l.map aE.enc) cB:=eR.mod sw (fun b z _=>⟨fun w=>by have:=Bu b z;omega,z⟩);obtain ⟨bR,kJ,wl,k',HM,DS,aiW,_,_,_⟩:=aE.lX X4 (k:=.i64) gi;have d5:=aiW G (Ext.refl G);have UM:=DS.one;have anS:=fk gi (by omega);obtain ⟨jT,vS,tU,mJ⟩:=gE G z5 (dS bm[i].l[j] wl);have aoq:jT.next=G.next+1:=by rw [<-vS];rfl
           generalize E0:(fun b=>bO b\/b=aG G.next)=iP;have Dq:∀b,bO b->iP b:=fun b z=>by rw [<-E0];exact .inl z
           have aom:iP (aG G.next):=by rw [<-E0];exact .inr rfl
           have Xj:∀b,iP b->Old jT b:=fun b z=>by
            rw [<-E0] at z;rcases z with z | rfl
            . have:=M7 b z;unfold Old at this ⊢;omega
            . exact iJ (by omega)
           have sC:hL h.next (Old h) iP jT iH od Ci:=(sD.more (az:=iP) (fun b z=>by
            rw [<-E0] at z;rcases z with z | rfl
            . exact .inl z
            . exact .inr (Gb (ap7 _))) (Dq _ Hg)).ext tU
           have uG:∀(ar:j < ((dz aq od).getD []).length),((dz aq od).getD [])[j]=cur[j]'(by omega):=fun ar=>by simp only [J2];exact ajB e2 gi
           have oI:j < ((dz aq od).getD []).length:=by rw [J2,BU];exact gi
           obtain ⟨U6,CP,w,o9,w',ma,AE,cq,cx,eE,i_,oV,akW,⟨akX,akY⟩,akZ,ak0,HD,ks,AS⟩:=sC.put (by omega) Bu Xj yY aq (j:=j) oI (x:=bm[i].l[j]) (cs:=dS bm[i].l[j] wl) (HM.ext tU) rfl (by rw [uG oI];have:=adZ j (by omega);unfold top;omega);have afr:((dz aq od).getD []).set j (((dz aq od).getD [])[j]++[bm[i].l[j]])=oQ cur bm[i].l (j+1):=by rw [uG oI,J2];exact ajC e2 gi
           rw [afr] at ks;have T8:=sC.look aq;have T9:=(sC.ext i_).look aq;have T':=ak0 aq;simp only [ef] at T8 T9 T';have m3:Mod (fun b=>h.next<=ck b/\(¬bO b\/b=aG iH)) jT ma:=HD.mono fun b _ z=>⟨z.1,.inl fun y=>z.2 (Dq b y)⟩;have m4:Mod (fun b=>h.next<=ck b/\(¬bO b\/b=aG iH)) jT AE:=AS.mono fun b _ z=>⟨z.1,.inl fun y=>z.2 (Dq b y)⟩;have AF:=tW.ext tU;have Xs:=AF.ext i_;have Xt:=KO m3 AF;have ha:=mJ.ext i_;simp only [dS] at eE;simp +contextual only [aU,cZ,dV,dK,hX,pT,kL,kM,kN,VA,VB,VC,g0,k',d5,UM.1,UM.2.1,vS,mJ.g,ha.g,AF.g,Xs.g,Xt.g,T8,T9,T',lq,ap8,cq,cx,eE,oV,akW,akX,akY,akZ,anS,YI,↓o2,↓af,an,simprocAttr];have n4:=AS.next
           refine ⟨⟨(sw.trans (tU.mod _)).trans (AS.mono fun b _ z=>z.1),by omega,Tz m4 (sy.ext tU),Ty m4 (tQ.ext tU),KO m4 AF,j+1,_,Ci,rfl,gi,ks.more (fun b z=>.inl (Dq b z)) Hg,?_,fun x=>by rw [LQ,dO],fun z=>by omega,fun _=>dO _⟩,by omega⟩;rw [xd,aqf rfl,aqL]
         . have g0:((j:Int) < (bm[i].l.length:Int))=False:=ap_ (by omega);have BM:j=bm[i].l.length:=by omega
           have adQ:od=DU st bm[i]:=by
            unfold DU;by_cases bl:bm[i].l=[]
            . rw [aqf bl];have S':bm[i].l.length=0:=by rw [bl];rfl
              rw [aeD (by omega),afx S']
            . rw [aqa bl,Sr,Fj (by have:=aso.2 bl;omega),BM,ajA e2,Sh]
           have Nb:=ra.add bm[i];rw [<-adQ,<-take_one aN] at Nb;simp +contextual only [aU,cZ,dV,dK,hX,pT,kL,kM,kN,VA,VB,VC,g0,cv,↓af,an,simprocAttr];refine ⟨⟨nG.fp sw fun b z=>z,by omega,sy,i+1,rfl,aN,fun q ar=>?_,od,Ci,sD.more (fun b z=>.inl (by rw [<-lO];exact .inl z)) S.em,Nb⟩,by omega⟩;rw [take_one aN] at ar;rcases aq0.1 ar with ar | ar
           . exact rN q ar
           . rw [aqU] at ar;subst ar;exact uK
     . have gj:=ap_ aA;have ak:=k0 bm[i] ar (by simp [gh,aA]);simp +contextual only [aU,cZ,dV,dK,kL,kM,kN,g0,bQ,ld,ol.1,ol.2.1,au,fN.g,gj,uk,↓af,an,simprocAttr];exact ⟨nG.trans aH,by rw [ak]⟩
   . have g0:((i:Int) < (bm.length:Int))=False:=ap_ (by omega);rw [aqt (by omega)] at ra rN;simp +contextual only [aU,dK,kL,kM,kN,g0,kt,↓af,an,simprocAttr];exact ⟨nG,rN,st,aV,S,ra⟩
 have c8:dw cs (m+1) l=st.all fun x=>x.2.all (dw cs m):=by rw [zl,ra.all,aqu.2 rN,aqY]
 obtain ⟨X,XN,dp,XK⟩:=S.ex;obtain ⟨cN,b7,RK⟩:=XK.range;have ajX:=nG.next
 have IM:Ext dI (dI.new cN):=(Ext.refl dI).new cN;rw [ab0];refine abZ rfl (cm ?_);simp +contextual only [aU,dK,b7,kt,↓o2,↓af,an,simprocAttr];rw [abW];refine abX (fun r G=>r 0=.ptr (aG hH) 0/\r 135=.ptr (aG dI.next) 0/\Ext h G/\kT h.next (Old h) G X st aV/\∃nn,x8 ef G (aG iH) dI.next aV nn/\∀ve ∈ aV,ve ∈ nn\/∀cp,(ve.1,cp) ∈ st->cp.all (dw cs m)=true) (fun r G=>Mb aV (aG iH) dI.next G) ?_ ?_
 . exact ⟨by simp only [aU,↓af,bq,simprocAttr],by simp only [↓af,bq,simprocAttr],nG.trans IM,XN.ext IM,aV,RK,fun ve ai=>.inl ai⟩
 clear RK aU dK IM b7;rintro r G ⟨aU,qW,gu,sy,nn,RK,Sj⟩;unfold PD;refine abY ?_;rw [qW];refine RK.next (fun yX=>?_) fun ve afb jT zv aem Ny aN S2 ad4 DK wX=>?_
 . refine IF rfl (cm ?_);simp +contextual only [aU,qW,kt,NW,↓af,an,simprocAttr];refine IF rfl (cm ?_);simp +contextual only [aU,qW,↓af,an,simprocAttr];refine ⟨gu,?_⟩;have:dw cs (m+1) l=true:=by
    rw [c8,aqu];rintro ⟨aq,cp⟩ ao;obtain ⟨w,hw,_⟩:=sy.mem.2 _ ao;rcases Sj _ hw with z | z
    . rw [yX] at z;cases z
    . exact z cp ao
   rw [this]
 . have hit:∀b,X b->¬b=aG dI.next:=fun b z w=>Gb (ap7 _) (w ▸ (dp b z).1)
   have Nu:=sy.mod DK hit (fun b z _ w=>by have:=Bu b z;rw [w,dx] at this;omega);have IJ:Ext h jT:=gu.fp DK fun b z=>by rw [show b=aG dI.next from z,dx];exact ajX
   have JR:ve ∈ aV:=by
    obtain ⟨es,clock,seen,_,_,_,_,e⟩:=RK.ex;have sub:∀(aV:List (cF × V)) (es:List ca),∀x ∈ hk seen aV es,x ∈ aV:=by
     intro aV
     induction aV with
     | nil=>intro es x ao;cases es<;>simp [hk] at ao
     | cons y aV bd=>
       intro es x ao;cases es with
       | nil=>simp [hk] at ao
       | cons z es=>
         simp only [hk] at ao
         split at ao
         . exact aqs _ (bd es x ao)
         . rcases aql.1 ao with rfl | ao
           . exact aqy
           . exact aqs _ (bd es x ao)
    exact sub aV es ve (e ▸ afb)
   obtain ⟨cp,hc,cH,da,_⟩:=Nu.mem.1 ve JR;obtain ⟨aq,w⟩:=ve;obtain ⟨ws,Y,s1,s2,jO,o0⟩:=da.ex;have BQ:=(Ct ra.xg).1 cH;obtain ⟨du,_,afa⟩:=ra.el aq cp BQ;have qI:=s1.v.len;have apa:ws.length=cp.length:=o0.len;have cK:bm≠[]:=by rw [<-Fc];simp
   have afc:∀j (bG:j<cp.length),b0 cp[j]<=m:=fun j bG=>by rw [afa j bG];have:=(alg (aq:=aq) (j:=j) bm cK).1;omega
   have ao7:cp.length<=1000000000:=by obtain ⟨_,⟨q,ar,a_,_⟩,_⟩:=ra.el aq cp BQ;have aa:=pS ar;have ae:=size_eq q;have aM:=mG q.l;rw [<-a_] at du;simp only [ch] at du;omega
   have afL:iF w=some (.int .i64 cp.length):=qI;have aen:ux (.ptr (aG dI.next) 0) jT=.val (.tuple [ef aq,w]) jT:=aem;refine IF rfl (cm ?_);simp +contextual only [aU,qW,aen,afL,kt,NW,↓o2,↓af,an,simprocAttr];refine ek (fun r g=>r 0=.ptr (aG hH) 0/\r 135=.ptr (aG dI.next) 0/\r 140=w/\r 141=.int .i64 cp.length/\jT=g/\∃j:Nat,r 142=.int .i64 j/\j<=cp.length/\∀bo ∈ cp.take j,dw cs m bo=true) (fun r g=>cp.length - (r 142).toN) ?_ ?_
   . exact ⟨by simp only [aU,↓af,bq,simprocAttr],by simp only [qW,↓af,bq,simprocAttr],by simp only [↓af,bq,simprocAttr],by simp only [↓af,bq,simprocAttr],rfl,0,by simp only [↓af,bq,simprocAttr]<;>rfl,by omega,fun q ar=>by simp at ar⟩
   clear aU qW;rintro r g ⟨aU,qW,Gu,Gv,e,j,Gw,bG,jG⟩;subst e;unfold PC;by_cases gi:j<cp.length
   . have g0:((j:Int) < (cp.length:Int))=True:=aqh (by omega);obtain ⟨b,off,bC,a2,_⟩:=s1.v.k' (k:=.i64) gi;rw [asl] at bC;have lY:=a2.eD (i:=j) (by omega);obtain ⟨sl,sE,t1,t2,t3,t4,_⟩:=o0.at gi;have Fy:ws[j]'(by omega)=sl:=by
      have:=ap4 (l:=ws) (i:=j) (by omega);rw [t1] at this;exact (ars this).symm
     rw [Fy] at lY;have cv:=fk gi (by omega);have SO:=afc j gi;have ao6:=mG cp[j];simp +contextual only [aU,qW,Gu,Gv,Gw,g0,bC,lY,↓af,an,simprocAttr];refine bF (K:=fun x ab=>x=.bool (dw cs m cp[j])/\jT=ab) ⟨_,_,afZ cp[j] SO _ sl jT (je.ext IJ) (t2.ea (by rw [ap6];unfold top;omega) (fun _ _=>trivial) fun _ _=>trivial),rfl,rfl⟩ ?_;rintro x g ⟨rfl,e⟩;subst e;cases nU:dw cs m cp[j] with
     | true=>
       simp +contextual only [aU,qW,Gu,Gv,Gw,cv,↓af,an,simprocAttr];refine ⟨⟨j+1,rfl,gi,fun bo na=>?_⟩,by omega⟩;rw [aqn gi] at na;rcases aq0.1 na with na | na
       . exact jG bo na
       . rw [aqU] at na;subst na;exact nU
     | false=>
       have ak:dw cs (m+1) l=false:=by rw [c8,arX];refine ⟨(aq,cp),cH,?_⟩;rw [aqF,arX];exact ⟨cp[j],aqC gi,by rw [nU];simp⟩
       simp +contextual only [aU,qW,Gu,Gv,Gw,uk,↓af,an,simprocAttr];exact ⟨IJ,by rw [ak]⟩
   . have g0:((j:Int) < (cp.length:Int))=False:=ap_ (by omega);rw [aqt (by omega)] at jG;have afX:=VW Ny;have afW:=VW RK;simp +contextual only [aU,qW,Gu,Gv,Gw,g0,kt,↓af,an,simprocAttr];refine ⟨⟨IJ,Nu,zv,Ny,fun Vi ai=>?_⟩,by rw [afX,afW];exact aN⟩;rcases Sj Vi ai with z | z
     . rcases ad4 Vi z with rfl | z
       . refine .inr fun r' gS=>?_;have ax:=(Ct ra.xg).1 gS;have aH:dz aq st=some r':=ax;rw [BQ,ap3] at aH;rw [<-aH,aqu];exact jG
       . exact .inl z
     . exact .inr z
theorem Ww (cs:List b2):∀(n:Nat),n<=1000000000->∀(l:List aE),b0 l<=n->∀(k v:V) (h:ag),p4 cs h k->bB Any h 5 (l.map aE.enc) v->e4 Tryz.prog 71 [k,v] h (.bool (dw cs n l)) h
 | 0,aW,l,aO,k,v,h,je,L=>Wz cs 0 aW l aO (fun m e=>by omega) k v h je L
 | n+1,aW,l,aO,k,v,h,je,L=>Wz cs (n+1) aW l aO (fun m e eH fm bs cQ ab XB XC=>by
   obtain rfl:n=m:=by omega
   exact Ww cs n (by omega) eH fm bs cQ ab XB XC) k v h je L
theorem am4 (cs:List b2) (l:List aE) (aO:b0 l<=1000000000) (k v:V) (h:ag) (je:p4 cs h k) (L:bB Any h 5 (l.map aE.enc) v):cr Tryz.prog 71 [k,v] h fun x ab=>x=.bool (dw cs (b0 l) l)/\h=ab:=
 ⟨_,_,Ww cs (b0 l) aO l (ap7 _) k v h je L,rfl,rfl⟩
theorem Rh {cs:List b2} {l:List aE} (aa:jI [] cs=true) (ae:∀p ∈ l,fB p=true):ky cs l=if dw cs (b0 l) l=true then 0 else 2:=by unfold ky;rw [aa,aqu.2 ae,aqY,aqY]
theorem EE {cs:List b2} {l:List aE} {p:aE} (ai:p ∈ l) (h:fB p=false):ky cs l=2:=by
 unfold ky;have:l.all fB=false:=by rw [arX];exact ⟨p,ai,by rw [h];simp⟩
 rw [this,art,aqV];simp
theorem yw {cs:List b2} {l:List aE} (h:jI [] cs=false):ky cs l=2:=by unfold ky;rw [h,aqV,aqV];simp
theorem U7 (cs:List b2) (l:List aE) (aO:b0 l+2<=1000000000) (cl v:V) (h:ag) (hy:bB Any h 5 (cs.map b2.enc) cl) (L:bB Any h 5 (l.map aE.enc) v):
 cr Tryz.prog 46 [cl,v] h fun x ab=>∃k,x=.tuple [k,.int .i64 (ky cs l)]/\Ext h ab/\(ky cs l=0->p4 cs ab k):=by
 have aw:=L.len;have hle:=L.le;rw [ap6] at aw hle;refine ZV.z rfl (cm ?_);unfold O2;simp +contextual only [↓af,an,simprocAttr];refine bF (aiX cs cl h hy) ?_;rintro x aa ⟨k,rfl,ax,je⟩;cases uM:jI [] cs with
 | false=>
   simp +contextual only [↓af,an,simprocAttr];exact ⟨_,by rw [yw uM],ax,fun z=>by rw [yw uM] at z;cases z⟩
 | true=>
   have Np:=je uM;simp +contextual only [aw,↓af,an,simprocAttr];refine ek (fun r g=>r 1=v/\r 6=k/\r 17=v/\r 18=.int .i64 l.length/\Ext aa g/\∃i:Nat,r 19=.int .i64 i/\i<=l.length/\∀p ∈ l.take i,fB p=true) (fun r g=>l.length - (r 19).toN) ?_ ?_
   . exact ⟨by simp only [↓af,bq,simprocAttr],by simp only [↓af,bq,simprocAttr],by simp only [↓af,bq,simprocAttr],by simp only [↓af,bq,simprocAttr],Ext.refl aa,0,by simp only [↓af,bq,simprocAttr]<;>rfl,by omega,fun q ar=>by simp at ar⟩
   rintro r g ⟨a8,cz,sa,sb,bK,i,zR,aB,jG⟩;unfold O3;by_cases aN:i<l.length
   . have g0:((i:Int) < (l.length:Int))=True:=aqh (by omega);obtain ⟨b,off,cB,bQ,X,eR,ld,_,_,_⟩:=aE.lX L (k:=.i64) aN;have d5:=ld g (ax.trans bK);have ol:=eR.one;have cv:=fk aN (by unfold top at hle;omega);obtain ⟨g1,al,aH,dG⟩:=gE g z5 (dS l[i] cB);have ai:l[i] ∈ l:=aqC aN;simp +contextual only [a8,cz,sa,sb,zR,g0,bQ,d5,ol.1,ol.2.1,al,dG.g,↓af,an,simprocAttr];refine bF (Ve l[i] (by have:=pS ai;omega) _ g1 (((X.ext ax).ext bK).ext aH)) ?_;rintro x g2 ⟨rfl,bA⟩;cases hm:fB l[i] with
     | false=>
       have ak:=EE (cs:=cs) ai hm;simp +contextual only [a8,cz,↓af,an,simprocAttr];exact ⟨_,by rw [ak],((ax.trans bK).trans aH).trans bA,fun z=>by rw [ak] at z;cases z⟩
     | true=>
       simp +contextual only [a8,cz,sa,sb,zR,cv,↓af,an,simprocAttr];refine ⟨⟨(bK.trans aH).trans bA,i+1,rfl,aN,fun q ar=>?_⟩,by omega⟩;rw [take_one aN] at ar;rcases aq0.1 ar with ar | ar
       . exact jG q ar
       . rw [aqU] at ar;subst ar;exact hm
   . have g0:((i:Int) < (l.length:Int))=False:=ap_ (by omega);rw [aqt (by omega)] at jG;simp +contextual only [a8,cz,sa,sb,zR,g0,↓af,an,simprocAttr];have lK:=ax.trans bK;refine bF (am4 cs l (by omega) k v g (Np.ext bK) (L.ext lK)) ?_;rintro x dI ⟨rfl,e⟩;subst e;have he:=Rh uM jG;cases nU:dw cs (b0 l) l with
     | true=>
       rw [nU] at he;simp +contextual only [cz,he,aqB,↓af,an,simprocAttr];exact ⟨_,rfl,lK,Np.ext bK⟩
     | false=>
       rw [nU] at he;simp +contextual only [cz,he,aqd,aqD,↓af,an,simprocAttr];exact ⟨_,rfl,lK⟩
theorem alc (cs:List b2) (l:List aE) (aO:b0 l+2<=1000000000) (cl v:V) (h:ag) (hy:bB Any h 5 (cs.map b2.enc) cl) (L:bB Any h 5 (l.map aE.enc) v):
 cr Tryz.prog 20 [cl,v] h fun x ab=>x=.int .i64 (ky cs l)/\Ext h ab:=by
 refine ZP.z rfl (cm ?_);unfold OS;simp +contextual only [↓af,an,simprocAttr];refine bF (U7 cs l aO cl v h hy L) ?_;rintro x aa ⟨k,rfl,ax,_⟩;simp +contextual only [↓af,an,simprocAttr];exact ax
end
end Go.Proofs.YtgmhjhgoamjeeaaGreatDoor
