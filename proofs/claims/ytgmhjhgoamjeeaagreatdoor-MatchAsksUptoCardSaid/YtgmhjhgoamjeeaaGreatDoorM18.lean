/- The chapter's functions, walked by the abstract machine: plain lemmas, no condition. Printed by a program from longer texts: names made short. -/
import Derived.Test.YtgmhjhgoamjeeaaGreatDoorM16
import Derived.Test.YtgmhjhgoamjeeaaGreatDoorM17
set_option linter.unusedSectionVars false
set_option linter.unusedSimpArgs false
set_option linter.unusedVariables false
set_option maxHeartbeats 64000000
noncomputable section
namespace Go.Proofs.YtgmhjhgoamjeeaaGreatDoor
section
open Go aZ
section
variable [Lay] {B:Nat} {G:aO->Prop} {h aa:ae} {X:aO->Prop}
inductive lH (B:Nat) (G:aO->Prop) (h:ae):(aO->Prop)->List (List aM)->List V->Prop
 | nil {X:aO->Prop}:lH B G h X [] []
 | cons {X Y:aO->Prop} {bn:List aM} {cl:List (List aM)} {w:V} {ws:List V} (aH:dY B G h 5 (bn.map aM.enc) w) (hw:∀b,w.aS b->X b/\¬Y b) (a8:∀b,Y b->X b) (nz:lH B G h Y cl ws):lH B G h X (bn::cl) (w::ws)
theorem lH.mod {M:aO->Prop} {cl:List (List aM)} {ws:List V} (H:lH B G h X cl ws) (m:Mod M h aa) (ao:∀b,X b->¬M b) (eB:∀b,G b->Old h b->¬M b):lH B G aa X cl ws:=by
 induction H with
 | nil=>exact .nil
 | cons aH hw a8 nz bh=>exact .cons (aH.mod m (fun b q=>ao b (hw b q).1) fun b q o _=>eB b q o) hw a8 (bh fun b q=>ao b (a8 b q))
theorem lH.len {cl:List (List aM)} {ws:List V} (H:lH B G h X cl ws):ws.length=cl.length:=by
 induction H with
 | nil=>rfl
 | cons aH hw a8 nz bh=>simp [bh]
theorem lH.snoc {cl:List (List aM)} {ws:List V} (H:lH B G h X cl ws):lH B G h X (cl++[[]]) (ws++[.bu]):=by
 induction H with
 | nil=>exact .cons (Y:=fun _=>False) (dY.nil _ _ _ _) (fun b q=>q.elim) (fun b q=>q.elim) .nil
 | cons aH hw a8 nz bh=>exact .cons aH hw a8 bh
theorem lH.at {cl:List (List aM)} {ws:List V} (H:lH B G h X cl ws) {j:Nat} (bC:j<cl.length):
 ∃(w:V) (Z:aO->Prop),ws[j]? =some w/\dY B G h 5 (cl[j].map aM.enc) w/\(∀b,w.aS b->X b/\¬Z b)/\(∀b,Z b->X b)/\
  ∀(aa:ae) (M:aO->Prop),Mod M h aa->(∀b,Z b->¬M b)->(∀b,G b->Old h b->¬M b)->∀Cm w',dY B G aa 5 (List.map aM.enc Cm) w'->(∀b,w'.aS b->¬Z b)->lH B G aa (fun b=>Z b\/w'.aS b) (cl.set j Cm) (ws.set j w'):=by
 induction H generalizing j with
 | nil=>simp at bC
 | @cons X Y bn cl w ws aH hw a8 nz bh=>
   cases j with
   | zero=>
     refine ⟨w,Y,rfl,aH,hw,a8,fun aa M m bm eB Cm w' o kh=>?_⟩;exact .cons o (fun b q=>⟨.inr q,kh b q⟩) (fun b q=>.inl q) (nz.mod m bm eB)
   | succ j=>
     simp only [apz] at bC;obtain ⟨az,Z,av,aK,bF,bZ,df⟩:=bh (j:=j) (by omega);refine ⟨az,fun b=>Z b\/w.aS b,by simpa using av,by simpa using aK,fun b q=>⟨a8 b (bF b q).1,fun z=>?_⟩,fun b q=>?_,fun aa M m bm eB Cm w' o kh=>?_⟩
     . rcases z with z | z
       . exact (bF b q).2 z
       . exact (hw b z).2 (bF b q).1
     . rcases q with q | q
       . exact a8 b (bZ b q)
       . exact (hw b q).1
     . have t:=df aa M m (fun b q=>bm b (.inl q)) eB Cm w' o fun b q z=>kh b q (.inl z);refine .cons (aH.mod m (fun b q=>bm b (.inr q)) fun b q o _=>eB b q o) (fun b q=>⟨.inl (.inr q),fun z=>?_⟩) (fun b q=>?_) t
       . rcases z with z | z
         . exact (hw b q).2 (bZ b z)
         . exact kh b z (.inr q)
       . rcases q with q | q
         . exact .inl (.inl q)
         . exact .inr q
structure nL (B:Nat) (G:aO->Prop) (h:ae) (X:aO->Prop) (cl:List (List aM)) (v:V):Prop where
 ex:∃(ws:List V) (Y:aO->Prop),dc B h 1 v cl.length ws/\(∀b,v.aS b->X b/\¬Y b)/\(∀b,Y b->X b)/\lH B G h Y cl ws
theorem nL.mod {M:aO->Prop} {cl:List (List aM)} {v:V} (H:nL B G h X cl v) (m:Mod M h aa) (ao:∀b,X b->¬M b) (eB:∀b,G b->Old h b->¬M b):nL B G aa X cl v:=by obtain ⟨ws,Y,aj,an,aJ,bE⟩:=H.ex;exact ⟨ws,Y,aj.mod m fun b q=>ao b (an b q).1,an,aJ,bE.mod m (fun b q=>ao b (aJ b q)) eB⟩
theorem nL.nil (B:Nat) (G:aO->Prop) (h:ae):nL B G h (fun _=>False) [] .bu:=⟨[],fun _=>False,⟨by simp,rfl⟩,fun b q=>q.elim,fun b q=>q,.nil⟩
variable {α:Type}
def dy (s:dD):List (dD × α)->Option α
 | []=>none
 | (n,a)::aR=>if s=n then some a else dy s aR
def iv (s:dD) (x:α):List (dD × α)->List (dD × α)
 | []=>[(s,x)]
 | (n,a)::aR=>if s=n then (s,x)::aR else (n,a)::iv s x aR
inductive kz (B:Nat) (G:aO->Prop) (h:ae):(aO->Prop)->List (dD × List (List aM))->List (dD × V)->Prop
 | nil {X:aO->Prop}:kz B G h X [] []
 | cons {X iJ Y:aO->Prop} {aH:dD} {cl:List (List aM)} {v:V} {st:List (dD × List (List aM))} {aR:List (dD × V)} (o:nL B G h iJ cl v) (U:∀b,iJ b->X b/\¬Y b) (a8:∀b,Y b->X b) (nz:kz B G h Y st aR):kz B G h X ((aH,cl)::st) ((aH,v)::aR)
theorem kz.mod {M:aO->Prop} {st:List (dD × List (List aM))} {aR:List (dD × V)} (H:kz B G h X st aR) (m:Mod M h aa) (ao:∀b,X b->¬M b) (eB:∀b,G b->Old h b->¬M b):kz B G aa X st aR:=by
 induction H with
 | nil=>exact .nil
 | cons o U a8 nz bh=>exact .cons (o.mod m (fun b q=>ao b (U b q).1) eB) U a8 (bh fun b q=>ao b (a8 b q))
theorem kz.ext {st:List (dD × List (List aM))} {aR:List (dD × V)} (H:kz B G h X st aR) (e:Ext h aa):kz B G aa X st aR:=H.mod (e.mod fun _=>False) (fun _ _ f=>f) (fun _ _ _ f=>f)
theorem kz.lens {st:List (dD × List (List aM))} {aR:List (dD × V)} (H:kz B G h X st aR) (aH:dD):
 ∃(iJ Z:aO->Prop),nL B G h iJ ((dy aH st).getD []) ((eu aH aR).getD .bu)/\(∀b,iJ b->X b/\¬Z b)/\(∀b,Z b->X b)/\
  ∀(aa:ae) (M:aO->Prop),Mod M h aa->(∀b,Z b->¬M b)->(∀b,G b->Old h b->¬M b)->∀vD rN b1,nL B G aa vD rN b1->(∀b,vD b->¬Z b)->kz B G aa (fun b=>Z b\/vD b) (iv aH rN st) (jY aH b1 aR):=by
 induction H with
 | nil=>exact ⟨fun _=>False,fun _=>False,nL.nil _ _ _,fun b q=>q.elim,fun b q=>q.elim,fun aa M m bm eB vD rN b1 o ao=>.cons (Y:=fun _=>False) o (fun b q=>⟨.inr q,fun f=>f⟩) (fun b q=>q.elim) .nil⟩
 | @cons X iJ Y n cl v st aR o U a8 nz bh=>
   by_cases c:aH=n
   . subst c;simp only [dy,eu,ap0,aqe,iv,jY];exact ⟨iJ,Y,o,U,a8,fun aa M m bm eB vD rN b1 b_ ao=>.cons b_ (fun b q=>⟨.inr q,ao b q⟩) (fun b q=>.inl q) (nz.mod m bm eB)⟩
   . simp only [dy,eu,apu c,iv,jY];obtain ⟨Hp,Z,av,aK,bF,bZ⟩:=bh;refine ⟨Hp,fun b=>Z b\/iJ b,av,fun b q=>⟨a8 b (aK b q).1,fun z=>?_⟩,fun b q=>?_,fun aa M m bm eB vD rN b1 b_ ao=>?_⟩
     . rcases z with z | z
       . exact (aK b q).2 z
       . exact (U b z).2 (aK b q).1
     . rcases q with q | q
       . exact a8 b (bF b q)
       . exact (U b q).1
     . have t:=bZ aa M m (fun b q=>bm b (.inl q)) eB vD rN b1 b_ fun b q z=>ao b q (.inl z);refine .cons (o.mod m (fun b q=>bm b (.inr q)) eB) (fun b q=>⟨.inl (.inr q),fun z=>?_⟩) (fun b q=>?_) t
       . rcases z with z | z
         . exact (U b q).2 (bF b z)
         . exact ao b z (.inr q)
       . rcases q with q | q
         . exact .inl (.inl q)
         . exact .inr q
theorem kz.mem {st:List (dD × List (List aM))} {aR:List (dD × V)} (H:kz B G h X st aR):(∀p ∈ aR,∃cl iJ,(p.1,cl) ∈ st/\nL B G h iJ cl p.2/\∀b,iJ b->X b)/\∀q ∈ st,∃v,(q.1,v) ∈ aR/\∃iJ,nL B G h iJ q.2 v:=by
 induction H with
 | nil=>exact ⟨fun p ai=>(by cases ai),fun q aq=>(by cases aq)⟩
 | @cons X iJ Y n cl v st aR o U a8 nz bh=>
   refine ⟨fun p ai=>?_,fun q aq=>?_⟩
   . rcases apI.1 ai with rfl | ai
     . exact ⟨cl,iJ,aqo,o,fun b z=>(U b z).1⟩
     . obtain ⟨rN,Hp,a,b,c⟩:=bh.1 p ai;exact ⟨rN,Hp,ap6 _ a,b,fun x z=>a8 x (c x z)⟩
   . rcases apI.1 aq with rfl | aq
     . exact ⟨v,aqo,iJ,o⟩
     . obtain ⟨b1,a,b⟩:=bh.2 q aq;exact ⟨b1,ap6 _ a,b⟩
end
theorem wR {α:Type} (s:dD) (x:α) (t:dD):∀aR:List (dD × α),dy t (iv s x aR)=if t=s then some x else dy t aR
 | []=>by simp only [iv,dy]
 | (n,a)::aR=>by
   simp only [iv];by_cases q:s=n
   . subst q;simp only [ap0,dy]
     split<;>rfl
   . rw [apu q];simp only [dy,wR s x t aR];by_cases r:t=n
     . rw [apB r,apu (fun z=>q (z.symm.trans r)),apB r]
     . rw [apu r,apu r]
theorem Uz {α:Type} (s:dD) (x:α):∀aR:List (dD × α),(iv s x aR).map Prod.fst=if s ∈ aR.map Prod.fst then aR.map Prod.fst else aR.map Prod.fst++[s]
 | []=>by simp [iv]
 | (n,a)::aR=>by
   simp only [iv];by_cases q:s=n
   . subst q;simp
   . rw [apu q,aqt,Uz s x aR,aqt];simp only [apI,q,false_or]
     split<;>simp
theorem BV {α:Type} {s:dD} {x:α}:∀{aR:List (dD × α)},(aR.map Prod.fst).Nodup->((s,x) ∈ aR↔dy s aR=some x)
 | [],_=>by simp [dy]
 | (n,a)::aR,aV=>by
   simp only [aqt,arz] at aV;simp only [apI,aqw,dy];by_cases q:s=n
   . subst q;simp only [ari,ap0,apq];refine ⟨fun z=>?_,fun z=>.inl z.symm⟩;rcases z with z | z
     . exact z.symm
     . exact absurd (List.mem_map_of_mem (f:=Prod.fst) z) aV.1
   . rw [apu q];simp only [q,arH,false_or];exact BV aV.2
def qE (cl:List (List aM)) (l:List aM):List (List aM):=List.zipWith (fun bn x=>bn++[x]) cl l
def Dj (st:List (dD × List (List aM))) (q:aM):List (dD × List (List aM)):=if q.l=[] then st else iv (eY q) (qE ((dy (eY q) st).getD (q.l.map fun _=>[])) q.l) st
structure qP (s:List aM) (st:List (dD × List (List aM))):Prop where
 wV:(st.map Prod.fst).Nodup
 el:∀aH cl,dy aH st=some cl->(cl.length:Int)=aH.2.2.2/\(∃q ∈ s,eY q=aH/\q.l≠[])/\∀j (bC:j<cl.length),cl[j]=h8 s aH j
 Dk:∀q ∈ s,q.l≠[]->∃cl,dy (eY q) st=some cl
theorem Li (s:List aM) (q:aM) (aH:dD) (j:Nat):h8 (s++[q]) aH j=h8 s aH j++(if eY q=aH then (match q.l[j]? with
 | some x=>[x]
 | none=>[]) else []):=by
 unfold h8;rw [List.filter_append,List.filterMap_append];congr 1;by_cases c:eY q=aH
 . simp only [arf,c,aq8,ap0,List.filter_nil];cases aq:q.l[j]? <;>simp [aq]
 . simp [c]
theorem akB {s:List aM} {aH:dD} {j:Nat} (h:∀q ∈ s,eY q=aH->q.l=[]):h8 s aH j=[]:=by unfold h8;rw [List.filterMap_eq_nil_iff];intro q aq;rw [aq7,apE] at aq;rw [h q aq.1 aq.2];rfl
theorem qP.nil:qP [] []:=⟨by simp,fun aH cl h=>(by cases h),fun q aq=>(by cases aq)⟩
theorem qP.add {s:List aM} {st:List (dD × List (List aM))} (H:qP s st) (q:aM):qP (s++[q]) (Dj st q):=by
 unfold Dj;by_cases aq:q.l=[]
 . rw [apB aq];refine ⟨H.wV,fun aH cl h=>?_,fun x ao cT=>?_⟩
   . obtain ⟨a,⟨y,b,c,d⟩,e⟩:=H.el aH cl h;refine ⟨a,⟨y,List.mem_append_left _ b,c,d⟩,fun j bC=>?_⟩;rw [e j bC,Li,aq];simp
   . rcases aqv.1 ao with ao | ao
     . exact H.Dk x ao cT
     . rw [aqa] at ao;subst ao;exact absurd aq cT
 . rw [apu aq];have hold:∀Cp,(dy (eY q) st).getD (q.l.map fun _=>[])=Cp->Cp.length=q.l.length/\∀j (bC:j<Cp.length),Cp[j]=h8 s (eY q) j:=by
    intro Cp e;cases ar:dy (eY q) st with
    | some p=>
      rw [ar,aqe] at e;subst e;obtain ⟨a,_,c⟩:=H.el _ _ ar;exact ⟨by simp only [eY] at a;omega,c⟩
    | none=>
      rw [ar,Option.getD_none] at e;subst e;refine ⟨by simp,fun j bC=>?_⟩;rw [aqZ,akB];intro x ao a7;by_cases bm:x.l=[]
      . exact bm
      . obtain ⟨cl,e⟩:=H.Dk x ao bm;rw [a7,ar] at e;cases e
   obtain ⟨hlen,dj⟩:=hold _ rfl;refine ⟨?_,fun aH cl h=>?_,fun x ao cT=>?_⟩
   . rw [Uz]
     split
     . exact H.wV
     . rename_i hm;rw [arB];refine ⟨H.wV,by simp,fun a bw b ah=>?_⟩;rw [aqa] at ah;rw [ah];exact fun z=>hm (z ▸ bw)
   . rw [wR] at h;by_cases c:aH=eY q
     . subst c;rw [apB rfl,apq] at h;subst h;have hW:(qE ((dy (eY q) st).getD (q.l.map fun _=>[])) q.l).length=q.l.length:=by unfold qE;rw [arv,hlen,Nat.min_self]
       refine ⟨by rw [hW];rfl,⟨q,List.mem_append_right _ (aqa.2 rfl),rfl,aq⟩,fun j bC=>?_⟩;rw [Li,apB rfl];have adV:j<q.l.length:=by omega
       have e:(qE ((dy (eY q) st).getD (q.l.map fun _=>[])) q.l)[j]=((dy (eY q) st).getD (q.l.map fun _=>[]))[j]'(by omega)++[q.l[j]]:=by simp only [qE,List.getElem_zipWith]
       rw [e,dj j (by omega),apo adV]
     . rw [apu c] at h;obtain ⟨a,⟨y,b,d,e⟩,f⟩:=H.el aH cl h;refine ⟨a,⟨y,List.mem_append_left _ b,d,e⟩,fun j bC=>?_⟩;rw [f j bC,Li,apu (fun z=>c z.symm)];simp
   . by_cases c:eY x=eY q
     . exact ⟨_,by rw [wR,apB c]⟩
     . rcases aqv.1 ao with ao | ao
       . obtain ⟨cl,e⟩:=H.Dk x ao cT;exact ⟨cl,by rw [wR,apu c];exact e⟩
       . rw [aqa] at ao;subst ao;exact absurd rfl c
theorem qP.all {s:List aM} {st:List (dD × List (List aM))} (H:qP s st) (f:List aM->Bool):(st.all fun x=>x.2.all f)=s.all fun q=>(List.range q.l.length).all fun i=>f (h8 s (eY q) i):=by
 rw [aqg];simp only [apP,aqX];constructor
 . intro h q aq i ax;obtain ⟨cl,e⟩:=H.Dk q aq (by intro z;rw [z] at ax;simp at ax);obtain ⟨a,_,c⟩:=H.el _ _ e;have hlen:cl.length=q.l.length:=by simp only [eY] at a;omega
   rw [<-c i (by omega)];exact h _ ((BV H.wV).2 e) _ (apV _)
 . rintro h ⟨aH,cl⟩ ao bn jz;obtain ⟨a,⟨q,b,c,d⟩,e⟩:=H.el _ _ ((BV H.wV).1 ao);obtain ⟨j,bC,rfl⟩:=arC jz;rw [e j bC,<-c];refine h q b j ?_;rw [<-c] at a;simp only [eY] at a bC;omega
theorem kz.keys [Lay] {B:Nat} {G:aO->Prop} {h:ae} {X:aO->Prop} {st:List (dD × List (List aM))} {aR:List (dD × V)} (H:kz B G h X st aR) (aH:dD):(dy aH st).isSome=(eu aH aR).isSome:=by
 induction H with
 | nil=>rfl
 | @cons X iJ Y n cl v st aR o U a8 nz bh=>
   simp only [dy,eu]
   split
   . rfl
   . exact bh
theorem UA {κ:Type} [DecidableEq κ] {s:κ} {x:V}:∀{aR:List (κ × V)},eu s aR=some x->jY s x aR=aR
 | [],h=>by cases h
 | (n,a)::aR,h=>by
   simp only [eu] at h;simp only [jY];by_cases q:s=n
   . rw [apB q,apq] at h;rw [apB q,h,q]
   . rw [apu q] at h ⊢;rw [UA h]
section
variable [Lay]
structure hf (B:Nat) (G E:aO->Prop) (g:ae) (m:Nat) (st:List (dD × List (List aM))) (aR:List (dD × V)):Prop where
 ex:∃X:aO->Prop,kz B G g X st aR/\(∀b,X b->Old g b/\B<=b0 b/\¬E b)/\hT kb g (aC m) aR
 em:E (aC m)
variable {B:Nat} {G E:aO->Prop} {g:ae} {m:Nat} {st:List (dD × List (List aM))} {aR:List (dD × V)}
theorem hf.ext {c_:ae} (S:hf B G E g m st aR) (e:Ext g c_):hf B G E c_ m st aR:=by obtain ⟨X,aj,an,aJ⟩:=S.ex;exact ⟨⟨X,aj.ext e,fun b z=>⟨e.bG (an b z).1,(an b z).2⟩,aJ.ext e⟩,S.em⟩
theorem hf.nil {E:aO->Prop} {g:ae} (hm:E (aC m)) (H:hT kb g (aC m) []):hf B G E g m [] []:=⟨⟨fun _=>False,.nil,fun b z=>z.elim,H⟩,hm⟩
theorem hf.more {ay:aO->Prop} (S:hf B G E g m st aR) (h:∀b,ay b->E b\/¬Old g b) (hm:ay (aC m)):hf B G ay g m st aR:=by
 obtain ⟨X,aj,an,aJ⟩:=S.ex;refine ⟨⟨X,aj,fun b z=>⟨(an b z).1,(an b z).2.1,fun w=>?_⟩,aJ⟩,hm⟩;rcases h b w with w | w
 . exact (an b z).2.2 w
 . exact w (an b z).1
theorem hf.look (S:hf B G E g m st aR) (aH:dD):hq (structEq Tryz.prog 111) .bu false g (.map (aC m)) (kb aH)=some ((eu aH aR).getD .bu):=by obtain ⟨X,aj,an,aJ⟩:=S.ex;rw [aJ.look I'];cases eu aH aR<;>rfl
theorem hf.len (S:hf B G E g m st aR) (aH:dD):hK ((eu aH aR).getD .bu)=some (.int .i64 ((dy aH st).getD []).length)/\((eu aH aR).getD .bu).one=true/\((eu aH aR).getD .bu).cells=[(eu aH aR).getD .bu]:=by obtain ⟨X,aj,an,aJ⟩:=S.ex;obtain ⟨iJ,Z,o,_⟩:=aj.lens aH;obtain ⟨ws,Y,a,_⟩:=o.ex;exact ⟨a.v.len,a.v.one.1,a.v.one.2.1⟩
theorem hf.push (S:hf B G E g m st aR) (cC:B<=g.next) (eB:∀b,G b->b0 b<B) (iL:∀b,E b->Old g b) (yr:B<=m) (aH:dD) (hlen:((dy aH st).getD []).length+1<=top):
 ∃g1 g2 c g3 w' g4,g.new (.bT [.bu] 0 false)=g1/\Ext g g1/\xY Tryz.prog 111 .bu (.map (aC m)) (kb aH) g1=.val (.tuple [(eu aH aR).getD .bu,.int .i64 (c:Nat)]) g2/\
  jM 1 ((eu aH aR).getD .bu) (.slice (aC g.next) 0 1 1) g2=.val w' g3/\q8 g3 (.map (aC m)) (.int .i64 (c:Nat)) w'=some g4/\
  hf B G E g4 m (iv aH ((dy aH st).getD []++[[]]) st) (jY aH w' aR)/\Mod (fun b=>B<=b0 b/\(¬E b\/b=aC m)) g g4:=by
 obtain ⟨X,aj,an,aJ⟩:=S.ex;obtain ⟨g1,bJ,a2,a3⟩:=qo g 1 1 [.bu] rfl (by unfold top;simp);have vB:=aj.ext a2;have tK:=aJ.ext a2;obtain ⟨iJ,Z,o,ho,bm,Me⟩:=vB.lens aH;obtain ⟨c,g2,bR,b7,eL,ic⟩:=tK.entry I' aH .bu;have uh:∀b,X b->¬b=aC m:=fun b z w=>(an b z).2.2 (w ▸ S.em);have TM:∀b,G b->Old g1 b->¬b=aC m:=fun b z _ w=>by have:=eB b z;rw [w,cV] at this;omega
 have cy:=o.mod b7 (fun b z=>uh b (ho b z).1) TM;obtain ⟨ws,Y,s1,s2,jn,oo⟩:=cy.ex;have kF:¬aC g.next=aC m:=fun w=>by have:=iL _ S.em;rw [<-w] at this;unfold Old at this;rw [cV] at this;omega
 have cL:=a2.next
 obtain ⟨w',g3,d1,d2,d3,d4⟩:=vG (x:=.slice (aC g.next) 0 1 1) (m:=1) (by omega) s1 ((a3.v.mod b7 (fun b z=>by rw [show b=aC g.next from z];exact kF))) (by rw [eL];omega) (by omega) rfl;have Sd:∀b,((eu aH aR).getD V.bu).aS b->¬b=aC m:=fun b z=>uh b (ho b (s2 b z).1).1;have Ej:g3.get (aC m)=g2.get (aC m):=by
  have aT:Old g2 (aC m):=by have:=tK.bG;unfold Old at this ⊢;rw [eL];exact this
  exact d3.get _ aT fun z=>Sd _ z rfl
 have T7:Old g3 (aC m):=by have:=tK.bG;have:=d3.next;unfold Old at *;omega
 obtain ⟨g4,av,aK,bF,bZ⟩:=ic g3 Ej T7 w';have FD:∀b,Old g2 b↔Old g1 b:=fun b=>by unfold Old;rw [eL]
 have WW:Mod (fun b=>b=aC m\/((eu aH aR).getD V.bu).aS b) g1 g3:=(b7.mono fun b _ z=>.inl z).trans (d3.mono fun b _ z=>.inr z);have Hd:Mod (fun b=>b=aC m\/((eu aH aR).getD V.bu).aS b) g1 g4:=WW.trans (bF.mono fun b _ z=>.inl z);have e9:∀b,Z b->¬(b=aC m\/((eu aH aR).getD V.bu).aS b):=fun b z w=>by
  rcases w with w | w
  . exact uh b (bm b z) w
  . exact (ho b (s2 b w).1).2 z
 have IU:∀b,G b->Old g1 b->¬(b=aC m\/((eu aH aR).getD V.bu).aS b):=fun b z o w=>by
  rcases w with w | w
  . exact TM b z o w
  . have:=eB b z;have:=(an b (ho b (s2 b w).1).1).2.1;omega
 have kh:∀b,w'.aS b->(((eu aH aR).getD V.bu).aS b\/g1.next<=b0 b):=fun b z=>by
  rcases d4 b z with z | z
  . exact .inl z
  . exact .inr (by rw [eL] at z;exact z)
 have ac3:∀b,Y b->Old g1 b:=fun b z=>a2.bG (an b (ho b (jn b z)).1).1;have KZ:nL B G g4 (fun b=>iJ b\/w'.aS b) ((dy aH st).getD []++[[]]) w':=by
  refine ⟨ws++[.bu],Y,?_,fun b z=>⟨.inr z,fun y=>?_⟩,fun b z=>.inl (jn b z),?_⟩
  . rw [apC,ark];exact d2.mod bF fun b z w=>by
     rcases kh b z with z | z
     . exact Sd b z w
     . have:=tK.bG;rw [<-show b=aC m from w] at this;unfold Old at this;omega
  . rcases kh b z with z | z
    . exact (s2 b z).2 y
    . have:=ac3 b y;unfold Old at this;omega
  . have t:=oo.mod (d3.mono fun b _ z=>.inr z) (M:=fun b=>b=aC m\/((eu aH aR).getD V.bu).aS b) (fun b z w=>?_) (fun b z o w=>IU b z ((FD b).1 o) w)
    . have t2:=t.mod (bF.mono fun b _ z=>.inl z) (M:=fun b=>b=aC m\/((eu aH aR).getD V.bu).aS b) (fun b z w=>?_) (fun b z o w=>IU b z (by have:=eB b z;unfold Old;omega) w)
      . exact t2.snoc
      . rcases w with w | w
        . exact uh b (ho b (jn b z)).1 w
        . exact (s2 b w).2 z
    . rcases w with w | w
      . exact uh b (ho b (jn b z)).1 w
      . exact (s2 b w).2 z
 have fin:=Me g4 _ Hd e9 IU _ _ w' KZ (fun b z w=>by
  rcases z with z | z
  . exact (ho b z).2 w
  . rcases kh b z with z | z
    . exact (ho b (s2 b z).1).2 w
    . have:=a2.bG (an b (bm b w)).1;unfold Old at this;omega)
 refine ⟨g1,g2,c,g3,w',g4,bJ,a2,?_,d1,av,⟨⟨_,fin,fun b z=>?_,aK⟩,S.em⟩,?_⟩
 . simp only [xY,Rp,apt,bR]
 . have ec:X b->Old g4 b/\B<=b0 b/\¬E b:=fun z=>⟨Hd.bG (a2.bG (an b z).1),(an b z).2⟩;rcases z with z | z | z
   . exact ec (bm b z)
   . exact ec (ho b z).1
   . rcases kh b z with w | w
     . exact ec (ho b (s2 b w).1).1
     . have og:Old g3 b:=d2.v.bG z;refine ⟨by unfold Old at og ⊢;rw [bZ];exact og,by omega,fun y=>?_⟩;have:=iL b y;unfold Old at this;omega
 . refine (a2.mod _).trans (Hd.mono fun b _ z=>?_);rcases z with z | z
   . exact ⟨by rw [z,cV];exact yr,.inr z⟩
   . exact ⟨(an b (ho b (s2 b z).1).1).2.1,.inl (an b (ho b (s2 b z).1).1).2.2⟩
theorem hf.put (S:hf B G E g m st aR) (cC:B<=g.next) (eB:∀b,G b->b0 b<B) (iL:∀b,E b->Old g b) (yr:B<=m) (aH:dD) {j:Nat} (bC:j < ((dy aH st).getD []).length) {x:aM} {cs:List V} (C:b6 G g x.enc cs) (iB:cs.length=5) (hlen:(((dy aH st).getD [])[j].length+1) * 5<=top):
 ∃b off w g1 w' g2 g3,f' 1 ((eu aH aR).getD .bu) (.int .i64 j)=some (.ptr b (off+j))/\fy (g.get b) (off+j)=some w/\g.new (.bT cs 0 false)=g1/\Ext g g1/\fy (g1.get b) (off+j)=some w/\
  jM 5 w (.slice (aC g.next) 0 1 1) g1=.val w' g2/\(w'.one=true/\w'.cells=[w'])/\ql 1 g2 b (off+j) w' (g2.get b)=some g3/\
  (∀aH,hq (structEq Tryz.prog 111) .bu false g2 (.map (aC m)) (kb aH)=some ((eu aH aR).getD .bu))/\
  Mod (fun b=>B<=b0 b/\¬E b) g g2/\
  hf B G E g3 m (iv aH (((dy aH st).getD []).set j (((dy aH st).getD [])[j]++[x])) st) aR/\Mod (fun b=>B<=b0 b/\¬E b) g g3:=by
 obtain ⟨X,aj,an,aJ⟩:=S.ex;have aA:=aj.keys aH;obtain ⟨iJ,Z,o,ho,bm,Me⟩:=aj.lens aH;obtain ⟨ws,Y,s1,s2,jn,oo⟩:=o.ex;have uy:ws.length=((dy aH st).getD []).length:=by have:=s1.1;omega
 obtain ⟨w,xK,t1,t2,t3,t4,anf⟩:=oo.at bC;have EW:ws[j]'(by omega)=w:=by have:=apo (l:=ws) (i:=j) (by omega);rw [t1] at this;exact (aqF this).symm
 obtain ⟨b,off,bJ,a2,a3⟩:=s1.v.kP (k:=.i64) bC;have rh:=X8 s1.v bC bJ;rw [aru] at bJ;have bG:∀b,X b->Old g b:=fun b z=>(an b z).1;have uh:∀b,X b->¬b=aC m:=fun b z w=>(an b z).2.2 (w ▸ S.em);have lr:=a2.dS (i:=j) (by omega);rw [EW] at lr;have av:Ext g (g.new (.bT cs 0 false)):=(Ext.refl g).new _;have fh:=(a2.ext av).dS (i:=j) (by omega);rw [EW] at fh;have CF:∀c,w.aS c->X c:=fun c z=>(ho c (jn c (t3 c z).1)).1;obtain ⟨w',g2,bQ,b2,c3,gr,c5⟩:=t2.add (ds:=x.enc) (cs:=cs) (C.eQ fun b z=>⟨z,fun y=>by have:=eB b z;have:=(an b (CF b y)).2.1;omega⟩) (by omega) cC (by rw [apv];exact hlen) iB;have aK:∀c,w'.aS c->w.aS c\/g.next<b0 c:=c5
 have outer:∀c,((eu aH aR).getD V.bu).aS c->¬w.aS c:=fun c z y=>(s2 c z).2 (t3 c y).1;have alK:=s1.mod c3 outer;have eA:g2.get b=g.get b:=c3.get b (bG b (ho b (s2 b a3).1).1) (outer b a3);obtain ⟨k,d1,_,d2,_⟩:=alK.akN rh (c:=j) (by omega) (y:=w') b2.one.2.1 b2.one.1;have C9:Mod (fun c=>w.aS c\/c=b) g g2:=c3.mono fun c _ z=>.inl z;have M2:Mod (fun c=>w.aS c\/c=b) g (g2.set b k):=C9.set (fun _=>.inr rfl) k;have Dv:X b:=(ho b (s2 b a3).1).1;have Rb:∀c,(w.aS c\/c=b)->X c:=fun c z=>by
  rcases z with z | z
  . exact CF c z
  . rw [z];exact Dv
 have Ra:∀c,G c->Old g c->¬(w.aS c\/c=b):=fun c z _ y=>by have:=eB c z;have:=(an c (Rb c y)).2.1;omega
 have e9:∀c,Z c->¬(w.aS c\/c=b):=fun c z y=>by
  rcases y with y | y
  . exact (ho c (jn c (t3 c y).1)).2 z
  . exact (ho c (y ▸ (s2 b a3).1)).2 z
 have kh:∀c,w'.aS c->w.aS c\/¬Old g c:=fun c z=>(aK c z).imp_right fun q o=>by unfold Old at o;omega
 have ae0:∀c,w'.aS c->¬c=b:=fun c z y=>by
  rcases kh c z with q | q
  . exact outer b a3 (y ▸ q)
  . exact q (y ▸ bG b Dv)
 have inner:lH B G (g2.set b k) (fun c=>xK c\/w'.aS c) (((dy aH st).getD []).set j (((dy aH st).getD [])[j]++[x])) (ws.set j w'):=by
  refine anf _ _ M2 (fun c z y=>?_) Ra _ w' ?_ fun c z y=>?_
  . rcases y with y | y
    . exact (t3 c y).2 z
    . exact (s2 b a3).2 (t4 b (y ▸ z))
  . rw [aqM];exact b2.mod ((Mod.refl (fun c=>c=b) g2).set (fun _=>rfl) k) ae0 fun c z _ _ y=>by have:=eB c z;have:=(an b Dv).2.1;rw [y] at *;omega
  . rcases kh c z with q | q
    . exact (t3 c q).2 y
    . exact q (bG c (ho c (jn c (t4 c y))).1)
 have KZ:nL B G (g2.set b k) (fun c=>iJ c\/w'.aS c) (((dy aH st).getD []).set j (((dy aH st).getD [])[j]++[x])) ((eu aH aR).getD .bu):=by
  refine ⟨ws.set j w',fun c=>xK c\/w'.aS c,?_,fun c z=>⟨.inl (s2 c z).1,fun y=>?_⟩,fun c z=>?_,inner⟩
  . rw [List.length_set];exact d2
  . rcases y with y | y
    . exact (s2 c z).2 (t4 c y)
    . rcases kh c y with q | q
      . exact outer c z q
      . exact q (bG c (ho c (s2 c z).1).1)
  . rcases z with z | z
    . exact .inl (jn c (t4 c z))
    . exact .inr z
 have fin:=Me _ _ M2 e9 Ra _ _ _ KZ fun c z y=>by
  rcases z with z | z
  . exact (ho c z).2 y
  . rcases kh c z with q | q
    . exact (ho c (jn c (t3 c q).1)).2 y
    . exact q (bG c (bm c y))
 have Jt:jY aH ((eu aH aR).getD .bu) aR=aR:=by
  cases ar:eu aH aR with
  | some v=>rw [aqe];exact UA ar
  | none=>
    rw [ar] at aA;cases hW:dy aH st with
    | some p=>rw [hW] at aA;cases aA
    | none=>rw [hW] at bC;simp at bC
 rw [Jt] at fin;have MO:=aJ.mod c3 fun z=>uh _ (CF _ z) rfl;have Yq:¬aC m=b:=fun z=>uh b Dv z.symm;refine ⟨b,off,w,_,w',g2,_,bJ,lr,rfl,av,fh,bQ,⟨b2.one.1,b2.one.2.1⟩,d1,fun adk=>?_,c3.mono fun c _ z=>(an c (CF c z)).2,⟨⟨_,fin,fun c z=>?_,MO.mod ((Mod.refl (fun c=>c=b) g2).set (fun _=>rfl) k) Yq⟩,S.em⟩,M2.mono fun c _ z=>(an c (Rb c z)).2⟩
 . rw [MO.look I'];cases eu adk aR<;>rfl
 . have ec:X c->Old (g2.set b k) c/\B<=b0 c/\¬E c:=fun z=>⟨M2.bG (bG c z),(an c z).2⟩;rcases z with z | z | z
   . exact ec (bm c z)
   . exact ec (ho c z).1
   . rcases kh c z with q | q
     . exact ec (CF c q)
     . have og:Old g2 c:=b2.kX z;refine ⟨by unfold Old at og ⊢;rw [nq];exact og,?_,fun y=>q (iL c y)⟩;unfold Old at q;omega
end
theorem lI {A B:Prop}:cP.normal.andThen A B=A:=(rfl)
theorem sq {A B:Prop}:cP.ret.andThen A B=B:=(rfl)
theorem Ni {i:Nat} {A B:Prop}:(cP.exit i).andThen A B=B:=(rfl)
theorem vT [Lay] {P:Program} {a b:aX} {r:bd} {h:ae} {Q:cP->bd->ae->Prop} (J:bd->ae->Prop) (aV:a.l5=true) (H:fm P a r h fun e bb aa=>e.andThen (J bb aa) (Q e bb aa)) (K:∀bb aa,J bb aa->fT P b bb aa Q):fT P (.seq a b) r h Q:=
 Ij a aV (fun e bb aa q=>Al (K bb aa) (fun q=>q) q) H
theorem aba [Lay] {P:Program} {a b:aX} {r:bd} {h:ae} {Q:cP->bd->ae->Prop}:fT P (.seq a b) r h Q=fT P a r h fun e bb aa=>e.andThen (fT P b bb aa Q) (Q e bb aa):=by simp only [fT]
theorem aa8 [Lay] {P:Program} {id:Nat} {b:aX} {r:bd} {h:ae} {Q:cP->bd->ae->Prop}:fT P (.block id b) r h Q=fT P b r h fun e bb aa=>Q (e.leave id) bb aa:=by simp only [fT]
theorem aa9 [Lay] {P:Program} {b:aX} {r:bd} {h:ae} {Q:cP->bd->ae->Prop} (I:bd->ae->Prop) (μ:bd->ae->Nat) (aY:I r h) (aD:∀r h,I r h->fT P b r h fun e bb aa=>e.andThen (I bb aa/\μ bb aa<μ r h) (Q e bb aa)):fT P (.loop b) r h Q:=by simp only [fT];exact ⟨I,μ,aY,aD⟩
theorem aa' [Lay] {P:Program} {d t:Nat} {os:List bs} {b:aX} {r:bd} {h:ae} {Q:cP->bd->ae->Prop} (H:C_ (r t) h fun v aa=>fT P (.seq (.ak os) b) (r.set (some d) v) aa Q):fT P (.seq (.ak (⟨some d,.mG (.t t),none,[t]⟩::os)) b) r h Q:=by
 have e:(aU.t t).aQ (r.trim [t])=r t:=by simp [aU.aQ,bd.trim]
 simp only [fT] at H;simp only [fT,xU,bs.sB];rw [e];exact H
def LJ {κ:Type} (aR:List (κ × V)) (b:aO) (it:Nat) (g:ae):Nat:=match g.get b,g.get (aC it) with
 | .mp es _,.gR _ _ seen _=>(gQ seen aR es).length
 | _,_=>0
theorem U_ [Lay] {κ:Type} {dQ:κ->V} {aR mE:List (κ × V)} {b:aO} {it:Nat} {g:ae} (R:xI dQ g b it aR mE):LJ aR b it g=mE.length:=by obtain ⟨es,clock,seen,aj,an,aJ,bE,cO⟩:=R.ex;simp only [LJ,aj,bE,cO]
def yQ (m:Nat) (aH:dD) (g:ae):Nat:=match hq (structEq Tryz.prog 111) .bu false g (.map (aC m)) (kb aH) with
 | some w=>(match hK w with
   | some (.int _ i)=>i.toNat
   | _=>0)
 | none=>0
theorem hf.yQ [Lay] {B:Nat} {G E:aO->Prop} {g:ae} {m:Nat} {st:List (dD × List (List aM))} {aR:List (dD × V)} (S:hf B G E g m st aR) (aH:dD):Go.Proofs.YtgmhjhgoamjeeaaGreatDoor.yQ m aH g=((dy aH st).getD []).length:=by simp only [Go.Proofs.YtgmhjhgoamjeeaaGreatDoor.yQ,S.look aH,(S.len aH).1,apy]
def oa (cur:List (List aM)) (l:List aM) (j:Nat):List (List aM):=qE (cur.take j) (l.take j)++cur.drop j
theorem Tz {cur:List (List aM)} {l:List aM} {j:Nat} (h:cur.length=l.length):(oa cur l j).length=l.length:=by unfold oa qE;simp only [apC,arv,apU,apY];omega
theorem aiX {cur:List (List aM)} {l:List aM} {j:Nat} (h:cur.length=l.length) (bC:j<l.length):(oa cur l j)[j]'(by rw [Tz h];exact bC)=cur[j]'(by omega):=by
 unfold oa qE;have ar:(List.zipWith (fun bn x=>bn++[x]) (cur.take j) (l.take j)).length=j:=by simp only [arv,apU];omega
 rw [List.getElem_append_right (by omega)];simp only [ar,aq5,List.getElem_drop,aqH]
theorem aiY {cur:List (List aM)} {l:List aM} {j:Nat} (h:cur.length=l.length) (bC:j<l.length):(oa cur l j).set j (cur[j]'(by omega)++[l[j]])=oa cur l (j+1):=by
 have RD:j<cur.length:=by omega
 unfold oa qE;have ar:(List.zipWith (fun bn x=>bn++[x]) (cur.take j) (l.take j)).length=j:=by simp only [arv,apU];omega
 rw [List.set_append_right _ _ (by omega),ar,aq5,apW RD,List.set_cons_zero,aqh RD,aqh bC,List.zipWith_append (by simp only [apU];omega)];simp
theorem aiW {cur:List (List aM)} {l:List aM} (h:cur.length=l.length):oa cur l l.length=qE cur l:=by unfold oa;rw [are,<-h,are,arw,aqB]
theorem Lp {α:Type} (s:dD) (x y:α):∀aR:List (dD × α),iv s y (iv s x aR)=iv s y aR
 | []=>by simp [iv]
 | (n,a)::aR=>by
   simp only [iv];by_cases q:s=n
   . subst q;simp [iv]
   . simp only [apu q,iv,Lp s x y aR]
theorem akA (s:List aM) (aH:dD) (j:Nat):(h8 s aH j).length<=s.length:=by unfold h8;exact aqc (List.length_filterMap_le _ _) (arl _ _)
theorem Gt (l:List aM) (p:aM):hQ (l++[p])=if r2 p=true then hQ l else hQ l++[p]:=by unfold hQ;rw [List.filter_append];cases h:r2 p<;>simp [h]
theorem LY:∀l:List aM,cj (hQ l)<=cj l
 | []=>aps _
 | p::l=>by
   have:=LY l;unfold hQ at this ⊢;rw [arf,cj]
   split
   . rw [cj];omega
   . omega
theorem akC {aH:dD} {j:Nat}:∀s:List aM,s≠[]->cj (h8 s aH j)<cj s/\True
 | [],h=>absurd rfl h
 | q::s,_=>by
   refine ⟨?_,trivial⟩;have key:∀s:List aM,cj (h8 s aH j)<=cj s:=by
    intro s
    induction s with
    | nil=>exact aps _
    | cons q s bh=>
      have e:h8 (q::s) aH j=(if eY q=aH then (match q.l[j]? with
       | some x=>[x]
       | none=>[]) else [])++h8 s aH j:=by
       unfold h8;by_cases c:eY q=aH
       . simp only [arf,c,aq8,ap0];cases aq:q.l[j]? <;>simp [aq]
       . simp [c]
      rw [e,Cn,cj]
      have:cj (if eY q=aH then (match q.l[j]? with
       | some x=>[x]
       | none=>[]) else [])<=q.size:=by
       split
       . cases aq:q.l[j]? with
         | none=>simp [cj]
         | some x=>
           have:=uY (apR aq);simp only [cj];omega
       . simp [cj]
      omega
   have e:h8 (q::s) aH j=(if eY q=aH then (match q.l[j]? with
    | some x=>[x]
    | none=>[]) else [])++h8 s aH j:=by
    unfold h8;by_cases c:eY q=aH
    . simp only [arf,c,aq8,ap0];cases aq:q.l[j]? <;>simp [aq]
    . simp [c]
   rw [e,Cn,cj];have:=key s
   have ab:cj (if eY q=aH then (match q.l[j]? with
    | some x=>[x]
    | none=>[]) else [])<q.size:=by
    have ai:=oi q
    split
    . cases aq:q.l[j]? with
      | none=>simp only [cj];omega
      | some x=>
        have:=uY (apR aq);simp only [cj];omega
    . simp only [cj];omega
   omega
def O6:aX:=
 aX.seq (aX.ak [⟨(some 64),.cq (.t 8),none,[8]⟩,
  ⟨(some 65),.bin (.int .eql) (.t 64) (.c (.int .i64 16)),none,[64]⟩])
  (aX.cond (.t 65)
   (aX.seq (aX.draw [⟨(some 67),.cq (.t 0),none,[0]⟩,
     ⟨(some 68),.s9 (.t 67),none,[67]⟩,
     ⟨(some 69),.er 0 (.t 68),none,[68]⟩,
     ⟨(some 70),.dS (.t 69),none,[69]⟩,
     ⟨(some 71),.er 3 (.t 12),none,[12]⟩,
     ⟨(some 72),.dS (.t 71),none,[71]⟩,
     ⟨(some 73),.look .str (.agg [(.str []),(.str []),(.int .i64 0),(.int .i64 0),.bu]) true (.t 70) (.t 72),none,[70,72]⟩,
     ⟨(some 66),.cq (.t 73),none,[73]⟩,
     ⟨(some 74),.ext (.t 66) 0,none,[66]⟩,
     ⟨(some 75),.ext (.t 66) 1,none,[66]⟩,
     ⟨(some 13),.new [(.str []),(.str []),(.int .i64 0),(.int .i64 0),.bu],none,[]⟩,
     ⟨none,.st 5 (.t 13) (.t 74),none,[13,74]⟩,
     ⟨(some 14),.cq (.t 75),none,[75]⟩] [(3,[11]),(5,[11]),(6,[11])])
    (aX.seq (aX.ak [⟨(some 76),.cq (.t 14),none,[14]⟩,
      ⟨(some 77),.un .not (.t 76),none,[76]⟩,
      ⟨(some 78),.cq (.t 77),none,[77]⟩,
      ⟨(some 79),.er 1 (.t 13),(some (78,false)),[13,78]⟩,
      ⟨(some 80),.dS (.t 79),(some (78,false)),[79,78]⟩,
      ⟨(some 81),.cq (.t 9),(some (78,false)),[9,78]⟩,
      ⟨(some 82),.bin (.str .neq) (.t 80) (.t 81),(some (78,false)),[80,81,78]⟩,
      ⟨(some 83),.pick (.t 78) (.c (.bool true)) (.t 82),none,[78,82]⟩,
      ⟨(some 84),.cq (.t 83),none,[83]⟩,
      ⟨(some 85),.er 4 (.t 13),(some (84,false)),[13,84]⟩,
      ⟨(some 86),.dS (.t 85),(some (84,false)),[85,84]⟩,
      ⟨(some 87),.len .slice (.t 86),(some (84,false)),[86,84]⟩,
      ⟨(some 88),.er 4 (.t 12),(some (84,false)),[12,84]⟩,
      ⟨(some 89),.dS (.t 88),(some (84,false)),[88,84]⟩,
      ⟨(some 90),.len .slice (.t 89),(some (84,false)),[89,84]⟩,
      ⟨(some 91),.bin (.int .neq) (.t 87) (.t 90),(some (84,false)),[87,90,84]⟩,
      ⟨(some 92),.pick (.t 84) (.c (.bool true)) (.t 91),none,[84,91]⟩])
    (aX.cond (.t 92)
     (aX.seq (aX.ak [⟨(some 4),.cq (.c (.bool false)),none,[]⟩])
      (aX.ret))
     (aX.skip))))
   (aX.skip))
def O7:aX:=
 aX.seq (aX.ak [⟨(some 93),.hJ 5 (.t 12),none,[12]⟩,
  ⟨(some 94),.call 73 [(.t 93)],none,[93]⟩,
  ⟨(some 15),.new [(.int .i64 0),(.int .i64 0),(.str []),(.int .i64 0)],none,[]⟩,
  ⟨none,.st 4 (.t 15) (.t 94),none,[15,94]⟩])
  (aX.seq (aX.block 4 (aX.loop HY))
  (aX.seq (aX.ak [⟨(some 110),.er 4 (.t 12),none,[12]⟩,
    ⟨(some 111),.dS (.t 110),none,[110]⟩,
    ⟨(some 112),.len .slice (.t 111),none,[111]⟩,
    ⟨(some 113),.cq (.c (.int .i64 0)),none,[]⟩])
  (aX.block 6 (aX.loop HZ))))
theorem Zy:O3=(aX.seq (aX.ak [⟨(some 57),.bin (.int .lss) (.t 56) (.t 55),none,[56,55]⟩])
 (aX.seq (aX.cond (.t 57)
   (aX.skip)
   (aX.exit 2))
 (aX.seq (aX.block 3 (aX.seq (aX.ak [⟨(some 58),.bW 5 (.t 54) (.t 56),none,[54,56]⟩,
   ⟨(some 59),.hJ 5 (.t 58),none,[58]⟩,
   ⟨(some 12),.new [(.int .i64 0),(.int .i64 0),(.int .i64 0),(.str []),.bu],none,[]⟩,
   ⟨none,.st 5 (.t 12) (.t 59),none,[12,59]⟩])
   (aX.seq (aX.seq (aX.ak [⟨(some 60),.er 0 (.t 12),none,[12]⟩,
     ⟨(some 61),.dS (.t 60),none,[60]⟩,
     ⟨(some 62),.cq (.t 8),none,[8]⟩,
     ⟨(some 63),.bin (.int .neq) (.t 61) (.t 62),none,[61,62]⟩])
    (aX.cond (.t 63)
     (aX.seq (aX.ak [⟨(some 4),.cq (.c (.bool false)),none,[]⟩])
      (aX.ret))
     (aX.skip)))
   (aX.seq (O6)
   (O7)))))
 (aX.ak [⟨(some 133),.bin (.int .add) (.t 56) (.c (.int .i64 1)),none,[56]⟩,
   ⟨(some 56),.cq (.t 133),none,[133]⟩])))):=rfl
theorem Ui [Lay] {B:Nat} {G:aO->Prop} {h:ae} {l:List aM} {v:V} (H:dY B G h 5 (l.map aM.enc) v) {k:IntKind} {i:Nat} (ax:i<l.length):
 ∃b off ca,f' 5 v (.int k i)=some (.ptr b (off+i * 5))/\b6 G h l[i].enc (cd l[i] ca)/\bN G h 5 (l[i].l.map aM.enc) ca/\
  lX 5 (h.get b) (off+i * 5)=some (.agg (cd l[i] ca))/\fy (h.get b) (off+i * 5)=some (.int .i64 l[i].k)/\fy (h.get b) (off+i * 5+3)=some (.str l[i].s):=by
 obtain ⟨us,a,ah,au,aH⟩:=H.ex;have EF:i<us.length:=by rw [ah,apv];exact ax
 have hu:=apo EF;have av:=aH i (l[i].enc) us[i] (by rw [aqb,apo ax];rfl) hu;obtain ⟨ca,EV,L,_⟩:=aM.open (av.eQ fun b q=>q.1);rw [EV] at av;obtain ⟨b,off,f1,f2⟩:=a.v.bW (k:=k) (i:=i) (by rw [List.length_map];exact ax);have aB:=Ea us i _ au hu;have jP:=AP us au;have hle:i * 5+5<=us.length * 5:=by omega
 have mS:∀j,j<5->us.flatten[i * 5+j]? =us[i][j]? :=fun j bC=>by
  have:((us.flatten.drop (i * 5)).take 5)[j]? =us[i][j]? :=by rw [aB]
  rw [aqk bC,aqA] at this;exact this
 refine ⟨b,off,ca,f1,av.eQ fun b q=>q.1,L,?_,?_,?_⟩
 . have:=f2.hJ (i:=i * 5) (n:=5) (by omega);rw [this,aB,EV]
 . rw [f2.dS (i:=i * 5) (by omega)];have:=mS 0 (by omega);rw [aqH,EV,apo (by omega)] at this;simpa using this
 . rw [aqD,f2.dS (i:=i * 5+3) (by omega)];have:=mS 3 (by omega);rw [EV,apo (by omega)] at this;simpa using this
theorem qK.find [Lay] {cs:List bY} {h:ae} {dP:aO} (H:qK Any cs h dP) (s:List UInt8):∃(l_ k':List UInt8) (mc nQ:Int) (fc:V),k'=nA cs s/\fc.one=true/\fc.cells=[fc]/\(∀c,eD s cs=some c->k'=c.ty/\hK fc=some (.int .i64 c.arg.length))/\(∃n:Nat,hK fc=some (.int .i64 n))/\
 (∀g,Ext h g->g' jL.str.eq (.agg [.str [],.str [],.int .i64 0,.int .i64 0,.bu]) true g (.map dP) (.str s)=some (.tuple [.agg [.str l_,.str k',.int .i64 mc,.int .i64 nQ,fc],.bool (eD s cs).isSome]))/\
 (∀g,Ext h g->g' jL.str.eq (.agg [.str [],.str [],.int .i64 0,.int .i64 0,.bu]) false g (.map dP) (.str s)=some (.agg [.str l_,.str k',.int .i64 mc,.int .i64 nQ,fc])):=by
 obtain ⟨aR,aj,an⟩:=H.ex;have m:=an s
 have look:∀ok g,Ext h g->g' jL.str.eq (.agg [.str [],.str [],.int .i64 0,.int .i64 0,.bu]) ok g (.map dP) (.str s)=some (match kj s aR with
  | some a=>(bif ok then .tuple [a,.bool true] else a)
  | none=>(bif ok then .tuple [.agg ku,.bool false] else .agg ku)):=fun ok g e=>by
  show g' jN _ _ _ _ _=_;rw [(aj.ext e).look s (.agg ku) ok];cases kj s aR<;>rfl
 cases au:eD s cs with
 | none=>
   rw [au] at m;rw [show kj s aR=none from m] at look;exact ⟨[],[],0,0,.bu,by simp [nA,au],rfl,rfl,fun c q=>(by cases q),⟨0,rfl⟩,look true,look false⟩
 | some c=>
   rw [au] at m;obtain ⟨cU,f1,f2⟩:=m;rw [f1] at look;exact ⟨c.name,c.ty,c.tag,c.par,cU,by simp [nA,au],f2.one.1,f2.one.2.1,fun gL q=>(by cases q;exact ⟨rfl,f2.len⟩),⟨_,f2.len⟩,look true,look false⟩
abbrev z5:List V:=[.int .i64 0,.int .i64 0,.int .i64 0,.str [],.bu]
theorem VO (cs:List bY) (n:Nat) (wE:n<=1000000000) (l:List aM) (aW:cj l<=n)
 (bh:∀m,n=m+1->∀e',cj e'<=m->∀(k v:V) (h:ae),r9 cs h k->bN Any h 5 (e'.map aM.enc) v->eZ Tryz.prog 71 [k,v] h (.bool (d_ cs m e')) h)
 (k v:V) (h:ae) (qU:r9 cs h k) (G':bN Any h 5 (l.map aM.enc) v):eZ Tryz.prog 71 [k,v] h (.bool (d_ cs n l)) h:=by
 obtain ⟨hp,dP,mF,rfl,C4,Mv,_⟩:=qU.ex;have ar:=G'.len;have hle:=G'.le;rw [apv] at ar hle;have dj:=mI l;refine Zx.d rfl ?_;unfold O1;refine vT (fun r g=>r 0=.ptr (aC hp) 0/\r 1=v/\h=g) rfl (cr ?_) fun r g ⟨a1,a',e⟩=>?_
 . simp only [lI,↓ag,al,simprocAttr]
 subst e;refine vT (fun r g=>r 0=.ptr (aC hp) 0/\r 1=v/\r 5=.bu/\h=g) rfl (cr ?_) fun r g ⟨a1,a',bL,e⟩=>?_
 . simp only [a1,a',lI,↓ag,al,simprocAttr]
 subst e;refine vT (fun r g=>r 0=.ptr (aC hp) 0/\Ext h g/\∃fP,r 5=fP/\dY h.next (Old h) g 5 ((hQ l).map aM.enc) fP) rfl (cr ?_) fun r g ⟨a1,c',fP,bL,j8⟩=>?_
 . simp +contextual only [a1,a',bL,ar,↓ag,al,simprocAttr];refine eO (fun r g=>r 0=.ptr (aC hp) 0/\r 22=v/\r 23=.int .i64 l.length/\Ext h g/\∃(i:Nat) (fP:V),r 24=.int .i64 i/\i<=l.length/\r 5=fP/\dY h.next (Old h) g 5 ((hQ (l.take i)).map aM.enc) fP) (fun r g=>l.length - (r 24).toN) ?_ ?_
   . exact ⟨by simp only [a1,↓ag,bz,simprocAttr],by simp only [↓ag,bz,simprocAttr],by simp only [↓ag,bz,simprocAttr],Ext.refl h,0,_,by simp only [↓ag,bz,simprocAttr]<;>rfl,by omega,by simp only [bL,↓ag,bz,simprocAttr],dY.nil _ _ _ _⟩
   rintro r g ⟨a1,qy,FU,c',i,fP,FV,ax,bL,j8⟩;unfold O2;by_cases aL:i<l.length
   . have g0:((i:Int) < (l.length:Int))=True:=apD (by omega);obtain ⟨b,off,ca,bW,X,dK,ld,_,_,_⟩:=aM.ki G' (k:=.i64) aL;have d5:=ld g c';have ol:=dK.one;have db:=fW aL (by unfold top at hle;omega);obtain ⟨g1,aj,av,b9⟩:=hA g z5 (cd l[i] ca);simp +contextual only [a1,qy,FU,FV,bL,g0,bW,d5,ol.1,ol.2.1,aj,b9.g,↓ag,al,simprocAttr];refine bS (anh l[i] _ g1 ((X.ext c').ext av)) ?_;rintro x g2 ⟨rfl,aK⟩;have dz:=b9.ext aK;have Ac:=(j8.ext av).ext aK;have fi:=((c'.trans av).trans aK).next
     cases hw:r2 l[i] with
     | true=>
       simp +contextual only [a1,qy,FU,FV,bL,db,↓ag,al,simprocAttr];refine ⟨⟨(c'.trans av).trans aK,i+1,fP,rfl,aL,rfl,?_⟩,by omega⟩;rw [take_one aL,Gt,apB hw];exact Ac
     | false=>
       obtain ⟨L4,g3,bJ,a2,a3,a4,a5⟩:=Ac.add (ds:=l[i].enc) (cs:=cd l[i] ca) (((X.rK.ext c').ext av).ext aK |>.eQ fun b q=>⟨q,fun z=>by have:=j8.base z;unfold Old at q;omega⟩) (by omega) fi (by have U:(hQ (l.take i)).length<=(l.take i).length:=arl _ _;rw [apv,apU] at *;unfold top;omega) rfl;simp +contextual only [a1,qy,FU,FV,bL,ol.1,ol.2.1,dz.g,bJ,db,↓ag,al,simprocAttr];refine ⟨⟨((c'.trans av).trans aK).iq a3 fun b z=>j8.base z,i+1,L4,rfl,aL,rfl,?_⟩,by omega⟩;rw [take_one aL,Gt,apu (by rw [hw];simp),aqM];exact a2
   . have g0:((i:Int) < (l.length:Int))=False:=apx (by omega);rw [apZ (by omega)] at j8;simp +contextual only [a1,qy,FU,FV,bL,g0,lI,↓ag,al,simprocAttr];exact ⟨c',j8⟩
 have mo:=j8.len;rw [apv] at mo;have Fs:=c'.next
 have dM:hQ l=[]->d_ cs n l=true:=fun z=>by
  cases n with
  | zero=>rfl
  | succ n=>simp only [d_,z]
 refine vT (fun r c_=>r 0=.ptr (aC hp) 0/\r 5=fP/\g=c_/\hQ l≠[]) rfl (cr ?_) fun r c_ ⟨a1,bL,e,cT⟩=>?_
 . by_cases bm:hQ l=[]
   . have g0:((((hQ l).length:Nat):Int)=0)=True:=apD (by rw [bm];rfl);simp +contextual only [a1,bL,mo,g0,sq,↓ag,al,simprocAttr];exact ⟨c',by rw [dM bm]⟩
   . have g0:((((hQ l).length:Nat):Int)=0)=False:=apx (fun z=>bm (aqx (by omega)));simp +contextual only [a1,bL,mo,g0,lI,↓ag,al,simprocAttr];exact bm
 subst e;obtain ⟨p,s,kg⟩:∃p s,hQ l=p::s:=List.exists_cons_of_ne_nil cT;have cn:=LY l;obtain ⟨m,rfl⟩:∃m,n=m+1:=⟨n-1,by have ai:=oi p;rw [kg,cj] at cn;omega⟩;have afe:=bh m rfl;rw [kg] at j8 mo cn;have yH:d_ cs (m+1) l=((p::s).all (gB cs p)&&(p::s).all fun q=>(List.range q.l.length).all fun i=>d_ cs m (h8 (p::s) (eY q) i)):=by simp only [d_,kg]
 have aop:(p::s).length<=1000000000:=by have:=mI (p::s);omega
 refine vT (fun r c_=>r 0=.ptr (aC hp) 0/\r 5=fP/\r 8=.int .i64 p.k/\r 9=.str (nA cs p.s)/\g=c_) rfl (cr ?_) fun r c_ ⟨a1,bL,dk,dT,e⟩=>?_
 . obtain ⟨b,off,ca,bW,X,dK,ld,jg,pb⟩:=Ui j8 (k:=.i64) (i:=0) (by simp);obtain ⟨l_,k',mc,nQ,fc,t1,t2,t3,t4,t5,t6,t7⟩:=Mv.find p.s;have lZ:=t7 g c';simp only [arE,aqH,apX,List.getElem_cons_zero] at bW jg pb;have kP:f' 5 fP (.int .i64 0)=some (.ptr b off):=bW;simp +contextual only [a1,bL,kP,jg,pb,(C4.ext c').g,lZ,lI,↓ag,al,simprocAttr];rw [t1]
 subst e;obtain ⟨g1,aj,av,tK⟩:∃H,g.new (.mp [] 0)=H/\Ext g H/\hT kb H (aC g.next) []:=⟨_,rfl,(Ext.refl g).new _,hT.new _ g⟩;refine vT (fun r c_=>r 0=.ptr (aC hp) 0/\r 5=fP/\r 8=.int .i64 p.k/\r 9=.str (nA cs p.s)/\r 10=.map (aC g.next)/\g1=c_) rfl (cr ?_) fun r c_ ⟨a1,bL,dk,dT,e6,e⟩=>?_
 . simp +contextual only [a1,bL,dk,dT,aj,rG,s8,aU.opt,lI,↓ag,al,simprocAttr]
 subst e;have la:=c'.trans av;have W6:=j8.ext av;have cL:g1.next=g.next+1:=by rw [<-aj];rfl
 generalize cJ:g.next=il at *
 have lM:∀b,fP.aS b->h.next<=b0 b/\b0 b<il:=fun b z=>⟨j8.base z,by have:=j8.kX z;unfold Old at this;omega⟩
 have Q':∀e,e=(fun b=>b=aC il\/fP.aS b)->∀b,e b->Old g1 b:=fun e he b z=>by
  subst he;rcases z with z | z
  . subst z;exact h5 (by omega)
  . exact av.bG (j8.kX z)
 generalize iL:(fun b=>b=aC il\/fP.aS b)=gz at Q';have acP:=Q' gz rfl;have AW:∀b,Old h b->b0 b<h.next:=fun b z=>z
 have yr:h.next<=il:=Fs
 have tQ:hf h.next (Old h) gz g1 il [] []:=hf.nil (by rw [<-iL];exact .inl rfl) tK
 have kG:∀q ∈ p::s,gB cs p q=false->d_ cs (m+1) l=false:=fun q aq z=>by
  rw [yH];have:(p::s).all (gB cs p)=false:=by rw [aq6];exact ⟨q,aq,by rw [z];simp⟩
  rw [this,aqd]
 generalize EC:p::s=bl at *;refine vT (fun r c_=>r 0=.ptr (aC hp) 0/\r 10=.map (aC il)/\Ext h c_/\(∀q ∈ bl,gB cs p q=true)/\∃st aR,hf h.next (Old h) gz c_ il st aR/\qP bl st) rfl (cr ?_) fun r c_ ⟨a1,e6,mX,rl,st,aR,S,qO⟩=>?_
 . simp +contextual only [a1,bL,dk,dT,e6,mo,↓ag,al,simprocAttr];refine eO (fun r c_=>r 0=.ptr (aC hp) 0/\r 8=.int .i64 p.k/\r 9=.str (nA cs p.s)/\r 10=.map (aC il)/\r 54=fP/\r 55=.int .i64 bl.length/\Ext h c_/\g1.next<=c_.next/\dY h.next (Old h) c_ 5 (bl.map aM.enc) fP/\∃i:Nat,r 56=.int .i64 i/\i<=bl.length/\(∀q ∈ bl.take i,gB cs p q=true)/\∃st aR,hf h.next (Old h) gz c_ il st aR/\qP (bl.take i) st) (fun r g=>bl.length - (r 56).toN) ?_ ?_
   . exact ⟨by simp only [a1,↓ag,bz,simprocAttr],by simp only [dk,↓ag,bz,simprocAttr],by simp only [dT,↓ag,bz,simprocAttr],by simp only [e6,↓ag,bz,simprocAttr],by simp only [bL,↓ag,bz,simprocAttr],by simp only [↓ag,bz,simprocAttr],la,aps _,W6,0,by simp only [↓ag,bz,simprocAttr]<;>rfl,by omega,fun q aq=>by simp at aq,[],[],tQ,by simpa using qP.nil⟩
   rintro r c_ ⟨a1,dk,dT,e6,kp,kq,mX,rr,MT,i,kr,ax,rl,st,aR,S,qO⟩;rw [Zy];by_cases aL:i<bl.length
   . have g0:((i:Int) < (bl.length:Int))=True:=apD (by omega);obtain ⟨b,off,ca,bW,X,dK,ld,jg,pb⟩:=Ui MT (k:=.i64) aL;have ol:=dK.one;have db:=fW aL (by omega);have aq:bl[i] ∈ bl:=apV aL;obtain ⟨g2,an,aK,dz⟩:=hA c_ z5 (cd bl[i] ca);have fi:g2.next=c_.next+1:=by rw [<-an];rfl
     have aoO:=mX.next
     have EH:=C4.lt;by_cases aA:bl[i].k=p.k
     . have fU:(bl[i].k=p.k)=True:=apD aA;simp +contextual only [a1,dk,dT,e6,kp,kq,kr,g0,bW,ld,ol.1,ol.2.1,an,dz.g,fU,↓ag,al,simprocAttr];refine Mk (fun r g3=>r 0=.ptr (aC hp) 0/\r 8=.int .i64 p.k/\r 9=.str (nA cs p.s)/\r 10=.map (aC il)/\r 12=.ptr (aC c_.next) 0/\r 54=fP/\r 55=.int .i64 bl.length/\r 56=.int .i64 i/\Ext g2 g3/\gB cs p bl[i]=true) rfl (cr ?_) ?_
       . unfold O6;by_cases mg:p.k=16
         . have rf:(p.k=16)=True:=apD mg;obtain ⟨l_,k',mc,nQ,fc,t1,t2,t3,t4,⟨aoQ,t5⟩,t6,t7⟩:=Mv.find bl[i].s;have ar:=dK.len;rw [apv] at ar;have yT:=t6 g2 (mX.trans aK);obtain ⟨Ek,pk,dG,r4⟩:=fE g2 ku;have yU:=t6 Ek ((mX.trans aK).trans dG);have C6:=((C4.ext mX).ext aK).ext dG;have CI:=dz.ext dG;obtain ⟨g3,aJ,bF,r3⟩:=hA g2 ku [.str l_,.str k',.int .i64 mc,.int .i64 nQ,fc];rw [pk] at aJ;have C5:=(C4.ext mX).ext aK;have fa:=dz.ext bF;have bB:(g2.next=hp)=False:=apx (by omega);have eH:(hp=g2.next)=False:=apx (by omega);have nC:(g2.next=c_.next)=False:=apx (by omega);have tx:(c_.next=g2.next)=False:=apx (by omega);cases au:(eD bl[i].s cs) with
           | none=>
             rw [au] at yT yU;have ah:=kG bl[i] aq (by simp [gB,aA,mg,au]);simp +contextual only [a1,dk,dT,e6,kp,kq,kr,rf,yT,yU,t2,t3,t5,ar,C5.g,C6.g,dz.g,CI.g,fa.g,r4.g,r3.g,pk,aJ,bB,eH,nC,tx,tU,Option.isSome_none,sq,↓ag,al,simprocAttr];exact ⟨(mX.trans aK).trans bF,by rw [ah]⟩
           | some c=>
             rw [au] at yT yU;obtain ⟨rfl,L5⟩:=t4 c au;by_cases mw:c.ty=nA cs p.s
             . by_cases hk:(c.arg.length:Int)=(bl[i].l.length:Int)
               . have uo:gB cs p bl[i]=true:=by
                  have:c.arg.length=bl[i].l.length:=by omega
                  simp [gB,aA,au,mw,this]
                 simp +contextual only [a1,dk,dT,e6,kp,kq,kr,rf,yT,yU,t2,t3,L5,ar,apD mw,apD hk,C5.g,C6.g,dz.g,CI.g,fa.g,r4.g,r3.g,pk,aJ,bB,eH,nC,tx,tU,aq3,lI,↓ag,al,simprocAttr];exact ⟨bF,uo⟩
               . have ah:=kG bl[i] aq (by
                  have:¬c.arg.length=bl[i].l.length:=by omega
                  simp [gB,aA,mg,au,this])
                 simp +contextual only [a1,dk,dT,e6,kp,kq,kr,rf,yT,yU,t2,t3,L5,ar,apD mw,apx hk,C5.g,C6.g,dz.g,CI.g,fa.g,r4.g,r3.g,pk,aJ,bB,eH,nC,tx,tU,aq3,sq,↓ag,al,simprocAttr];exact ⟨(mX.trans aK).trans bF,by rw [ah]⟩
             . have ah:=kG bl[i] aq (by simp [gB,aA,mg,au,mw]);simp +contextual only [a1,dk,dT,e6,kp,kq,kr,rf,yT,yU,t2,t3,L5,ar,apx mw,C5.g,C6.g,dz.g,CI.g,fa.g,r4.g,r3.g,pk,aJ,bB,eH,nC,tx,tU,aq3,sq,↓ag,al,simprocAttr];exact ⟨(mX.trans aK).trans bF,by rw [ah]⟩
         . have rf:=apx mg;have uo:gB cs p bl[i]=true:=by simp [gB,aA,mg]
           simp +contextual only [a1,dk,dT,e6,kp,kq,kr,rf,lI,↓ag,al,simprocAttr];exact ⟨Ext.refl g2,uo⟩
       rintro r g3 ⟨a1,dk,dT,e6,nv,kp,kq,kr,bF,uo⟩;unfold O7;have fa:=dz.ext bF;simp +contextual only [nv,fa.g,↓ag,al,simprocAttr];refine bS (adr bl[i] _ g3 (((X.eQ fun _ _=>trivial).ext aK).ext bF)) ?_;rintro x g4 ⟨rfl,bZ⟩;have fJ:=fa.ext bZ;have xX:=(aK.trans bF).trans bZ;have n4:=(bF.trans bZ).next
       generalize Rz:eY bl[i]=aH;have ar:=dK.len;rw [apv] at ar;have aoq:aH.2.2.2=(bl[i].l.length:Int):=by rw [<-Rz];rfl
       have qD:=Rp aH;simp only [kb] at qD;have ES:bl[i].l.length<=1000000000:=by have U:=rM aq;have ab:=size_eq bl[i];have aI:=mI bl[i].l;omega
       obtain ⟨g5,cO,df,vi⟩:=hA g4 [.int .i64 0,.int .i64 0,.str [],.int .i64 0] [.int .i64 aH.1,.int .i64 aH.2.1,.str aH.2.2.1,.int .i64 aH.2.2.2];have Fm:g5.next=g4.next+1:=by rw [<-cO];rfl
       have z':Mod (fun b=>h.next<=b0 b) c_ g5:=(xX.trans df).mod _;generalize lh:(fun b=>gz b\/b=aC c_.next\/b=aC g4.next)=bM;have GK:bM (aC il):=by rw [<-lh];exact .inl S.em
       have Wv:bM (aC c_.next):=by rw [<-lh];exact .inr (.inl rfl)
       have Wu:bM (aC g4.next):=by rw [<-lh];exact .inr (.inr rfl)
       have Ww:∀b,fP.aS b->bM b:=fun b z=>by rw [<-lh,<-iL];exact .inl (.inr z)
       have MB:∀b,bM b->Old g5 b:=fun b z=>by
        rw [<-lh] at z;rcases z with z | rfl | rfl
        . have:=acP b z;unfold Old at this ⊢;omega
        . exact h5 (by omega)
        . exact h5 (by omega)
       have Xb:hf h.next (Old h) bM g5 il st aR:=(S.more (ay:=bM) (fun b z=>by
        rw [<-lh] at z;rcases z with z | rfl | rfl
        . exact .inl z
        . exact .inr (Fx (aps _))
        . exact .inr (Fx (by omega))) GK).ext (xX.trans df)
       have SJ:∀{G tG:ae},Mod (fun b=>h.next<=b0 b/\(¬bM b\/b=aC il)) G tG->dY h.next (Old h) G 5 (bl.map aM.enc) fP->dY h.next (Old h) tG 5 (bl.map aM.enc) fP:=fun m o=>o.mod m (fun b z w=>by
        rcases w.2 with w | w
        . exact w (Ww b z)
        . have:=(lM b z).2;rw [w,cV] at this;omega) fun b z _ _ w=>by have:=AW b z;omega
       have SI:∀{G tG:ae} {q5:List V},Mod (fun b=>h.next<=b0 b/\(¬bM b\/b=aC il)) G tG->Has G c_.next q5->Has tG c_.next q5:=fun m o=>o.mod m fun w=>by
        rcases w.2 with w | w
        . exact w Wv
        . have:=h7 w;omega
       have Kp:∀{G tG:ae} {q5:List V},Mod (fun b=>h.next<=b0 b/\(¬bM b\/b=aC il)) G tG->Has G g4.next q5->Has tG g4.next q5:=fun m o=>o.mod m fun w=>by
        rcases w.2 with w | w
        . exact w Wu
        . have:=h7 w;omega
       have JM:∀cl,dy aH st=some cl->cl.length=bl[i].l.length/\∀bn ∈ cl,bn.length<=1000000000:=fun cl ai=>by obtain ⟨a,_,c⟩:=qO.el aH cl ai;refine ⟨by omega,fun bn jz=>?_⟩;obtain ⟨j,bC,rfl⟩:=arC jz;rw [c j bC];have:=akA (bl.take i) aH j;rw [apU] at this;omega
       simp +contextual only [a1,dk,dT,e6,nv,kp,kq,kr,kb,cO,↓ag,al,simprocAttr]
       refine eO (fun r G=>r 0=.ptr (aC hp) 0/\r 8=.int .i64 p.k/\r 9=.str (nA cs p.s)/\r 10=.map (aC il)/\r 12=.ptr (aC c_.next) 0/\r 15=.ptr (aC g4.next) 0/\r 54=fP/\r 55=.int .i64 bl.length/\r 56=.int .i64 i/\
        Mod (fun b=>h.next<=b0 b) c_ G/\g5.next<=G.next/\dY h.next (Old h) G 5 (bl.map aM.enc) fP/\Has G c_.next (cd bl[i] ca)/\Has G g4.next [.int .i64 aH.1,.int .i64 aH.2.1,.str aH.2.2.1,.int .i64 aH.2.2.2]/\
        ∃jo Ko,hf h.next (Old h) bM G il jo Ko/\(∀x,iv aH x jo=iv aH x st)/\((∃cl,dy aH st=some cl/\jo=st)\/(dy aH st=none/\∃c,c<=bl[i].l.length/\(dy aH jo).getD []=List.replicate c []/\(c=0->jo=st)))) (fun r G=>bl[i].l.length-yQ il aH G) ?_ ?_
       . refine ⟨by simp only [a1,↓ag,bz,simprocAttr],by simp only [dk,↓ag,bz,simprocAttr],by simp only [dT,↓ag,bz,simprocAttr],by simp only [e6,↓ag,bz,simprocAttr],by simp only [nv,↓ag,bz,simprocAttr],by simp only [↓ag,bz,simprocAttr],by simp only [kp,↓ag,bz,simprocAttr],by simp only [kq,↓ag,bz,simprocAttr],by simp only [kr,↓ag,bz,simprocAttr],z',aps _,MT.ext (xX.trans df),fJ.ext df,vi,st,aR,Xb,fun x=>rfl,?_⟩;cases ai:dy aH st with
         | some cl=>exact .inl ⟨cl,rfl,rfl⟩
         | none=>exact .inr ⟨rfl,0,aqL _,rfl,fun _=>rfl⟩
       rintro r G ⟨a1,dk,dT,e6,nv,pn,kp,kq,kr,r_,KM,sc,tB,tH,jo,Ko,si,dt,rj⟩;unfold HY;have look:=si.look aH;obtain ⟨KA,aik,ail⟩:=si.len aH;have Sk:=si.yQ aH;simp only [kb] at look;by_cases RQ:((dy aH jo).getD []).length<bl[i].l.length
       . have g0:((((dy aH jo).getD []).length:Int) < (bl[i].l.length:Int))=True:=apD (by omega);rcases rj with ⟨cl,ai,rfl⟩ | ⟨ai,c,au,rj,p1⟩
         . exfalso;rw [ai,aqe] at RQ;have:=(JM cl ai).1;omega
         obtain ⟨nG,GL,bQ,oz,w',GM,bR,b7,eL,ic,jt,MY,z_⟩:=si.push (by omega) AW (fun b z=>by have:=MB b z;unfold Old at this ⊢;omega) yr aH (by unfold top;omega);simp only [kb] at eL;have anJ:=tB.ext b7;have zU:=tH.ext b7;simp +contextual only [a1,dk,dT,e6,nv,pn,kp,kq,kr,tB.g,tH.g,look,KA,ar,g0,bR,eL,ic,jt,qD,apt,↓r1,↓ag,al,simprocAttr];have hV:((dy aH jo).getD []).length=c:=by rw [rj,apw]
         have n6:=z_.next
         refine ⟨⟨r_.trans (z_.mono fun b _ z=>z.1),by omega,SJ z_ sc,SI z_ tB,Kp z_ tH,_,_,MY,fun x=>by rw [Lp,dt],.inr ⟨ai,c+1,by omega,?_,fun z=>by omega⟩⟩,?_⟩
         . rw [wR,apB rfl,aqe,rj,List.replicate_succ']
         . rw [MY.yQ,Sk,wR,apB rfl,aqe,apC,ark];omega
       . have g0:((((dy aH jo).getD []).length:Int) < (bl[i].l.length:Int))=False:=apx (by omega);obtain ⟨hV,Rm⟩:((dy aH jo).getD []).length=bl[i].l.length/\(dy aH jo).getD []=(dy aH st).getD (bl[i].l.map fun _=>[]):=by
          rcases rj with ⟨cl,ai,rfl⟩ | ⟨ai,c,au,rj,p1⟩
          . rw [ai,aqe,aqe];exact ⟨(JM cl ai).1,rfl⟩
          . rw [rj,apw] at RQ;rw [rj,apw,ai,Option.getD_none,List.map_const',show c=bl[i].l.length by omega];exact ⟨rfl,rfl⟩
         have aeN:bl[i].l.length=0->jo=st:=fun z=>by
          rcases rj with ⟨cl,ai,e⟩ | ⟨ai,c,au,rj,p1⟩
          . exact e
          . exact p1 (by omega)
         have adf:∀j (bC:j < ((dy aH jo).getD []).length),((dy aH jo).getD [])[j].length<=1000000000:=fun j bC=>by
          have hm:((dy aH jo).getD [])[j] ∈ (dy aH jo).getD []:=apV bC;generalize ((dy aH jo).getD [])[j]=bn at hm;rw [Rm] at hm;cases ai:dy aH st with
          | some cl=>rw [ai,aqe] at hm;exact (JM cl ai).2 bn hm
          | none=>
            rw [ai,Option.getD_none,List.mem_map] at hm;obtain ⟨_,_,rfl⟩:=hm;simp
         generalize adi:(dy aH jo).getD []=cur at *;simp +contextual only [a1,dk,dT,e6,nv,pn,kp,kq,kr,tB.g,tH.g,look,KA,ar,g0,qD,apt,↓r1,↓ag,al,simprocAttr];clear look KA aik ail Sk g0
         refine eO (fun r G=>r 0=.ptr (aC hp) 0/\r 8=.int .i64 p.k/\r 9=.str (nA cs p.s)/\r 10=.map (aC il)/\r 12=.ptr (aC c_.next) 0/\r 15=.ptr (aC g4.next) 0/\r 54=fP/\r 55=.int .i64 bl.length/\r 56=.int .i64 i/\r 111=ca/\r 112=.int .i64 bl[i].l.length/\
          Mod (fun b=>h.next<=b0 b) c_ G/\g5.next<=G.next/\dY h.next (Old h) G 5 (bl.map aM.enc) fP/\Has G c_.next (cd bl[i] ca)/\Has G g4.next [.int .i64 aH.1,.int .i64 aH.2.1,.str aH.2.2.1,.int .i64 aH.2.2.2]/\
          ∃(j:Nat) (ny:List (dD × List (List aM))) (BJ:List (dD × V)),r 113=.int .i64 j/\j<=bl[i].l.length/\hf h.next (Old h) bM G il ny BJ/\(dy aH ny).getD []=oa cur bl[i].l j/\(∀x,iv aH x ny=iv aH x st)/\(j=0->ny=jo)/\(0<j->ny=iv aH (oa cur bl[i].l j) st)) (fun r G=>bl[i].l.length - (r 113).toN) ?_ ?_
         . refine ⟨by simp only [a1,↓ag,bz,simprocAttr],by simp only [dk,↓ag,bz,simprocAttr],by simp only [dT,↓ag,bz,simprocAttr],by simp only [e6,↓ag,bz,simprocAttr],by simp only [nv,↓ag,bz,simprocAttr],by simp only [pn,↓ag,bz,simprocAttr],by simp only [kp,↓ag,bz,simprocAttr],by simp only [kq,↓ag,bz,simprocAttr],by simp only [kr,↓ag,bz,simprocAttr],by simp only [↓ag,bz,simprocAttr],by simp only [↓ag,bz,simprocAttr],r_,KM,sc,tB,tH,0,jo,Ko,by simp only [↓ag,bz,simprocAttr]<;>rfl,by omega,si,?_,dt,fun _=>rfl,fun z=>by omega⟩;rw [adi];simp [oa,qE]
         clear tB tH sc si r_ KM a1 dk dT e6 nv pn kp kq kr dt;rintro r G ⟨a1,dk,dT,e6,nv,pn,kp,kq,kr,UO,UP,r_,KM,sc,tB,tH,j,ny,BJ,UQ,bC,si,JG,dt,adU,EG⟩;unfold HZ;have JH:=Tz (j:=j) hV;by_cases iO:j<bl[i].l.length
         . have g0:((j:Int) < (bl[i].l.length:Int))=True:=apD (by omega);have Xq:bN (Old h) G 5 (bl[i].l.map aM.enc) ca:=dK.mod r_ (fun b z _=>⟨fun w=>by have:=AW b z;omega,z⟩);obtain ⟨bO,jE,wl,kP,Ho,Dh,aie,_,_,_⟩:=aM.ki Xq (k:=.i64) iO;have d5:=aie G (Ext.refl G);have T3:=Dh.one;have ang:=fW iO (by omega);obtain ⟨nG,MW,tF,xl⟩:=hA G z5 (cd bl[i].l[j] wl);have anS:nG.next=G.next+1:=by rw [<-MW];rfl
           generalize Ep:(fun b=>bM b\/b=aC G.next)=gl;have CQ:∀b,bM b->gl b:=fun b z=>by rw [<-Ep];exact .inl z
           have anN:gl (aC G.next):=by rw [<-Ep];exact .inr rfl
           have Wx:∀b,gl b->Old nG b:=fun b z=>by
            rw [<-Ep] at z;rcases z with z | rfl
            . have:=MB b z;unfold Old at this ⊢;omega
            . exact h5 (by omega)
           have vC:hf h.next (Old h) gl nG il ny BJ:=(si.more (ay:=gl) (fun b z=>by
            rw [<-Ep] at z;rcases z with z | rfl
            . exact .inl z
            . exact .inr (Fx (aps _))) (CQ _ GK)).ext tF
           have rh:∀(aq:j < ((dy aH ny).getD []).length),((dy aH ny).getD [])[j]=cur[j]'(by omega):=fun aq=>by simp only [JG];exact aiX hV iO
           have n5:j < ((dy aH ny).getD []).length:=by rw [JG,JH];exact iO
           obtain ⟨Le,Cj,w,GL,w',oz,GM,cg,ck,ek,ir,nt,akf,⟨akg,akh⟩,aki,akj,WX,nN,r'⟩:=vC.put (by omega) AW Wx yr aH (j:=j) n5 (x:=bl[i].l[j]) (cs:=cd bl[i].l[j] wl) (Ho.ext tF) rfl (by rw [rh n5];have:=adf j (by omega);unfold top;omega);have aeH:((dy aH ny).getD []).set j (((dy aH ny).getD [])[j]++[bl[i].l[j]])=oa cur bl[i].l (j+1):=by rw [rh n5,JG];exact aiY hV iO
           rw [aeH] at nN;have Tl:=vC.look aH;have Tm:=(vC.ext ir).look aH;have Tn:=akj aH;simp only [kb] at Tl Tm Tn;have m3:Mod (fun b=>h.next<=b0 b/\(¬bM b\/b=aC il)) nG oz:=WX.mono fun b _ z=>⟨z.1,.inl fun y=>z.2 (CQ b y)⟩;have m4:Mod (fun b=>h.next<=b0 b/\(¬bM b\/b=aC il)) nG GM:=r'.mono fun b _ z=>⟨z.1,.inl fun y=>z.2 (CQ b y)⟩;have zU:=tH.ext tF;have WH:=zU.ext ir;have WI:=Kp m3 zU;have jJ:=xl.ext ir;simp only [cd] at ek;simp +contextual only [a1,dk,dT,e6,nv,pn,kp,kq,kr,UO,UP,UQ,g0,kP,d5,T3.1,T3.2.1,MW,xl.g,jJ.g,zU.g,WH.g,WI.g,Tl,Tm,Tn,qD,apt,cg,ck,ek,nt,akf,akg,akh,aki,ang,XX,↓r1,↓ag,al,simprocAttr];have n4:=r'.next
           refine ⟨⟨(r_.trans (tF.mod _)).trans (r'.mono fun b _ z=>z.1),by omega,SJ m4 (sc.ext tF),SI m4 (tB.ext tF),Kp m4 zU,j+1,_,BJ,rfl,iO,nN.more (fun b z=>.inl (CQ b z)) GK,?_,fun x=>by rw [Lp,dt],fun z=>by omega,fun _=>dt _⟩,by omega⟩;rw [wR,apB rfl,aqe]
         . have g0:((j:Int) < (bl[i].l.length:Int))=False:=apx (by omega);have Ba:j=bl[i].l.length:=by omega
           have ac5:ny=Dj st bl[i]:=by
            unfold Dj;by_cases bm:bl[i].l=[]
            . rw [apB bm];have Sg:bl[i].l.length=0:=by rw [bm];rfl
              rw [adU (by omega),aeN Sg]
            . rw [apu bm,Rz,EG (by have:=List.length_pos_iff.2 bm;omega),Ba,aiW hV,Rm]
           have MH:=qO.add bl[i];rw [<-ac5,<-take_one aL] at MH;simp +contextual only [a1,dk,dT,e6,nv,pn,kp,kq,kr,UO,UP,UQ,g0,db,↓ag,al,simprocAttr];refine ⟨⟨mX.iq r_ fun b z=>z,by omega,sc,i+1,rfl,aL,fun q aq=>?_,ny,BJ,si.more (fun b z=>.inl (by rw [<-lh];exact .inl z)) S.em,MH⟩,by omega⟩;rw [take_one aL] at aq;rcases aqv.1 aq with aq | aq
           . exact rl q aq
           . rw [aqa] at aq;subst aq;exact uo
     . have fU:=apx aA;have ah:=kG bl[i] aq (by simp [gB,aA]);simp +contextual only [a1,dk,dT,e6,kp,kq,kr,g0,bW,ld,ol.1,ol.2.1,an,dz.g,fU,sq,↓ag,al,simprocAttr];exact ⟨mX.trans aK,by rw [ah]⟩
   . have g0:((i:Int) < (bl.length:Int))=False:=apx (by omega);rw [apZ (by omega)] at qO rl;simp +contextual only [a1,e6,kp,kq,kr,g0,lI,↓ag,al,simprocAttr];exact ⟨mX,rl,st,aR,S,qO⟩
 have dx:d_ cs (m+1) l=st.all fun x=>x.2.all (d_ cs m):=by rw [yH,qO.all,apP.2 rl,aqm]
 obtain ⟨X,W4,dn,WY⟩:=S.ex;obtain ⟨cY,bU,RK⟩:=WY.range;have ajj:=mX.next
 have Ir:Ext c_ (c_.new cY):=(Ext.refl c_).new cY;rw [aba];refine aa_ rfl (cr ?_);simp +contextual only [a1,e6,bU,lI,↓r1,↓ag,al,simprocAttr];rw [aa8];refine aa9 (fun r G=>r 0=.ptr (aC hp) 0/\r 135=.ptr (aC c_.next) 0/\Ext h G/\kz h.next (Old h) G X st aR/\∃mE,xI kb G (aC il) c_.next aR mE/\∀uX ∈ aR,uX ∈ mE\/∀cl,(uX.1,cl) ∈ st->cl.all (d_ cs m)=true) (fun r G=>LJ aR (aC il) c_.next G) ?_ ?_
 . exact ⟨by simp only [a1,↓ag,bz,simprocAttr],by simp only [↓ag,bz,simprocAttr],mX.trans Ir,W4.ext Ir,aR,RK,fun uX ai=>.inl ai⟩
 clear RK a1 e6 Ir bU;rintro r G ⟨a1,qx,vV,sc,mE,RK,Ro⟩;unfold O5;refine aa' ?_;rw [qx];refine RK.next (fun yq=>?_) fun uX aer nG yS adB MX aL aoA adj C9 wE=>?_
 . refine Ii rfl (cr ?_);simp +contextual only [a1,qx,lI,Ni,↓ag,al,simprocAttr];refine Ii rfl (cr ?_);simp +contextual only [a1,qx,↓ag,al,simprocAttr];refine ⟨vV,?_⟩;have:d_ cs (m+1) l=true:=by
    rw [dx,apP];rintro ⟨aH,cl⟩ ao;obtain ⟨w,hw,_⟩:=sc.mem.2 _ ao;rcases Ro _ hw with z | z
    . rw [yq] at z;cases z
    . exact z cl ao
   rw [this]
 . have hit:∀b,X b->¬b=aC c_.next:=fun b z w=>Fx (aps _) (w ▸ (dn b z).1)
   have MS:=sc.mod C9 hit (fun b z _ w=>by have:=AW b z;rw [w,cV] at this;omega);have Io:Ext h nG:=vV.iq C9 fun b z=>by rw [show b=aC c_.next from z,cV];exact ajj
   have Jt:uX ∈ aR:=by
    obtain ⟨es,clock,seen,_,_,_,_,e⟩:=RK.ex;have sub:∀(aR:List (dD × V)) (es:List cb),∀x ∈ gQ seen aR es,x ∈ aR:=by
     intro aR
     induction aR with
     | nil=>intro es x ao;cases es<;>simp [gQ] at ao
     | cons y aR bh=>
       intro es x ao;cases es with
       | nil=>simp [gQ] at ao
       | cons z es=>
         simp only [gQ] at ao
         split at ao
         . exact ap6 _ (bh es x ao)
         . rcases apI.1 ao with rfl | ao
           . exact aqo
           . exact ap6 _ (bh es x ao)
    exact sub aR es uX (e ▸ aer)
   obtain ⟨cl,iJ,cD,W5,_⟩:=MS.mem.1 uX Jt;obtain ⟨aH,w⟩:=uX;obtain ⟨ws,Y,s1,s2,jn,oo⟩:=W5.ex;have sM:=(BV qO.wV).1 cD;obtain ⟨dj,_,aeq⟩:=qO.el aH cl sM;have uy:=s1.v.len;have aoB:ws.length=cl.length:=oo.len;have cT:bl≠[]:=by rw [<-EC];simp
   have aes:∀j (bC:j<cl.length),cj cl[j]<=m:=fun j bC=>by rw [aeq j bC];have:=(akC (aH:=aH) (j:=j) bl cT).1;omega
   have aov:cl.length<=1000000000:=by obtain ⟨_,⟨q,aq,a7,_⟩,_⟩:=qO.el aH cl sM;have U:=rM aq;have ab:=size_eq q;have aI:=mI q.l;rw [<-a7] at dj;simp only [eY] at dj;omega
   have ae1:hK w=some (.int .i64 cl.length):=uy;have adC:t_ (.ptr (aC c_.next) 0) nG=.val (.tuple [kb aH,w]) nG:=adB;refine Ii rfl (cr ?_);simp +contextual only [a1,qx,adC,ae1,lI,Ni,↓r1,↓ag,al,simprocAttr];refine eO (fun r g=>r 0=.ptr (aC hp) 0/\r 135=.ptr (aC c_.next) 0/\r 140=w/\r 141=.int .i64 cl.length/\nG=g/\∃j:Nat,r 142=.int .i64 j/\j<=cl.length/\∀bn ∈ cl.take j,d_ cs m bn=true) (fun r g=>cl.length - (r 142).toN) ?_ ?_
   . exact ⟨by simp only [a1,↓ag,bz,simprocAttr],by simp only [qx,↓ag,bz,simprocAttr],by simp only [↓ag,bz,simprocAttr],by simp only [↓ag,bz,simprocAttr],rfl,0,by simp only [↓ag,bz,simprocAttr]<;>rfl,by omega,fun q aq=>by simp at aq⟩
   clear a1 qx;rintro r g ⟨a1,qx,FQ,FR,e,j,FT,bC,je⟩;subst e;unfold O4;by_cases iO:j<cl.length
   . have g0:((j:Int) < (cl.length:Int))=True:=apD (by omega);obtain ⟨b,off,bJ,a2,_⟩:=s1.v.kP (k:=.i64) iO;rw [aru] at bJ;have lr:=a2.dS (i:=j) (by omega);obtain ⟨zG,xK,t1,t2,t3,t4,_⟩:=oo.at iO;have EW:ws[j]'(by omega)=zG:=by
      have:=apo (l:=ws) (i:=j) (by omega);rw [t1] at this;exact (aqF this).symm
     rw [EW] at lr;have db:=fW iO (by omega);have RY:=aes j iO;have aou:=mI cl[j];simp +contextual only [a1,qx,FQ,FR,FT,g0,bJ,lr,↓ag,al,simprocAttr];refine bS (K:=fun x aa=>x=.bool (d_ cs m cl[j])/\nG=aa) ⟨_,_,afe cl[j] RY _ zG nG (qU.ext Io) (t2.d' (by rw [apv];unfold top;omega) (fun _ _=>trivial) fun _ _=>trivial),rfl,rfl⟩ ?_;rintro x g ⟨rfl,e⟩;subst e;cases ng:d_ cs m cl[j] with
     | true=>
       simp +contextual only [a1,qx,FQ,FR,FT,db,↓ag,al,simprocAttr];refine ⟨⟨j+1,rfl,iO,fun bn jz=>?_⟩,by omega⟩;rw [aqh iO] at jz;rcases aqv.1 jz with jz | jz
       . exact je bn jz
       . rw [aqa] at jz;subst jz;exact ng
     | false=>
       have ah:d_ cs (m+1) l=false:=by rw [dx,aq6];refine ⟨(aH,cl),cD,?_⟩;rw [ap1,aq6];exact ⟨cl[j],apV iO,by rw [ng];simp⟩
       simp +contextual only [a1,qx,FQ,FR,FT,sq,↓ag,al,simprocAttr];exact ⟨Io,by rw [ah]⟩
   . have g0:((j:Int) < (cl.length:Int))=False:=apx (by omega);rw [apZ (by omega)] at je;have afb:=U_ MX;have afa:=U_ RK;simp +contextual only [a1,qx,FQ,FR,FT,g0,lI,↓ag,al,simprocAttr];refine ⟨⟨Io,MS,yS,MX,fun Uv ai=>?_⟩,by rw [afb,afa];exact aL⟩;rcases Ro Uv ai with z | z
     . rcases adj Uv z with rfl | z
       . refine .inr fun rN hn=>?_;have av:=(BV qO.wV).1 hn;have aK:dy aH st=some rN:=av;rw [sM,apq] at aK;rw [<-aK,apP];exact je
       . exact .inl z
     . exact .inr z
theorem VM (cs:List bY):∀(n:Nat),n<=1000000000->∀(l:List aM),cj l<=n->∀(k v:V) (h:ae),r9 cs h k->bN Any h 5 (l.map aM.enc) v->eZ Tryz.prog 71 [k,v] h (.bool (d_ cs n l)) h
 | 0,aV,l,aW,k,v,h,qU,L=>VO cs 0 aV l aW (fun m e=>by omega) k v h qU L
 | n+1,aV,l,aW,k,v,h,qU,L=>VO cs (n+1) aV l aW (fun m e e' fx bp b1 aa WO WQ=>by
   obtain rfl:n=m:=by omega
   exact VM cs n (by omega) e' fx bp b1 aa WO WQ) k v h qU L
theorem amn (cs:List bY) (l:List aM) (aW:cj l<=1000000000) (k v:V) (h:ae) (qU:r9 cs h k) (L:bN Any h 5 (l.map aM.enc) v):cv Tryz.prog 71 [k,v] h fun x aa=>x=.bool (d_ cs (cj l) l)/\h=aa:=
 ⟨_,_,VM cs (cj l) aW l (aps _) k v h qU L,rfl,rfl⟩
theorem Qn {cs:List bY} {l:List aM} (U:h2 [] cs=true) (ab:∀p ∈ l,fj p=true):jO cs l=if d_ cs (cj l) l=true then 0 else 2:=by unfold jO;rw [U,apP.2 ab,aqm,aqm]
theorem D4 {cs:List bY} {l:List aM} {p:aM} (ai:p ∈ l) (h:fj p=false):jO cs l=2:=by
 unfold jO;have:l.all fj=false:=by rw [aq6];exact ⟨p,ai,by rw [h];simp⟩
 rw [this,aqG,aqd];simp
theorem x3 {cs:List bY} {l:List aM} (h:h2 [] cs=false):jO cs l=2:=by unfold jO;rw [h,aqd,aqd];simp
theorem akw (cs:List bY) (l:List aM) (aW:cj l+2<=1000000000) (cA v:V) (h:ae) (ja:bN Any h 5 (cs.map bY.enc) cA) (L:bN Any h 5 (l.map aM.enc) v):
 cv Tryz.prog 46 [cA,v] h fun x aa=>∃k,x=.tuple [k,.int .i64 (jO cs l)]/\Ext h aa/\(jO cs l=0->r9 cs aa k):=by
 have ar:=L.len;have hle:=L.le;rw [apv] at ar hle;refine Zj.z rfl (cr ?_);unfold OB;simp +contextual only [↓ag,al,simprocAttr];refine bS (aif cs cA h ja) ?_;rintro x U ⟨k,rfl,av,qU⟩;cases rq:h2 [] cs with
 | false=>
   simp +contextual only [↓ag,al,simprocAttr];exact ⟨_,by rw [x3 rq],av,fun z=>by rw [x3 rq] at z;cases z⟩
 | true=>
   have MP:=qU rq;simp +contextual only [ar,↓ag,al,simprocAttr];refine eO (fun r g=>r 1=v/\r 6=k/\r 17=v/\r 18=.int .i64 l.length/\Ext U g/\∃i:Nat,r 19=.int .i64 i/\i<=l.length/\∀p ∈ l.take i,fj p=true) (fun r g=>l.length - (r 19).toN) ?_ ?_
   . exact ⟨by simp only [↓ag,bz,simprocAttr],by simp only [↓ag,bz,simprocAttr],by simp only [↓ag,bz,simprocAttr],by simp only [↓ag,bz,simprocAttr],Ext.refl U,0,by simp only [↓ag,bz,simprocAttr]<;>rfl,by omega,fun q aq=>by simp at aq⟩
   rintro r g ⟨a',dI,rP,rQ,c',i,Lr,ax,je⟩;unfold OC;by_cases aL:i<l.length
   . have g0:((i:Int) < (l.length:Int))=True:=apD (by omega);obtain ⟨b,off,ca,bW,X,dK,ld,_,_,_⟩:=aM.ki L (k:=.i64) aL;have d5:=ld g (av.trans c');have ol:=dK.one;have db:=fW aL (by unfold top at hle;omega);obtain ⟨g1,aj,aK,b9⟩:=hA g z5 (cd l[i] ca);have ai:l[i] ∈ l:=apV aL;simp +contextual only [a',dI,rP,rQ,Lr,g0,bW,d5,ol.1,ol.2.1,aj,b9.g,↓ag,al,simprocAttr];refine bS (Lj l[i] (by have:=rM ai;omega) _ g1 (((X.ext av).ext c').ext aK)) ?_;rintro x g2 ⟨rfl,bF⟩;cases hm:fj l[i] with
     | false=>
       have ah:=D4 (cs:=cs) ai hm;simp +contextual only [a',dI,↓ag,al,simprocAttr];exact ⟨_,by rw [ah],((av.trans c').trans aK).trans bF,fun z=>by rw [ah] at z;cases z⟩
     | true=>
       simp +contextual only [a',dI,rP,rQ,Lr,db,↓ag,al,simprocAttr];refine ⟨⟨(c'.trans aK).trans bF,i+1,rfl,aL,fun q aq=>?_⟩,by omega⟩;rw [take_one aL] at aq;rcases aqv.1 aq with aq | aq
       . exact je q aq
       . rw [aqa] at aq;subst aq;exact hm
   . have g0:((i:Int) < (l.length:Int))=False:=apx (by omega);rw [apZ (by omega)] at je;simp +contextual only [a',dI,rP,rQ,Lr,g0,↓ag,al,simprocAttr];have la:=av.trans c';refine bS (amn cs l (by omega) k v g (MP.ext c') (L.ext la)) ?_;rintro x c_ ⟨rfl,e⟩;subst e;have he:=Qn rq je;cases ng:d_ cs (cj l) l with
     | true=>
       rw [ng] at he;simp +contextual only [dI,he,ap0,↓ag,al,simprocAttr];exact ⟨_,rfl,la,MP.ext c'⟩
     | false=>
       rw [ng] at he;simp +contextual only [dI,he,apG,ap2,↓ag,al,simprocAttr];exact ⟨_,rfl,la⟩
theorem aky (cs:List bY) (l:List aM) (aW:cj l+2<=1000000000) (cA v:V) (h:ae) (ja:bN Any h 5 (cs.map bY.enc) cA) (L:bN Any h 5 (l.map aM.enc) v):
 cv Tryz.prog 20 [cA,v] h fun x aa=>x=.int .i64 (jO cs l)/\Ext h aa:=by
 refine Y6.z rfl (cr ?_);unfold Oc;simp +contextual only [↓ag,al,simprocAttr];refine bS (akw cs l aW cA v h ja L) ?_;rintro x U ⟨k,rfl,av,_⟩;simp +contextual only [↓ag,al,simprocAttr];exact av
end
end Go.Proofs.YtgmhjhgoamjeeaaGreatDoor
