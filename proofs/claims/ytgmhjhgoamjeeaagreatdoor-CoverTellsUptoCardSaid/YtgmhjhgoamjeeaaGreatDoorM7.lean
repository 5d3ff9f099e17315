/- The abstract machine and its walks (a verified interpreter of the model's code: plain definitions and lemmas, no condition). Printed by a program from longer texts: names made short. -/
import Derived.Test.YtgmhjhgoamjeeaaGreatDoorM4
set_option linter.unusedSectionVars false
set_option linter.unusedSimpArgs false
set_option linter.unusedVariables false
set_option maxHeartbeats 64000000
noncomputable section
namespace Go.Proofs.YtgmhjhgoamjeeaaGreatDoor.a7
section
open Go Go.RowKit
variable [Lay]
section
variable {P:Program}
def DM (it:V) (h:ag) (K:V->ag->Prop):Prop:=
 ∃b since seen last c es clock,it=.ptr b 0/\h.get b=.hl (some c) since seen last/\h.get c=.mp es clock/\(∀m ∈ es,m.born<since)/\
  (!seen.isEmpty&&(!es.isEmpty&&rl last es))=false/\(leftOf seen es=[]->K (.tuple [.bool false]) h)/\
  ∀m ∈ leftOf seen es,K (.tuple [.bool true,m.k,m.v]) (h.set b (.hl (some c) since (m.born::seen) clock))
theorem Cp {seen:List Nat}:∀{es:List ca} {m:ca},m ∈ leftOf seen es->m ∈ es
 | [],m,h=>by simp [leftOf] at h
 | x::xs,m,h=>by
   simp only [leftOf] at h;cases ak:qo seen x.born<;>rw [ak] at h
   . simp only [aqe,aql] at h;rcases h with rfl | h
     . exact aqy
     . exact aqs _ (Cp h)
   . exact aqs _ (Cp h)
theorem dr.at {E:Env}:∀{ms:List ca} {l:List MapEntry},dr E ms l->∀{i:Nat} {e:MapEntry},l[i]? =some e->∃m,ms[i]? =some m/\Rel E m.k e.key/\Rel E m.v e.val/\e.born=m.born
 | [],l,h,i,e,he=>by simp only [dr] at h;subst h;simp at he
 | m::ms,l,h,i,e,he=>by
   obtain ⟨c7,es,rfl,aa,ae,aM,bw⟩:=h;cases i with
   | zero=>simp only [aqm,ap3] at he;subst he;exact ⟨m,rfl,aa,ae,aM⟩
   | succ i=>simp only [aq6] at he;obtain ⟨dd,al,au⟩:=dr.at bw he;exact ⟨dd,by simpa using al,au⟩
theorem dr.len {E:Env}:∀{ms:List ca} {l:List MapEntry},dr E ms l->l.length=ms.length
 | [],l,h=>by simp only [dr] at h;subst h;rfl
 | m::ms,l,h=>by obtain ⟨c7,es,rfl,aa,ae,aM,bw⟩:=h;simp [dr.len bw]
theorem ajQ {aC:Fr} {E:Env} {h:ag} {w:World} (s:bc aC E h w) {x:V} {X:Value} {ty:TypeId} (ao:Rel E x X) {K:V->ag->Prop} (H:DM x h K):
 ∃v ab,K v ab/\c_ aC P E w (Instr.next X false ty) v ab:=by
 obtain ⟨b,since,seen,last,c,es,clock,rfl,aL,BH,hold,av,adG,dM⟩:=H;have ak:=s.at (p:=_) (by simp only [Rel] at ao;exact ao.choose_spec.1);rw [aL] at ak;obtain ⟨p,m,a,ai,cJ,mm,a_,bp,jq⟩:=ak;simp only [Rel] at ao;obtain ⟨q,ar,rfl⟩:=ao;rw [ai] at ar;cases ar;have eV:(getObj p.a').run P w=.ok (.mapIter m since a last) w:=by simp only [getObj,Sem.run,a_]
 simp only [uh] at jq;obtain ⟨pR,m',rfl⟩:=jq;have qq:=s.at m';rw [BH] at qq;obtain ⟨q,iI,g1,_,g3,g4⟩:=qq;rw [m'] at g1;cases g1;have wL:(getObj pR.a').run P w=.ok (.map iI clock) w:=by simp only [getObj,Sem.run,g3]
 have ax:a.isEmpty=seen.isEmpty:=by
  have:a.toList.isEmpty=seen.reverse.isEmpty:=by rw [bp]
  simpa using this
 have aH:iI.isEmpty=es.isEmpty:=by
  cases es with
  | nil=>simp only [dr] at g4;have:iI=#[]:=ar2.1 g4
         simp [this]
  | cons y cy=>obtain ⟨e,l,aw,_⟩:=g4;have:iI.toList.isEmpty=false:=by rw [aw];rfl
               simpa using this
 have bA:iI.all (fun e=>decide (e.born>=last))=rl last es:=by rw [<-HT es _ g4,Array.all_toList]
 have BA:(!a.isEmpty&&!iI.isEmpty&&iI.all (fun e=>decide (e.born>=last)))=false:=by rw [ax,aH,bA,Bool.and_assoc];exact av
 have qx:=KX (E:=E) bp es _ g4;have BF:(iI.filter fun e=>!a.contains e.born).toList=iI.toList.filter fun e=>!a.contains e.born:=by simp
 rw [<-BF] at qx;generalize ji:(iI.filter fun e=>!a.contains e.born)=F at qx BF;have Se:∀e ∈ F.toList,e.born<since:=by intro e he;obtain ⟨i,aB⟩:=List.getElem?_of_mem he;obtain ⟨mD,al,_,_,bE⟩:=dr.at qx aB;rw [bE];exact hold _ (Cp (aqv al))
 have adC:F.filter (fun x=>decide (x.born<since))=F:=by apply ar2.1;rw [Array.toList_filter,List.filter_eq_self];intro e he;simpa using Se e he
 have adD:F.filter (fun x=>decide (x.born>=since))=#[]:=by apply ar2.1;rw [Array.toList_filter,List.filter_eq_nil_iff];intro e he;have:=Se e he;simp;omega
 by_cases bl:F=#[]
 . subst bl;have aw:leftOf seen es=[]:=by
    have:=qx.len;simp at this;exact arq this.symm
   refine ⟨_,h,adG aw,c_.plain (Z:=.tuple #[.bool false]) s ?_ ?_⟩
   . simp only [Instr.next,mm,Sem.run_bind,eV,Result.andThen_ok,wL,BA,aqd,aqD,ji,Sem.run_pure];simp [choose,Sem.run,Question.forced]
   . simp only [Rel,bj];exact ⟨_,rfl,_,_,rfl,rfl,rfl⟩
 . have cu:0<F.size:=by
    rcases Nat.eq_zero_or_pos F.size with e | e
    . exact absurd (Array.eq_empty_of_size_eq_zero e) bl
    . exact e
   have ael:F.isEmpty=false:=by simpa using bl
   obtain ⟨i,bT,lQ,aB,yV⟩:∃i bT,(choose (.mapNext F.size)).run P w=.ok i bT/\i<F.size/\bT.heap=w.heap/\bT.os=w.os/\bT.tape=w.tape/\bT.output=w.output:=by
    simp only [choose,Sem.run]
    split
    . exact ⟨0,w,rfl,cu,rfl,rfl,rfl,rfl⟩
    . exact ⟨_,_,rfl,Nat.mod_lt _ cu,rfl,rfl,rfl,rfl⟩
   obtain ⟨al,au,aJ,bE⟩:=yV;have s1:bc aC E h bT:=s.same al au aJ bE;have adE:F.toList[i]? =some F[i]:=by simp
   obtain ⟨mD,a8,b',bP,d_⟩:=dr.at qx adE;have h9:mD ∈ leftOf seen es:=aqv a8;refine ⟨_,_,dM mD h9,?_⟩
   let b_:Obj:=.mapIter (some pR.a') since (a.push F[i].born) clock
   let w':World:={bT with heap:=bT.heap.setIfInBounds p.a' b_}
   have rP:bT.heap[p.a']? =some (.mapIter (some pR.a') since a last):=by rw [al];exact a_
   have k7:=(ap5.1 rP).1;have qG:(setObj p.a' b_).run P bT=.ok () w':=by simp only [setObj,Sem.run,rP];rfl
   refine ⟨.tuple #[.bool true,F[i].key,F[i].val],w',E,?_,Env.le.refl E,?_,s1.set (p:=p) (by rw [aL];rfl) ai cJ (by simp [w']) (fun j bG=>?_) rfl rfl rfl (fun _ _ _ e=>by cases e) ?_⟩
   . simp only [Instr.next,mm,Sem.run_bind,eV,Result.andThen_ok,wL,BA,aqd,aqD,ji,Sem.run_pure];have B5:(F.map some).size=F.size:=by simp
     have aet:(F.map some)[i]? =some (some F[i]):=by simp [aB]
     simp only [adC,adD,ael,aqd,aqD,Array.append_empty,Array.empty_append,B5,lQ,Result.andThen_ok,aet];rw [Sem.run_bind,qG];rfl
   . simp only [Rel,bj];exact ⟨_,rfl,_,_,rfl,rfl,_,_,rfl,b',_,_,rfl,bP,rfl⟩
   . simp only [w',aqo];rw [aqa (fun e=>bG e.symm)]
   . exact ⟨p,some pR.a',a.push F[i].born,ai,cJ,mm,by simp [w',k7,b_],by simp [bp,d_],pR,m',rfl⟩
end
def br.sS (P:Program) (o:br) (r:bg) (h:ag) (K:bg->ag->Prop):Prop:=
 match o.Bo,o.g with
 | none,.nq x=>DM (x.aT (r.trim o.rs)) h fun v ab=>K (r.set o.dst v) ab
 | _,_=>o.wp P r h fun bb _ ab=>K bb ab
def ym (P:Program):List br->bg->ag->(bg->ag->Prop)->Prop
 | [],r,h,K=>K r h
 | o::os,r,h,K=>o.sS P r h fun bb ab=>ym P os bb ab K
def gg (P:Program):aR->bg->ag->(cV->bg->ag->Prop)->Prop
 | .aj ops,r,h,Q=>ym P ops r h (Q .normal)
 | .seq a b,r,h,Q=>gg P a r h fun e bb ab=>e.andThen (gg P b bb ab Q) (Q e bb ab)
 | .cond c a b,r,h,Q=>match c.aT r with
   | .bool t=>(t=true->gg P a r h Q)/\(t=false->gg P b r h Q)
   | _=>False
 | .block id b,r,h,Q=>gg P b r h fun e bb ab=>Q (e.leave id) bb ab
 | .loop b,r,h,Q=>∃(I:bg->ag->Prop) (μ:bg->ag->Nat),I r h/\∀r h,I r h->gg P b r h fun e bb ab=>e.andThen (I bb ab/\μ bb ab<μ r h) (Q e bb ab)
 | rc,r,h,Q=>ft P rc r h Q
def o7 (P:Program) (ay:Nat) (c:Code) (r:bg) (h:ag) (Q:cV->bg->ag->Prop):Prop:=
 ∀(rd:Option Nat) (aC:Fr) E a w,(rd=none\/noMark c=true)->h0 E ay r a->bc aC E h w->∀dk:Exit->Act->World->Prop,
  (∀e bb ab az bn w',Q e bb ab->Out ay bb->bb eO=r eO->E.le az->h0 az ay bb bn->bc aC az ab w'->dk (toExit e) bn w')->De rd P c dk a w
section
variable {P:Program} {ay:Nat}
theorem o7.of_wp (fz:ay<=top) (c':P.follows .mixedOrders=true) (bI:et P) {c:Code} {r:bg} {h:ag} {Q:cV->bg->ag->Prop} (du:(eI P ay c).plain=true) (aY:Out ay r) (H:ft P (eI P ay c) r h Q):o7 P ay c r h Q:=by obtain ⟨e,bb,ab,al,au,aJ⟩:=W1 fz c' bI c r h Q aY H;exact fun rd aC E a w aD k s dk cD=>aJ rd aC E a w aD k s dk fun az bn w' b7 z2 z3=>cD e bb ab az bn w' al au.1 (au.2 du) b7 z2 z3
theorem alU {op:Op} {x:aX} (h:vk P op=.nq x):∃it,op=.next it false/\rx it=x:=by
 cases op
 case next it st=>
  cases st
  . simp only [vk,aqe,G.nq.injEq] at h;exact ⟨it,rfl,h⟩
  . simp only [vk,ap8] at h;cases h
 all_goals exfalso
 all_goals simp only [vk] at h
 all_goals first
  | (cases h;done)
  | skip
 all_goals (try unfold L3 at h)
 all_goals (try unfold L7 at h)
 all_goals (try unfold GK at h)
 all_goals (repeat' (split at h))
 all_goals first
  | (cases h;done)
  | (simp only [cond] at h;(repeat' (split at h))<;>first | (cases h;done) | contradiction)
  | (cases h;contradiction)
  | (simp_all;done)
theorem alW {all:Array Oper} {o:Oper} {d:Option Nat} {x:aX} {rs:List Nat} (h:qY P ay all o=⟨d,.nq x,none,rs⟩):
 ∃it,o.op=.next it false/\rx it=x/\o.guard=none/\o.dst=d/\b3 all o=rs/\e0 ay o.dst=true/\jv (b3 all o)=true:=by
 have key:sc P ay all o=⟨d,.nq x,none,rs⟩:=by
  rcases VQ P ay all o with e | ⟨op,t,y,z,u,neg,ax,aH,bA,b5,cW,e7⟩
  . rw [<-e];exact h
  . rw [e7] at h;cases h
 unfold sc at key;cases av:(e0 ay o.dst&&jv (b3 all o)) with
 | false=>rw [av] at key;cases key
 | true=>
   rw [av] at key;simp only [ap8] at key;simp only [ap2] at av;cases aL:o.guard with
   | none=>
     rw [aL] at key;simp only [br.mk.injEq] at key;obtain ⟨cd,cn,_,gw⟩:=key;obtain ⟨it,al,au⟩:=alU cn;exact ⟨it,al,au,rfl,cd,gw,av.1,av.2⟩
   | some oK=>
     obtain ⟨j,want⟩:=oK;rw [aL] at key;simp only at key;exfalso;cases bG:all[j]? <;>rw [bG] at key<;>simp only at key
     . cases key
     . rename_i g;cases aq:g.dst<;>rw [aq] at key<;>simp only at key
       . cases key
       . simp only [cond] at key
         split at key
         . simp only [br.mk.injEq] at key;exact absurd key.2.2.1 (by simp)
         . cases key
theorem br.ab1 (bI:et P) {all:Array Oper} {o:Oper} {i:Nat} (aB:all[i]? =some o) {r:bg} {h:ag} {K:bg->ag->Prop} (aY:Out ay r) (H:(qY P ay all o).sS P r h K):
 ∀(rd:Option Nat) (aC:Fr) E a w,h0 E ay r a->bc aC E h w->∀(Q:Exit->Act->World->Prop) (C:Act->World->Prop),
  (∀bb ab az bn w',K bb ab->Out ay bb->bb eO=r eO->E.le az->h0 az ay bb bn->bc aC az ab w'->C bn w')->wpOpIn (cc rd) 0 P all Q i C a w:=by
 intro rd aC E a w k s Q C yJ;unfold br.sS at H
 split at H
 . rename_i x jk aL;have a_:qY P ay all o=⟨(qY P ay all o).dst,.nq x,none,(qY P ay all o).rs⟩:=by
    generalize qY P ay all o=z at jk aL;obtain ⟨b7,z2,z3,z4⟩:=z;simp only at jk aL;subst jk aL;rfl
   obtain ⟨it,ax,aH,bA,b5,cW,e7,hM⟩:=alW a_;rw [<-b5,<-cW,<-aH] at H;obtain ⟨cS,dN⟩:=yA aY
   have nX:RegRel0 E ay (dq cS (b3 all o)) a:=⟨k.size,fun t aK=>by
    rw [G8 hM aK];by_cases hm:t ∈ b3 all o
    . rw [aqf hm];have:=congrFun dN t;simp only [eg] at this;rw [this];exact k.aj t (r6 aK)
    . rw [aqa hm];simp [Rel]⟩
   have ex:(bX it).run (dq cS (b3 all o))=(rx it).aT (r.trim (b3 all o)):=by rw [e1,Am,dN]
   rw [<-ex] at H;have hex:=ajQ (P:=P) (ty:=o.type) s (dD nX it) H;clear a_ aL jk H ex nX b5 cW hM;obtain ⟨dst,akG,type,pos,after,guard⟩:=o;obtain ⟨v,ab,dM,e8⟩:=hex;simp only at ax bA e7 dM e8;subst ax bA;simp only [wpOpIn,aB,Region.wanted,aqB];refine gC rfl e8 fun az cQ w' al au aJ=>?_;exact yJ _ _ az _ w' dM (aY.set e7 v) (C6 e7 v) al (k.put al e7 au) aJ
 . obtain ⟨v,aa,aq,H1,cU⟩:=br.WZ bI aB aY H;exact cU rd aC E a w k s Q C fun az x w' cq cx eE=>yJ _ _ az _ w' H1 (aY.set aq v) (C6 aq v) cq (k.put cq aq cx) eE
theorem Q0 (bI:et P) {all:Array Oper}:∀(l:List Oper) (i:Nat),(∀j,l[j]? =all[i+j]?)->∀(r:bg) (h:ag) (K:bg->ag->Prop),Out ay r->ym P (zW P ay all l) r h K->
 ∀(rd:Option Nat) (aC:Fr) E a w,h0 E ay r a->bc aC E h w->∀Q:Exit->Act->World->Prop,
  (∀bb ab az bn w',K bb ab->Out ay bb->bb eO=r eO->E.le az->h0 az ay bb bn->bc aC az ab w'->Q .normal bn w')->wpOpsIn (cc rd) 0 P all Q (List.range' i l.length) a w
 | [],i,_,r,h,K,aY,H=>by intro rd aC E a w k s Q cD;simp only [aqN,List.range'_zero,wpOpsIn];exact cD r h E a w H aY rfl (Env.le.refl E) k s
 | o::os,i,aw,r,h,K,aY,H=>by
   intro rd aC E a w k s Q cD;have aB:all[i]? =some o:=by have:=aw 0;simpa using this.symm
   simp only [zW,ym] at H;rw [aqb,List.range'_succ,wpOpsIn_cons];refine br.ab1 bI aB aY H rd aC E a w k s _ _ fun bb ab az bn w' al au aJ bE c1 eh=>?_
   exact Q0 bI os (i+1) (fun j=>by
    have:=aw (j+1);simp only [aq6] at this;rw [this];congr 1
    omega) bb ab K au al rd aC az bn w' c1 eh Q fun b' ae bO a2 bN b7 z2 z3 z4 z5 kR=>cD b' ae bO a2 bN b7 z2 (z3.trans aJ) (bE.trans z4) z5 kR
theorem abV (fz:ay<=top) (c':P.follows .mixedOrders=true) (bI:et P):∀(c:Code) (r:bg) (h:ag) (Q:cV->bg->ag->Prop),(eI P ay c).plain=true->Out ay r->gg P (eI P ay c) r h Q->o7 P ay c r h Q:=by
 intro c
 induction c with
 | region id ops draw=>
   intro r h Q du aY H;cases draw with
   | true=>
     refine o7.of_wp fz c' bI du aY ?_;simp only [eI,ap8,GL] at H ⊢;cases ak:(l6 ops.size (u' P ops) (zP (u' P ops) 0 ops.toList)&&wg P ops (zP (u' P ops) 0 ops.toList))<;>rw [ak] at H<;>exact H
   | false=>
     simp only [eI,aqe,gg] at H;intro rd aC E a w aD k s dk cD;refine wpIn_region ?_;have:=Q0 bI ops.toList 0 (fun j=>by simp) r h _ aY H rd aC E a w k s dk fun bb ab az bn w' b7 z2 z3 z4 z5 kR=>cD .normal bb ab az bn w' b7 z2 z3 z4 z5 kR;rw [List.range_eq_range'];simpa using this
 | seq x y qK qL=>
   intro r h Q du aY H;simp only [eI,gg] at H;simp only [eI,aR.plain,ap2] at du;intro rd aC E a w aD k s dk cD;refine wpIn_seq (qK r h _ du.1 aY H rd aC E a w (aD.imp (fun h=>h) fun h=>by simp only [noMark,ap2] at h;exact h.1) k s _ fun e bb ab az bn w' b7 z2 z3 z4 z5 kR=>?_).wp;cases e with
   | normal=>
     exact (qL bb ab Q du.2 z2 b7 rd aC az bn w' (aD.imp (fun h=>h) fun h=>by simp only [noMark,ap2] at h;exact h.2) z5 kR dk fun aH b' ae bO a2 bN dU gn y3 y4 MW y6=>cD aH b' ae bO a2 bN dU gn (y3.trans z3) (z4.trans y4) MW y6).wp
   | exit i=>exact cD _ bb ab az bn w' b7 z2 z3 z4 z5 kR
   | ret=>exact cD _ bb ab az bn w' b7 z2 z3 z4 z5 kR
 | cond c x y qK qL=>
   intro r h Q du aY H;simp only [eI,gg] at H;simp only [eI,aR.plain,ap2] at du;cases bz:(rx c).aT r<;>rw [bz] at H<;>simp only at H<;>try (exact H.elim)
   rename_i t;have av:∀E a,h0 E ay r a->a.eval c=.bool t:=by
    intro E a k;cases c with
    | tmp d=>
      simp only [rx] at bz;cases ak:Nat.ble d top with
      | false=>rw [ak] at bz;simp [aX.aT] at bz
      | true=>
        rw [ak] at bz;simp only [ap8,aX.aT] at bz;have:=k.aj d (r6 (aqQ ak));rw [bz] at this;simp only [Rel] at this;exact this
    | const v=>
      simp only [rx,aX.aT] at bz;have:=ts E v;rw [bz] at this;simp only [Rel] at this;exact this
    | func f=>
      simp only [rx] at bz;cases ak:Nat.beq f dy<;>rw [ak] at bz<;>simp [aX.aT] at bz
    | global g=>simp [rx,aX.aT] at bz
   intro rd aC E a w aD k s dk cD;cases t with
   | true=>exact wpIn_cond_true (av E a k) (qK r h Q du.1 aY (H.1 rfl) rd aC E a w (aD.imp (fun h=>h) fun h=>by simp only [noMark,ap2] at h;exact h.1) k s dk cD).wp
   | false=>exact wpIn_cond_false (av E a k) (qL r h Q du.2 aY (H.2 rfl) rd aC E a w (aD.imp (fun h=>h) fun h=>by simp only [noMark,ap2] at h;exact h.2) k s dk cD).wp
 | block id x bd=>
   intro r h Q du aY H;simp only [eI,gg] at H;simp only [eI,aR.plain] at du;intro rd aC E a w aD k s dk cD;refine wpIn_block (bd r h _ du aY H rd aC E a w (aD.imp (fun h=>h) fun h=>h) k s _ fun e bb ab az bn w' b7 z2 z3 z4 z5 kR=>?_).wp;have:=cD _ bb ab az bn w' b7 z2 z3 z4 z5 kR;cases e with
   | normal=>exact this
   | ret=>exact this
   | exit i=>
     simp only [toExit,Exit.inBlock];simp only [cV.leave] at this;by_cases aB:i=id
     . rw [aqf aB] at this ⊢;exact this
     . rw [aqa aB] at this ⊢;exact this
 | loop x bd=>
   intro r h Q du aY H;simp only [eI,gg] at H;simp only [eI,aR.plain] at du;obtain ⟨I,μ,oD,Kk⟩:=H;have key:∀n r h,μ r h=n->I r h->Out ay r->o7 P ay (.loop x) r h Q:=by
    intro n
    induction n using Nat.strongRecOn with
    | _ n KB=>
      intro r h aW oD aY rd aC E a w aD k s dk cD b cN cs kD;have:=(bd r h _ du aY (Kk r h oD) rd aC E a w (aD.imp (fun h=>h) fun h=>h) k s (fun c7 bn w'=>∃e a8 aa az,c7=toExit e/\e.andThen (I a8 aa/\μ a8 aa<μ r h) (Q e a8 aa)/\Out ay a8/\a8 eO=r eO/\E.le az/\h0 az ay a8 bn/\bc aC az aa w') (fun e a8 aa az bn w' b7 z2 z3 z4 z5 kR=>⟨e,a8,aa,az,rfl,b7,z2,z3,z4,z5,kR⟩)).wp b (.inLoop x::cN) cs kD trivial (GN _);obtain ⟨aH,a2,bN,⟨e,a8,aa,bO,rfl,b7,z2,z3,z4,z5,kR⟩,iS⟩:=this;cases e with
      | normal=>
        obtain ⟨Jh,aN⟩:=b7;obtain ⟨bA,a3,ly,dU,gn⟩:=KB (μ a8 aa) (aW ▸ aN) a8 aa rfl Jh z2 rd aC bO a2 bN aD z5 kR dk (fun b5 d_ bw mL a4 ic t1 t2 t3 t4 t5 t6=>cD b5 d_ bw mL a4 ic t1 t2 (t3.trans z3) (z4.trans t4) t5 t6) b cN cs kD;exact ⟨bA,a3,ly,dU,.of_steps (StepsIn.trans iS (.one (qk _) stepR_inLoop)) gn⟩
      | exit i=>exact ⟨.exit i,a2,bN,cD (.exit i) a8 aa bO a2 bN b7 z2 z3 z4 z5 kR,.pass (x:=.inLoop x) rfl (fun _ _=>.inl (by simp)) iS⟩
      | ret=>exact ⟨.ret,a2,bN,cD .ret a8 aa bO a2 bN b7 z2 z3 z4 z5 kR,.pass (x:=.inLoop x) rfl (fun _ _=>.inl (by simp)) iS⟩
   exact key _ r h rfl oD aY
 | scope x bd=>
   intro r h Q du aY H rd aC E a w aD k s dk cD;refine Mg (bd r h Q du aY H rd aC E a w (aD.imp (fun h=>h) fun h=>h) k s _ fun e bb ab az bn w' b7 z2 z3 z4 z5 kR=>?_).wp;have:=cD e bb ab az bn w' b7 z2 z3 z4 z5 kR;cases e<;>exact this
 | skip=>exact fun r h Q du aY H=>o7.of_wp fz c' bI du aY H
 | label l=>exact fun r h Q du aY H=>o7.of_wp fz c' bI du aY H
 | exit id=>exact fun r h Q du aY H=>o7.of_wp fz c' bI du aY H
 | ret=>exact fun r h Q du aY H=>o7.of_wp fz c' bI du aY H
 | rangeFunc f bo x y _ _=>
   intro r h Q du aY H;refine o7.of_wp fz c' bI du aY ?_;simp only [eI] at H ⊢;cases ak:(tz ay bo.toList&&(noMark x&&noMark y))<;>rw [ak] at H<;>exact H
 | goto l=>exact fun r h Q du aY H=>o7.of_wp fz c' bI du aY H
 | refuse WX=>exact fun r h Q du aY H=>o7.of_wp fz c' bI du aY H
end
end
section
open Go Go.RowKit
variable [Lay]
mutual
theorem Rel.back {E az:Env} (h:E.le az):∀(v:V) (aZ x:Value),Rel E v aZ->Rel az v x->Rel E v x
 | .bad,_,_,_,_=>by simp [Rel]
 | .bool b,_,_,_,aD=>by simpa [Rel] using aD
 | .int k n,_,_,_,aD=>by simpa [Rel] using aD
 | .str s,_,_,_,aD=>by simpa [Rel] using aD
 | .kI,_,_,_,aD=>by simpa [Rel] using aD
 | .ptr b off,aZ,x,a1,aD=>by simp only [Rel] at a1 aD ⊢;obtain ⟨p,ai,_⟩:=a1;obtain ⟨q,ar,ao⟩:=aD;rw [h _ _ ai] at ar;cases ar;exact ⟨p,ai,ao⟩
 | .slice b off len cap,aZ,x,a1,aD=>by simp only [Rel] at a1 aD ⊢;obtain ⟨p,ai,_⟩:=a1;obtain ⟨q,ar,ao⟩:=aD;rw [h _ _ ai] at ar;cases ar;exact ⟨p,ai,ao⟩
 | .ee b off len idx,aZ,x,a1,aD=>by simp only [Rel] at a1 aD ⊢;obtain ⟨p,ai,_⟩:=a1;obtain ⟨q,ar,ao⟩:=aD;rw [h _ _ ai] at ar;cases ar;exact ⟨p,ai,ao⟩
 | .gB b off kJ idx,_,_,_,aD=>by simpa [Rel] using aD
 | .bL,_,_,_,aD=>by simpa [Rel] using aD
 | .kj,_,_,_,aD=>by simpa [Rel] using aD
 | .map b,aZ,x,a1,aD=>by simp only [Rel] at a1 aD ⊢;obtain ⟨p,ai,_⟩:=a1;obtain ⟨q,ar,ao⟩:=aD;rw [h _ _ ai] at ar;cases ar;exact ⟨p,ai,ao⟩
 | .func f cs,aZ,x,a1,aD=>by
   simp only [Rel] at a1 aD ⊢;rcases aD with ⟨aF,a,ao,aw⟩ | ⟨aF,b,q,av,ar,ao⟩
   . rcases a1 with ⟨_,a0,_,ke⟩ | ⟨JD,_⟩
     . exact .inl ⟨aF,a,ao,bj.back h cs _ _ ke aw⟩
     . exact absurd JD aF
   . rcases a1 with ⟨JD,_⟩ | ⟨_,jC,p,qt,ai,_⟩
     . exact absurd aF JD
     . rw [av] at qt;simp only [arS,V.ptr.injEq,ast] at qt;rw [<-qt] at ai;have e:q=p:=ars (ar.symm.trans (h _ _ ai));rw [e] at ao;exact .inr ⟨aF,b,p,av,ai,ao⟩
 | .np,_,_,_,aD=>by simpa [Rel] using aD
 | .mC f cs,aZ,x,a1,aD=>by simp only [Rel] at a1 aD ⊢;obtain ⟨aF,a,ao,aw⟩:=aD;obtain ⟨_,a0,_,ke⟩:=a1;exact ⟨aF,a,ao,bj.back h cs _ _ ke aw⟩
 | .iface t v,aZ,x,a1,aD=>by simp only [Rel] at a1 aD ⊢;obtain ⟨y,ao,aw⟩:=aD;obtain ⟨aof,_,ke⟩:=a1;exact ⟨y,ao,Rel.back h v _ _ ke aw⟩
 | .nilIface,_,_,_,aD=>by simpa [Rel] using aD
 | .agg cs,aZ,x,a1,aD=>by simp only [Rel] at a1 aD ⊢;obtain ⟨a,ao,aw⟩:=aD;obtain ⟨a0,_,ke⟩:=a1;exact ⟨a,ao,bj.back h cs _ _ ke aw⟩
 | .tuple cs,aZ,x,a1,aD=>by simp only [Rel] at a1 aD ⊢;obtain ⟨a,ao,aw⟩:=aD;obtain ⟨a0,_,ke⟩:=a1;exact ⟨a,ao,bj.back h cs _ _ ke aw⟩
theorem bj.back {E az:Env} (h:E.le az):∀(ah:List V) (lY l:List Value),bj E ah lY->bj az ah l->bj E ah l
 | [],_,_,_,aD=>by simpa [bj] using aD
 | v::ah,lY,l,a1,aD=>by simp only [bj] at a1 aD ⊢;obtain ⟨y,cy,rfl,aa,ae⟩:=aD;obtain ⟨aof,ap1,rfl,g1,g2⟩:=a1;exact ⟨y,cy,rfl,Rel.back h v _ _ g1 aa,bj.back h ah _ _ g2 ae⟩
end
theorem dr.back {E az:Env} (h:E.le az):∀(ms:List ca) (lY l:List MapEntry),dr E ms lY->dr az ms l->dr E ms l
 | [],_,_,_,aD=>aD
 | m::ms,lY,l,a1,aD=>by obtain ⟨e,es,rfl,aa,ae,aM,bw⟩:=aD;obtain ⟨cA,IU,rfl,g1,g2,g3,g4⟩:=a1;exact ⟨e,es,rfl,Rel.back h _ _ _ g1 aa,Rel.back h _ _ _ g2 ae,aM,dr.back h ms _ _ g4 bw⟩
theorem jf.back {E az:Env} (h:E.le az):∀(ms:List ca) (lY l:List MapEntry),jf E ms lY->jf az ms l->jf E ms l
 | [],_,_,_,aD=>aD
 | m::ms,lY,l,a1,aD=>by obtain ⟨e,es,rfl,aa,ae,bw⟩:=aD;obtain ⟨cA,IU,rfl,g1,g2,g4⟩:=a1;exact ⟨e,es,rfl,Rel.back h _ _ _ g1 aa,Rel.back h _ _ _ g2 ae,jf.back h ms _ _ g4 bw⟩
theorem fR.back {B:Nat} {E az:Env} (h:E.le az) {w w':World} {b:aQ} {k:b8} (a1:fR B E w b k) (aD:fR B az w' b k):fR B E w' b k:=by
 cases k with
 | dead=>trivial
 | cells n cs cI st=>
   obtain ⟨aW,p,c,el,b4,ai,cJ,a_,al,au,aJ,bE⟩:=aD;obtain ⟨_,pP,p_,ab5,acL,gI,_,_,_,_,_,d_⟩:=a1;rw [h _ _ gI] at ai;cases ai;refine ⟨aW,p,c,el,b4,gI,cJ,a_,al,au,aJ,bE.1,fun i y aB a6=>?_⟩;have aN:p.base+i<p_.size:=by have:=d_.1;omega
   exact Rel.back h _ _ _ (d_.2 i p_[p.base+i] aB (by simp [aN])) (bE.2 i y aB a6)
 | view n cs=>
   obtain ⟨_,p,c,el,b4,ai,cJ,a_,bE⟩:=aD;obtain ⟨_,pP,p_,ab5,acL,gI,_,_,d_⟩:=a1;rw [h _ _ gI] at ai;cases ai;refine ⟨trivial,p,c,el,b4,gI,cJ,a_,bE.1,fun i y aB a6=>?_⟩;have aN:p.base+i<p_.size:=by have:=d_.1;omega
   exact Rel.back h _ _ _ (d_.2 i p_[p.base+i] aB (by simp [aN])) (bE.2 i y aB a6)
 | iter s pos=>
   obtain ⟨p,ai,q⟩:=aD;obtain ⟨pP,gI,_⟩:=a1;rw [h _ _ gI] at ai;cases ai;exact ⟨p,gI,q⟩
 | mp es clock=>
   obtain ⟨p,a,ai,cJ,a_,q⟩:=aD;obtain ⟨pP,a0,gI,_,_,r⟩:=a1;rw [h _ _ gI] at ai;cases ai;exact ⟨p,a,gI,cJ,a_,dr.back h _ _ _ r q⟩
 | fI l=>
   obtain ⟨p,o,ai,cJ,a_,al,au,aJ,bE,c1,eh,ju,zN,lo,alx⟩:=aD;obtain ⟨pP,gz,gI,_,_,a8,b',bP,d_,bS,cz,dT,apA,cZ,dV⟩:=a1;rw [h _ _ gI] at ai;cases ai;rw [h _ _ cZ] at lo;cases lo;exact ⟨p,o,gI,cJ,a_,al,au,aJ,bE,c1,eh,fun t aK=>Rel.back h _ _ _ (dT t aK) (ju t aK),zN,cZ,alx⟩
 | h2=>
   obtain ⟨p,ai,q⟩:=aD;obtain ⟨pP,gI,_⟩:=a1;rw [h _ _ gI] at ai;cases ai;exact ⟨p,gI,q⟩
 | ia es=>
   obtain ⟨p,a,c,l,ai,cJ,a_,q,aw⟩:=aD;obtain ⟨pP,a0,p_,lY,gI,_,_,r,_⟩:=a1;rw [h _ _ gI] at ai;cases ai;exact ⟨p,a,c,l,gI,cJ,a_,jf.back h _ _ _ r q,aw⟩
 | hl src since seen last=>
   obtain ⟨p,m,a,ai,cJ,ak,a_,bp,q⟩:=aD;obtain ⟨pP,m0,a0,gI,_,_,_,_,r⟩:=a1;rw [h _ _ gI] at ai;cases ai;refine ⟨p,m,a,gI,cJ,ak,a_,bp,?_⟩;cases src with
   | none=>exact q
   | some c=>
     obtain ⟨z,b7,z2⟩:=q;obtain ⟨y,dU,gn⟩:=r;have e:z=y:=ars (b7.symm.trans (h _ _ dU));rw [e] at z2;exact ⟨y,dU,z2⟩
theorem bc.abU {aC:Fr} {E az:Env} {h ab:ag} {w w':World} (s:bc aC E h w) (gm:bc aC az ab w') (le:E.le az) (x:Ext h ab):bc aC E h w':=by
 refine ⟨fun b ak=>?_,s.oW,s.inj,s.fresh,gm.frame,gm.laid,s.base⟩;have a1:=s.a' b ak;by_cases aY:Old h b
 . have aa:=gm.a' b ak;rw [x.get b aY] at aa;exact fR.back le a1 aa
 . have aF:E b=none:=by
    have:=s.fresh (ck b) (by unfold Old at aY;omega);rwa [vb] at this
   cases aA:h.get b with
   | dead=>trivial
   | cells n cs cI st=>
     rw [aA] at a1;obtain ⟨_,p,_,_,_,ai,_⟩:=a1;rw [aF] at ai;cases ai
   | view n cs=>
     rw [aA] at a1;obtain ⟨_,p,_,_,_,ai,_⟩:=a1;rw [aF] at ai;cases ai
   | iter _ _=>
     rw [aA] at a1;obtain ⟨p,ai,_⟩:=a1;rw [aF] at ai;cases ai
   | mp _ _=>
     rw [aA] at a1;obtain ⟨p,_,ai,_⟩:=a1;rw [aF] at ai;cases ai
   | fI _=>
     rw [aA] at a1;obtain ⟨p,_,ai,_⟩:=a1;rw [aF] at ai;cases ai
   | h2=>
     rw [aA] at a1;obtain ⟨p,ai,_⟩:=a1;rw [aF] at ai;cases ai
   | ia _=>
     rw [aA] at a1;obtain ⟨p,_,_,_,ai,_⟩:=a1;rw [aF] at ai;cases ai
   | hl _ _ _ _=>
     rw [aA] at a1;obtain ⟨p,_,_,ai,_⟩:=a1;rw [aF] at ai;cases ai
section
variable {P:Program}
theorem abq (c':P.follows .mixedOrders=true) (bI:et P) {f:FuncId} {fn:Func} {c:Code} {args:List V} {h:ag} {v:Bool} (aF:P.funcs[f]? =some fn) (ak:fn.body=some c)
 (fz:Nat.ble fn.ntmps top=true) (a6:Nat.beq f dy=false) (kA:Nat.ble args.length fn.ntmps=true) {rc:aR} {eJ:List ue} (B3:eI P fn.ntmps c=rc) (w2:oY P fn.ntmps fn.results.toList=eJ) (du:rc.plain=true)
 (H:gg P rc (bg.bU args) h fun e r ab=>e.ends/\Ext h ab/\lM r ab eJ=some [.bool v]):e4 P f args h (.bool v) h:=by
 subst B3 w2;rw [aqj] at fz kA;have aY:Out fn.ntmps (bg.bU args):=by intro t aK _;rw [xk,aqI (by omega)];rfl
 have mv:(bg.bU args) eO=.bad:=by rw [xk,aqI (by unfold eO;unfold top at fz;omega)];rfl
 have Ju:=abV fz c' bI c _ h _ du aY H;have ik:f≠dy:=fun e=>by subst e;simp at a6
 refine ⟨ik,.inl ⟨⟨fn,aF,by rw [ak];rfl⟩,fun aC E w xs ao s=>?_⟩⟩;have hlen:=ao.length;have cu:xs.toArray.size<=fn.ntmps:=by simp;omega
 refine sP.1 (callsIn_of_wp_marks (F:=cc none) (n:=0) aF ak trivial ?_);have k:h0 E fn.ntmps (bg.bU args) {tmps:=xs.toArray++Array.replicate (fn.ntmps-xs.toArray.size) undef,defers:=[]}:=by
  refine ⟨by simp;omega,by rw [mv];simp [l_],fun t _=>?_⟩;rw [xk];cases aL:args[t]? with
  | none=>simp [Rel]
  | some v=>
    obtain ⟨y,a6,aD⟩:=ao.get t v aL;simp only [aqL];have w4:t<xs.length:=(aqp.1 a6).1;rw [aqx,arZ (by simpa using w4)];simp only [List.getElem?_toArray,a6,aqL];exact aD
 have k2:Az P (fun _ _ _ _=>.fail):=fun f args u h g_ ab he=>by cases he
 refine (Ju none aC E _ w (.inl rfl) k s _ fun e bb ab az bn w' ar qB hj al au aJ=>?_).wp;obtain ⟨gF,aeq,BE⟩:=ar;have fin:LeavesInM (cc none) 0 P fn bn.tmps (fun e w'=>∃az x,e=.returned x/\E.le az/\Rel az (.bool v) x/\bc aC az h w') bn.defers .returning w':=by
  obtain ⟨cS,dN⟩:=yA qB;have aq:T.get .bad eZ cS=bb eO:=by have:=congrFun dN eO;simp only [eg] at this;exact this
  have aA:fv az fn.ntmps cS bn:=⟨⟨au.size,fun t aK=>by
   have:=congrFun dN t;simp only [eg] at this;rw [this]
   exact au.aj t (r6 aK)⟩,by rw [aq];exact au.defers⟩
  refine EM (C:=⟨P,fun _=>none,fun _=>none⟩) (u:=none) bI k2 aA rfl aJ ?_;rw [aq,hj,mv];simp only [V.list,nm,finish];rw [Bl dN BE];exact fun bO x bN cq cx eE=>⟨E,x,rfl,Env.le.refl E,by simp only [oneOf,Rel] at cx ⊢;exact cx,s.abU eE (al.trans cq) aeq⟩
 cases e with
 | normal=>exact fin
 | ret=>exact fin
 | exit i=>exact gF.elim
end
end
end Go.Proofs.YtgmhjhgoamjeeaaGreatDoor.a7
