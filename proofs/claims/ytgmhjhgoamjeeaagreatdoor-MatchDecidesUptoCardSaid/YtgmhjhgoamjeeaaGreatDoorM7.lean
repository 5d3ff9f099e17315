/- The abstract machine and its walks (a verified interpreter of the model's code: plain definitions and lemmas, no condition). Printed by a program from longer texts: names made short. -/
import Derived.Test.YtgmhjhgoamjeeaaGreatDoorM4
set_option linter.unusedSectionVars false
set_option linter.unusedSimpArgs false
set_option linter.unusedVariables false
set_option maxHeartbeats 64000000
noncomputable section
namespace Go.Proofs.YtgmhjhgoamjeeaaGreatDoor.aX
section
open Go Go.RowKit
variable [Lay]
section
variable {P:Program}
def DP (it:V) (h:ae) (K:V->ae->Prop):Prop:=
 ∃b since seen last c es clock,it=.ptr b 0/\h.get b=.gW (some c) since seen last/\h.get c=.mp es clock/\(∀m ∈ es,m.born<since)/\
  (!seen.isEmpty&&(!es.isEmpty&&q9 last es))=false/\(leftOf seen es=[]->K (.tuple [.bool false]) h)/\
  ∀m ∈ leftOf seen es,K (.tuple [.bool true,m.k,m.v]) (h.set b (.gW (some c) since (m.born::seen) clock))
theorem Cq {seen:List Nat}:∀{es:List b_} {m:b_},m ∈ leftOf seen es->m ∈ es
 | [],m,h=>by simp [leftOf] at h
 | x::xs,m,h=>by
   simp only [leftOf] at h;cases ah:p9 seen x.born<;>rw [ah] at h
   . simp only [arB,arM] at h;rcases h with rfl | h
     . exact ar1
     . exact arT _ (Cq h)
   . exact arT _ (Cq h)
theorem dx.at {E:Env}:∀{ms:List b_} {l:List MapEntry},dx E ms l->∀{i:Nat} {e:MapEntry},l[i]? =some e->∃m,ms[i]? =some m/\Rel E m.k e.key/\Rel E m.v e.val/\e.born=m.born
 | [],l,h,i,e,he=>by simp only [dx] at h;subst h;simp at he
 | m::ms,l,h,i,e,he=>by
   obtain ⟨cF,es,rfl,aa,ad,aH,bw⟩:=h;cases i with
   | zero=>simp only [arG,arq] at he;subst he;exact ⟨m,rfl,aa,ad,aH⟩
   | succ i=>simp only [ash] at he;obtain ⟨dj,al,ao⟩:=dx.at bw he;exact ⟨dj,by simpa using al,ao⟩
theorem dx.len {E:Env}:∀{ms:List b_} {l:List MapEntry},dx E ms l->l.length=ms.length
 | [],l,h=>by simp only [dx] at h;subst h;rfl
 | m::ms,l,h=>by obtain ⟨cF,es,rfl,aa,ad,aH,bw⟩:=h;simp [dx.len bw]
theorem ak1 {aA:Fr} {E:Env} {h:ae} {w:World} (s:ba aA E h w) {x:V} {X:Value} {ty:TypeId} (ak:Rel E x X) {K:V->ae->Prop} (H:DP x h K):
 ∃v ab,K v ab/\dd aA P E w (Instr.next X false ty) v ab:=by
 obtain ⟨b,since,seen,last,c,es,clock,rfl,aF,BN,hold,aq,aeH,dO⟩:=H;have ah:=s.at (p:=_) (by simp only [Rel] at ak;exact ak.choose_spec.1);rw [aF] at ah;obtain ⟨p,m,a,ag,cG,lC,a8,bs,iV⟩:=ah;simp only [Rel] at ak;obtain ⟨q,ay,rfl⟩:=ak;rw [ag] at ay;cases ay;have ct:(getObj p.aZ).run P w=.ok (.mapIter m since a last) w:=by simp only [getObj,Sem.run,a8]
 simp only [ui] at iV;obtain ⟨pJ,mM,rfl⟩:=iV;have qa:=s.at mM;rw [BN] at qa;obtain ⟨q,ir,g1,_,g3,g4⟩:=qa;rw [mM] at g1;cases g1;have wG:(getObj pJ.aZ).run P w=.ok (.map ir clock) w:=by simp only [getObj,Sem.run,g3]
 have aJ:a.isEmpty=seen.isEmpty:=by
  have:a.toList.isEmpty=seen.reverse.isEmpty:=by rw [bs]
  simpa using this
 have aR:ir.isEmpty=es.isEmpty:=by
  cases es with
  | nil=>simp only [dx] at g4;have:ir=#[]:=atj.1 g4
         simp [this]
  | cons y cx=>obtain ⟨e,l,ax,_⟩:=g4;have:ir.toList.isEmpty=false:=by rw [ax];rfl
               simpa using this
 have bP:ir.all (fun e=>decide (e.born>=last))=q9 last es:=by rw [<-Ih es _ g4,Array.all_toList]
 have BH:(!a.isEmpty&&!ir.isEmpty&&ir.all (fun e=>decide (e.born>=last)))=false:=by rw [aJ,aR,bP,Bool.and_assoc];exact aq
 have qg:=Lo (E:=E) bs es _ g4;have BL:(ir.filter fun e=>!a.contains e.born).toList=ir.toList.filter fun e=>!a.contains e.born:=by simp
 rw [<-BL] at qg;generalize hd:(ir.filter fun e=>!a.contains e.born)=F at qg BL;have SB:∀e ∈ F.toList,e.born<since:=by intro e he;obtain ⟨i,aw⟩:=List.getElem?_of_mem he;obtain ⟨mf,al,_,_,bG⟩:=dx.at qg aw;rw [bG];exact hold _ (Cq (arX al))
 have aeC:F.filter (fun x=>decide (x.born<since))=F:=by apply atj.1;rw [Array.toList_filter,List.filter_eq_self];intro e he;simpa using SB e he
 have By:F.filter (fun x=>decide (x.born>=since))=#[]:=by apply atj.1;rw [Array.toList_filter,List.filter_eq_nil_iff];intro e he;have:=SB e he;simp;omega
 by_cases bk:F=#[]
 . subst bk;have ax:leftOf seen es=[]:=by
    have:=qg.len;simp at this;exact asj this.symm
   refine ⟨_,h,aeH ax,dd.plain (Z:=.tuple #[.bool false]) s ?_ ?_⟩
   . simp only [Instr.next,lC,Sem.run_bind,ct,Result.andThen_ok,wG,BH,arK,ar5,hd,Sem.run_pure];simp [choose,Sem.run,Question.forced]
   . simp only [Rel,bh];exact ⟨_,rfl,_,_,rfl,rfl,rfl⟩
 . have cu:0<F.size:=by
    rcases Nat.eq_zero_or_pos F.size with e | e
    . exact absurd (Array.eq_empty_of_size_eq_zero e) bk
    . exact e
   have afl:F.isEmpty=false:=by simpa using bk
   obtain ⟨i,bX,lD,aw,yP⟩:∃i bX,(choose (.mapNext F.size)).run P w=.ok i bX/\i<F.size/\bX.heap=w.heap/\bX.os=w.os/\bX.tape=w.tape/\bX.output=w.output:=by
    simp only [choose,Sem.run]
    split
    . exact ⟨0,w,rfl,cu,rfl,rfl,rfl,rfl⟩
    . exact ⟨_,_,rfl,Nat.mod_lt _ cu,rfl,rfl,rfl,rfl⟩
   obtain ⟨al,ao,aK,bG⟩:=yP;have s1:ba aA E h bX:=s.same al ao aK bG;have aeD:F.toList[i]? =some F[i]:=by simp
   obtain ⟨mf,bH,c2,cz,cC⟩:=dx.at qg aeD;have uL:mf ∈ leftOf seen es:=arX bH;refine ⟨_,_,dO mf uL,?_⟩
   let b9:Obj:=.mapIter (some pJ.aZ) since (a.push F[i].born) clock
   let w':World:={bX with heap:=bX.heap.setIfInBounds p.aZ b9}
   have rC:bX.heap[p.aZ]? =some (.mapIter (some pJ.aZ) since a last):=by rw [al];exact a8
   have k0:=(art.1 rC).1;have qo:(setObj p.aZ b9).run P bX=.ok () w':=by simp only [setObj,Sem.run,rC];rfl
   refine ⟨.tuple #[.bool true,F[i].key,F[i].val],w',E,?_,Env.le.refl E,?_,s1.set (p:=p) (by rw [aF];rfl) ag cG (by simp [w']) (fun j bp=>?_) rfl rfl rfl (fun _ _ _ e=>by cases e) ?_⟩
   . simp only [Instr.next,lC,Sem.run_bind,ct,Result.andThen_ok,wG,BH,arK,ar5,hd,Sem.run_pure];have ago:(F.map some).size=F.size:=by simp
     have aft:(F.map some)[i]? =some (some F[i]):=by simp [aw]
     simp only [aeC,By,afl,arK,ar5,Array.append_empty,Array.empty_append,ago,lD,Result.andThen_ok,aft];rw [Sem.run_bind,qo];rfl
   . simp only [Rel,bh];exact ⟨_,rfl,_,_,rfl,rfl,_,_,rfl,c2,_,_,rfl,cz,rfl⟩
   . simp only [w',arN];rw [arw (fun e=>bp e.symm)]
   . exact ⟨p,some pJ.aZ,a.push F[i].born,ag,cG,lC,by simp [w',k0,b9],by simp [bs,cC],pJ,mM,rfl⟩
end
def bx.sL (P:Program) (o:bx) (r:bf) (h:ae) (K:bf->ae->Prop):Prop:=
 match o.Br,o.g with
 | none,.mj x=>DP (x.aQ (r.trim o.rs)) h fun v ab=>K (r.set o.dst v) ab
 | _,_=>o.wp P r h fun a7 _ ab=>K a7 ab
def yi (P:Program):List bx->bf->ae->(bf->ae->Prop)->Prop
 | [],r,h,K=>K r h
 | o::os,r,h,K=>o.sL P r h fun a7 ab=>yi P os a7 ab K
def fj (P:Program):a1->bf->ae->(cT->bf->ae->Prop)->Prop
 | .an ops,r,h,Q=>yi P ops r h (Q .normal)
 | .seq a b,r,h,Q=>fj P a r h fun e a7 ab=>e.andThen (fj P b a7 ab Q) (Q e a7 ab)
 | .cond c a b,r,h,Q=>match c.aQ r with
   | .bool t=>(t=true->fj P a r h Q)/\(t=false->fj P b r h Q)
   | _=>False
 | .block id b,r,h,Q=>fj P b r h fun e a7 ab=>Q (e.leave id) a7 ab
 | .loop b,r,h,Q=>∃(I:bf->ae->Prop) (μ:bf->ae->Nat),I r h/\∀r h,I r h->fj P b r h fun e a7 ab=>e.andThen (I a7 ab/\μ a7 ab<μ r h) (Q e a7 ab)
 | rc,r,h,Q=>ff P rc r h Q
def oX (P:Program) (ar:Nat) (c:Code) (r:bf) (h:ae) (Q:cT->bf->ae->Prop):Prop:=
 ∀(rd:Option Nat) (aA:Fr) E a w,(rd=none\/noMark c=true)->hE E ar r a->ba aA E h w->∀dn:Exit->Act->World->Prop,
  (∀e a7 ab au bm w',Q e a7 ab->Out ar a7->a7 eG=r eG->E.le au->hE au ar a7 bm->ba aA au ab w'->dn (toExit e) bm w')->Df rd P c dn a w
section
variable {P:Program} {ar:Nat}
theorem oX.of_wp (fk:ar<=top) (cN:P.follows .mixedOrders=true) (bF:eg P) {c:Code} {r:bf} {h:ae} {Q:cT->bf->ae->Prop} (dh:(eB P ar c).plain=true) (aW:Out ar r) (H:ff P (eB P ar c) r h Q):oX P ar c r h Q:=by obtain ⟨e,a7,ab,al,ao,aK⟩:=Xt fk cN bF c r h Q aW H;exact fun rd aA E a w aD k s dn cD=>aK rd aA E a w aD k s dn fun au bm w' bN z2 z3=>cD e a7 ab au bm w' al ao.1 (ao.2 dh) bN z2 z3
theorem am0 {op:Op} {x:aT} (h:vl P op=.mj x):∃it,op=.next it false/\rx it=x:=by
 cases op
 case next it st=>
  cases st
  . simp only [vl,arB,G.mj.injEq] at h;exact ⟨it,rfl,h⟩
  . simp only [vl,aru] at h;cases h
 all_goals exfalso
 all_goals simp only [vl] at h
 all_goals first
  | (cases h;done)
  | skip
 all_goals (try unfold Mu at h)
 all_goals (try unfold My at h)
 all_goals (try unfold GS at h)
 all_goals (repeat' (split at h))
 all_goals first
  | (cases h;done)
  | (simp only [cond] at h;(repeat' (split at h))<;>first | (cases h;done) | contradiction)
  | (cases h;contradiction)
  | (simp_all;done)
theorem am2 {all:Array Oper} {o:Oper} {d:Option Nat} {x:aT} {rs:List Nat} (h:qM P ar all o=⟨d,.mj x,none,rs⟩):
 ∃it,o.op=.next it false/\rx it=x/\o.guard=none/\o.dst=d/\b1 all o=rs/\eO ar o.dst=true/\iX (b1 all o)=true:=by
 have key:r2 P ar all o=⟨d,.mj x,none,rs⟩:=by
  rcases Wc P ar all o with e | ⟨op,t,y,z,u,neg,aJ,aR,bP,b4,dD,gA⟩
  . rw [<-e];exact h
  . rw [gA] at h;cases h
 unfold r2 at key;cases aq:(eO ar o.dst&&iX (b1 all o)) with
 | false=>rw [aq] at key;cases key
 | true=>
   rw [aq] at key;simp only [aru] at key;simp only [arp] at aq;cases aF:o.guard with
   | none=>
     rw [aF] at key;simp only [bx.mk.injEq] at key;obtain ⟨b3,b5,_,fY⟩:=key;obtain ⟨it,al,ao⟩:=am0 b5;exact ⟨it,al,ao,rfl,b3,fY,aq.1,aq.2⟩
   | some oI=>
     obtain ⟨j,want⟩:=oI;rw [aF] at key;simp only at key;exfalso;cases bp:all[j]? <;>rw [bp] at key<;>simp only at key
     . cases key
     . rename_i g;cases aI:g.dst<;>rw [aI] at key<;>simp only at key
       . cases key
       . simp only [cond] at key
         split at key
         . simp only [bx.mk.injEq] at key;exact absurd key.2.2.1 (by simp)
         . cases key
theorem bx.acA (bF:eg P) {all:Array Oper} {o:Oper} {i:Nat} (aw:all[i]? =some o) {r:bf} {h:ae} {K:bf->ae->Prop} (aW:Out ar r) (H:(qM P ar all o).sL P r h K):
 ∀(rd:Option Nat) (aA:Fr) E a w,hE E ar r a->ba aA E h w->∀(Q:Exit->Act->World->Prop) (C:Act->World->Prop),
  (∀a7 ab au bm w',K a7 ab->Out ar a7->a7 eG=r eG->E.le au->hE au ar a7 bm->ba aA au ab w'->C bm w')->wpOpIn (ca rd) 0 P all Q i C a w:=by
 intro rd aA E a w k s Q C yF;unfold bx.sL at H
 split at H
 . rename_i x iT aF;have a8:qM P ar all o=⟨(qM P ar all o).dst,.mj x,none,(qM P ar all o).rs⟩:=by
    generalize qM P ar all o=z at iT aF;obtain ⟨bN,z2,z3,z4⟩:=z;simp only at iT aF;subst iT aF;rfl
   obtain ⟨it,aJ,aR,bP,b4,dD,gA,jB⟩:=am2 a8;rw [<-b4,<-dD,<-aR] at H;obtain ⟨cU,dI⟩:=yt aW
   have j3:RegRel0 E ar (dt cU (b1 all o)) a:=⟨k.size,fun t aG=>by
    rw [Hl jB aG];by_cases hm:t ∈ b1 all o
    . rw [arz hm];have:=congrFun dI t;simp only [eb] at this;rw [this];exact k.an t (rU aG)
    . rw [arw hm];simp [Rel]⟩
   have ex:(bV it).run (dt cU (b1 all o))=(rx it).aQ (r.trim (b1 all o)):=by rw [eP,z8,dI]
   rw [<-ex] at H;have hex:=ak1 (P:=P) (ty:=o.type) s (dH j3 it) H;clear a8 aF iT H ex j3 b4 dD jB;obtain ⟨dst,alS,type,pos,after,guard⟩:=o;obtain ⟨v,ab,dO,d'⟩:=hex;simp only at aJ bP gA dO d';subst aJ bP;simp only [wpOpIn,aw,Region.wanted,ar2];refine f' rfl d' fun au cl w' al ao aK=>?_;exact yF _ _ au _ w' dO (aW.set gA v) (C6 gA v) al (k.put al gA ao) aK
 . obtain ⟨v,aa,aI,H1,cV⟩:=bx.Xr bF aw aW H;exact cV rd aA E a w k s Q C fun au x w' ck cB eL=>yF _ _ au _ w' H1 (aW.set aI v) (C6 aI v) ck (k.put ck aI cB) eL
theorem Q_ (bF:eg P) {all:Array Oper}:∀(l:List Oper) (i:Nat),(∀j,l[j]? =all[i+j]?)->∀(r:bf) (h:ae) (K:bf->ae->Prop),Out ar r->yi P (zM P ar all l) r h K->
 ∀(rd:Option Nat) (aA:Fr) E a w,hE E ar r a->ba aA E h w->∀Q:Exit->Act->World->Prop,
  (∀a7 ab au bm w',K a7 ab->Out ar a7->a7 eG=r eG->E.le au->hE au ar a7 bm->ba aA au ab w'->Q .normal bm w')->wpOpsIn (ca rd) 0 P all Q (List.range' i l.length) a w
 | [],i,_,r,h,K,aW,H=>by intro rd aA E a w k s Q cD;simp only [asd,List.range'_zero,wpOpsIn];exact cD r h E a w H aW rfl (Env.le.refl E) k s
 | o::os,i,ax,r,h,K,aW,H=>by
   intro rd aA E a w k s Q cD;have aw:all[i]? =some o:=by have:=ax 0;simpa using this.symm
   simp only [zM,yi] at H;rw [arA,List.range'_succ,wpOpsIn_cons];refine bx.acA bF aw aW H rd aA E a w k s _ _ fun a7 ab au bm w' al ao aK bG cK ev=>?_
   exact Q_ bF os (i+1) (fun j=>by
    have:=ax (j+1);simp only [ash] at this;rw [this];congr 1
    omega) a7 ab K ao al rd aA au bm w' cK ev Q fun c2 ad bC a2 bA bN z2 z3 z4 z5 kI=>cD c2 ad bC a2 bA bN z2 (z3.trans aK) (bG.trans z4) z5 kI
theorem acz (fk:ar<=top) (cN:P.follows .mixedOrders=true) (bF:eg P):∀(c:Code) (r:bf) (h:ae) (Q:cT->bf->ae->Prop),(eB P ar c).plain=true->Out ar r->fj P (eB P ar c) r h Q->oX P ar c r h Q:=by
 intro c
 induction c with
 | region id ops draw=>
   intro r h Q dh aW H;cases draw with
   | true=>
     refine oX.of_wp fk cN bF dh aW ?_;simp only [eB,aru,GU] at H ⊢;cases ah:(lP ops.size (vd P ops) (zC (vd P ops) 0 ops.toList)&&wa P ops (zC (vd P ops) 0 ops.toList))<;>rw [ah] at H<;>exact H
   | false=>
     simp only [eB,arB,fj] at H;intro rd aA E a w aD k s dn cD;refine wpIn_region ?_;have:=Q_ bF ops.toList 0 (fun j=>by simp) r h _ aW H rd aA E a w k s dn fun a7 ab au bm w' bN z2 z3 z4 z5 kI=>cD .normal a7 ab au bm w' bN z2 z3 z4 z5 kI;rw [List.range_eq_range'];simpa using this
 | seq x y qs qt=>
   intro r h Q dh aW H;simp only [eB,fj] at H;simp only [eB,a1.plain,arp] at dh;intro rd aA E a w aD k s dn cD;refine wpIn_seq (qs r h _ dh.1 aW H rd aA E a w (aD.imp (fun h=>h) fun h=>by simp only [noMark,arp] at h;exact h.1) k s _ fun e a7 ab au bm w' bN z2 z3 z4 z5 kI=>?_).wp;cases e with
   | normal=>
     exact (qt a7 ab Q dh.2 z2 bN rd aA au bm w' (aD.imp (fun h=>h) fun h=>by simp only [noMark,arp] at h;exact h.2) z5 kI dn fun aR c2 ad bC a2 bA du e3 y3 y4 Nh y6=>cD aR c2 ad bC a2 bA du e3 (y3.trans z3) (z4.trans y4) Nh y6).wp
   | exit i=>exact cD _ a7 ab au bm w' bN z2 z3 z4 z5 kI
   | ret=>exact cD _ a7 ab au bm w' bN z2 z3 z4 z5 kI
 | cond c x y qs qt=>
   intro r h Q dh aW H;simp only [eB,fj] at H;simp only [eB,a1.plain,arp] at dh;cases bt:(rx c).aQ r<;>rw [bt] at H<;>simp only at H<;>try (exact H.elim)
   rename_i t;have aq:∀E a,hE E ar r a->a.eval c=.bool t:=by
    intro E a k;cases c with
    | tmp d=>
      simp only [rx] at bt;cases ah:Nat.ble d top with
      | false=>rw [ah] at bt;simp [aT.aQ] at bt
      | true=>
        rw [ah] at bt;simp only [aru,aT.aQ] at bt;have:=k.an d (rU (ar7 ah));rw [bt] at this;simp only [Rel] at this;exact this
    | const v=>
      simp only [rx,aT.aQ] at bt;have:=tr E v;rw [bt] at this;simp only [Rel] at this;exact this
    | func f=>
      simp only [rx] at bt;cases ah:Nat.beq f dB<;>rw [ah] at bt<;>simp [aT.aQ] at bt
    | global g=>simp [rx,aT.aQ] at bt
   intro rd aA E a w aD k s dn cD;cases t with
   | true=>exact wpIn_cond_true (aq E a k) (qs r h Q dh.1 aW (H.1 rfl) rd aA E a w (aD.imp (fun h=>h) fun h=>by simp only [noMark,arp] at h;exact h.1) k s dn cD).wp
   | false=>exact wpIn_cond_false (aq E a k) (qt r h Q dh.2 aW (H.2 rfl) rd aA E a w (aD.imp (fun h=>h) fun h=>by simp only [noMark,arp] at h;exact h.2) k s dn cD).wp
 | block id x bc=>
   intro r h Q dh aW H;simp only [eB,fj] at H;simp only [eB,a1.plain] at dh;intro rd aA E a w aD k s dn cD;refine wpIn_block (bc r h _ dh aW H rd aA E a w (aD.imp (fun h=>h) fun h=>h) k s _ fun e a7 ab au bm w' bN z2 z3 z4 z5 kI=>?_).wp;have:=cD _ a7 ab au bm w' bN z2 z3 z4 z5 kI;cases e with
   | normal=>exact this
   | ret=>exact this
   | exit i=>
     simp only [toExit,Exit.inBlock];simp only [cT.leave] at this;by_cases aw:i=id
     . rw [arz aw] at this ⊢;exact this
     . rw [arw aw] at this ⊢;exact this
 | loop x bc=>
   intro r h Q dh aW H;simp only [eB,fj] at H;simp only [eB,a1.plain] at dh;obtain ⟨I,μ,oA,KK⟩:=H;have key:∀n r h,μ r h=n->I r h->Out ar r->oX P ar (.loop x) r h Q:=by
    intro n
    induction n using Nat.strongRecOn with
    | _ n K2=>
      intro r h aV oA aW rd aA E a w aD k s dn cD b cZ cs kt;have:=(bc r h _ dh aW (KK r h oA) rd aA E a w (aD.imp (fun h=>h) fun h=>h) k s (fun cF bm w'=>∃e bH aa au,cF=toExit e/\e.andThen (I bH aa/\μ bH aa<μ r h) (Q e bH aa)/\Out ar bH/\bH eG=r eG/\E.le au/\hE au ar bH bm/\ba aA au aa w') (fun e bH aa au bm w' bN z2 z3 z4 z5 kI=>⟨e,bH,aa,au,rfl,bN,z2,z3,z4,z5,kI⟩)).wp b (.inLoop x::cZ) cs kt trivial (GY _);obtain ⟨aR,a2,bA,⟨e,bH,aa,bC,rfl,bN,z2,z3,z4,z5,kI⟩,iF⟩:=this;cases e with
      | normal=>
        obtain ⟨JD,aS⟩:=bN;obtain ⟨bP,a3,nX,du,e3⟩:=K2 (μ bH aa) (aV ▸ aS) bH aa rfl JD z2 rd aA bC a2 bA aD z5 kI dn (fun b4 cC bw lZ a4 iA t1 t2 t3 t4 t5 t6=>cD b4 cC bw lZ a4 iA t1 t2 (t3.trans z3) (z4.trans t4) t5 t6) b cZ cs kt;exact ⟨bP,a3,nX,du,.of_steps (StepsIn.trans iF (.one (p6 _) stepR_inLoop)) e3⟩
      | exit i=>exact ⟨.exit i,a2,bA,cD (.exit i) bH aa bC a2 bA bN z2 z3 z4 z5 kI,.pass (x:=.inLoop x) rfl (fun _ _=>.inl (by simp)) iF⟩
      | ret=>exact ⟨.ret,a2,bA,cD .ret bH aa bC a2 bA bN z2 z3 z4 z5 kI,.pass (x:=.inLoop x) rfl (fun _ _=>.inl (by simp)) iF⟩
   exact key _ r h rfl oA aW
 | scope x bc=>
   intro r h Q dh aW H rd aA E a w aD k s dn cD;refine MG (bc r h Q dh aW H rd aA E a w (aD.imp (fun h=>h) fun h=>h) k s _ fun e a7 ab au bm w' bN z2 z3 z4 z5 kI=>?_).wp;have:=cD e a7 ab au bm w' bN z2 z3 z4 z5 kI;cases e<;>exact this
 | skip=>exact fun r h Q dh aW H=>oX.of_wp fk cN bF dh aW H
 | label l=>exact fun r h Q dh aW H=>oX.of_wp fk cN bF dh aW H
 | exit id=>exact fun r h Q dh aW H=>oX.of_wp fk cN bF dh aW H
 | ret=>exact fun r h Q dh aW H=>oX.of_wp fk cN bF dh aW H
 | rangeFunc f bo x y _ _=>
   intro r h Q dh aW H;refine oX.of_wp fk cN bF dh aW ?_;simp only [eB] at H ⊢;cases ah:(tv ar bo.toList&&(noMark x&&noMark y))<;>rw [ah] at H<;>exact H
 | goto l=>exact fun r h Q dh aW H=>oX.of_wp fk cN bF dh aW H
 | refuse Xq=>exact fun r h Q dh aW H=>oX.of_wp fk cN bF dh aW H
end
end
section
open Go Go.RowKit
variable [Lay]
mutual
theorem Rel.back {E au:Env} (h:E.le au):∀(v:V) (bb x:Value),Rel E v bb->Rel au v x->Rel E v x
 | .bad,_,_,_,_=>by simp [Rel]
 | .bool b,_,_,_,aD=>by simpa [Rel] using aD
 | .int k n,_,_,_,aD=>by simpa [Rel] using aD
 | .str s,_,_,_,aD=>by simpa [Rel] using aD
 | .kA,_,_,_,aD=>by simpa [Rel] using aD
 | .ptr b off,bb,x,aY,aD=>by simp only [Rel] at aY aD ⊢;obtain ⟨p,ag,_⟩:=aY;obtain ⟨q,ay,ak⟩:=aD;rw [h _ _ ag] at ay;cases ay;exact ⟨p,ag,ak⟩
 | .slice b off len cap,bb,x,aY,aD=>by simp only [Rel] at aY aD ⊢;obtain ⟨p,ag,_⟩:=aY;obtain ⟨q,ay,ak⟩:=aD;rw [h _ _ ag] at ay;cases ay;exact ⟨p,ag,ak⟩
 | .ew b off len idx,bb,x,aY,aD=>by simp only [Rel] at aY aD ⊢;obtain ⟨p,ag,_⟩:=aY;obtain ⟨q,ay,ak⟩:=aD;rw [h _ _ ag] at ay;cases ay;exact ⟨p,ag,ak⟩
 | .g' b off k7 idx,_,_,_,aD=>by simpa [Rel] using aD
 | .bj,_,_,_,aD=>by simpa [Rel] using aD
 | .j7,_,_,_,aD=>by simpa [Rel] using aD
 | .map b,bb,x,aY,aD=>by simp only [Rel] at aY aD ⊢;obtain ⟨p,ag,_⟩:=aY;obtain ⟨q,ay,ak⟩:=aD;rw [h _ _ ag] at ay;cases ay;exact ⟨p,ag,ak⟩
 | .func f cs,bb,x,aY,aD=>by
   simp only [Rel] at aY aD ⊢;rcases aD with ⟨av,a,ak,ax⟩ | ⟨av,b,q,aq,ay,ak⟩
   . rcases aY with ⟨_,a0,_,kq⟩ | ⟨J0,_⟩
     . exact .inl ⟨av,a,ak,bh.back h cs _ _ kq ax⟩
     . exact absurd J0 av
   . rcases aY with ⟨J0,_⟩ | ⟨_,om,p,mG,ag,_⟩
     . exact absurd av J0
     . rw [aq] at mG;simp only [asY,V.ptr.injEq,atC] at mG;rw [<-mG] at ag;have e:q=p:=asK (ay.symm.trans (h _ _ ag));rw [e] at ak;exact .inr ⟨av,b,p,aq,ag,ak⟩
 | .k6,_,_,_,aD=>by simpa [Rel] using aD
 | .me f cs,bb,x,aY,aD=>by simp only [Rel] at aY aD ⊢;obtain ⟨av,a,ak,ax⟩:=aD;obtain ⟨_,a0,_,kq⟩:=aY;exact ⟨av,a,ak,bh.back h cs _ _ kq ax⟩
 | .iface t v,bb,x,aY,aD=>by simp only [Rel] at aY aD ⊢;obtain ⟨y,ak,ax⟩:=aD;obtain ⟨apf,_,kq⟩:=aY;exact ⟨y,ak,Rel.back h v _ _ kq ax⟩
 | .nilIface,_,_,_,aD=>by simpa [Rel] using aD
 | .agg cs,bb,x,aY,aD=>by simp only [Rel] at aY aD ⊢;obtain ⟨a,ak,ax⟩:=aD;obtain ⟨a0,_,kq⟩:=aY;exact ⟨a,ak,bh.back h cs _ _ kq ax⟩
 | .tuple cs,bb,x,aY,aD=>by simp only [Rel] at aY aD ⊢;obtain ⟨a,ak,ax⟩:=aD;obtain ⟨a0,_,kq⟩:=aY;exact ⟨a,ak,bh.back h cs _ _ kq ax⟩
theorem bh.back {E au:Env} (h:E.le au):∀(af:List V) (kx l:List Value),bh E af kx->bh au af l->bh E af l
 | [],_,_,_,aD=>by simpa [bh] using aD
 | v::af,kx,l,aY,aD=>by simp only [bh] at aY aD ⊢;obtain ⟨y,cx,rfl,aa,ad⟩:=aD;obtain ⟨apf,aro,rfl,g1,g2⟩:=aY;exact ⟨y,cx,rfl,Rel.back h v _ _ g1 aa,bh.back h af _ _ g2 ad⟩
end
theorem dx.back {E au:Env} (h:E.le au):∀(ms:List b_) (kx l:List MapEntry),dx E ms kx->dx au ms l->dx E ms l
 | [],_,_,_,aD=>aD
 | m::ms,kx,l,aY,aD=>by obtain ⟨e,es,rfl,aa,ad,aH,bw⟩:=aD;obtain ⟨c9,Jj,rfl,g1,g2,g3,g4⟩:=aY;exact ⟨e,es,rfl,Rel.back h _ _ _ g1 aa,Rel.back h _ _ _ g2 ad,aH,dx.back h ms _ _ g4 bw⟩
theorem iP.back {E au:Env} (h:E.le au):∀(ms:List b_) (kx l:List MapEntry),iP E ms kx->iP au ms l->iP E ms l
 | [],_,_,_,aD=>aD
 | m::ms,kx,l,aY,aD=>by obtain ⟨e,es,rfl,aa,ad,bw⟩:=aD;obtain ⟨c9,Jj,rfl,g1,g2,g4⟩:=aY;exact ⟨e,es,rfl,Rel.back h _ _ _ g1 aa,Rel.back h _ _ _ g2 ad,iP.back h ms _ _ g4 bw⟩
theorem fF.back {B:Nat} {E au:Env} (h:E.le au) {w w':World} {b:aM} {k:b6} (aY:fF B E w b k) (aD:fF B au w' b k):fF B E w' b k:=by
 cases k with
 | dead=>trivial
 | cells n cs cL st=>
   obtain ⟨aV,p,c,el,b2,ag,cG,a8,al,ao,aK,bG⟩:=aD;obtain ⟨_,tu,pY,acP,adH,gG,_,_,_,_,_,cC⟩:=aY;rw [h _ _ gG] at ag;cases ag;refine ⟨aV,p,c,el,b2,gG,cG,a8,al,ao,aK,bG.1,fun i y aw a6=>?_⟩;have aS:p.base+i<pY.size:=by have:=cC.1;omega
   exact Rel.back h _ _ _ (cC.2 i pY[p.base+i] aw (by simp [aS])) (bG.2 i y aw a6)
 | view n cs=>
   obtain ⟨_,p,c,el,b2,ag,cG,a8,bG⟩:=aD;obtain ⟨_,tu,pY,acP,adH,gG,_,_,cC⟩:=aY;rw [h _ _ gG] at ag;cases ag;refine ⟨trivial,p,c,el,b2,gG,cG,a8,bG.1,fun i y aw a6=>?_⟩;have aS:p.base+i<pY.size:=by have:=cC.1;omega
   exact Rel.back h _ _ _ (cC.2 i pY[p.base+i] aw (by simp [aS])) (bG.2 i y aw a6)
 | iter s pos=>
   obtain ⟨p,ag,q⟩:=aD;obtain ⟨tu,gG,_⟩:=aY;rw [h _ _ gG] at ag;cases ag;exact ⟨p,gG,q⟩
 | mp es clock=>
   obtain ⟨p,a,ag,cG,a8,q⟩:=aD;obtain ⟨tu,a0,gG,_,_,r⟩:=aY;rw [h _ _ gG] at ag;cases ag;exact ⟨p,a,gG,cG,a8,dx.back h _ _ _ r q⟩
 | ft l=>
   obtain ⟨p,o,ag,cG,a8,al,ao,aK,bG,cK,ev,h6,zz,la,amE⟩:=aD;obtain ⟨tu,gX,gG,_,_,bH,c2,cz,cC,bK,ed,cy,aqU,b',dS⟩:=aY;rw [h _ _ gG] at ag;cases ag;rw [h _ _ b'] at la;cases la;exact ⟨p,o,gG,cG,a8,al,ao,aK,bG,cK,ev,fun t aG=>Rel.back h _ _ _ (cy t aG) (h6 t aG),zz,b',amE⟩
 | hH=>
   obtain ⟨p,ag,q⟩:=aD;obtain ⟨tu,gG,_⟩:=aY;rw [h _ _ gG] at ag;cases ag;exact ⟨p,gG,q⟩
 | hO es=>
   obtain ⟨p,a,c,l,ag,cG,a8,q,ax⟩:=aD;obtain ⟨tu,a0,pY,kx,gG,_,_,r,_⟩:=aY;rw [h _ _ gG] at ag;cases ag;exact ⟨p,a,c,l,gG,cG,a8,iP.back h _ _ _ r q,ax⟩
 | gW src since seen last=>
   obtain ⟨p,m,a,ag,cG,ah,a8,bs,q⟩:=aD;obtain ⟨tu,m0,a0,gG,_,_,_,_,r⟩:=aY;rw [h _ _ gG] at ag;cases ag;refine ⟨p,m,a,gG,cG,ah,a8,bs,?_⟩;cases src with
   | none=>exact q
   | some c=>
     obtain ⟨z,bN,z2⟩:=q;obtain ⟨y,du,e3⟩:=r;have e:z=y:=asK (bN.symm.trans (h _ _ du));rw [e] at z2;exact ⟨y,du,z2⟩
theorem ba.acy {aA:Fr} {E au:Env} {h ab:ae} {w w':World} (s:ba aA E h w) (fU:ba aA au ab w') (le:E.le au) (x:Ext h ab):ba aA E h w':=by
 refine ⟨fun b ah=>?_,s.oP,s.inj,s.fresh,fU.frame,fU.laid,s.base⟩;have aY:=s.aZ b ah;by_cases aW:Old h b
 . have aa:=fU.aZ b ah;rw [x.get b aW] at aa;exact fF.back le aY aa
 . have av:E b=none:=by
    have:=s.fresh (b0 b) (by unfold Old at aW;omega);rwa [vf] at this
   cases aB:h.get b with
   | dead=>trivial
   | cells n cs cL st=>
     rw [aB] at aY;obtain ⟨_,p,_,_,_,ag,_⟩:=aY;rw [av] at ag;cases ag
   | view n cs=>
     rw [aB] at aY;obtain ⟨_,p,_,_,_,ag,_⟩:=aY;rw [av] at ag;cases ag
   | iter _ _=>
     rw [aB] at aY;obtain ⟨p,ag,_⟩:=aY;rw [av] at ag;cases ag
   | mp _ _=>
     rw [aB] at aY;obtain ⟨p,_,ag,_⟩:=aY;rw [av] at ag;cases ag
   | ft _=>
     rw [aB] at aY;obtain ⟨p,_,ag,_⟩:=aY;rw [av] at ag;cases ag
   | hH=>
     rw [aB] at aY;obtain ⟨p,ag,_⟩:=aY;rw [av] at ag;cases ag
   | hO _=>
     rw [aB] at aY;obtain ⟨p,_,_,_,ag,_⟩:=aY;rw [av] at ag;cases ag
   | gW _ _ _ _=>
     rw [aB] at aY;obtain ⟨p,_,_,ag,_⟩:=aY;rw [av] at ag;cases ag
section
variable {P:Program}
theorem ab0 (cN:P.follows .mixedOrders=true) (bF:eg P) {f:FuncId} {fn:Func} {c:Code} {args:List V} {h:ae} {v:Bool} (av:P.funcs[f]? =some fn) (ah:fn.body=some c)
 (fk:Nat.ble fn.ntmps top=true) (a6:Nat.beq f dB=false) (kS:Nat.ble args.length fn.ntmps=true) {rc:a1} {eC:List uf} (B3:eB P fn.ntmps c=rc) (wV:oR P fn.ntmps fn.results.toList=eC) (dh:rc.plain=true)
 (H:fj P rc (bf.bU args) h fun e r ab=>e.ends/\Ext h ab/\lx r ab eC=some [.bool v]):e4 P f args h (.bool v) h:=by
 subst B3 wV;rw [arH] at fk kS;have aW:Out fn.ntmps (bf.bU args):=by intro t aG _;rw [xj,arW (by omega)];rfl
 have uS:(bf.bU args) eG=.bad:=by rw [xj,arW (by unfold eG;unfold top at fk;omega)];rfl
 have JP:=acz fk cN bF c _ h _ dh aW H;have h0:f≠dB:=fun e=>by subst e;simp at a6
 refine ⟨h0,.inl ⟨⟨fn,av,by rw [ah];rfl⟩,fun aA E w xs ak s=>?_⟩⟩;have hlen:=ak.length;have cu:xs.toArray.size<=fn.ntmps:=by simp;omega
 refine sG.1 (callsIn_of_wp_marks (F:=ca none) (n:=0) av ah trivial ?_);have k:hE E fn.ntmps (bf.bU args) {tmps:=xs.toArray++Array.replicate (fn.ntmps-xs.toArray.size) undef,defers:=[]}:=by
  refine ⟨by simp;omega,by rw [uS];simp [lY],fun t _=>?_⟩;rw [xj];cases aF:args[t]? with
  | none=>simp [Rel]
  | some v=>
    obtain ⟨y,a6,aD⟩:=ak.get t v aF;simp only [ar0];have rM:t<xs.length:=(arL.1 a6).1;rw [arQ,atf (by simpa using rM)];simp only [List.getElem?_toArray,a6,ar0];exact aD
 have kV:Ao P (fun _ _ _ _=>.fail):=fun f args u h fE ab he=>by cases he
 refine (JP none aA E _ w (.inl rfl) k s _ fun e a7 ab au bm w' ay qk uU al ao aK=>?_).wp;obtain ⟨gd,afq,BK⟩:=ay;have fin:LeavesInM (ca none) 0 P fn bm.tmps (fun e w'=>∃au x,e=.returned x/\E.le au/\Rel au (.bool v) x/\ba aA au h w') bm.defers .returning w':=by
  obtain ⟨cU,dI⟩:=yt qk;have aI:T.get .bad eN cU=a7 eG:=by have:=congrFun dI eG;simp only [eb] at this;exact this
  have aB:fg au fn.ntmps cU bm:=⟨⟨ao.size,fun t aG=>by
   have:=congrFun dI t;simp only [eb] at this;rw [this]
   exact ao.an t (rU aG)⟩,by rw [aI];exact ao.defers⟩
  refine EO (C:=⟨P,fun _=>none,fun _=>none⟩) (u:=none) bF kV aB rfl aK ?_;rw [aI,uU,uS];simp only [V.list,mY,finish];rw [Bm dI BK];exact fun bC x bA ck cB eL=>⟨E,x,rfl,Env.le.refl E,by simp only [oneOf,Rel] at cB ⊢;exact cB,s.acy eL (al.trans ck) afq⟩
 cases e with
 | normal=>exact fin
 | ret=>exact fin
 | exit i=>exact gd.elim
end
end
end Go.Proofs.YtgmhjhgoamjeeaaGreatDoor.aX
