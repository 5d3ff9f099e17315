/- The abstract machine and its walks (a verified interpreter of the model's code: plain definitions and lemmas, no condition). Printed by a program from longer texts: names made short. -/
import Derived.Test.YtgmhjhgoamjeeaaGreatDoorM4
set_option linter.unusedSectionVars false
set_option linter.unusedSimpArgs false
set_option linter.unusedVariables false
set_option maxHeartbeats 64000000
noncomputable section
namespace Go.Proofs.YtgmhjhgoamjeeaaGreatDoor.aZ
section
open Go Go.RowKit
variable [Lay]
section
variable {P:Program}
def C_ (it:V) (h:ae) (K:V->ae->Prop):Prop:=
 ∃b since seen last c es clock,it=.ptr b 0/\h.get b=.gR (some c) since seen last/\h.get c=.mp es clock/\(∀m ∈ es,m.born<since)/\
  (!seen.isEmpty&&(!es.isEmpty&&qZ last es))=false/\(leftOf seen es=[]->K (.tuple [.bool false]) h)/\
  ∀m ∈ leftOf seen es,K (.tuple [.bool true,m.k,m.v]) (h.set b (.gR (some c) since (m.born::seen) clock))
theorem BQ {seen:List Nat}:∀{es:List cb} {m:cb},m ∈ leftOf seen es->m ∈ es
 | [],m,h=>by simp [leftOf] at h
 | x::xs,m,h=>by
   simp only [leftOf] at h;cases ah:pX seen x.born<;>rw [ah] at h
   . simp only [apA,apI] at h;rcases h with rfl | h
     . exact aqo
     . exact ap6 _ (BQ h)
   . exact ap6 _ (BQ h)
theorem dq.at {E:Env}:∀{ms:List cb} {l:List MapEntry},dq E ms l->∀{i:Nat} {e:MapEntry},l[i]? =some e->∃m,ms[i]? =some m/\Rel E m.k e.key/\Rel E m.v e.val/\e.born=m.born
 | [],l,h,i,e,he=>by simp only [dq] at h;subst h;simp at he
 | m::ms,l,h,i,e,he=>by
   obtain ⟨c6,es,rfl,U,ab,aI,bq⟩:=h;cases i with
   | zero=>simp only [apH,apq] at he;subst he;exact ⟨m,rfl,U,ab,aI⟩
   | succ i=>simp only [aqq] at he;obtain ⟨cZ,aj,an⟩:=dq.at bq he;exact ⟨cZ,by simpa using aj,an⟩
theorem dq.len {E:Env}:∀{ms:List cb} {l:List MapEntry},dq E ms l->l.length=ms.length
 | [],l,h=>by simp only [dq] at h;subst h;rfl
 | m::ms,l,h=>by obtain ⟨c6,es,rfl,U,ab,aI,bq⟩:=h;simp [dq.len bq]
theorem ajc {az:Fr} {E:Env} {h:ae} {w:World} (s:ba az E h w) {x:V} {X:Value} {ty:TypeId} (ao:Rel E x X) {K:V->ae->Prop} (H:C_ x h K):
 ∃v aa,K v aa/\c9 az P E w (Instr.next X false ty) v aa:=by
 obtain ⟨b,since,seen,last,c,es,clock,rfl,aG,A8,hold,au,acV,dL⟩:=H;have ah:=s.at (p:=_) (by simp only [Rel] at ao;exact ao.choose_spec.1);rw [aG] at ah;obtain ⟨p,m,a,ai,cC,lM,a7,bw,iT⟩:=ah;simp only [Rel] at ao;obtain ⟨q,aq,rfl⟩:=ao;rw [ai] at aq;cases aq;have eN:(getObj p.aS).run P w=.ok (.mapIter m since a last) w:=by simp only [getObj,Sem.run,a7]
 simp only [tR] at iT;obtain ⟨pj,mr,rfl⟩:=iT;have pZ:=s.at mr;rw [A8] at pZ;obtain ⟨q,im,g1,_,g3,g4⟩:=pZ;rw [mr] at g1;cases g1;have wu:(getObj pj.aS).run P w=.ok (.map im clock) w:=by simp only [getObj,Sem.run,g3]
 have av:a.isEmpty=seen.isEmpty:=by
  have:a.toList.isEmpty=seen.reverse.isEmpty:=by rw [bw]
  simpa using this
 have aK:im.isEmpty=es.isEmpty:=by
  cases es with
  | nil=>simp only [dq] at g4;have:im=#[]:=ard.1 g4
         simp [this]
  | cons y cu=>obtain ⟨e,l,ar,_⟩:=g4;have:im.toList.isEmpty=false:=by rw [ar];rfl
               simpa using this
 have bF:im.all (fun e=>decide (e.born>=last))=qZ last es:=by rw [<-Hu es _ g4,Array.all_toList]
 have A2:(!a.isEmpty&&!im.isEmpty&&im.all (fun e=>decide (e.born>=last)))=false:=by rw [av,aK,bF,Bool.and_assoc];exact au
 have p6:=Kz (E:=E) bw es _ g4;have A6:(im.filter fun e=>!a.contains e.born).toList=im.toList.filter fun e=>!a.contains e.born:=by simp
 rw [<-A6] at p6;generalize eX:(im.filter fun e=>!a.contains e.born)=F at p6 A6;have Rk:∀e ∈ F.toList,e.born<since:=by intro e he;obtain ⟨i,ax⟩:=List.getElem?_of_mem he;obtain ⟨l2,aj,_,_,bE⟩:=dq.at p6 ax;rw [bE];exact hold _ (BQ (apR aj))
 have acR:F.filter (fun x=>decide (x.born<since))=F:=by apply ard.1;rw [Array.toList_filter,List.filter_eq_self];intro e he;simpa using Rk e he
 have acS:F.filter (fun x=>decide (x.born>=since))=#[]:=by apply ard.1;rw [Array.toList_filter,List.filter_eq_nil_iff];intro e he;have:=Rk e he;simp;omega
 by_cases bm:F=#[]
 . subst bm;have ar:leftOf seen es=[]:=by
    have:=p6.len;simp at this;exact aqx this.symm
   refine ⟨_,h,acV ar,c9.plain (Z:=.tuple #[.bool false]) s ?_ ?_⟩
   . simp only [Instr.next,lM,Sem.run_bind,eN,Result.andThen_ok,wu,A2,apG,ap2,eX,Sem.run_pure];simp [choose,Sem.run,Question.forced]
   . simp only [Rel,bg];exact ⟨_,rfl,_,_,rfl,rfl,rfl⟩
 . have cn:0<F.size:=by
    rcases Nat.eq_zero_or_pos F.size with e | e
    . exact absurd (Array.eq_empty_of_size_eq_zero e) bm
    . exact e
   have adA:F.isEmpty=false:=by simpa using bm
   obtain ⟨i,bP,lk,ax,yo⟩:∃i bP,(choose (.mapNext F.size)).run P w=.ok i bP/\i<F.size/\bP.heap=w.heap/\bP.os=w.os/\bP.tape=w.tape/\bP.output=w.output:=by
    simp only [choose,Sem.run]
    split
    . exact ⟨0,w,rfl,cn,rfl,rfl,rfl,rfl⟩
    . exact ⟨_,_,rfl,Nat.mod_lt _ cn,rfl,rfl,rfl,rfl⟩
   obtain ⟨aj,an,aJ,bE⟩:=yo;have s1:ba az E h bP:=s.same aj an aJ bE;have acT:F.toList[i]? =some F[i]:=by simp
   obtain ⟨l2,a',cG,b3,eg⟩:=dq.at p6 acT;have ml:l2 ∈ leftOf seen es:=apR a';refine ⟨_,_,dL l2 ml,?_⟩
   let b_:Obj:=.mapIter (some pj.aS) since (a.push F[i].born) clock
   let w':World:={bP with heap:=bP.heap.setIfInBounds p.aS b_}
   have o1:bP.heap[p.aS]? =some (.mapIter (some pj.aS) since a last):=by rw [aj];exact a7
   have kN:=(apr.1 o1).1;have qf:(setObj p.aS b_).run P bP=.ok () w':=by simp only [setObj,Sem.run,o1];rfl
   refine ⟨.tuple #[.bool true,F[i].key,F[i].val],w',E,?_,Env.le.refl E,?_,s1.set (p:=p) (by rw [aG];rfl) ai cC (by simp [w']) (fun j bC=>?_) rfl rfl rfl (fun _ _ _ e=>by cases e) ?_⟩
   . simp only [Instr.next,lM,Sem.run_bind,eN,Result.andThen_ok,wu,A2,apG,ap2,eX,Sem.run_pure];have aeF:(F.map some).size=F.size:=by simp
     have adI:(F.map some)[i]? =some (some F[i]):=by simp [ax]
     simp only [acR,acS,adA,apG,ap2,Array.append_empty,Array.empty_append,aeF,lk,Result.andThen_ok,adI];rw [Sem.run_bind,qf];rfl
   . simp only [Rel,bg];exact ⟨_,rfl,_,_,rfl,rfl,_,_,rfl,cG,_,_,rfl,b3,rfl⟩
   . simp only [w',apJ];rw [apu (fun e=>bC e.symm)]
   . exact ⟨p,some pj.aS,a.push F[i].born,ai,cC,lM,by simp [w',kN,b_],by simp [bw,eg],pj,mr,rfl⟩
end
def bs.sB (P:Program) (o:bs) (r:bd) (h:ae) (K:bd->ae->Prop):Prop:=
 match o.QS,o.g with
 | none,.mG x=>C_ (x.aQ (r.trim o.rs)) h fun v aa=>K (r.set o.dst v) aa
 | _,_=>o.wp P r h fun bb _ aa=>K bb aa
def xU (P:Program):List bs->bd->ae->(bd->ae->Prop)->Prop
 | [],r,h,K=>K r h
 | o::os,r,h,K=>o.sB P r h fun bb aa=>xU P os bb aa K
def fT (P:Program):aX->bd->ae->(cP->bd->ae->Prop)->Prop
 | .ak ops,r,h,Q=>xU P ops r h (Q .normal)
 | .seq a b,r,h,Q=>fT P a r h fun e bb aa=>e.andThen (fT P b bb aa Q) (Q e bb aa)
 | .cond c a b,r,h,Q=>match c.aQ r with
   | .bool t=>(t=true->fT P a r h Q)/\(t=false->fT P b r h Q)
   | _=>False
 | .block id b,r,h,Q=>fT P b r h fun e bb aa=>Q (e.leave id) bb aa
 | .loop b,r,h,Q=>∃(I:bd->ae->Prop) (μ:bd->ae->Nat),I r h/\∀r h,I r h->fT P b r h fun e bb aa=>e.andThen (I bb aa/\μ bb aa<μ r h) (Q e bb aa)
 | rc,r,h,Q=>fm P rc r h Q
def oy (P:Program) (aw:Nat) (c:Code) (r:bd) (h:ae) (Q:cP->bd->ae->Prop):Prop:=
 ∀(rd:Option Nat) (az:Fr) E a w,(rd=none\/noMark c=true)->hy E aw r a->ba az E h w->∀de:Exit->Act->World->Prop,
  (∀e bb aa ay bk w',Q e bb aa->Out aw bb->bb eK=r eK->E.le ay->hy ay aw bb bk->ba az ay aa w'->de (toExit e) bk w')->CH rd P c de a w
section
variable {P:Program} {aw:Nat}
theorem oy.of_wp (fr:aw<=top) (cJ:P.follows .mixedOrders=true) (bK:ep P) {c:Code} {r:bd} {h:ae} {Q:cP->bd->ae->Prop} (dj:(eF P aw c).plain=true) (aT:Out aw r) (H:fm P (eF P aw c) r h Q):oy P aw c r h Q:=by obtain ⟨e,bb,aa,aj,an,aJ⟩:=Wd fr cJ bK c r h Q aT H;exact fun rd az E a w aD k s de cw=>aJ rd az E a w aD k s de fun ay bk w' bU z2 z3=>cw e bb aa ay bk w' aj an.1 (an.2 dj) bU z2 z3
theorem alb {op:Op} {x:aU} (h:u2 P op=.mG x):∃it,op=.next it false/\rx it=x:=by
 cases op
 case next it st=>
  cases st
  . simp only [u2,apA,G.mG.injEq] at h;exact ⟨it,rfl,h⟩
  . simp only [u2,apt] at h;cases h
 all_goals exfalso
 all_goals simp only [u2] at h
 all_goals first
  | (cases h;done)
  | skip
 all_goals (try unfold LA at h)
 all_goals (try unfold LF at h)
 all_goals (try unfold F5 at h)
 all_goals (repeat' (split at h))
 all_goals first
  | (cases h;done)
  | (simp only [cond] at h;(repeat' (split at h))<;>first | (cases h;done) | contradiction)
  | (cases h;contradiction)
  | (simp_all;done)
theorem ald {all:Array Oper} {o:Oper} {d:Option Nat} {x:aU} {rs:List Nat} (h:qA P aw all o=⟨d,.mG x,none,rs⟩):
 ∃it,o.op=.next it false/\rx it=x/\o.guard=none/\o.dst=d/\b4 all o=rs/\eV aw o.dst=true/\iW (b4 all o)=true:=by
 have key:rR P aw all o=⟨d,.mG x,none,rs⟩:=by
  rcases U4 P aw all o with e | ⟨op,t,y,z,u,neg,av,aK,bF,bZ,df,hg⟩
  . rw [<-e];exact h
  . rw [hg] at h;cases h
 unfold rR at key;cases au:(eV aw o.dst&&iW (b4 all o)) with
 | false=>rw [au] at key;cases key
 | true=>
   rw [au] at key;simp only [apt] at key;simp only [apn] at au;cases aG:o.guard with
   | none=>
     rw [aG] at key;simp only [bs.mk.injEq] at key;obtain ⟨cm,cz,_,f_⟩:=key;obtain ⟨it,aj,an⟩:=alb cz;exact ⟨it,aj,an,rfl,cm,f_,au.1,au.2⟩
   | some n'=>
     obtain ⟨j,want⟩:=n';rw [aG] at key;simp only at key;exfalso;cases bC:all[j]? <;>rw [bC] at key<;>simp only at key
     . cases key
     . rename_i g;cases aH:g.dst<;>rw [aH] at key<;>simp only at key
       . cases key
       . simp only [cond] at key
         split at key
         . simp only [bs.mk.injEq] at key;exact absurd key.2.2.1 (by simp)
         . cases key
theorem bs.abb (bK:ep P) {all:Array Oper} {o:Oper} {i:Nat} (ax:all[i]? =some o) {r:bd} {h:ae} {K:bd->ae->Prop} (aT:Out aw r) (H:(qA P aw all o).sB P r h K):
 ∀(rd:Option Nat) (az:Fr) E a w,hy E aw r a->ba az E h w->∀(Q:Exit->Act->World->Prop) (C:Act->World->Prop),
  (∀bb aa ay bk w',K bb aa->Out aw bb->bb eK=r eK->E.le ay->hy ay aw bb bk->ba az ay aa w'->C bk w')->wpOpIn (cc rd) 0 P all Q i C a w:=by
 intro rd az E a w k s Q C ye;unfold bs.sB at H
 split at H
 . rename_i x iN aG;have a7:qA P aw all o=⟨(qA P aw all o).dst,.mG x,none,(qA P aw all o).rs⟩:=by
    generalize qA P aw all o=z at iN aG;obtain ⟨bU,z2,z3,z4⟩:=z;simp only at iN aG;subst iN aG;rfl
   obtain ⟨it,av,aK,bF,bZ,df,hg,jv⟩:=ald a7;rw [<-bZ,<-df,<-aK] at H;obtain ⟨cQ,dM⟩:=x7 aT
   have nj:RegRel0 E aw (dp cQ (b4 all o)) a:=⟨k.size,fun t aE=>by
    rw [Gw jv aE];by_cases hm:t ∈ b4 all o
    . rw [apB hm];have:=congrFun dM t;simp only [ed] at this;rw [this];exact k.ak t (rH aE)
    . rw [apu hm];simp [Rel]⟩
   have ex:(bV it).run (dp cQ (b4 all o))=(rx it).aQ (r.trim (b4 all o)):=by rw [eW,zC,dM]
   rw [<-ex] at H;have hex:=ajc (P:=P) (ty:=o.type) s (dB nj it) H;clear a7 aG iN H ex nj bZ df jv;obtain ⟨dst,aj4,type,pos,after,guard⟩:=o;obtain ⟨v,aa,dL,eB⟩:=hex;simp only at av bF hg dL eB;subst av bF;simp only [wpOpIn,ax,Region.wanted,ap0];refine gd rfl eB fun ay b1 w' aj an aJ=>?_;exact ye _ _ ay _ w' dL (aT.set hg v) (Cv hg v) aj (k.put aj hg an) aJ
 . obtain ⟨v,U,aH,H1,cS⟩:=bs.Wb bK ax aT H;exact cS rd az E a w k s Q C fun ay x w' cg ck ek=>ye _ _ ay _ w' H1 (aT.set aH v) (Cv aH v) cg (k.put cg aH ck) ek
theorem P8 (bK:ep P) {all:Array Oper}:∀(l:List Oper) (i:Nat),(∀j,l[j]? =all[i+j]?)->∀(r:bd) (h:ae) (K:bd->ae->Prop),Out aw r->xU P (zl P aw all l) r h K->
 ∀(rd:Option Nat) (az:Fr) E a w,hy E aw r a->ba az E h w->∀Q:Exit->Act->World->Prop,
  (∀bb aa ay bk w',K bb aa->Out aw bb->bb eK=r eK->E.le ay->hy ay aw bb bk->ba az ay aa w'->Q .normal bk w')->wpOpsIn (cc rd) 0 P all Q (List.range' i l.length) a w
 | [],i,_,r,h,K,aT,H=>by intro rd az E a w k s Q cw;simp only [ap5,List.range'_zero,wpOpsIn];exact cw r h E a w H aT rfl (Env.le.refl E) k s
 | o::os,i,ar,r,h,K,aT,H=>by
   intro rd az E a w k s Q cw;have ax:all[i]? =some o:=by have:=ar 0;simpa using this.symm
   simp only [zl,xU] at H;rw [apz,List.range'_succ,wpOpsIn_cons];refine bs.abb bK ax aT H rd az E a w k s _ _ fun bb aa ay bk w' aj an aJ bE cO en=>?_
   exact P8 bK os (i+1) (fun j=>by
    have:=ar (j+1);simp only [aqq] at this;rw [this];congr 1
    omega) bb aa K an aj rd az ay bk w' cO en Q fun cG ab bM a2 bH bU z2 z3 z4 z5 kt=>cw cG ab bM a2 bH bU z2 (z3.trans aJ) (bE.trans z4) z5 kt
theorem aa7 (fr:aw<=top) (cJ:P.follows .mixedOrders=true) (bK:ep P):∀(c:Code) (r:bd) (h:ae) (Q:cP->bd->ae->Prop),(eF P aw c).plain=true->Out aw r->fT P (eF P aw c) r h Q->oy P aw c r h Q:=by
 intro c
 induction c with
 | region id ops draw=>
   intro r h Q dj aT H;cases draw with
   | true=>
     refine oy.of_wp fr cJ bK dj aT ?_;simp only [eF,apt,F6] at H ⊢;cases ah:(lA ops.size (uS P ops) (zd (uS P ops) 0 ops.toList)&&vS P ops (zd (uS P ops) 0 ops.toList))<;>rw [ah] at H<;>exact H
   | false=>
     simp only [eF,apA,fT] at H;intro rd az E a w aD k s de cw;refine wpIn_region ?_;have:=P8 bK ops.toList 0 (fun j=>by simp) r h _ aT H rd az E a w k s de fun bb aa ay bk w' bU z2 z3 z4 z5 kt=>cw .normal bb aa ay bk w' bU z2 z3 z4 z5 kt;rw [List.range_eq_range'];simpa using this
 | seq x y qh qi=>
   intro r h Q dj aT H;simp only [eF,fT] at H;simp only [eF,aX.plain,apn] at dj;intro rd az E a w aD k s de cw;refine wpIn_seq (qh r h _ dj.1 aT H rd az E a w (aD.imp (fun h=>h) fun h=>by simp only [noMark,apn] at h;exact h.1) k s _ fun e bb aa ay bk w' bU z2 z3 z4 z5 kt=>?_).wp;cases e with
   | normal=>
     exact (qi bb aa Q dj.2 z2 bU rd az ay bk w' (aD.imp (fun h=>h) fun h=>by simp only [noMark,apn] at h;exact h.2) z5 kt de fun aK cG ab bM a2 bH eR hc y3 y4 Mn y6=>cw aK cG ab bM a2 bH eR hc (y3.trans z3) (z4.trans y4) Mn y6).wp
   | exit i=>exact cw _ bb aa ay bk w' bU z2 z3 z4 z5 kt
   | ret=>exact cw _ bb aa ay bk w' bU z2 z3 z4 z5 kt
 | cond c x y qh qi=>
   intro r h Q dj aT H;simp only [eF,fT] at H;simp only [eF,aX.plain,apn] at dj;cases bA:(rx c).aQ r<;>rw [bA] at H<;>simp only at H<;>try (exact H.elim)
   rename_i t;have au:∀E a,hy E aw r a->a.eval c=.bool t:=by
    intro E a k;cases c with
    | tmp d=>
      simp only [rx] at bA;cases ah:Nat.ble d top with
      | false=>rw [ah] at bA;simp [aU.aQ] at bA
      | true=>
        rw [ah] at bA;simp only [apt,aU.aQ] at bA;have:=k.ak d (rH (ap4 ah));rw [bA] at this;simp only [Rel] at this;exact this
    | const v=>
      simp only [rx,aU.aQ] at bA;have:=ta E v;rw [bA] at this;simp only [Rel] at this;exact this
    | func f=>
      simp only [rx] at bA;cases ah:Nat.beq f dv<;>rw [ah] at bA<;>simp [aU.aQ] at bA
    | global g=>simp [rx,aU.aQ] at bA
   intro rd az E a w aD k s de cw;cases t with
   | true=>exact wpIn_cond_true (au E a k) (qh r h Q dj.1 aT (H.1 rfl) rd az E a w (aD.imp (fun h=>h) fun h=>by simp only [noMark,apn] at h;exact h.1) k s de cw).wp
   | false=>exact wpIn_cond_false (au E a k) (qi r h Q dj.2 aT (H.2 rfl) rd az E a w (aD.imp (fun h=>h) fun h=>by simp only [noMark,apn] at h;exact h.2) k s de cw).wp
 | block id x bh=>
   intro r h Q dj aT H;simp only [eF,fT] at H;simp only [eF,aX.plain] at dj;intro rd az E a w aD k s de cw;refine wpIn_block (bh r h _ dj aT H rd az E a w (aD.imp (fun h=>h) fun h=>h) k s _ fun e bb aa ay bk w' bU z2 z3 z4 z5 kt=>?_).wp;have:=cw _ bb aa ay bk w' bU z2 z3 z4 z5 kt;cases e with
   | normal=>exact this
   | ret=>exact this
   | exit i=>
     simp only [toExit,Exit.inBlock];simp only [cP.leave] at this;by_cases ax:i=id
     . rw [apB ax] at this ⊢;exact this
     . rw [apu ax] at this ⊢;exact this
 | loop x bh=>
   intro r h Q dj aT H;simp only [eF,fT] at H;simp only [eF,aX.plain] at dj;obtain ⟨I,μ,nX,J1⟩:=H;have key:∀n r h,μ r h=n->I r h->Out aw r->oy P aw (.loop x) r h Q:=by
    intro n
    induction n using Nat.strongRecOn with
    | _ n Kf=>
      intro r h aV nX aT rd az E a w aD k s de cw b cY cs kf;have:=(bh r h _ dj aT (J1 r h nX) rd az E a w (aD.imp (fun h=>h) fun h=>h) k s (fun c6 bk w'=>∃e a' U ay,c6=toExit e/\e.andThen (I a' U/\μ a' U<μ r h) (Q e a' U)/\Out aw a'/\a' eK=r eK/\E.le ay/\hy ay aw a' bk/\ba az ay U w') (fun e a' U ay bk w' bU z2 z3 z4 z5 kt=>⟨e,a',U,ay,rfl,bU,z2,z3,z4,z5,kt⟩)).wp b (.inLoop x::cY) cs kf trivial (F9 _);obtain ⟨aK,a2,bH,⟨e,a',U,bM,rfl,bU,z2,z3,z4,z5,kt⟩,iA⟩:=this;cases e with
      | normal=>
        obtain ⟨IV,aL⟩:=bU;obtain ⟨bF,a3,k6,eR,hc⟩:=Kf (μ a' U) (aV ▸ aL) a' U rfl IV z2 rd az bM a2 bH aD z5 kt de (fun bZ eg bq jK a4 hR t1 t2 t3 t4 t5 t6=>cw bZ eg bq jK a4 hR t1 t2 (t3.trans z3) (z4.trans t4) t5 t6) b cY cs kf;exact ⟨bF,a3,k6,eR,.of_steps (StepsIn.trans iA (.one (pS _) stepR_inLoop)) hc⟩
      | exit i=>exact ⟨.exit i,a2,bH,cw (.exit i) a' U bM a2 bH bU z2 z3 z4 z5 kt,.pass (x:=.inLoop x) rfl (fun _ _=>.inl (by simp)) iA⟩
      | ret=>exact ⟨.ret,a2,bH,cw .ret a' U bM a2 bH bU z2 z3 z4 z5 kt,.pass (x:=.inLoop x) rfl (fun _ _=>.inl (by simp)) iA⟩
   exact key _ r h rfl nX aT
 | scope x bh=>
   intro r h Q dj aT H rd az E a w aD k s de cw;refine LN (bh r h Q dj aT H rd az E a w (aD.imp (fun h=>h) fun h=>h) k s _ fun e bb aa ay bk w' bU z2 z3 z4 z5 kt=>?_).wp;have:=cw e bb aa ay bk w' bU z2 z3 z4 z5 kt;cases e<;>exact this
 | skip=>exact fun r h Q dj aT H=>oy.of_wp fr cJ bK dj aT H
 | label l=>exact fun r h Q dj aT H=>oy.of_wp fr cJ bK dj aT H
 | exit id=>exact fun r h Q dj aT H=>oy.of_wp fr cJ bK dj aT H
 | ret=>exact fun r h Q dj aT H=>oy.of_wp fr cJ bK dj aT H
 | rangeFunc f bn x y _ _=>
   intro r h Q dj aT H;refine oy.of_wp fr cJ bK dj aT ?_;simp only [eF] at H ⊢;cases ah:(tf aw bn.toList&&(noMark x&&noMark y))<;>rw [ah] at H<;>exact H
 | goto l=>exact fun r h Q dj aT H=>oy.of_wp fr cJ bK dj aT H
 | refuse Wa=>exact fun r h Q dj aT H=>oy.of_wp fr cJ bK dj aT H
end
end
section
open Go Go.RowKit
variable [Lay]
mutual
theorem Rel.back {E ay:Env} (h:E.le ay):∀(v:V) (a6 x:Value),Rel E v a6->Rel ay v x->Rel E v x
 | .bad,_,_,_,_=>by simp [Rel]
 | .bool b,_,_,_,aD=>by simpa [Rel] using aD
 | .int k n,_,_,_,aD=>by simpa [Rel] using aD
 | .str s,_,_,_,aD=>by simpa [Rel] using aD
 | .km,_,_,_,aD=>by simpa [Rel] using aD
 | .ptr b off,a6,x,aY,aD=>by simp only [Rel] at aY aD ⊢;obtain ⟨p,ai,_⟩:=aY;obtain ⟨q,aq,ao⟩:=aD;rw [h _ _ ai] at aq;cases aq;exact ⟨p,ai,ao⟩
 | .slice b off len cap,a6,x,aY,aD=>by simp only [Rel] at aY aD ⊢;obtain ⟨p,ai,_⟩:=aY;obtain ⟨q,aq,ao⟩:=aD;rw [h _ _ ai] at aq;cases aq;exact ⟨p,ai,ao⟩
 | .dW b off len idx,a6,x,aY,aD=>by simp only [Rel] at aY aD ⊢;obtain ⟨p,ai,_⟩:=aY;obtain ⟨q,aq,ao⟩:=aD;rw [h _ _ ai] at aq;cases aq;exact ⟨p,ai,ao⟩
 | .gb b off jE idx,_,_,_,aD=>by simpa [Rel] using aD
 | .bu,_,_,_,aD=>by simpa [Rel] using aD
 | .jW,_,_,_,aD=>by simpa [Rel] using aD
 | .map b,a6,x,aY,aD=>by simp only [Rel] at aY aD ⊢;obtain ⟨p,ai,_⟩:=aY;obtain ⟨q,aq,ao⟩:=aD;rw [h _ _ ai] at aq;cases aq;exact ⟨p,ai,ao⟩
 | .func f cs,a6,x,aY,aD=>by
   simp only [Rel] at aY aD ⊢;rcases aD with ⟨aB,a,ao,ar⟩ | ⟨aB,b,q,au,aq,ao⟩
   . rcases aY with ⟨_,a0,_,jR⟩ | ⟨Jg,_⟩
     . exact .inl ⟨aB,a,ao,bg.back h cs _ _ jR ar⟩
     . exact absurd Jg aB
   . rcases aY with ⟨Jg,_⟩ | ⟨_,mT,p,p1,ai,_⟩
     . exact absurd aB Jg
     . rw [au] at p1;simp only [aq9,V.ptr.injEq,arG] at p1;rw [<-p1] at ai;have e:q=p:=aqF (aq.symm.trans (h _ _ ai));rw [e] at ao;exact .inr ⟨aB,b,p,au,ai,ao⟩
 | .jB,_,_,_,aD=>by simpa [Rel] using aD
 | .l1 f cs,a6,x,aY,aD=>by simp only [Rel] at aY aD ⊢;obtain ⟨aB,a,ao,ar⟩:=aD;obtain ⟨_,a0,_,jR⟩:=aY;exact ⟨aB,a,ao,bg.back h cs _ _ jR ar⟩
 | .iface t v,a6,x,aY,aD=>by simp only [Rel] at aY aD ⊢;obtain ⟨y,ao,ar⟩:=aD;obtain ⟨anF,_,jR⟩:=aY;exact ⟨y,ao,Rel.back h v _ _ jR ar⟩
 | .nilIface,_,_,_,aD=>by simpa [Rel] using aD
 | .agg cs,a6,x,aY,aD=>by simp only [Rel] at aY aD ⊢;obtain ⟨a,ao,ar⟩:=aD;obtain ⟨a0,_,jR⟩:=aY;exact ⟨a,ao,bg.back h cs _ _ jR ar⟩
 | .tuple cs,a6,x,aY,aD=>by simp only [Rel] at aY aD ⊢;obtain ⟨a,ao,ar⟩:=aD;obtain ⟨a0,_,jR⟩:=aY;exact ⟨a,ao,bg.back h cs _ _ jR ar⟩
theorem bg.back {E ay:Env} (h:E.le ay):∀(af:List V) (lr l:List Value),bg E af lr->bg ay af l->bg E af l
 | [],_,_,_,aD=>by simpa [bg] using aD
 | v::af,lr,l,aY,aD=>by simp only [bg] at aY aD ⊢;obtain ⟨y,cu,rfl,U,ab⟩:=aD;obtain ⟨anF,apm,rfl,g1,g2⟩:=aY;exact ⟨y,cu,rfl,Rel.back h v _ _ g1 U,bg.back h af _ _ g2 ab⟩
end
theorem dq.back {E ay:Env} (h:E.le ay):∀(ms:List cb) (lr l:List MapEntry),dq E ms lr->dq ay ms l->dq E ms l
 | [],_,_,_,aD=>aD
 | m::ms,lr,l,aY,aD=>by obtain ⟨e,es,rfl,U,ab,aI,bq⟩:=aD;obtain ⟨c4,Iw,rfl,g1,g2,g3,g4⟩:=aY;exact ⟨e,es,rfl,Rel.back h _ _ _ g1 U,Rel.back h _ _ _ g2 ab,aI,dq.back h ms _ _ g4 bq⟩
theorem iI.back {E ay:Env} (h:E.le ay):∀(ms:List cb) (lr l:List MapEntry),iI E ms lr->iI ay ms l->iI E ms l
 | [],_,_,_,aD=>aD
 | m::ms,lr,l,aY,aD=>by obtain ⟨e,es,rfl,U,ab,bq⟩:=aD;obtain ⟨c4,Iw,rfl,g1,g2,g4⟩:=aY;exact ⟨e,es,rfl,Rel.back h _ _ _ g1 U,Rel.back h _ _ _ g2 ab,iI.back h ms _ _ g4 bq⟩
theorem fK.back {B:Nat} {E ay:Env} (h:E.le ay) {w w':World} {b:aO} {k:b'} (aY:fK B E w b k) (aD:fK B ay w' b k):fK B E w' b k:=by
 cases k with
 | dead=>trivial
 | cells n cs ct st=>
   obtain ⟨aV,p,c,el,b5,ai,cC,a7,aj,an,aJ,bE⟩:=aD;obtain ⟨_,td,pH,abg,abZ,gC,_,_,_,_,_,eg⟩:=aY;rw [h _ _ gC] at ai;cases ai;refine ⟨aV,p,c,el,b5,gC,cC,a7,aj,an,aJ,bE.1,fun i y ax a8=>?_⟩;have aL:p.base+i<pH.size:=by have:=eg.1;omega
   exact Rel.back h _ _ _ (eg.2 i pH[p.base+i] ax (by simp [aL])) (bE.2 i y ax a8)
 | view n cs=>
   obtain ⟨_,p,c,el,b5,ai,cC,a7,bE⟩:=aD;obtain ⟨_,td,pH,abg,abZ,gC,_,_,eg⟩:=aY;rw [h _ _ gC] at ai;cases ai;refine ⟨trivial,p,c,el,b5,gC,cC,a7,bE.1,fun i y ax a8=>?_⟩;have aL:p.base+i<pH.size:=by have:=eg.1;omega
   exact Rel.back h _ _ _ (eg.2 i pH[p.base+i] ax (by simp [aL])) (bE.2 i y ax a8)
 | iter s pos=>
   obtain ⟨p,ai,q⟩:=aD;obtain ⟨td,gC,_⟩:=aY;rw [h _ _ gC] at ai;cases ai;exact ⟨p,gC,q⟩
 | mp es clock=>
   obtain ⟨p,a,ai,cC,a7,q⟩:=aD;obtain ⟨td,a0,gC,_,_,r⟩:=aY;rw [h _ _ gC] at ai;cases ai;exact ⟨p,a,gC,cC,a7,dq.back h _ _ _ r q⟩
 | fz l=>
   obtain ⟨p,o,ai,cC,a7,aj,an,aJ,bE,cO,en,hO,zb,jl,akP⟩:=aD;obtain ⟨td,h4,gC,_,_,a',cG,b3,eg,bL,dI,dN,aoX,dk,dT⟩:=aY;rw [h _ _ gC] at ai;cases ai;rw [h _ _ dk] at jl;cases jl;exact ⟨p,o,gC,cC,a7,aj,an,aJ,bE,cO,en,fun t aE=>Rel.back h _ _ _ (dN t aE) (hO t aE),zb,dk,akP⟩
 | hC=>
   obtain ⟨p,ai,q⟩:=aD;obtain ⟨td,gC,_⟩:=aY;rw [h _ _ gC] at ai;cases ai;exact ⟨p,gC,q⟩
 | hM es=>
   obtain ⟨p,a,c,l,ai,cC,a7,q,ar⟩:=aD;obtain ⟨td,a0,pH,lr,gC,_,_,r,_⟩:=aY;rw [h _ _ gC] at ai;cases ai;exact ⟨p,a,c,l,gC,cC,a7,iI.back h _ _ _ r q,ar⟩
 | gR src since seen last=>
   obtain ⟨p,m,a,ai,cC,ah,a7,bw,q⟩:=aD;obtain ⟨td,m0,a0,gC,_,_,_,_,r⟩:=aY;rw [h _ _ gC] at ai;cases ai;refine ⟨p,m,a,gC,cC,ah,a7,bw,?_⟩;cases src with
   | none=>exact q
   | some c=>
     obtain ⟨z,bU,z2⟩:=q;obtain ⟨y,eR,hc⟩:=r;have e:z=y:=aqF (bU.symm.trans (h _ _ eR));rw [e] at z2;exact ⟨y,eR,z2⟩
theorem ba.aa6 {az:Fr} {E ay:Env} {h aa:ae} {w w':World} (s:ba az E h w) (gy:ba az ay aa w') (le:E.le ay) (x:Ext h aa):ba az E h w':=by
 refine ⟨fun b ah=>?_,s.oh,s.inj,s.fresh,gy.frame,gy.laid,s.base⟩;have aY:=s.aS b ah;by_cases aT:Old h b
 . have U:=gy.aS b ah;rw [x.get b aT] at U;exact fK.back le aY U
 . have aB:E b=none:=by
    have:=s.fresh (b0 b) (by unfold Old at aT;omega);rwa [uU] at this
   cases aA:h.get b with
   | dead=>trivial
   | cells n cs ct st=>
     rw [aA] at aY;obtain ⟨_,p,_,_,_,ai,_⟩:=aY;rw [aB] at ai;cases ai
   | view n cs=>
     rw [aA] at aY;obtain ⟨_,p,_,_,_,ai,_⟩:=aY;rw [aB] at ai;cases ai
   | iter _ _=>
     rw [aA] at aY;obtain ⟨p,ai,_⟩:=aY;rw [aB] at ai;cases ai
   | mp _ _=>
     rw [aA] at aY;obtain ⟨p,_,ai,_⟩:=aY;rw [aB] at ai;cases ai
   | fz _=>
     rw [aA] at aY;obtain ⟨p,_,ai,_⟩:=aY;rw [aB] at ai;cases ai
   | hC=>
     rw [aA] at aY;obtain ⟨p,ai,_⟩:=aY;rw [aB] at ai;cases ai
   | hM _=>
     rw [aA] at aY;obtain ⟨p,_,_,_,ai,_⟩:=aY;rw [aB] at ai;cases ai
   | gR _ _ _ _=>
     rw [aA] at aY;obtain ⟨p,_,_,ai,_⟩:=aY;rw [aB] at ai;cases ai
section
variable {P:Program}
theorem aaH (cJ:P.follows .mixedOrders=true) (bK:ep P) {f:FuncId} {fn:Func} {c:Code} {args:List V} {h:ae} {v:Bool} (aB:P.funcs[f]? =some fn) (ah:fn.body=some c)
 (fr:Nat.ble fn.ntmps top=true) (a8:Nat.beq f dv=false) (lL:Nat.ble args.length fn.ntmps=true) {rc:aX} {eG:List tO} (Bp:eF P fn.ntmps c=rc) (wJ:om P fn.ntmps fn.results.toList=eG) (dj:rc.plain=true)
 (H:fT P rc (bd.bT args) h fun e r aa=>e.ends/\Ext h aa/\lf r aa eG=some [.bool v]):eZ P f args h (.bool v) h:=by
 subst Bp wJ;rw [apF] at fr lL;have aT:Out fn.ntmps (bd.bT args):=by intro t aE _;rw [wZ,apS (by omega)];rfl
 have lR:(bd.bT args) eK=.bad:=by rw [wZ,apS (by unfold eK;unfold top at fr;omega)];rfl
 have I8:=aa7 fr cJ bK c _ h _ dj aT H;have hZ:f≠dv:=fun e=>by subst e;simp at a8
 refine ⟨hZ,.inl ⟨⟨fn,aB,by rw [ah];rfl⟩,fun az E w xs ao s=>?_⟩⟩;have hlen:=ao.length;have cn:xs.toArray.size<=fn.ntmps:=by simp;omega
 refine sz.1 (callsIn_of_wp_marks (F:=cc none) (n:=0) aB ah trivial ?_);have k:hy E fn.ntmps (bd.bT args) {tmps:=xs.toArray++Array.replicate (fn.ntmps-xs.toArray.size) undef,defers:=[]}:=by
  refine ⟨by simp;omega,by rw [lR];simp [lE],fun t _=>?_⟩;rw [wZ];cases aG:args[t]? with
  | none=>simp [Rel]
  | some v=>
    obtain ⟨y,a8,aD⟩:=ao.get t v aG;simp only [aqe];have o6:t<xs.length:=(apL.1 a8).1;rw [apO,ara (by simpa using o6)];simp only [List.getElem?_toArray,a8,aqe];exact aD
 have kI:zP P (fun _ _ _ _=>.fail):=fun f args u h e7 aa he=>by cases he
 refine (I8 none az E _ w (.inl rfl) k s _ fun e bb aa ay bk w' aq qa gj aj an aJ=>?_).wp;obtain ⟨gg,adF,A5⟩:=aq;have fin:LeavesInM (cc none) 0 P fn bk.tmps (fun e w'=>∃ay x,e=.returned x/\E.le ay/\Rel ay (.bool v) x/\ba az ay h w') bk.defers .returning w':=by
  obtain ⟨cQ,dM⟩:=x7 qa;have aH:T.get .bad eU cQ=bb eK:=by have:=congrFun dM eK;simp only [ed] at this;exact this
  have aA:fo ay fn.ntmps cQ bk:=⟨⟨an.size,fun t aE=>by
   have:=congrFun dM t;simp only [ed] at this;rw [this]
   exact an.ak t (rH aE)⟩,by rw [aH];exact an.defers⟩
  refine D_ (C:=⟨P,fun _=>none,fun _=>none⟩) (u:=none) bK kI aA rfl aJ ?_;rw [aH,gj,lR];simp only [V.list,mD,finish];rw [AN dM A5];exact fun bM x bH cg ck ek=>⟨E,x,rfl,Env.le.refl E,by simp only [oneOf,Rel] at ck ⊢;exact ck,s.aa6 ek (aj.trans cg) adF⟩
 cases e with
 | normal=>exact fin
 | ret=>exact fin
 | exit i=>exact gg.elim
end
end
end Go.Proofs.YtgmhjhgoamjeeaaGreatDoor.aZ
