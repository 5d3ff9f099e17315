/- The abstract machine and its walks (a verified interpreter of the model's code: plain definitions and lemmas, no condition). Printed by a program from longer texts: names made short. -/
import Derived.Test.YtgmhjhgoamjeeaaGreatDoorM4
set_option linter.unusedSectionVars false
set_option linter.unusedSimpArgs false
set_option linter.unusedVariables false
set_option maxHeartbeats 64000000
noncomputable section
namespace Go.Proofs.YtgmhjhgoamjeeaaGreatDoor.aX
section
open Go Go.RowKit
variable [Lay]
section
variable {P:Program}
def C9 (it:V) (h:ae) (K:V->ae->Prop):Prop:=
 ∃b since seen last c es clock,it=.ptr b 0/\h.get b=.gD (some c) since seen last/\h.get c=.mp es clock/\(∀m ∈ es,m.born<since)/\
  (!seen.isEmpty&&(!es.isEmpty&&qI last es))=false/\(leftOf seen es=[]->K (.tuple [.bool false]) h)/\
  ∀m ∈ leftOf seen es,K (.tuple [.bool true,m.k,m.v]) (h.set b (.gD (some c) since (m.born::seen) clock))
theorem BO {seen:List Nat}:∀{es:List b3} {m:b3},m ∈ leftOf seen es->m ∈ es
 | [],m,h=>by simp [leftOf] at h
 | x::xs,m,h=>by
   simp only [leftOf] at h;cases ah:pK seen x.born<;>rw [ah] at h
   . simp only [apA,apJ] at h;rcases h with rfl | h
     . exact aqb
     . exact apZ _ (BO h)
   . exact apZ _ (BO h)
theorem dm.at {E:Env}:∀{ms:List b3} {l:List MapEntry},dm E ms l->∀{i:Nat} {e:MapEntry},l[i]? =some e->∃m,ms[i]? =some m/\Rel E m.k e.key/\Rel E m.v e.val/\e.born=m.born
 | [],l,h,i,e,he=>by simp only [dm] at h;subst h;simp at he
 | m::ms,l,h,i,e,he=>by
   obtain ⟨cC,es,rfl,aa,ad,aJ,bu⟩:=h;cases i with
   | zero=>simp only [apK,aps] at he;subst he;exact ⟨m,rfl,aa,ad,aJ⟩
   | succ i=>simp only [aqr] at he;obtain ⟨dj,ak,al⟩:=dm.at bu he;exact ⟨dj,by simpa using ak,al⟩
theorem dm.len {E:Env}:∀{ms:List b3} {l:List MapEntry},dm E ms l->l.length=ms.length
 | [],l,h=>by simp only [dm] at h;subst h;rfl
 | m::ms,l,h=>by obtain ⟨cC,es,rfl,aa,ad,aJ,bu⟩:=h;simp [dm.len bu]
theorem ajf {ay:Fr} {E:Env} {h:ae} {w:World} (s:a8 ay E h w) {x:V} {X:Value} {ty:TypeId} (aj:Rel E x X) {K:V->ae->Prop} (H:C9 x h K):
 ∃v ab,K v ab/\c' ay P E w (Instr.next X false ty) v ab:=by
 obtain ⟨b,since,seen,last,c,es,clock,rfl,aG,A9,hold,ao,ac0,dE⟩:=H;have ah:=s.at (p:=_) (by simp only [Rel] at aj;exact aj.choose_spec.1);rw [aG] at ah;obtain ⟨p,m,a,af,cD,k7,a',bt,iB⟩:=ah;simp only [Rel] at aj;obtain ⟨q,az,rfl⟩:=aj;rw [af] at az;cases az;have cm:(getObj p.aW).run P w=.ok (.mapIter m since a last) w:=by simp only [getObj,Sem.run,a']
 simp only [tI] at iB;obtain ⟨o5,mb,rfl⟩:=iB;have pM:=s.at mb;rw [A9] at pM;obtain ⟨q,h1,g1,_,g3,g4⟩:=pM;rw [mb] at g1;cases g1;have vU:(getObj o5.aW).run P w=.ok (.map h1 clock) w:=by simp only [getObj,Sem.run,g3]
 have aK:a.isEmpty=seen.isEmpty:=by
  have:a.toList.isEmpty=seen.reverse.isEmpty:=by rw [bt]
  simpa using this
 have aS:h1.isEmpty=es.isEmpty:=by
  cases es with
  | nil=>simp only [dm] at g4;have:h1=#[]:=ard.1 g4
         simp [this]
  | cons y cp=>obtain ⟨e,l,aA,_⟩:=g4;have:h1.toList.isEmpty=false:=by rw [aA];rfl
               simpa using this
 have bU:h1.all (fun e=>decide (e.born>=last))=qI last es:=by rw [<-Hs es _ g4,Array.all_toList]
 have A3:(!a.isEmpty&&!h1.isEmpty&&h1.all (fun e=>decide (e.born>=last)))=false:=by rw [aK,aS,bU,Bool.and_assoc];exact ao
 have pR:=Kx (E:=E) bt es _ g4;have A7:(h1.filter fun e=>!a.contains e.born).toList=h1.toList.filter fun e=>!a.contains e.born:=by simp
 rw [<-A7] at pR;generalize hD:(h1.filter fun e=>!a.contains e.born)=F at pR A7;have Rh:∀e ∈ F.toList,e.born<since:=by intro e he;obtain ⟨i,ax⟩:=List.getElem?_of_mem he;obtain ⟨lO,ak,_,_,bB⟩:=dm.at pR ax;rw [bB];exact hold _ (BO (apY ak))
 have acV:F.filter (fun x=>decide (x.born<since))=F:=by apply ard.1;rw [Array.toList_filter,List.filter_eq_self];intro e he;simpa using Rh e he
 have AV:F.filter (fun x=>decide (x.born>=since))=#[]:=by apply ard.1;rw [Array.toList_filter,List.filter_eq_nil_iff];intro e he;have:=Rh e he;simp;omega
 by_cases bk:F=#[]
 . subst bk;have aA:leftOf seen es=[]:=by
    have:=pR.len;simp at this;exact aqe this.symm
   refine ⟨_,h,ac0 aA,c'.plain (Z:=.tuple #[.bool false]) s ?_ ?_⟩
   . simp only [Instr.next,k7,Sem.run_bind,cm,Result.andThen_ok,vU,A3,apH,ap9,hD,Sem.run_pure];simp [choose,Sem.run,Question.forced]
   . simp only [Rel,bf];exact ⟨_,rfl,_,_,rfl,rfl,rfl⟩
 . have cq:0<F.size:=by
    rcases Nat.eq_zero_or_pos F.size with e | e
    . exact absurd (Array.eq_empty_of_size_eq_zero e) bk
    . exact e
   have adF:F.isEmpty=false:=by simpa using bk
   obtain ⟨i,bW,k8,ax,yn⟩:∃i bW,(choose (.mapNext F.size)).run P w=.ok i bW/\i<F.size/\bW.heap=w.heap/\bW.os=w.os/\bW.tape=w.tape/\bW.output=w.output:=by
    simp only [choose,Sem.run]
    split
    . exact ⟨0,w,rfl,cq,rfl,rfl,rfl,rfl⟩
    . exact ⟨_,_,rfl,Nat.mod_lt _ cq,rfl,rfl,rfl,rfl⟩
   obtain ⟨ak,al,aI,bB⟩:=yn;have s1:a8 ay E h bW:=s.same ak al aI bB;have acW:F.toList[i]? =some F[i]:=by simp
   obtain ⟨lO,bM,dc,ct,cL⟩:=dm.at pR acW;have ud:lO ∈ leftOf seen es:=apY bM;refine ⟨_,_,dE lO ud,?_⟩
   let b2:Obj:=.mapIter (some o5.aW) since (a.push F[i].born) clock
   let w':World:={bW with heap:=bW.heap.setIfInBounds p.aW b2}
   have q6:bW.heap[p.aW]? =some (.mapIter (some o5.aW) since a last):=by rw [ak];exact a'
   have kE:=(apt.1 q6).1;have pZ:(setObj p.aW b2).run P bW=.ok () w':=by simp only [setObj,Sem.run,q6];rfl
   refine ⟨.tuple #[.bool true,F[i].key,F[i].val],w',E,?_,Env.le.refl E,?_,s1.set (p:=p) (by rw [aG];rfl) af cD (by simp [w']) (fun j bp=>?_) rfl rfl rfl (fun _ _ _ e=>by cases e) ?_⟩
   . simp only [Instr.next,k7,Sem.run_bind,cm,Result.andThen_ok,vU,A3,apH,ap9,hD,Sem.run_pure];have aeE:(F.map some).size=F.size:=by simp
     have adM:(F.map some)[i]? =some (some F[i]):=by simp [ax]
     simp only [acV,AV,adF,apH,ap9,Array.append_empty,Array.empty_append,aeE,k8,Result.andThen_ok,adM];rw [Sem.run_bind,pZ];rfl
   . simp only [Rel,bf];exact ⟨_,rfl,_,_,rfl,rfl,_,_,rfl,dc,_,_,rfl,ct,rfl⟩
   . simp only [w',apI];rw [apw (fun e=>bp e.symm)]
   . exact ⟨p,some o5.aW,a.push F[i].born,af,cD,k7,by simp [w',kE,b2],by simp [bt,cL],o5,mb,rfl⟩
end
def bw.sl (P:Program) (o:bw) (r:bc) (h:ae) (K:bc->ae->Prop):Prop:=
 match o.QO,o.g with
 | none,.lS x=>C9 (x.aP (r.trim o.rs)) h fun v ab=>K (r.set o.dst v) ab
 | _,_=>o.wp P r h fun a_ _ ab=>K a_ ab
def xT (P:Program):List bw->bc->ae->(bc->ae->Prop)->Prop
 | [],r,h,K=>K r h
 | o::os,r,h,K=>o.sl P r h fun a_ ab=>xT P os a_ ab K
def fa (P:Program):a1->bc->ae->(cO->bc->ae->Prop)->Prop
 | .au ops,r,h,Q=>xT P ops r h (Q .normal)
 | .seq a b,r,h,Q=>fa P a r h fun e a_ ab=>e.andThen (fa P b a_ ab Q) (Q e a_ ab)
 | .cond c a b,r,h,Q=>match c.aP r with
   | .bool t=>(t=true->fa P a r h Q)/\(t=false->fa P b r h Q)
   | _=>False
 | .block id b,r,h,Q=>fa P b r h fun e a_ ab=>Q (e.leave id) a_ ab
 | .loop b,r,h,Q=>∃(I:bc->ae->Prop) (μ:bc->ae->Nat),I r h/\∀r h,I r h->fa P b r h fun e a_ ab=>e.andThen (I a_ ab/\μ a_ ab<μ r h) (Q e a_ ab)
 | rc,r,h,Q=>e7 P rc r h Q
def oe (P:Program) (aq:Nat) (c:Code) (r:bc) (h:ae) (Q:cO->bc->ae->Prop):Prop:=
 ∀(rd:Option Nat) (ay:Fr) E a w,(rd=none\/noMark c=true)->hg E aq r a->a8 ay E h w->∀de:Exit->Act->World->Prop,
  (∀e a_ ab ar bl w',Q e a_ ab->Out aq a_->a_ ey=r ey->E.le ar->hg ar aq a_ bl->a8 ay ar ab w'->de (toExit e) bl w')->CD rd P c de a w
section
variable {P:Program} {aq:Nat}
theorem oe.of_wp (fb:aq<=top) (cJ:P.follows .mixedOrders=true) (bE:ec P) {c:Code} {r:bc} {h:ae} {Q:cO->bc->ae->Prop} (db:(er P aq c).plain=true) (aU:Out aq r) (H:e7 P (er P aq c) r h Q):oe P aq c r h Q:=by obtain ⟨e,a_,ab,ak,al,aI⟩:=VV fb cJ bE c r h Q aU H;exact fun rd ay E a w aC k s de cy=>aI rd ay E a w aC k s de fun ar bl w' bJ z2 z3=>cy e a_ ab ar bl w' ak al.1 (al.2 db) bJ z2 z3
theorem ak8 {op:Op} {x:aT} (h:uR P op=.lS x):∃it,op=.next it false/\rx it=x:=by
 cases op
 case next it st=>
  cases st
  . simp only [uR,apA,G.lS.injEq] at h;exact ⟨it,rfl,h⟩
  . simp only [uR,apu] at h;cases h
 all_goals exfalso
 all_goals simp only [uR] at h
 all_goals first
  | (cases h;done)
  | skip
 all_goals (try unfold Lx at h)
 all_goals (try unfold LB at h)
 all_goals (try unfold F' at h)
 all_goals (repeat' (split at h))
 all_goals first
  | (cases h;done)
  | (simp only [cond] at h;(repeat' (split at h))<;>first | (cases h;done) | contradiction)
  | (cases h;contradiction)
  | (simp_all;done)
theorem ak' {all:Array Oper} {o:Oper} {d:Option Nat} {x:aT} {rs:List Nat} (h:ql P aq all o=⟨d,.lS x,none,rs⟩):
 ∃it,o.op=.next it false/\rx it=x/\o.guard=none/\o.dst=d/\bY all o=rs/\eI aq o.dst=true/\iD (bY all o)=true:=by
 have key:rD P aq all o=⟨d,.lS x,none,rs⟩:=by
  rcases UP P aq all o with e | ⟨op,t,y,z,u,neg,aK,aS,bU,b9,dP,gV⟩
  . rw [<-e];exact h
  . rw [gV] at h;cases h
 unfold rD at key;cases ao:(eI aq o.dst&&iD (bY all o)) with
 | false=>rw [ao] at key;cases key
 | true=>
   rw [ao] at key;simp only [apu] at key;simp only [apq] at ao;cases aG:o.guard with
   | none=>
     rw [aG] at key;simp only [bw.mk.injEq] at key;obtain ⟨b7,cj,_,hH⟩:=key;obtain ⟨it,ak,al⟩:=ak8 cj;exact ⟨it,ak,al,rfl,b7,hH,ao.1,ao.2⟩
   | some nV=>
     obtain ⟨j,want⟩:=nV;rw [aG] at key;simp only at key;exfalso;cases bp:all[j]? <;>rw [bp] at key<;>simp only at key
     . cases key
     . rename_i g;cases aH:g.dst<;>rw [aH] at key<;>simp only at key
       . cases key
       . simp only [cond] at key
         split at key
         . simp only [bw.mk.injEq] at key;exact absurd key.2.2.1 (by simp)
         . cases key
theorem bw.aaQ (bE:ec P) {all:Array Oper} {o:Oper} {i:Nat} (ax:all[i]? =some o) {r:bc} {h:ae} {K:bc->ae->Prop} (aU:Out aq r) (H:(ql P aq all o).sl P r h K):
 ∀(rd:Option Nat) (ay:Fr) E a w,hg E aq r a->a8 ay E h w->∀(Q:Exit->Act->World->Prop) (C:Act->World->Prop),
  (∀a_ ab ar bl w',K a_ ab->Out aq a_->a_ ey=r ey->E.le ar->hg ar aq a_ bl->a8 ay ar ab w'->C bl w')->wpOpIn (b4 rd) 0 P all Q i C a w:=by
 intro rd ay E a w k s Q C yd;unfold bw.sl at H
 split at H
 . rename_i x iA aG;have a':ql P aq all o=⟨(ql P aq all o).dst,.lS x,none,(ql P aq all o).rs⟩:=by
    generalize ql P aq all o=z at iA aG;obtain ⟨bJ,z2,z3,z4⟩:=z;simp only at iA aG;subst iA aG;rfl
   obtain ⟨it,aK,aS,bU,b9,dP,gV,k2⟩:=ak' a';rw [<-b9,<-dP,<-aS] at H;obtain ⟨cP,dN⟩:=x3 aU
   have jK:RegRel0 E aq (dk cP (bY all o)) a:=⟨k.size,fun t aE=>by
    rw [GC k2 aE];by_cases hm:t ∈ bY all o
    . rw [apz hm];have:=congrFun dN t;simp only [dW] at this;rw [this];exact k.au t (rq aE)
    . rw [apw hm];simp [Rel]⟩
   have ex:(bS it).run (dk cP (bY all o))=(rx it).aP (r.trim (bY all o)):=by rw [eJ,zy,dN]
   rw [<-ex] at H;have hex:=ajf (P:=P) (ty:=o.type) s (dx jK it) H;clear a' aG iA H ex jK b9 dP k2;obtain ⟨dst,aj7,type,pos,after,guard⟩:=o;obtain ⟨v,ab,dE,dX⟩:=hex;simp only at aK bU gV dE dX;subst aK bU;simp only [wpOpIn,ax,Region.wanted,ap3];refine fL rfl dX fun ar cd w' ak al aI=>?_;exact yd _ _ ar _ w' dE (aU.set gV v) (Cs gV v) ak (k.put ak gV al) aI
 . obtain ⟨v,aa,aH,H1,cR⟩:=bw.VT bE ax aU H;exact cR rd ay E a w k s Q C fun ar x w' cc cx eF=>yd _ _ ar _ w' H1 (aU.set aH v) (Cs aH v) cc (k.put cc aH cx) eF
theorem PV (bE:ec P) {all:Array Oper}:∀(l:List Oper) (i:Nat),(∀j,l[j]? =all[i+j]?)->∀(r:bc) (h:ae) (K:bc->ae->Prop),Out aq r->xT P (zi P aq all l) r h K->
 ∀(rd:Option Nat) (ay:Fr) E a w,hg E aq r a->a8 ay E h w->∀Q:Exit->Act->World->Prop,
  (∀a_ ab ar bl w',K a_ ab->Out aq a_->a_ ey=r ey->E.le ar->hg ar aq a_ bl->a8 ay ar ab w'->Q .normal bl w')->wpOpsIn (b4 rd) 0 P all Q (List.range' i l.length) a w
 | [],i,_,r,h,K,aU,H=>by intro rd ay E a w k s Q cy;simp only [ap_,List.range'_zero,wpOpsIn];exact cy r h E a w H aU rfl (Env.le.refl E) k s
 | o::os,i,aA,r,h,K,aU,H=>by
   intro rd ay E a w k s Q cy;have ax:all[i]? =some o:=by have:=aA 0;simpa using this.symm
   simp only [zi,xT] at H;rw [apB,List.range'_succ,wpOpsIn_cons];refine bw.aaQ bE ax aU H rd ay E a w k s _ _ fun a_ ab ar bl w' ak al aI bB cG ef=>?_
   exact PV bE os (i+1) (fun j=>by
    have:=aA (j+1);simp only [aqr] at this;rw [this];congr 1
    omega) a_ ab K al ak rd ay ar bl w' cG ef Q fun dc ad bA a2 bx bJ z2 z3 z4 z5 kk=>cy dc ad bA a2 bx bJ z2 (z3.trans aI) (bB.trans z4) z5 kk
theorem aaP (fb:aq<=top) (cJ:P.follows .mixedOrders=true) (bE:ec P):∀(c:Code) (r:bc) (h:ae) (Q:cO->bc->ae->Prop),(er P aq c).plain=true->Out aq r->fa P (er P aq c) r h Q->oe P aq c r h Q:=by
 intro c
 induction c with
 | region id ops draw=>
   intro r h Q db aU H;cases draw with
   | true=>
     refine oe.of_wp fb cJ bE db aU ?_;simp only [er,apu,F_] at H ⊢;cases ah:(lp ops.size (uJ P ops) (y_ (uJ P ops) 0 ops.toList)&&vw P ops (y_ (uJ P ops) 0 ops.toList))<;>rw [ah] at H<;>exact H
   | false=>
     simp only [er,apA,fa] at H;intro rd ay E a w aC k s de cy;refine wpIn_region ?_;have:=PV bE ops.toList 0 (fun j=>by simp) r h _ aU H rd ay E a w k s de fun a_ ab ar bl w' bJ z2 z3 z4 z5 kk=>cy .normal a_ ab ar bl w' bJ z2 z3 z4 z5 kk;rw [List.range_eq_range'];simpa using this
 | seq x y p2 p3=>
   intro r h Q db aU H;simp only [er,fa] at H;simp only [er,a1.plain,apq] at db;intro rd ay E a w aC k s de cy;refine wpIn_seq (p2 r h _ db.1 aU H rd ay E a w (aC.imp (fun h=>h) fun h=>by simp only [noMark,apq] at h;exact h.1) k s _ fun e a_ ab ar bl w' bJ z2 z3 z4 z5 kk=>?_).wp;cases e with
   | normal=>
     exact (p3 a_ ab Q db.2 z2 bJ rd ay ar bl w' (aC.imp (fun h=>h) fun h=>by simp only [noMark,apq] at h;exact h.2) z5 kk de fun aS dc ad bA a2 bx dz fo y3 y4 Mh y6=>cy aS dc ad bA a2 bx dz fo (y3.trans z3) (z4.trans y4) Mh y6).wp
   | exit i=>exact cy _ a_ ab ar bl w' bJ z2 z3 z4 z5 kk
   | ret=>exact cy _ a_ ab ar bl w' bJ z2 z3 z4 z5 kk
 | cond c x y p2 p3=>
   intro r h Q db aU H;simp only [er,fa] at H;simp only [er,a1.plain,apq] at db;cases bs:(rx c).aP r<;>rw [bs] at H<;>simp only at H<;>try (exact H.elim)
   rename_i t;have ao:∀E a,hg E aq r a->a.eval c=.bool t:=by
    intro E a k;cases c with
    | tmp d=>
      simp only [rx] at bs;cases ah:Nat.ble d top with
      | false=>rw [ah] at bs;simp [aT.aP] at bs
      | true=>
        rw [ah] at bs;simp only [apu,aT.aP] at bs;have:=k.au d (rq (ap5 ah));rw [bs] at this;simp only [Rel] at this;exact this
    | const v=>
      simp only [rx,aT.aP] at bs;have:=s0 E v;rw [bs] at this;simp only [Rel] at this;exact this
    | func f=>
      simp only [rx] at bs;cases ah:Nat.beq f dr<;>rw [ah] at bs<;>simp [aT.aP] at bs
    | global g=>simp [rx,aT.aP] at bs
   intro rd ay E a w aC k s de cy;cases t with
   | true=>exact wpIn_cond_true (ao E a k) (p2 r h Q db.1 aU (H.1 rfl) rd ay E a w (aC.imp (fun h=>h) fun h=>by simp only [noMark,apq] at h;exact h.1) k s de cy).wp
   | false=>exact wpIn_cond_false (ao E a k) (p3 r h Q db.2 aU (H.2 rfl) rd ay E a w (aC.imp (fun h=>h) fun h=>by simp only [noMark,apq] at h;exact h.2) k s de cy).wp
 | block id x bb=>
   intro r h Q db aU H;simp only [er,fa] at H;simp only [er,a1.plain] at db;intro rd ay E a w aC k s de cy;refine wpIn_block (bb r h _ db aU H rd ay E a w (aC.imp (fun h=>h) fun h=>h) k s _ fun e a_ ab ar bl w' bJ z2 z3 z4 z5 kk=>?_).wp;have:=cy _ a_ ab ar bl w' bJ z2 z3 z4 z5 kk;cases e with
   | normal=>exact this
   | ret=>exact this
   | exit i=>
     simp only [toExit,Exit.inBlock];simp only [cO.leave] at this;by_cases ax:i=id
     . rw [apz ax] at this ⊢;exact this
     . rw [apw ax] at this ⊢;exact this
 | loop x bb=>
   intro r h Q db aU H;simp only [er,fa] at H;simp only [er,a1.plain] at db;obtain ⟨I,μ,nK,JT⟩:=H;have key:∀n r h,μ r h=n->I r h->Out aq r->oe P aq (.loop x) r h Q:=by
    intro n
    induction n using Nat.strongRecOn with
    | _ n J_=>
      intro r h aV nK aU rd ay E a w aC k s de cy b cT cs j9;have:=(bb r h _ db aU (JT r h nK) rd ay E a w (aC.imp (fun h=>h) fun h=>h) k s (fun cC bl w'=>∃e bM aa ar,cC=toExit e/\e.andThen (I bM aa/\μ bM aa<μ r h) (Q e bM aa)/\Out aq bM/\bM ey=r ey/\E.le ar/\hg ar aq bM bl/\a8 ay ar aa w') (fun e bM aa ar bl w' bJ z2 z3 z4 z5 kk=>⟨e,bM,aa,ar,rfl,bJ,z2,z3,z4,z5,kk⟩)).wp b (.inLoop x::cT) cs j9 trivial (Ge _);obtain ⟨aS,a2,bx,⟨e,bM,aa,bA,rfl,bJ,z2,z3,z4,z5,kk⟩,ib⟩:=this;cases e with
      | normal=>
        obtain ⟨IJ,aR⟩:=bJ;obtain ⟨bU,a3,np,dz,fo⟩:=J_ (μ bM aa) (aV ▸ aR) bM aa rfl IJ z2 rd ay bA a2 bx aC z5 kk de (fun b9 cL bu u9 a4 i' t1 t2 t3 t4 t5 t6=>cy b9 cL bu u9 a4 i' t1 t2 (t3.trans z3) (z4.trans t4) t5 t6) b cT cs j9;exact ⟨bU,a3,np,dz,.of_steps (StepsIn.trans ib (.one (pH _) stepR_inLoop)) fo⟩
      | exit i=>exact ⟨.exit i,a2,bx,cy (.exit i) bM aa bA a2 bx bJ z2 z3 z4 z5 kk,.pass (x:=.inLoop x) rfl (fun _ _=>.inl (by simp)) ib⟩
      | ret=>exact ⟨.ret,a2,bx,cy .ret bM aa bA a2 bx bJ z2 z3 z4 z5 kk,.pass (x:=.inLoop x) rfl (fun _ _=>.inl (by simp)) ib⟩
   exact key _ r h rfl nK aU
 | scope x bb=>
   intro r h Q db aU H rd ay E a w aC k s de cy;refine LK (bb r h Q db aU H rd ay E a w (aC.imp (fun h=>h) fun h=>h) k s _ fun e a_ ab ar bl w' bJ z2 z3 z4 z5 kk=>?_).wp;have:=cy e a_ ab ar bl w' bJ z2 z3 z4 z5 kk;cases e<;>exact this
 | skip=>exact fun r h Q db aU H=>oe.of_wp fb cJ bE db aU H
 | label l=>exact fun r h Q db aU H=>oe.of_wp fb cJ bE db aU H
 | exit id=>exact fun r h Q db aU H=>oe.of_wp fb cJ bE db aU H
 | ret=>exact fun r h Q db aU H=>oe.of_wp fb cJ bE db aU H
 | rangeFunc f bn x y _ _=>
   intro r h Q db aU H;refine oe.of_wp fb cJ bE db aU ?_;simp only [er] at H ⊢;cases ah:(s6 aq bn.toList&&(noMark x&&noMark y))<;>rw [ah] at H<;>exact H
 | goto l=>exact fun r h Q db aU H=>oe.of_wp fb cJ bE db aU H
 | refuse VS=>exact fun r h Q db aU H=>oe.of_wp fb cJ bE db aU H
end
end
section
open Go Go.RowKit
variable [Lay]
mutual
theorem Rel.back {E ar:Env} (h:E.le ar):∀(v:V) (bm x:Value),Rel E v bm->Rel ar v x->Rel E v x
 | .bad,_,_,_,_=>by simp [Rel]
 | .bool b,_,_,_,aC=>by simpa [Rel] using aC
 | .int k n,_,_,_,aC=>by simpa [Rel] using aC
 | .str s,_,_,_,aC=>by simpa [Rel] using aC
 | .kb,_,_,_,aC=>by simpa [Rel] using aC
 | .ptr b off,bm,x,aY,aC=>by simp only [Rel] at aY aC ⊢;obtain ⟨p,af,_⟩:=aY;obtain ⟨q,az,aj⟩:=aC;rw [h _ _ af] at az;cases az;exact ⟨p,af,aj⟩
 | .slice b off len cap,bm,x,aY,aC=>by simp only [Rel] at aY aC ⊢;obtain ⟨p,af,_⟩:=aY;obtain ⟨q,az,aj⟩:=aC;rw [h _ _ af] at az;cases az;exact ⟨p,af,aj⟩
 | .eh b off len idx,bm,x,aY,aC=>by simp only [Rel] at aY aC ⊢;obtain ⟨p,af,_⟩:=aY;obtain ⟨q,az,aj⟩:=aC;rw [h _ _ af] at az;cases az;exact ⟨p,af,aj⟩
 | .gI b off kL idx,_,_,_,aC=>by simpa [Rel] using aC
 | .bg,_,_,_,aC=>by simpa [Rel] using aC
 | .jM,_,_,_,aC=>by simpa [Rel] using aC
 | .map b,bm,x,aY,aC=>by simp only [Rel] at aY aC ⊢;obtain ⟨p,af,_⟩:=aY;obtain ⟨q,az,aj⟩:=aC;rw [h _ _ af] at az;cases az;exact ⟨p,af,aj⟩
 | .func f cs,bm,x,aY,aC=>by
   simp only [Rel] at aY aC ⊢;rcases aC with ⟨av,a,aj,aA⟩ | ⟨av,b,q,ao,az,aj⟩
   . rcases aY with ⟨_,a0,_,j6⟩ | ⟨I9,_⟩
     . exact .inl ⟨av,a,aj,bf.back h cs _ _ j6 aA⟩
     . exact absurd I9 av
   . rcases aY with ⟨I9,_⟩ | ⟨_,ow,p,nN,af,_⟩
     . exact absurd av I9
     . rw [ao] at nN;simp only [ary,V.ptr.injEq,and_true] at nN;rw [<-nN] at af;have e:q=p:=aqB (az.symm.trans (h _ _ af));rw [e] at aj;exact .inr ⟨av,b,p,ao,af,aj⟩
 | .kJ,_,_,_,aC=>by simpa [Rel] using aC
 | .lN f cs,bm,x,aY,aC=>by simp only [Rel] at aY aC ⊢;obtain ⟨av,a,aj,aA⟩:=aC;obtain ⟨_,a0,_,j6⟩:=aY;exact ⟨av,a,aj,bf.back h cs _ _ j6 aA⟩
 | .iface t v,bm,x,aY,aC=>by simp only [Rel] at aY aC ⊢;obtain ⟨y,aj,aA⟩:=aC;obtain ⟨anr,_,j6⟩:=aY;exact ⟨y,aj,Rel.back h v _ _ j6 aA⟩
 | .nilIface,_,_,_,aC=>by simpa [Rel] using aC
 | .agg cs,bm,x,aY,aC=>by simp only [Rel] at aY aC ⊢;obtain ⟨a,aj,aA⟩:=aC;obtain ⟨a0,_,j6⟩:=aY;exact ⟨a,aj,bf.back h cs _ _ j6 aA⟩
 | .tuple cs,bm,x,aY,aC=>by simp only [Rel] at aY aC ⊢;obtain ⟨a,aj,aA⟩:=aC;obtain ⟨a0,_,j6⟩:=aY;exact ⟨a,aj,bf.back h cs _ _ j6 aA⟩
theorem bf.back {E ar:Env} (h:E.le ar):∀(ag:List V) (j' l:List Value),bf E ag j'->bf ar ag l->bf E ag l
 | [],_,_,_,aC=>by simpa [bf] using aC
 | v::ag,j',l,aY,aC=>by simp only [bf] at aY aC ⊢;obtain ⟨y,cp,rfl,aa,ad⟩:=aC;obtain ⟨anr,apo,rfl,g1,g2⟩:=aY;exact ⟨y,cp,rfl,Rel.back h v _ _ g1 aa,bf.back h ag _ _ g2 ad⟩
end
theorem dm.back {E ar:Env} (h:E.le ar):∀(ms:List b3) (j' l:List MapEntry),dm E ms j'->dm ar ms l->dm E ms l
 | [],_,_,_,aC=>aC
 | m::ms,j',l,aY,aC=>by obtain ⟨e,es,rfl,aa,ad,aJ,bu⟩:=aC;obtain ⟨dw,Ip,rfl,g1,g2,g3,g4⟩:=aY;exact ⟨e,es,rfl,Rel.back h _ _ _ g1 aa,Rel.back h _ _ _ g2 ad,aJ,dm.back h ms _ _ g4 bu⟩
theorem ix.back {E ar:Env} (h:E.le ar):∀(ms:List b3) (j' l:List MapEntry),ix E ms j'->ix ar ms l->ix E ms l
 | [],_,_,_,aC=>aC
 | m::ms,j',l,aY,aC=>by obtain ⟨e,es,rfl,aa,ad,bu⟩:=aC;obtain ⟨dw,Ip,rfl,g1,g2,g4⟩:=aY;exact ⟨e,es,rfl,Rel.back h _ _ _ g1 aa,Rel.back h _ _ _ g2 ad,ix.back h ms _ _ g4 bu⟩
theorem fv.back {B:Nat} {E ar:Env} (h:E.le ar) {w w':World} {b:aL} {k:b1} (aY:fv B E w b k) (aC:fv B ar w' b k):fv B E w' b k:=by
 cases k with
 | dead=>trivial
 | cells n cs cH st=>
   obtain ⟨aV,p,c,el,bZ,af,cD,a',ak,al,aI,bB⟩:=aC;obtain ⟨_,s5,pw,aa6,abW,gg,_,_,_,_,_,cL⟩:=aY;rw [h _ _ gg] at af;cases af;refine ⟨aV,p,c,el,bZ,gg,cD,a',ak,al,aI,bB.1,fun i y ax a6=>?_⟩;have aR:p.base+i<pw.size:=by have:=cL.1;omega
   exact Rel.back h _ _ _ (cL.2 i pw[p.base+i] ax (by simp [aR])) (bB.2 i y ax a6)
 | view n cs=>
   obtain ⟨_,p,c,el,bZ,af,cD,a',bB⟩:=aC;obtain ⟨_,s5,pw,aa6,abW,gg,_,_,cL⟩:=aY;rw [h _ _ gg] at af;cases af;refine ⟨trivial,p,c,el,bZ,gg,cD,a',bB.1,fun i y ax a6=>?_⟩;have aR:p.base+i<pw.size:=by have:=cL.1;omega
   exact Rel.back h _ _ _ (cL.2 i pw[p.base+i] ax (by simp [aR])) (bB.2 i y ax a6)
 | iter s pos=>
   obtain ⟨p,af,q⟩:=aC;obtain ⟨s5,gg,_⟩:=aY;rw [h _ _ gg] at af;cases af;exact ⟨p,gg,q⟩
 | mp es clock=>
   obtain ⟨p,a,af,cD,a',q⟩:=aC;obtain ⟨s5,a0,gg,_,_,r⟩:=aY;rw [h _ _ gg] at af;cases af;exact ⟨p,a,gg,cD,a',dm.back h _ _ _ r q⟩
 | fi l=>
   obtain ⟨p,o,af,cD,a',ak,al,aI,bB,cG,ef,hO,y9,kQ,akO⟩:=aC;obtain ⟨s5,gE,gg,_,_,bM,dc,ct,cL,bT,eU,cY,aoW,ch,dK⟩:=aY;rw [h _ _ gg] at af;cases af;rw [h _ _ ch] at kQ;cases kQ;exact ⟨p,o,gg,cD,a',ak,al,aI,bB,cG,ef,fun t aE=>Rel.back h _ _ _ (cY t aE) (hO t aE),y9,ch,akO⟩
 | hj=>
   obtain ⟨p,af,q⟩:=aC;obtain ⟨s5,gg,_⟩:=aY;rw [h _ _ gg] at af;cases af;exact ⟨p,gg,q⟩
 | ht es=>
   obtain ⟨p,a,c,l,af,cD,a',q,aA⟩:=aC;obtain ⟨s5,a0,pw,j',gg,_,_,r,_⟩:=aY;rw [h _ _ gg] at af;cases af;exact ⟨p,a,c,l,gg,cD,a',ix.back h _ _ _ r q,aA⟩
 | gD src since seen last=>
   obtain ⟨p,m,a,af,cD,ah,a',bt,q⟩:=aC;obtain ⟨s5,m0,a0,gg,_,_,_,_,r⟩:=aY;rw [h _ _ gg] at af;cases af;refine ⟨p,m,a,gg,cD,ah,a',bt,?_⟩;cases src with
   | none=>exact q
   | some c=>
     obtain ⟨z,bJ,z2⟩:=q;obtain ⟨y,dz,fo⟩:=r;have e:z=y:=aqB (bJ.symm.trans (h _ _ dz));rw [e] at z2;exact ⟨y,dz,z2⟩
theorem a8.aaO {ay:Fr} {E ar:Env} {h ab:ae} {w w':World} (s:a8 ay E h w) (fT:a8 ay ar ab w') (le:E.le ar) (x:Ext h ab):a8 ay E h w':=by
 refine ⟨fun b ah=>?_,s.n5,s.inj,s.fresh,fT.frame,fT.laid,s.base⟩;have aY:=s.aW b ah;by_cases aU:Old h b
 . have aa:=fT.aW b ah;rw [x.get b aU] at aa;exact fv.back le aY aa
 . have av:E b=none:=by
    have:=s.fresh (bX b) (by unfold Old at aU;omega);rwa [uL] at this
   cases aB:h.get b with
   | dead=>trivial
   | cells n cs cH st=>
     rw [aB] at aY;obtain ⟨_,p,_,_,_,af,_⟩:=aY;rw [av] at af;cases af
   | view n cs=>
     rw [aB] at aY;obtain ⟨_,p,_,_,_,af,_⟩:=aY;rw [av] at af;cases af
   | iter _ _=>
     rw [aB] at aY;obtain ⟨p,af,_⟩:=aY;rw [av] at af;cases af
   | mp _ _=>
     rw [aB] at aY;obtain ⟨p,_,af,_⟩:=aY;rw [av] at af;cases af
   | fi _=>
     rw [aB] at aY;obtain ⟨p,_,af,_⟩:=aY;rw [av] at af;cases af
   | hj=>
     rw [aB] at aY;obtain ⟨p,af,_⟩:=aY;rw [av] at af;cases af
   | ht _=>
     rw [aB] at aY;obtain ⟨p,_,_,_,af,_⟩:=aY;rw [av] at af;cases af
   | gD _ _ _ _=>
     rw [aB] at aY;obtain ⟨p,_,_,af,_⟩:=aY;rw [av] at af;cases af
section
variable {P:Program}
theorem aal (cJ:P.follows .mixedOrders=true) (bE:ec P) {f:FuncId} {fn:Func} {c:Code} {args:List V} {h:ae} {v:Bool} (av:P.funcs[f]? =some fn) (ah:fn.body=some c)
 (fb:Nat.ble fn.ntmps top=true) (a6:Nat.beq f dr=false) (ku:Nat.ble args.length fn.ntmps=true) {rc:a1} {et:List tF} (Bp:er P fn.ntmps c=rc) (wg:n' P fn.ntmps fn.results.toList=et) (db:rc.plain=true)
 (H:fa P rc (bc.bQ args) h fun e r ab=>e.ends/\Ext h ab/\k4 r ab et=some [.bool v]):eV P f args h (.bool v) h:=by
 subst Bp wg;rw [apE] at fb ku;have aU:Out fn.ntmps (bc.bQ args):=by intro t aE _;rw [wR,apT (by omega)];rfl
 have uk:(bc.bQ args) ey=.bad:=by rw [wR,apT (by unfold ey;unfold top at fb;omega)];rfl
 have IX:=aaP fb cJ bE c _ h _ db aU H;have hG:f≠dr:=fun e=>by subst e;simp at a6
 refine ⟨hG,.inl ⟨⟨fn,av,by rw [ah];rfl⟩,fun ay E w xs aj s=>?_⟩⟩;have hlen:=aj.length;have cq:xs.toArray.size<=fn.ntmps:=by simp;omega
 refine sf.1 (callsIn_of_wp_marks (F:=b4 none) (n:=0) av ah trivial ?_);have k:hg E fn.ntmps (bc.bQ args) {tmps:=xs.toArray++Array.replicate (fn.ntmps-xs.toArray.size) undef,defers:=[]}:=by
  refine ⟨by simp;omega,by rw [uk];simp [lz],fun t _=>?_⟩;rw [wR];cases aG:args[t]? with
  | none=>simp [Rel]
  | some v=>
    obtain ⟨y,a6,aC⟩:=aj.get t v aG;simp only [apX];have rh:t<xs.length:=(apN.1 a6).1;rw [apQ,arb (by simpa using rh)];simp only [List.getElem?_toArray,a6,apX];exact aC
 have ky:zO P (fun _ _ _ _=>.fail):=fun f args u h fu ab he=>by cases he
 refine (IX none ay E _ w (.inl rfl) k s _ fun e a_ ab ar bl w' az pV wi ak al aI=>?_).wp;obtain ⟨fO,adJ,A6⟩:=az;have fin:LeavesInM (b4 none) 0 P fn bl.tmps (fun e w'=>∃ar x,e=.returned x/\E.le ar/\Rel ar (.bool v) x/\a8 ay ar h w') bl.defers .returning w':=by
  obtain ⟨cP,dN⟩:=x3 pV;have aH:T.get .bad eH cP=a_ ey:=by have:=congrFun dN ey;simp only [dW] at this;exact this
  have aB:e8 ar fn.ntmps cP bl:=⟨⟨al.size,fun t aE=>by
   have:=congrFun dN t;simp only [dW] at this;rw [this]
   exact al.au t (rq aE)⟩,by rw [aH];exact al.defers⟩
  refine D6 (C:=⟨P,fun _=>none,fun _=>none⟩) (u:=none) bE ky aB rfl aI ?_;rw [aH,wi,uk];simp only [V.list,mn,finish];rw [AL dN A6];exact fun bA x bx cc cx eF=>⟨E,x,rfl,Env.le.refl E,by simp only [oneOf,Rel] at cx ⊢;exact cx,s.aaO eF (ak.trans cc) adJ⟩
 cases e with
 | normal=>exact fin
 | ret=>exact fin
 | exit i=>exact fO.elim
end
end
end Go.Proofs.YtgmhjhgoamjeeaaGreatDoor.aX
