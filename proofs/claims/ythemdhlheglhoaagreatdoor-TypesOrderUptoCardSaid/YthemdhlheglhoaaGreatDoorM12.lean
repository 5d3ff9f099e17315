/- The chapter's functions, walked by the abstract machine: plain lemmas, no condition. Printed by a program from longer texts: names made short. -/
import Derived.Test.YthemdhlheglhoaaGreatDoorM10
import Derived.Test.YthemdhlheglhoaaGreatDoorM11
import Derived.Test.YthemdhlheglhoaaGreatDoorM8
set_option linter.unusedSectionVars false
set_option linter.unusedSimpArgs false
set_option linter.unusedVariables false
namespace Go.Proofs.YthemdhlheglhoaaGreatDoor
open Go aY
abbrev et:=List (Int × aB)
section
variable (s:et)
mutual
def aB.put:aB→aB
 | .mk k n x l=>match (if k=1 then cl n s else none) with
   | some u=>u
   | none=>.mk k n x (dr l)
def dr:List aB→List aB
 | []=>[]
 | t::l=>t.put::dr l
end
mutual
def aB.gU:aB→Int→aB × Int
 | .mk k n x l,r=>match (if k=1 then cl n s else none) with
   | some u=>(u,r-u.size)
   | none=>(.mk k n x (gi l (r-1)).1,(gi l (r-1)).2)
def gi:List aB→Int→List aB × Int
 | [],r=>([],r)
 | t::l,r=>if r<0 then ([],r) else ((t.gU r).1::(gi l (t.gU r).2).1,(gi l (t.gU r).2).2)
end
theorem ac8 (t:aB) (r:Int):t.gU s r=match (if t.k=1 then cl t.n s else none) with
 | some u=>(u,r-u.size)
 | none=>(.mk t.k t.n t.s (gi s t.l (r-1)).1,(gi s t.l (r-1)).2):=by
 cases t;rw [aB.gU];rfl
theorem Ox:∀l:List aB,dr s l=l.map (aB.put s)
 | []=>rfl
 | t::l=>by rw [dr,List.map_cons,Ox l]
mutual
theorem B_:∀(t:aB) (r:Int),0≤r→((t.put s).size≤r→t.gU s r=(t.put s,r - (t.put s).size))∧(r < (t.put s).size→(t.gU s r).2<0)
 | .mk k n x l,r,a6=>by
   rw [aB.put,aB.gU]
   cases (if k=1 then cl n s else none) with
   | some u=>exact ⟨fun _=>rfl,fun h=>by simp only at h ⊢;omega⟩
   | none=>
     simp only
     rw [aB.size]
     by_cases aa:0≤r-1
     · obtain ⟨a,b⟩:=On l (r-1) aa
       refine ⟨fun h=>?_,fun h=>b (by omega)⟩
       rw [a (by omega)]
       simp only [Prod.mk.injEq,true_and]
       omega
     · have ag:=y5 l (r-1) (by omega)
       refine ⟨fun h=>by omega,fun h=>by rw [ag];simp only;omega⟩
theorem On:∀(l:List aB) (r:Int),0≤r→((eH (dr s l):Int)≤r→gi s l r=(dr s l,r-eH (dr s l)))∧(r<eH (dr s l)→(gi s l r).2<0)
 | [],r,a6=>by
   rw [dr,gi,eH]
   exact ⟨fun _=>by simp,fun h=>by omega⟩
 | t::l,r,a6=>by
   rw [dr,gi,eH,if_neg (by omega)]
   obtain ⟨a,b⟩:=B_ t r a6
   by_cases aa:((t.put s).size:Int)≤r
   · rw [a aa]
     obtain ⟨c,d⟩:=On l (r - (t.put s).size) (by omega)
     refine ⟨fun h=>?_,fun h=>d (by omega)⟩
     rw [c (by omega)]
     simp only [Prod.mk.injEq,true_and]
     omega
   · have:=b (by omega)
     refine ⟨fun h=>by omega,fun h=>?_⟩
     simp only
     rw [y5 l _ this]
     exact this
theorem y5:∀(l:List aB) (r:Int),r<0→gi s l r=([],r)
 | [],r,_=>by rw [gi]
 | t::l,r,h=>by rw [gi,if_pos h]
end
mutual
theorem Oj (M:Nat) (cO:1≤M) (aO:∀n u,cl n s=some u→u.size≤M):∀(t:aB) (r:Int),0≤r→-(M:Int)≤(t.gU s r).2∧(t.gU s r).2≤r
 | .mk k n x l,r,a6=>by
   rw [aB.gU]
   cases av:(if k=1 then cl n s else none) with
   | some u=>
     have:u.size≤M:=by
      by_cases c:k=1
      · rw [if_pos c] at av;exact aO n u av
      · rw [if_neg c] at av;cases av
     simp only;omega
   | none=>
     simp only
     by_cases aa:0≤r-1
     · have:=Om M cO aO l (r-1) aa;omega
     · rw [y5 s l _ (by omega)];simp only;omega
theorem Om (M:Nat) (cO:1≤M) (aO:∀n u,cl n s=some u→u.size≤M):∀(l:List aB) (r:Int),0≤r→-(M:Int)≤(gi s l r).2∧(gi s l r).2≤r
 | [],r,a6=>by rw [gi];simp only;omega
 | t::l,r,a6=>by
   rw [gi,if_neg (by omega)]
   have aa:=Oj M cO aO t r a6
   simp only
   by_cases ae:0≤(t.gU s r).2
   · have:=Om M cO aO l _ ae;omega
   · rw [y5 s l _ (by omega)];simp only;omega
end
theorem Ol:∀(l:List aB) (r:Int),(gi s l r).1.length≤l.length
 | [],r=>by rw [gi];simp
 | t::l,r=>by
   rw [gi]
   split
   · simp
   · have:=Ol l (t.gU s r).2
     simp only [List.length_cons];omega
end
def rm (last:Int):et→Bool
 | []=>true
 | (n,t)::s=>decide (last<n)&&decide (n≤1048575)&&decide (t.check=0)&&rm n s
def Ic (s:et):Bool:=rm (-1) s
theorem kB {t:aB} (h:t.check=0):t.shape=true∧t.size≤4096∧t.deep≤200:=by
 unfold aB.check at h
 split at h
 · rename_i aa
   split at h
   · rename_i ae;exact ⟨aa,ae⟩
   · cases h
 · cases h
theorem Eu {t:aB} (h:t.shape=true):t.check=if t.size≤4096∧t.deep≤200 then 0 else 3:=by
 unfold aB.check
 rw [if_pos h]
theorem CA {last:Int}:∀{s:et},rm last s=true→∀n u,cl n s=some u→u.check=0∧0≤n-last
 | [],_,n,u,h=>by cases h
 | (m,t)::s,aO,n,u,h=>by
   rw [rm] at aO
   simp only [Bool.and_eq_true,decide_eq_true_eq] at aO
   simp only [cl] at h
   split at h
   · rename_i e;cases h;subst e;exact ⟨aO.1.2,by omega⟩
   · have:=CA aO.2 n u h;exact ⟨this.1,by omega⟩
def jF:aB:=.mk 0 0 [] []
def hy (s:et) (t:aB):aB × Int:=
 if Ic s=true∧t.check=0 then (if (t.put s).size≤4096∧(t.put s).deep≤200 then (t.put s,0) else (jF,3)) else (jF,2)
section
variable {s:et}
mutual
theorem Cb (aO:∀n u,cl n s=some u→u.shape=true):∀t:aB,t.shape=true→(t.put s).shape=true
 | .mk k n x l,h=>by
   rw [aB.put]
   cases av:(if k=1 then cl n s else none) with
   | some u=>
     by_cases c:k=1
     · rw [if_pos c] at av;exact aO n u av
     · rw [if_neg c] at av;cases av
   | none=>
     simp only
     rw [aB.shape,Bool.and_eq_true] at h ⊢
     refine ⟨?_,Oz aO l h.2⟩
     have aa:=h.1
     unfold aB.own at aa ⊢
     simp only [aB.k,aB.n,aB.s,aB.l] at aa ⊢
     simp only [Ox,List.length_map]
     exact aa
theorem Oz (aO:∀n u,cl n s=some u→u.shape=true):∀l:List aB,ja l=true→ja (dr s l)=true
 | [],_=>by rw [dr,ja]
 | t::l,h=>by
   rw [ja,Bool.and_eq_true] at h
   rw [dr,ja,Cb aO t h.1,Oz aO l h.2];rfl
end
end
theorem Ru {s:et} {t:aB} (aO:Ic s=true) (ax:t.check=0):
 hy s t=if (t.gU s 4096).2<0 then (jF,3) else if (t.gU s 4096).1.check=0 then ((t.gU s 4096).1,0) else (jF,3):=by
 have ao:=CA aO
 have oW:=Cb (s:=s) (fun n u h=>(kB (ao n u h).1).1) t (kB ax).1
 unfold hy
 rw [if_pos ⟨aO,ax⟩]
 obtain ⟨a,b⟩:=B_ s t 4096 (by omega)
 by_cases c:(t.put s).size≤4096
 · have e:=a (by omega)
   rw [e]
   simp only
   have nS:¬((4096:Int) - (t.put s).size<0):=by omega
   rw [Eu oW]
   by_cases d:(t.put s).deep≤200
   · simp [c,d,nS]
   · simp [c,d,nS]
 · have:=b (by omega)
   simp [c,this]
end Go.Proofs.YthemdhlheglhoaaGreatDoor
namespace Go.Proofs.YthemdhlheglhoaaGreatDoor
open Go aY
abbrev z4:List V:=[.int .i64 0,.int .i64 0,.str [],.cq]
abbrev cJ (t:aB) (cF:V):List V:=[.int .i64 t.k,.int .i64 t.n,.str t.s,cF]
def BW (s:List UInt8):Bool:=match nm s with
 | .ok [w]=>decide (w.kind=3)&&decide (w.text=s)
 | _=>false
theorem acq (s:List UInt8):BW s=nq 3 s:=by
 rw [Bool.eq_iff_iff]
 refine ⟨fun h=>?_,fun h=>?_⟩
 · unfold BW at h
   split at h
   · rename_i w hw
     simp only [Bool.and_eq_true,decide_eq_true_eq] at h
     have aS:nq w.kind w.text=true:=by
      unfold nm at hw
      split at hw
      · cases hw
      · split at hw
        · cases hw
        · exact BA _ _ _ _ hw w (by simp) (.inl h.1)
     rw [h.1,h.2] at aS
     exact aS
   · cases h
 · have aG:=adq (.inl rfl) h
   simp only [show ((3:Int)=5)=False from by simp,if_false] at aG
   unfold BW
   rw [aG]
   simp
set_option maxHeartbeats 2000000 in
theorem abE (z:List UInt8) (h:af):b_ Tryz.prog 88 [.str z] h fun x ab=>x=.bool (nq 3 z)∧Ext h ab:=by
 rw [←acq]
 refine TU rfl (eA ?_)
 unfold Em
 simp +contextual only [↓aA,aI,simprocAttr]
 refine bM (aa9 z h) ?_
 rintro x aa ⟨aP,ak⟩
 unfold BW
 cases eO:nm z with
 | error e=>
   rw [eO] at ak
   simp only at ak
   subst ak
   obtain ⟨ae,az,bl,cf⟩:=gD aa [.int .i64 0,.int .i64 0] [.int .i64 e.1,.int .i64 e.2]
   by_cases he:e.1=0
   · simp +contextual only [az,cf.g,eq_true he,show mD .cq=some (.int .i64 0) from rfl,show ((0:Int)=1)=False from by simp,decide_false,↓aA,aI,simprocAttr]
     exact aP.trans bl
   · simp +contextual only [az,cf.g,eq_false he,decide_false,↓aA,aI,simprocAttr]
     exact aP.trans bl
 | ok ws=>
   rw [eO] at ak
   simp only at ak
   obtain ⟨v,rfl,S⟩:=ak
   obtain ⟨ae,az,bl,cf⟩:=gD aa [.int .i64 0,.int .i64 0] [.int .i64 0,.int .i64 0]
   have nE:=(S.ext bl).v
   have ao:=nE.len
   have bR:=nE.one
   match ws,eO,nE,ao with
   | [],_,nE,ao=>
     have hl:mD v=some (.int .i64 0):=ao
     simp +contextual only [az,cf.g,hl,bR.1,bR.2.1,show ((0:Int)=1)=False from by simp,decide_true,decide_false,↓aA,aI,simprocAttr]
     exact aP.trans bl
   | [w],eO,nE,ao=>
     have hl:mD v=some (.int .i64 1):=ao
     obtain ⟨cx,bC,Yq,Js⟩:=nE.fz (k:=.i64) (i:=0) (by simp)
     have Mf:lU 4 v (.int .i64 0)=some (.ptr cx bC):=by simpa using Yq
     have d0:j0 (ae.get cx) bC=some (.int .i64 w.kind):=by have:=Js.jy (i:=0) (by simp [pd,ca.enc]);simpa [pd,ca.enc] using this
     have d3:j0 (ae.get cx) (bC+3)=some (.str w.text):=by have:=Js.jy (i:=3) (by simp [pd,ca.enc]);simpa [pd,ca.enc] using this
     by_cases bL:w.kind=3
     · simp +contextual only [az,cf.g,hl,bR.1,bR.2.1,Mf,d0,d3,eq_true bL,decide_true,decide_false,Bool.true_and,↓aA,aI,simprocAttr]
       exact aP.trans bl
     · simp +contextual only [az,cf.g,hl,bR.1,bR.2.1,Mf,d0,d3,eq_false bL,decide_true,decide_false,Bool.false_and,↓aA,aI,simprocAttr]
       exact aP.trans bl
   | w::bP::ws,_,nE,ao=>
     have hl:(((ws.length+2:Nat):Int)=1)=False:=eq_false (by omega)
     have Xr:mD v=some (.int .i64 ((ws.length+2:Nat):Int)):=ao
     simp +contextual only [az,cf.g,Xr,hl,bR.1,bR.2.1,decide_true,decide_false,↓aA,aI,simprocAttr]
     exact aP.trans bl
set_option maxHeartbeats 4000000 in
theorem acC (t:aB) (ad:List V) (h:af) (H:b5 Any h t.enc ad):b_ Tryz.prog 57 [.agg ad] h fun x ab=>x=.bool t.own∧Ext h ab:=by
 obtain ⟨cF,rfl,L,nV⟩:=aB.open H
 have ol:=L.one
 have ao:=L.len
 rw [List.length_map] at ao
 refine TA rfl (eA ?_)
 unfold Ef
 obtain ⟨aa,au,aP,cw⟩:=gY h (cJ t cF)
 have bE:Jl=[45,62]:=rfl
 have a2:Pl=[42]:=rfl
 unfold aB.own
 rw [bE,a2]
 by_cases bX:t.k=1
 · rw [if_pos bX]
   by_cases bL:0≤t.n
   · by_cases b0:t.n≤1048575
     · by_cases c3:t.s=[]
       · simp +contextual only [ol.1,ol.2.1,au,cw.g,ao,eq_true bX,eq_true bL,eq_true b0,eq_true c3,decide_true,decide_false,Bool.true_and,↓aA,aI,simprocAttr]
         refine ⟨?_,aP⟩
         simp
       · simp +contextual only [ol.1,ol.2.1,au,cw.g,ao,eq_true bX,eq_true bL,eq_true b0,eq_false c3,decide_true,decide_false,Bool.true_and,Bool.false_and,Bool.and_false,↓aA,aI,simprocAttr]
         exact aP
     · simp +contextual only [ol.1,ol.2.1,au,cw.g,ao,eq_true bX,eq_true bL,eq_false b0,decide_true,decide_false,Bool.true_and,Bool.false_and,Bool.and_false,↓aA,aI,simprocAttr]
       exact aP
   · simp +contextual only [ol.1,ol.2.1,au,cw.g,ao,eq_true bX,eq_false bL,decide_true,decide_false,Bool.true_and,Bool.false_and,Bool.and_false,↓aA,aI,simprocAttr]
     exact aP
 · rw [if_neg bX]
   by_cases b':t.k=2
   · rw [if_pos b']
     have mq:((t.l.length:Int)=2)=(t.l.length=2):=by apply propext;omega
     have Lx:((t.l.length:Int)≤64)=(t.l.length≤64):=by apply propext;omega
     by_cases c3:t.s=[45,62]
     · rw [if_pos (.inl c3)]
       by_cases fj:t.n=0
       · simp +contextual only [ol.1,ol.2.1,au,cw.g,ao,eq_false bX,eq_true b',eq_true c3,eq_true fj,mq,decide_true,decide_false,Bool.true_and,Bool.false_and,↓aA,aI,simprocAttr]
         exact aP
       · simp +contextual only [ol.1,ol.2.1,au,cw.g,ao,eq_false bX,eq_true b',eq_true c3,eq_false fj,decide_true,decide_false,Bool.true_and,Bool.false_and,↓aA,aI,simprocAttr]
         exact aP
     · by_cases oF:t.s=[42]
       · rw [if_pos (.inr oF)]
         by_cases fj:t.n=0
         · simp +contextual only [ol.1,ol.2.1,au,cw.g,ao,eq_false bX,eq_true b',eq_false c3,eq_true oF,eq_true fj,mq,decide_true,decide_false,Bool.true_and,Bool.false_and,↓aA,aI,simprocAttr]
           exact aP
         · simp +contextual only [ol.1,ol.2.1,au,cw.g,ao,eq_false bX,eq_true b',eq_false c3,eq_true oF,eq_false fj,decide_true,decide_false,Bool.true_and,Bool.false_and,↓aA,aI,simprocAttr]
           exact aP
       · rw [if_neg (fun q=>q.elim c3 oF)]
         by_cases fj:t.n=0
         · by_cases c5:t.l.length≤64
           · simp +contextual only [ol.1,ol.2.1,au,cw.g,ao,eq_false bX,eq_true b',eq_false c3,eq_false oF,eq_true fj,Lx,eq_true c5,decide_true,decide_false,Bool.true_and,Bool.false_and,↓aA,aI,simprocAttr]
             refine bM (abE t.s aa) ?_
             rintro x ae ⟨rfl,bl⟩
             simp +contextual only [↓aA,aI,simprocAttr]
             exact aP.trans bl
           · simp +contextual only [ol.1,ol.2.1,au,cw.g,ao,eq_false bX,eq_true b',eq_false c3,eq_false oF,eq_true fj,Lx,eq_false c5,decide_true,decide_false,Bool.true_and,Bool.false_and,↓aA,aI,simprocAttr]
             exact aP
         · simp +contextual only [ol.1,ol.2.1,au,cw.g,ao,eq_false bX,eq_true b',eq_false c3,eq_false oF,eq_false fj,decide_true,decide_false,Bool.true_and,Bool.false_and,↓aA,aI,simprocAttr]
           exact aP
   · rw [if_neg b']
     simp +contextual only [ol.1,ol.2.1,au,cw.g,ao,eq_false bX,eq_false b',decide_true,decide_false,↓aA,aI,simprocAttr]
     exact aP
theorem Up (t:aB):t.check=if t.shape=true then (if t.size≤4096 then (if t.deep≤200 then 0 else 3) else 3) else 2:=by
 unfold aB.check
 split
 · by_cases a:t.size≤4096
   · by_cases b:t.deep≤200
     · rw [if_pos ⟨a,b⟩,if_pos a,if_pos b]
     · rw [if_neg (fun q=>b q.2),if_pos a,if_neg b]
   · rw [if_neg (fun q=>a q.1),if_neg a]
 · rfl
theorem aB.aaD [Lay] {F:aN→Prop} {h:af} {l:List aB} {v:V} (H:eg F h 4 (l.map aB.enc) v) {k:IntKind} {i:Nat} (aF:i<l.length):
 ∃b off cF,lU 4 v (.int k i)=some (.ptr b (off+i * 4))∧b5 F h l[i].enc [.int .i64 l[i].k,.int .i64 l[i].n,.str l[i].s,cF]∧eg F h 4 (l[i].l.map aB.enc) cF∧
  (∀ab,Ext h ab→mB 4 (ab.get b) (off+i * 4)=some (.agg [.int .i64 l[i].k,.int .i64 l[i].n,.str l[i].s,cF]))∧
  (∀ab,Ext h ab→j0 (ab.get b) (off+i * 4)=some (.int .i64 l[i].k))∧(∀ab,Ext h ab→j0 (ab.get b) (off+i * 4+2)=some (.str l[i].s))∧(∀ab,Ext h ab→j0 (ab.get b) (off+i * 4+3)=some cF):=by
 obtain ⟨b,off,u,aP,bl,bW,eu,lG⟩:=H.at (k:=k) (i:=i) (by rw [List.length_map];exact aF)
 rw [List.getElem_map] at bl
 obtain ⟨cF,rfl,L,_⟩:=aB.open bl
 exact ⟨b,off,cF,aP,bl,L,eu,fun ab e=>by simpa using lG ab e 0 (by omega),fun ab e=>by simpa using lG ab e 2 (by omega),fun ab e=>by simpa using lG ab e 3 (by omega)⟩
set_option maxHeartbeats 1000000 in
theorem NS:∀(N:Nat) (l:List aB),eH l<N→∀(m:Int) (v:V) (h:af),eg Any h 4 (l.map aB.enc) v→b_ Tryz.prog 46 [v,.int .i64 m] h fun x ab=>(∃n,x=.int .i64 n)∧ab=h
 | 0,l,aO,_,_,_,_=>by omega
 | N+1,l,aO,m,v,h,L=>by
   have ao:=L.len
   have hle:=L.le
   rw [List.length_map] at ao hle
   refine Ts rfl (eA ?_)
   unfold Ed
   simp +contextual only [↓aA,aI,simprocAttr]
   refine ll (fun r g=>r 0=v∧r 1=.int .i64 m∧g=h∧∃(i:Nat) (n:Int),r 5=.int .i64 n∧r 6=.int .i64 i∧i≤l.length) (fun r g=>l.length - (r 6).toN) ?_ ?_
   · exact ⟨by simp only [↓aA,cX,simprocAttr],by simp only [↓aA,cX,simprocAttr],rfl,0,0,by simp only [↓aA,cX,simprocAttr],by simp only [↓aA,cX,simprocAttr]<;>rfl,by omega⟩
   rintro r g ⟨bQ,bS,rfl,i,n,hd,ez,aF⟩
   unfold JO
   by_cases aW:i<l.length
   · have g0:((i:Int) < (l.length:Int))=True:=eq_true (by omega)
     by_cases aS:n≤m
     · have tM:=eq_true aS
       obtain ⟨b,off,wl,fz,X,mW,ld,GI,aaT,MR⟩:=aB.aaD L (k:=.i64) aW
       have d3:=aaT g (Ext.refl g)
       have d4:=MR g (Ext.refl g)
       have ks:=sF aW (by unfold top at hle;omega)
       have hf:l[i].s.length≤top:=by obtain ⟨_,_,_,q⟩:=aB.open X;exact q
       have ada:=adb (P:=Tryz.prog) (n:=l[i].s.length) (by unfold top at hf;omega)
       simp +contextual only [bQ,bS,hd,ez,ao,g0,tM,fz,d3,d4,ada,↓aA,aI,simprocAttr]
       refine bM (NS N l[i].l (by have:=acZ aW;omega) _ wl g mW) ?_
       rintro x g2 ⟨⟨y,rfl⟩,rfl⟩
       simp +contextual only [bQ,bS,hd,ez,ks,↓aA,aI,simprocAttr]
       exact ⟨⟨i+1,_,rfl,rfl,aW⟩,by omega⟩
     · have tM:=eq_false aS
       simp +contextual only [bQ,bS,hd,ez,ao,g0,tM,↓aA,aI,simprocAttr]
       exact ⟨_,rfl⟩
   · have g0:((i:Int) < (l.length:Int))=False:=eq_false (by omega)
     simp +contextual only [bQ,bS,hd,ez,ao,g0,↓aA,aI,simprocAttr]
     exact ⟨_,rfl⟩
theorem aaG (l:List aB) (m:Int) (v:V) (h:af) (L:eg Any h 4 (l.map aB.enc) v):b_ Tryz.prog 10 [v,.int .i64 m] h fun x ab=>(∃b,x=.bool b)∧ab=h:=by
 refine Sa rfl (eA ?_)
 unfold DK
 simp +contextual only [↓aA,aI,simprocAttr]
 refine bM (NS _ l (Nat.lt_succ_self _) m v h L) ?_
 rintro x g2 ⟨⟨y,rfl⟩,rfl⟩
 simp +contextual only [↓aA,aI,simprocAttr]
 exact ⟨_,rfl⟩
abbrev z5:List V:=[.int .i64 0,.int .i64 0,.str [],.cq]
abbrev qB (t:aB) (cF:V):List V:=[.int .i64 t.k,.int .i64 t.n,.str t.s,cF]
set_option maxHeartbeats 4000000 in
theorem N':∀N:Nat,(∀(t u:aB),t.size≤N→∀(ad ws:List V) (h:af),b5 Any h t.enc ad→b5 Any h u.enc ws→b_ Tryz.prog 28 [.agg ad,.agg ws] h fun x ab=>x=.bool (t.same u)∧Ext h ab)∧
 (∀(l m:List aB),eH l≤N→∀(v w:V) (h:af),eg Any h 4 (l.map aB.enc) v→eg Any h 4 (m.map aB.enc) w→b_ Tryz.prog 66 [v,w,.func 28 []] h fun x ab=>x=.bool (i' l m)∧Ext h ab)
 | 0=>by
   refine ⟨fun t u aO=>by have:=y2 t;omega,fun l m aO v w h L M=>?_⟩
   have ng:l.length=0:=by have:=y1 l;omega
   obtain rfl:=List.eq_nil_of_length_eq_zero ng
   have ao:=L.len
   have hm:=M.len
   rw [List.length_map] at ao hm
   refine z_ rfl (eA ?_)
   unfold u9
   by_cases av:m.length=0
   · obtain rfl:=List.eq_nil_of_length_eq_zero av
     simp +contextual only [ao,hm,decide_true,decide_false,↓aA,aI,simprocAttr]
     refine ll (fun r g=>r 17=.int .i64 0∧r 16=.int .i64 0∧g=h) (fun r g=>0) ?_ ?_
     · exact ⟨by simp only [↓aA,cX,simprocAttr],by simp only [↓aA,cX,simprocAttr]<;>rfl,rfl⟩
     rintro r g ⟨ko,r16,rfl⟩
     unfold xz
     simp +contextual only [r16,ko,show ((0:Int)<0)=False from by simp,↓aA,aI,simprocAttr]
     exact ⟨rfl,Ext.refl _⟩
   · have f0:((0:Int)=(m.length:Int))=False:=eq_false (by omega)
     simp only [List.length_nil,Int.ofNat_zero,Int.natCast_zero] at ao
     simp +contextual only [ao,hm,f0,decide_true,decide_false,↓aA,aI,simprocAttr]
     refine ⟨?_,Ext.refl _⟩
     match m,av with
     | u::m,_=>rw [i']
     | [],av=>exact absurd rfl av
 | N+1=>by
   obtain ⟨Gs,yl⟩:=N' N
   have H1:∀(t u:aB),t.size≤N+1→∀(ad ws:List V) (h:af),b5 Any h t.enc ad→b5 Any h u.enc ws→b_ Tryz.prog 28 [.agg ad,.agg ws] h fun x ab=>x=.bool (t.same u)∧Ext h ab:=by
    intro t u aO ad ws h H cG
    obtain ⟨cF,rfl,L,_⟩:=aB.open H
    obtain ⟨wl,rfl,M,_⟩:=aB.open cG
    have ol:=L.one
    have fX:=M.one
    have cc:=size_eq t
    refine Tg rfl (eA ?_)
    unfold D8
    obtain ⟨aa,au,aP,cw⟩:=gY h (qB t cF)
    obtain ⟨ae,az,bl,dd⟩:=gY aa (qB u wl)
    have cf:=cw.ext bl
    have e0:=aP.trans bl
    rw [adT]
    by_cases bL:t.k=u.k
    · by_cases b0:t.n=u.n
      · by_cases c3:t.s=u.s
        · simp +contextual only [au,az,ol.1,ol.2.1,fX.1,fX.2.1,cf.g,dd.g,eq_true bL,eq_true b0,eq_true c3,decide_true,decide_false,Bool.true_and,↓aA,aI,simprocAttr]
          refine bM (yl t.l u.l (by omega) cF wl ae (L.ext e0) (M.ext e0)) ?_
          rintro x aH ⟨rfl,bW⟩
          simp +contextual only [↓aA,aI,simprocAttr]
          exact e0.trans bW
        · simp +contextual only [au,az,ol.1,ol.2.1,fX.1,fX.2.1,cf.g,dd.g,eq_true bL,eq_true b0,eq_false c3,decide_true,decide_false,Bool.true_and,Bool.false_and,↓aA,aI,simprocAttr]
          exact e0
      · simp +contextual only [au,az,ol.1,ol.2.1,fX.1,fX.2.1,cf.g,dd.g,eq_true bL,eq_false b0,decide_true,decide_false,Bool.true_and,Bool.false_and,↓aA,aI,simprocAttr]
        exact e0
    · simp +contextual only [au,az,ol.1,ol.2.1,fX.1,fX.2.1,cf.g,dd.g,eq_false bL,decide_true,decide_false,Bool.true_and,Bool.false_and,↓aA,aI,simprocAttr]
      exact e0
   refine ⟨H1,fun l m aO v w h L M=>?_⟩
   have ao:=L.len
   have hm:=M.len
   have hle:=L.le
   rw [List.length_map] at ao hm hle
   refine z_ rfl (eA ?_)
   unfold u9
   by_cases av:l.length=m.length
   · have f0:((l.length:Int)=(m.length:Int))=True:=eq_true (by omega)
     simp +contextual only [ao,hm,f0,decide_true,decide_false,↓aA,aI,simprocAttr]
     refine ll (fun r g=>r 1=w∧r 2=.func 28 []∧r 15=v∧r 16=.int .i64 l.length∧∃i:Nat,r 17=.int .i64 i∧i≤l.length∧i' l m=i' (l.drop i) (m.drop i)∧Ext h g) (fun r g=>l.length - (r 17).toN) ?_ ?_
     · exact ⟨by simp only [↓aA,cX,simprocAttr],by simp only [↓aA,cX,simprocAttr],by simp only [↓aA,cX,simprocAttr],by simp only [↓aA,cX,simprocAttr],0,by simp only [↓aA,cX,simprocAttr]<;>rfl,by omega,rfl,Ext.refl h⟩
     rintro r g ⟨bS,b7,gx,r16,i,ko,aF,ag,E⟩
     unfold xz
     by_cases aW:i<l.length
     · have g0:((i:Int) < (l.length:Int))=True:=eq_true (by omega)
       obtain ⟨b,off,cF,fz,X,mW,ld⟩:=aB.q1 (L.ext E) (k:=.i64) aW
       obtain ⟨cn,ab7,wl,Gq,Y,Dl,GJ⟩:=aB.q1 (M.ext E) (k:=.i64) (show i<m.length by omega)
       have d1:=ld g (Ext.refl g)
       have ol:=mW.one
       have fX:=Dl.one
       have ks:=sF aW (by unfold top at hle;omega)
       obtain ⟨g1,eR,bx,cw⟩:=gD g z5 (qB l[i] cF)
       obtain ⟨g2,fR,c1,dd⟩:=gD g1 z5 (qB m[i] wl)
       have d2:=GJ g1 bx
       have cf:=cw.ext c1
       have dW:=bx.trans c1
       have bs:=y0 (List.getElem_mem aW)
       simp +contextual only [bS,b7,gx,r16,ko,g0,fz,Gq,d1,d2,eR,fR,ol.1,ol.2.1,fX.1,fX.2.1,cw.g,cf.g,dd.g,s8,List.cons_append,List.nil_append,show (28=4294967296)=False from by simp,if_false,↓aA,aI,simprocAttr]
       refine bM (H1 l[i] m[i] (by omega) _ _ g2 (X.ext dW) (Y.ext dW)) ?_
       rintro x g3 ⟨rfl,iE⟩
       have aX:=N_ aW (show i<m.length by omega)
       have fT:=E.trans (dW.trans iE)
       cases ah:l[i].same m[i] with
       | true=>
         simp +contextual only [bS,b7,gx,r16,ko,ks,↓aA,aI,simprocAttr]
         refine ⟨⟨i+1,rfl,aW,?_,fT⟩,by omega⟩
         rw [ag,aX,ah,Bool.true_and]
       | false=>
         simp +contextual only [bS,b7,gx,r16,ko,ks,↓aA,aI,simprocAttr]
         refine ⟨?_,fT⟩
         rw [ag,aX,ah,Bool.false_and]
     · have g0:((i:Int) < (l.length:Int))=False:=eq_false (by omega)
       simp +contextual only [bS,b7,gx,r16,ko,g0,↓aA,aI,simprocAttr]
       refine ⟨?_,E⟩
       rw [ag,List.drop_eq_nil_of_le (by omega),List.drop_eq_nil_of_le (by omega),i']
   · have f0:((l.length:Int)=(m.length:Int))=False:=eq_false (by omega)
     simp +contextual only [ao,hm,f0,decide_true,decide_false,↓aA,aI,simprocAttr]
     refine ⟨?_,Ext.refl _⟩
     cases ah:i' l m with
     | false=>rfl
     | true=>exact absurd (Ob ah) av
theorem nx (t u:aB) (ad ws:List V) (h:af) (H:b5 Any h t.enc ad) (cG:b5 Any h u.enc ws):b_ Tryz.prog 28 [.agg ad,.agg ws] h fun x ab=>x=.bool (t.same u)∧Ext h ab:=(N' t.size).1 t u (Nat.le_refl _) ad ws h H cG
end Go.Proofs.YthemdhlheglhoaaGreatDoor
