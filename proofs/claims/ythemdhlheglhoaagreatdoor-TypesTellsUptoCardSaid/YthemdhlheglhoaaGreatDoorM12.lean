/- The chapter's functions, walked by the abstract machine: plain lemmas, no condition. Printed by a program from longer texts: names made short. -/
import Derived.Test.YthemdhlheglhoaaGreatDoorM10
import Derived.Test.YthemdhlheglhoaaGreatDoorM11
import Derived.Test.YthemdhlheglhoaaGreatDoorM8
set_option linter.unusedSectionVars false
set_option linter.unusedSimpArgs false
set_option linter.unusedVariables false
namespace Go.Proofs.YthemdhlheglhoaaGreatDoor
open Go aX
abbrev fp:=List (Int × aB)
section
variable (s:fp)
mutual
def aB.put:aB→aB
 | .mk k n x l=>match (if k=1 then dJ n s else none) with
   | some u=>u
   | none=>.mk k n x (dD l)
def dD:List aB→List aB
 | []=>[]
 | t::l=>t.put::dD l
end
mutual
def aB.h1:aB→Int→aB × Int
 | .mk k n x l,r=>match (if k=1 then dJ n s else none) with
   | some u=>(u,r-u.size)
   | none=>(.mk k n x (fX l (r-1)).1,(fX l (r-1)).2)
def fX:List aB→Int→List aB × Int
 | [],r=>([],r)
 | t::l,r=>if r<0 then ([],r) else ((t.h1 r).1::(fX l (t.h1 r).2).1,(fX l (t.h1 r).2).2)
end
theorem put_eq (t:aB):t.put s=match (if t.k=1 then dJ t.n s else none) with
 | some u=>u
 | none=>.mk t.k t.n t.s (dD s t.l):=by
 cases t;rw [aB.put];rfl
theorem aiE (t:aB) (r:Int):t.h1 s r=match (if t.k=1 then dJ t.n s else none) with
 | some u=>(u,r-u.size)
 | none=>(.mk t.k t.n t.s (fX s t.l (r-1)).1,(fX s t.l (r-1)).2):=by
 cases t;rw [aB.h1];rfl
theorem Ar:∀l:List aB,dD s l=l.map (aB.put s)
 | []=>rfl
 | t::l=>by rw [dD,List.map_cons,Ar l]
mutual
theorem Rw:∀(t:aB) (r:Int),0≤r→((t.put s).size≤r→t.h1 s r=(t.put s,r - (t.put s).size))∧(r < (t.put s).size→(t.h1 s r).2<0)
 | .mk k n x l,r,bb=>by
   rw [aB.put,aB.h1]
   cases (if k=1 then dJ n s else none) with
   | some u=>exact ⟨fun _=>rfl,fun h=>by simp only at h ⊢;omega⟩
   | none=>
     simp only
     rw [aB.size]
     by_cases ab:0≤r-1
     · obtain ⟨a,b⟩:=Rz l (r-1) ab
       refine ⟨fun h=>?_,fun h=>b (by omega)⟩
       rw [a (by omega)]
       simp only [Prod.mk.injEq,true_and]
       omega
     · have ah:=Ap l (r-1) (by omega)
       refine ⟨fun h=>by omega,fun h=>by rw [ah];simp only;omega⟩
theorem Rz:∀(l:List aB) (r:Int),0≤r→((c9 (dD s l):Int)≤r→fX s l r=(dD s l,r-c9 (dD s l)))∧(r<c9 (dD s l)→(fX s l r).2<0)
 | [],r,bb=>by
   rw [dD,fX,c9]
   exact ⟨fun _=>by simp,fun h=>by omega⟩
 | t::l,r,bb=>by
   rw [dD,fX,c9,if_neg (by omega)]
   obtain ⟨a,b⟩:=Rw t r bb
   by_cases ab:((t.put s).size:Int)≤r
   · rw [a ab]
     obtain ⟨c,d⟩:=Rz l (r - (t.put s).size) (by omega)
     refine ⟨fun h=>?_,fun h=>d (by omega)⟩
     rw [c (by omega)]
     simp only [Prod.mk.injEq,true_and]
     omega
   · have:=b (by omega)
     refine ⟨fun h=>by omega,fun h=>?_⟩
     simp only
     rw [Ap l _ this]
     exact this
theorem Ap:∀(l:List aB) (r:Int),r<0→fX s l r=([],r)
 | [],r,_=>by rw [fX]
 | t::l,r,h=>by rw [fX,if_pos h]
end
mutual
theorem Rv (M:Nat) (cY:1≤M) (aQ:∀n u,dJ n s=some u→u.size≤M):∀(t:aB) (r:Int),0≤r→-(M:Int)≤(t.h1 s r).2∧(t.h1 s r).2≤r
 | .mk k n x l,r,bb=>by
   rw [aB.h1]
   cases aA:(if k=1 then dJ n s else none) with
   | some u=>
     have:u.size≤M:=by
      by_cases c:k=1
      · rw [if_pos c] at aA;exact aQ n u aA
      · rw [if_neg c] at aA;cases aA
     simp only;omega
   | none=>
     simp only
     by_cases ab:0≤r-1
     · have:=Ry M cY aQ l (r-1) ab;omega
     · rw [Ap s l _ (by omega)];simp only;omega
theorem Ry (M:Nat) (cY:1≤M) (aQ:∀n u,dJ n s=some u→u.size≤M):∀(l:List aB) (r:Int),0≤r→-(M:Int)≤(fX s l r).2∧(fX s l r).2≤r
 | [],r,bb=>by rw [fX];simp only;omega
 | t::l,r,bb=>by
   rw [fX,if_neg (by omega)]
   have ab:=Rv M cY aQ t r bb
   simp only
   by_cases ae:0≤(t.h1 s r).2
   · have:=Ry M cY aQ l _ ae;omega
   · rw [Ap s l _ (by omega)];simp only;omega
end
theorem Rx:∀(l:List aB) (r:Int),(fX s l r).1.length≤l.length
 | [],r=>by rw [fX];simp
 | t::l,r=>by
   rw [fX]
   split
   · simp
   · have:=Rx l (t.h1 s r).2
     simp only [List.length_cons];omega
end
theorem vP {t:aB} (h:t.check=0):t.shape=true∧t.size≤4096∧t.deep≤200:=by
 unfold aB.check at h
 split at h
 · rename_i ab
   split at h
   · rename_i ae;exact ⟨ab,ae⟩
   · cases h
 · cases h
def iG:aB:=.mk 0 0 [] []
section
variable {s:fp}
end
mutual
theorem RD:∀t:aB,t.put []=t
 | .mk k n x l=>by
   rw [aB.put]
   have:(if k=1 then dJ n ([]:fp) else none)=none:=by split<;>rfl
   rw [this]
   simp only
   rw [RG l]
theorem RG:∀l:List aB,dD [] l=l
 | []=>rfl
 | t::l=>by rw [dD,RD t,RG l]
end
end Go.Proofs.YthemdhlheglhoaaGreatDoor
namespace Go.Proofs.YthemdhlheglhoaaGreatDoor
open Go aX
abbrev z4:List V:=[.int .i64 0,.int .i64 0,.str [],.b6]
abbrev cc (t:aB) (bN:V):List V:=[.int .i64 t.k,.int .i64 t.n,.str t.s,bN]
def De (s:List UInt8):Bool:=match mC s with
 | .ok [w]=>decide (w.kind=3)&&decide (w.text=s)
 | _=>false
theorem ah1 (s:List UInt8):De s=iB 3 s:=by
 rw [Bool.eq_iff_iff]
 refine ⟨fun h=>?_,fun h=>?_⟩
 · unfold De at h
   split at h
   · rename_i w hw
     simp only [Bool.and_eq_true,decide_eq_true_eq] at h
     have aU:iB w.kind w.text=true:=by
      unfold mC at hw
      split at hw
      · cases hw
      · split at hw
        · cases hw
        · exact CV _ _ _ _ hw w (by simp) (.inl h.1)
     rw [h.1,h.2] at aU
     exact aU
   · cases h
 · have aJ:=aiY (.inl rfl) h
   simp only [show ((3:Int)=5)=False from by simp,if_false] at aJ
   unfold De
   rw [aJ]
   simp
set_option maxHeartbeats 2000000 in
theorem ahg (z:List UInt8) (h:af):bB Tryz.prog 88 [.str z] h fun x aa=>x=.bool (iB 3 z)∧Ext h aa:=by
 rw [←ah1]
 refine Y0 rfl (cL ?_)
 unfold Gl
 simp +contextual only [↓ak,ax,simprocAttr]
 refine bY (agP z h) ?_
 rintro x ab ⟨aK,aq⟩
 unfold De
 cases ei:mC z with
 | error e=>
   rw [ei] at aq
   simp only at aq
   subst aq
   obtain ⟨ae,az,aS,bV⟩:=ga ab [.int .i64 0,.int .i64 0] [.int .i64 e.1,.int .i64 e.2]
   by_cases he:e.1=0
   · simp +contextual only [az,bV.g,eq_true he,show lp .b6=some (.int .i64 0) from rfl,show ((0:Int)=1)=False from by simp,decide_false,↓ak,ax,simprocAttr]
     exact aK.trans aS
   · simp +contextual only [az,bV.g,eq_false he,decide_false,↓ak,ax,simprocAttr]
     exact aK.trans aS
 | ok ws=>
   rw [ei] at aq
   simp only at aq
   obtain ⟨v,rfl,S⟩:=aq
   obtain ⟨ae,az,aS,bV⟩:=ga ab [.int .i64 0,.int .i64 0] [.int .i64 0,.int .i64 0]
   have iK:=(S.ext aS).v
   have ai:=iK.len
   have dA:=iK.one
   match ws,ei,iK,ai with
   | [],_,iK,ai=>
     have gm:lp v=some (.int .i64 0):=ai
     simp +contextual only [az,bV.g,gm,dA.1,dA.2.1,show ((0:Int)=1)=False from by simp,decide_true,decide_false,↓ak,ax,simprocAttr]
     exact aK.trans aS
   | [w],ei,iK,ai=>
     have gm:lp v=some (.int .i64 1):=ai
     obtain ⟨cC,dC,jn,L2⟩:=iK.cD (k:=.i64) (i:=0) (by simp)
     have Pl:iT 4 v (.int .i64 0)=some (.ptr cC dC):=by simpa using jn
     have d0:iw (ae.get cC) dC=some (.int .i64 w.kind):=by have:=L2.eu (i:=0) (by simp [oW,ch.enc]);simpa [oW,ch.enc] using this
     have d3:iw (ae.get cC) (dC+3)=some (.str w.text):=by have:=L2.eu (i:=3) (by simp [oW,ch.enc]);simpa [oW,ch.enc] using this
     by_cases bu:w.kind=3
     · simp +contextual only [az,bV.g,gm,dA.1,dA.2.1,Pl,d0,d3,eq_true bu,decide_true,decide_false,Bool.true_and,↓ak,ax,simprocAttr]
       exact aK.trans aS
     · simp +contextual only [az,bV.g,gm,dA.1,dA.2.1,Pl,d0,d3,eq_false bu,decide_true,decide_false,Bool.false_and,↓ak,ax,simprocAttr]
       exact aK.trans aS
   | w::b4::ws,_,iK,ai=>
     have gm:(((ws.length+2:Nat):Int)=1)=False:=eq_false (by omega)
     have ac1:lp v=some (.int .i64 ((ws.length+2:Nat):Int)):=ai
     simp +contextual only [az,bV.g,ac1,gm,dA.1,dA.2.1,decide_true,decide_false,↓ak,ax,simprocAttr]
     exact aK.trans aS
set_option maxHeartbeats 4000000 in
theorem ah_ (t:aB) (ad:List V) (h:af) (H:bJ Any h t.enc ad):bB Tryz.prog 57 [.agg ad] h fun x aa=>x=.bool t.own∧Ext h aa:=by
 obtain ⟨bN,rfl,L,gz⟩:=aB.open H
 have ol:=L.one
 have ai:=L.len
 rw [List.length_map] at ai
 refine Yc rfl (cL ?_)
 unfold F4
 obtain ⟨ab,an,aK,bC⟩:=dM h (cc t bN)
 have bH:iM=[45,62]:=rfl
 have a2:nO=[42]:=rfl
 unfold aB.own
 rw [bH,a2]
 by_cases bz:t.k=1
 · rw [if_pos bz]
   by_cases bu:0≤t.n
   · by_cases bI:t.n≤1048575
     · by_cases c3:t.s=[]
       · simp +contextual only [ol.1,ol.2.1,an,bC.g,ai,eq_true bz,eq_true bu,eq_true bI,eq_true c3,decide_true,decide_false,Bool.true_and,↓ak,ax,simprocAttr]
         refine ⟨?_,aK⟩
         simp
       · simp +contextual only [ol.1,ol.2.1,an,bC.g,ai,eq_true bz,eq_true bu,eq_true bI,eq_false c3,decide_true,decide_false,Bool.true_and,Bool.false_and,Bool.and_false,↓ak,ax,simprocAttr]
         exact aK
     · simp +contextual only [ol.1,ol.2.1,an,bC.g,ai,eq_true bz,eq_true bu,eq_false bI,decide_true,decide_false,Bool.true_and,Bool.false_and,Bool.and_false,↓ak,ax,simprocAttr]
       exact aK
   · simp +contextual only [ol.1,ol.2.1,an,bC.g,ai,eq_true bz,eq_false bu,decide_true,decide_false,Bool.true_and,Bool.false_and,Bool.and_false,↓ak,ax,simprocAttr]
     exact aK
 · rw [if_neg bz]
   by_cases bZ:t.k=2
   · rw [if_pos bZ]
     have h8:((t.l.length:Int)=2)=(t.l.length=2):=by apply propext;omega
     have zc:((t.l.length:Int)≤64)=(t.l.length≤64):=by apply propext;omega
     by_cases c3:t.s=[45,62]
     · rw [if_pos (.inl c3)]
       by_cases dN:t.n=0
       · simp +contextual only [ol.1,ol.2.1,an,bC.g,ai,eq_false bz,eq_true bZ,eq_true c3,eq_true dN,h8,decide_true,decide_false,Bool.true_and,Bool.false_and,↓ak,ax,simprocAttr]
         exact aK
       · simp +contextual only [ol.1,ol.2.1,an,bC.g,ai,eq_false bz,eq_true bZ,eq_true c3,eq_false dN,decide_true,decide_false,Bool.true_and,Bool.false_and,↓ak,ax,simprocAttr]
         exact aK
     · by_cases h4:t.s=[42]
       · rw [if_pos (.inr h4)]
         by_cases dN:t.n=0
         · simp +contextual only [ol.1,ol.2.1,an,bC.g,ai,eq_false bz,eq_true bZ,eq_false c3,eq_true h4,eq_true dN,h8,decide_true,decide_false,Bool.true_and,Bool.false_and,↓ak,ax,simprocAttr]
           exact aK
         · simp +contextual only [ol.1,ol.2.1,an,bC.g,ai,eq_false bz,eq_true bZ,eq_false c3,eq_true h4,eq_false dN,decide_true,decide_false,Bool.true_and,Bool.false_and,↓ak,ax,simprocAttr]
           exact aK
       · rw [if_neg (fun q=>q.elim c3 h4)]
         by_cases dN:t.n=0
         · by_cases c5:t.l.length≤64
           · simp +contextual only [ol.1,ol.2.1,an,bC.g,ai,eq_false bz,eq_true bZ,eq_false c3,eq_false h4,eq_true dN,zc,eq_true c5,decide_true,decide_false,Bool.true_and,Bool.false_and,↓ak,ax,simprocAttr]
             refine bY (ahg t.s ab) ?_
             rintro x ae ⟨rfl,aS⟩
             simp +contextual only [↓ak,ax,simprocAttr]
             exact aK.trans aS
           · simp +contextual only [ol.1,ol.2.1,an,bC.g,ai,eq_false bz,eq_true bZ,eq_false c3,eq_false h4,eq_true dN,zc,eq_false c5,decide_true,decide_false,Bool.true_and,Bool.false_and,↓ak,ax,simprocAttr]
             exact aK
         · simp +contextual only [ol.1,ol.2.1,an,bC.g,ai,eq_false bz,eq_true bZ,eq_false c3,eq_false h4,eq_false dN,decide_true,decide_false,Bool.true_and,Bool.false_and,↓ak,ax,simprocAttr]
           exact aK
   · rw [if_neg bZ]
     simp +contextual only [ol.1,ol.2.1,an,bC.g,ai,eq_false bz,eq_false bZ,decide_true,decide_false,↓ak,ax,simprocAttr]
     exact aK
set_option maxHeartbeats 4000000 in
theorem RM:∀(N:Nat) (t:aB),t.size≤N→N≤1000000000→∀(ad:List V) (h:af),bJ Any h t.enc ad→bB Tryz.prog 59 [.agg ad] h fun x aa=>x=.int .i64 (t.deep:Nat)∧Ext h aa
 | 0,t,aQ,_,_,_,_=>by have:=lu t;omega
 | N+1,t,aQ,r8,ad,h,H=>by
   obtain ⟨bN,rfl,L,_⟩:=aB.open H
   have bG:N≤1000000000:=by omega
   have ol:=L.one
   have ai:=L.len
   have hle:=L.le
   rw [List.length_map] at ai hle
   have Ol:=size_eq t
   refine Yi rfl (cL ?_)
   unfold F7
   obtain ⟨ab,an,aK,bC⟩:=dM h (cc t bN)
   simp +contextual only [ol.1,ol.2.1,an,↓ak,ax,simprocAttr]
   refine fG (fun r g=>r 1=.ptr (al h.next) 0∧∃i:Nat,r 3=.int .i64 (h_ (t.l.take i):Nat)∧r 4=.int .i64 i∧i≤t.l.length∧Ext ab g) (fun r g=>t.l.length - (r 4).toN) ?_ ?_
   · exact ⟨by simp only [↓ak,bL,simprocAttr],0,by simp only [↓ak,bL,simprocAttr]<;>rfl,by simp only [↓ak,bL,simprocAttr]<;>rfl,by omega,Ext.refl ab⟩
   rintro r g ⟨bl,i,cg,c7,aC,E⟩
   unfold Mw
   have A:=bC.ext E
   have mj:=L.ext (aK.trans E)
   have jh:=xw t.l i
   have mr:=Dm (t.l.take i)
   by_cases aL:i<t.l.length
   · have g0:((i:Int) < (t.l.length:Int))=True:=eq_true (by omega)
     obtain ⟨b,off,wl,cD,X,fI,ld⟩:=aB.hN mj (k:=.i64) aL
     have d1:=ld g (Ext.refl g)
     have dH:=hT aL (by unfold top at hle;omega)
     have bo:=l9 (t:=t) (List.getElem_mem aL)
     simp +contextual only [bl,cg,c7,A.g,ai,g0,cD,d1,↓ak,ax,simprocAttr]
     refine bY (RM N t.l[i] (by omega) bG _ g X) ?_
     rintro x g2 ⟨rfl,ct⟩
     simp +contextual only [bl,cg,c7,Qu,dH,↓ak,ax,simprocAttr]
     exact ⟨⟨i+1,by rw [aim aL],rfl,aL,E.trans ct⟩,by omega⟩
   · have g0:((i:Int) < (t.l.length:Int))=False:=eq_false (by omega)
     rw [List.take_of_length_le (by omega)] at cg
     have b3:IntKind.i64.wrap ((h_ t.l:Int)+1)=((h_ t.l+1:Nat):Int):=by
      have:=Dm t.l
      rw [wrap_i64 (by omega) (by omega)];rfl
     simp +contextual only [bl,cg,c7,A.g,ai,g0,b3,↓ak,ax,simprocAttr]
     exact ⟨by rw [aah],aK.trans E⟩
set_option maxHeartbeats 4000000 in
theorem J5:∀(N:Nat) (t:aB),t.size≤N→N≤1000000000→∀(ad:List V) (h:af),bJ Any h t.enc ad→bB Tryz.prog 31 [.agg ad] h fun x aa=>x=.int .i64 (t.size:Nat)∧Ext h aa
 | 0,t,aQ,_,_,_,_=>by have:=lu t;omega
 | N+1,t,aQ,r8,ad,h,H=>by
   obtain ⟨bN,rfl,L,_⟩:=aB.open H
   have bG:N≤1000000000:=by omega
   have ol:=L.one
   have ai:=L.len
   have hle:=L.le
   rw [List.length_map] at ai hle
   have Ol:=size_eq t
   refine XF rfl (cL ?_)
   unfold FQ
   obtain ⟨ab,an,aK,bC⟩:=dM h (cc t bN)
   simp +contextual only [ol.1,ol.2.1,an,↓ak,ax,simprocAttr]
   refine fG (fun r g=>r 1=.ptr (al h.next) 0∧∃i:Nat,r 3=.int .i64 ((1+c9 (t.l.take i):Nat):Int)∧r 4=.int .i64 i∧i≤t.l.length∧Ext ab g) (fun r g=>t.l.length - (r 4).toN) ?_ ?_
   · exact ⟨by simp only [↓ak,bL,simprocAttr],0,by simp only [↓ak,bL,simprocAttr]<;>rfl,by simp only [↓ak,bL,simprocAttr]<;>rfl,by omega,Ext.refl ab⟩
   rintro r g ⟨bl,i,cg,c7,aC,E⟩
   unfold Mr
   have A:=bC.ext E
   have mj:=L.ext (aK.trans E)
   have jh:=xw t.l i
   by_cases aL:i<t.l.length
   · have g0:((i:Int) < (t.l.length:Int))=True:=eq_true (by omega)
     obtain ⟨b,off,wl,cD,X,fI,ld⟩:=aB.hN mj (k:=.i64) aL
     have d1:=ld g (Ext.refl g)
     have dH:=hT aL (by unfold top at hle;omega)
     have bo:=l9 (t:=t) (List.getElem_mem aL)
     have aF:=Dv aL
     have O8:=xw t.l (i+1)
     simp +contextual only [bl,cg,c7,A.g,ai,g0,cD,d1,↓ak,ax,simprocAttr]
     refine bY (J5 N t.l[i] (by omega) bG _ g X) ?_
     rintro x g2 ⟨rfl,ct⟩
     have b3:IntKind.i64.wrap (((1+c9 (t.l.take i):Nat):Int) + (t.l[i].size:Nat))=((1+c9 (t.l.take (i+1)):Nat):Int):=by
      rw [wrap_i64 (by omega) (by omega),aF];omega
     simp +contextual only [bl,cg,c7,b3,dH,↓ak,ax,simprocAttr]
     exact ⟨⟨i+1,rfl,rfl,aL,E.trans ct⟩,by omega⟩
   · have g0:((i:Int) < (t.l.length:Int))=False:=eq_false (by omega)
     rw [List.take_of_length_le (by omega)] at cg
     simp +contextual only [bl,cg,c7,A.g,ai,g0,↓ak,ax,simprocAttr]
     exact ⟨by rw [size_eq],aK.trans E⟩
theorem ajB {l:List aB} {i:Nat} (h:i<l.length):ic (l.drop i)=(l[i].shape&&ic (l.drop (i+1))):=by
 rw [List.drop_eq_getElem_cons h,ic]
set_option maxHeartbeats 8000000 in
theorem Sk:∀(N:Nat) (t:aB),t.size≤N→N≤1000000000→∀(ad:List V) (h:af),bJ Any h t.enc ad→bB Tryz.prog 58 [.agg ad] h fun x aa=>x=.bool t.shape∧Ext h aa
 | 0,t,aQ,_,_,_,_=>by have:=lu t;omega
 | N+1,t,aQ,r8,ad,h,H=>by
   obtain ⟨bN,rfl,L,gz⟩:=aB.open H
   have bG:N≤1000000000:=by omega
   have ol:=L.one
   have ai:=L.len
   have hle:=L.le
   rw [List.length_map] at ai hle
   have Ol:=size_eq t
   refine Yf rfl (cL ?_)
   unfold F5
   obtain ⟨ab,an,aK,bC⟩:=dM h (cc t bN)
   have bH:iM=[45,62]:=rfl
   have a2:nO=[42]:=rfl
   have TT:=L.ext aK
   rw [p4]
   unfold aB.own
   rw [bH,a2]
   by_cases bz:t.k=1
   · rw [if_pos bz]
     by_cases bu:0≤t.n
     · by_cases bI:t.n≤1048575
       · by_cases c3:t.s=[]
         · by_cases dN:t.l.length=0
           · have tA:((t.l.length:Int)=0)=True:=eq_true (by omega)
             have k6:=List.eq_nil_of_length_eq_zero dN
             simp +contextual only [ol.1,ol.2.1,an,bC.g,ai,eq_true bz,eq_true bu,eq_true bI,eq_true c3,tA,decide_true,decide_false,Bool.true_and,↓ak,ax,simprocAttr]
             refine ⟨?_,aK⟩
             rw [decide_eq_true dN,k6,ic];rfl
           · have tA:((t.l.length:Int)=0)=False:=eq_false (by omega)
             simp +contextual only [ol.1,ol.2.1,an,bC.g,ai,eq_true bz,eq_true bu,eq_true bI,eq_true c3,tA,decide_true,decide_false,Bool.true_and,↓ak,ax,simprocAttr]
             refine ⟨?_,aK⟩
             rw [decide_eq_false dN];rfl
         · simp +contextual only [ol.1,ol.2.1,an,bC.g,ai,eq_true bz,eq_true bu,eq_true bI,eq_false c3,decide_true,decide_false,Bool.true_and,Bool.false_and,Bool.and_false,↓ak,ax,simprocAttr]
           exact aK
       · simp +contextual only [ol.1,ol.2.1,an,bC.g,ai,eq_true bz,eq_true bu,eq_false bI,decide_true,decide_false,Bool.true_and,Bool.false_and,Bool.and_false,↓ak,ax,simprocAttr]
         exact aK
     · simp +contextual only [ol.1,ol.2.1,an,bC.g,ai,eq_true bz,eq_false bu,decide_true,decide_false,Bool.true_and,Bool.false_and,Bool.and_false,↓ak,ax,simprocAttr]
       exact aK
   · rw [if_neg bz]
     have kids:∀{g0:af} (fQ:Ext ab g0) {r:aR} (bl:r 1=.ptr (al h.next) 0) (c7:r 4=.int .i64 0) {Q:de→aR→af→Prop} (cZ:∀e r g,e.ends→r 2=.bool (ic t.l)→Ext h g→Q e r g),
      uM Tryz.prog F6 [.aW 0,.c (.seq (bx.ar [⟨(some 2),.fH (.c (.bool true)),none,[]⟩]) (bx.ret))] r g0 Q:=by
      intro g0 fQ r bl c7 Q cZ
      refine fG (fun r g=>r 1=.ptr (al h.next) 0∧∃i:Nat,r 4=.int .i64 i∧i≤t.l.length∧ic t.l=ic (t.l.drop i)∧Ext ab g) (fun r g=>t.l.length - (r 4).toN) ?_ ?_
      · exact ⟨bl,0,c7,by omega,rfl,fQ⟩
      clear bl c7
      rintro r g ⟨bl,i,c7,aC,eG,E⟩
      unfold F6
      have A:=bC.ext E
      by_cases aL:i<t.l.length
      · have tN:((i:Int) < (t.l.length:Int))=True:=eq_true (by omega)
        obtain ⟨b,off,wl,cD,X,fI,ld⟩:=aB.hN (TT.ext E) (k:=.i64) aL
        have d1:=ld g (Ext.refl g)
        have dH:=hT aL (by unfold top at hle;omega)
        have bo:=l9 (t:=t) (List.getElem_mem aL)
        have aZ:=ajB aL
        simp +contextual only [bl,c7,A.g,ai,tN,cD,d1,↓ak,ax,simprocAttr]
        refine bY (Sk N t.l[i] (by omega) bG _ g X) ?_
        rintro x g2 ⟨rfl,ct⟩
        cases ag:t.l[i].shape with
        | true=>
          simp +contextual only [bl,c7,dH,↓ak,ax,simprocAttr]
          exact ⟨⟨i+1,rfl,aL,by rw [eG,aZ,ag,Bool.true_and],E.trans ct⟩,by omega⟩
        | false=>
          simp +contextual only [bl,c7,dH,↓ak,ax,simprocAttr]
          exact cZ _ _ _ (by trivial) (by rw [eG,aZ,ag,Bool.false_and];simp only [↓ak,bL,simprocAttr]) (aK.trans (E.trans ct))
      · have tN:((i:Int) < (t.l.length:Int))=False:=eq_false (by omega)
        rw [List.drop_eq_nil_of_le (by omega),ic] at eG
        simp +contextual only [bl,c7,A.g,ai,tN,↓ak,ax,simprocAttr]
        exact cZ _ _ _ (by trivial) (by rw [eG];simp only [↓ak,bL,simprocAttr]) (aK.trans E)
     by_cases bZ:t.k=2
     · rw [if_pos bZ]
       by_cases dN:t.n=0
       · have h8:((t.l.length:Int)=2)=(t.l.length=2):=by apply propext;omega
         have zc:(64 < (t.l.length:Int))=(64<t.l.length):=by apply propext;omega
         by_cases c3:t.s=[45,62]
         · rw [if_pos (.inl c3)]
           by_cases c5:t.l.length=2
           · simp +contextual only [ol.1,ol.2.1,an,bC.g,ai,eq_false bz,eq_true bZ,eq_true c3,eq_true dN,h8,eq_true c5,decide_true,decide_false,Bool.true_and,Bool.false_and,Bool.and_false,Bool.not_true,Bool.not_false,↓ak,ax,simprocAttr]
             exact kids (Ext.refl _) (by simp only [↓ak,bL,simprocAttr]) (by simp only [↓ak,bL,simprocAttr]) fun e r g he aJ E=>⟨he,aJ,E⟩
           · simp +contextual only [ol.1,ol.2.1,an,bC.g,ai,eq_false bz,eq_true bZ,eq_true c3,eq_true dN,h8,eq_false c5,decide_true,decide_false,Bool.true_and,Bool.false_and,Bool.and_false,Bool.not_true,Bool.not_false,↓ak,ax,simprocAttr]
             exact aK
         · by_cases h4:t.s=[42]
           · rw [if_pos (.inr h4)]
             by_cases c5:t.l.length=2
             · simp +contextual only [ol.1,ol.2.1,an,bC.g,ai,eq_false bz,eq_true bZ,eq_false c3,eq_true h4,eq_true dN,h8,eq_true c5,decide_true,decide_false,Bool.true_and,Bool.false_and,Bool.and_false,Bool.not_true,Bool.not_false,↓ak,ax,simprocAttr]
               exact kids (Ext.refl _) (by simp only [↓ak,bL,simprocAttr]) (by simp only [↓ak,bL,simprocAttr]) fun e r g he aJ E=>⟨he,aJ,E⟩
             · simp +contextual only [ol.1,ol.2.1,an,bC.g,ai,eq_false bz,eq_true bZ,eq_false c3,eq_true h4,eq_true dN,h8,eq_false c5,decide_true,decide_false,Bool.true_and,Bool.false_and,Bool.and_false,Bool.not_true,Bool.not_false,↓ak,ax,simprocAttr]
               exact aK
           · rw [if_neg (fun q=>q.elim c3 h4)]
             simp +contextual only [ol.1,ol.2.1,an,bC.g,ai,eq_false bz,eq_true bZ,eq_false c3,eq_false h4,eq_true dN,decide_true,decide_false,Bool.true_and,Bool.false_and,Bool.and_false,Bool.not_true,Bool.not_false,↓ak,ax,simprocAttr]
             refine bY (ai0 3 t.s (by unfold top at gz;omega) (.inl rfl) ab) ?_
             rintro x ae ⟨rfl,aS⟩
             have bV:=bC.ext aS
             cases j_:iB 3 t.s with
             | false=>
               simp +contextual only [↓ak,ax,simprocAttr]
               exact aK.trans aS
             | true=>
               by_cases c5:t.l.length≤64
               · have F2:(64<t.l.length)=False:=eq_false (by omega)
                 simp +contextual only [bV.g,ai,zc,F2,eq_true c5,decide_true,decide_false,Bool.true_and,↓ak,ax,simprocAttr]
                 exact kids aS (by simp only [↓ak,bL,simprocAttr]) (by simp only [↓ak,bL,simprocAttr]) fun e r g he aJ E=>⟨he,aJ,E⟩
               · have F2:(64<t.l.length)=True:=eq_true (by omega)
                 simp +contextual only [bV.g,ai,zc,F2,eq_false c5,decide_true,decide_false,Bool.true_and,Bool.false_and,↓ak,ax,simprocAttr]
                 exact aK.trans aS
       · by_cases c3:t.s=[45,62]
         · rw [if_pos (.inl c3)]
           simp +contextual only [ol.1,ol.2.1,an,bC.g,ai,eq_false bz,eq_true bZ,eq_true c3,eq_false dN,decide_true,decide_false,Bool.true_and,Bool.false_and,Bool.and_false,Bool.not_true,Bool.not_false,↓ak,ax,simprocAttr]
           exact aK
         · by_cases h4:t.s=[42]
           · rw [if_pos (.inr h4)]
             simp +contextual only [ol.1,ol.2.1,an,bC.g,ai,eq_false bz,eq_true bZ,eq_false c3,eq_true h4,eq_false dN,decide_true,decide_false,Bool.true_and,Bool.false_and,Bool.and_false,Bool.not_true,Bool.not_false,↓ak,ax,simprocAttr]
             exact aK
           · rw [if_neg (fun q=>q.elim c3 h4)]
             simp +contextual only [ol.1,ol.2.1,an,bC.g,ai,eq_false bz,eq_true bZ,eq_false c3,eq_false h4,eq_false dN,decide_true,decide_false,Bool.true_and,Bool.false_and,Bool.and_false,Bool.not_true,Bool.not_false,↓ak,ax,simprocAttr]
             exact aK
     · rw [if_neg bZ]
       by_cases c3:t.s=[45,62]
       · simp +contextual only [ol.1,ol.2.1,an,bC.g,ai,eq_false bz,eq_false bZ,eq_true c3,decide_true,decide_false,Bool.true_and,Bool.false_and,Bool.and_false,Bool.not_true,Bool.not_false,↓ak,ax,simprocAttr]
         exact aK
       · simp +contextual only [ol.1,ol.2.1,an,bC.g,ai,eq_false bz,eq_false bZ,eq_false c3,decide_true,decide_false,Bool.true_and,Bool.false_and,Bool.and_false,Bool.not_true,Bool.not_false,↓ak,ax,simprocAttr]
         exact aK
theorem ML (t:aB):t.check=if t.shape=true then (if t.size≤4096 then (if t.deep≤200 then 0 else 3) else 3) else 2:=by
 unfold aB.check
 split
 · by_cases a:t.size≤4096
   · by_cases b:t.deep≤200
     · rw [if_pos ⟨a,b⟩,if_pos a,if_pos b]
     · rw [if_neg (fun q=>b q.2),if_pos a,if_neg b]
   · rw [if_neg (fun q=>a q.1),if_neg a]
 · rfl
theorem Au (t:aB) (aQ:t.size≤1000000000) (ad:List V) (h:af) (H:bJ Any h t.enc ad):bB Tryz.prog 20 [.agg ad] h fun x aa=>x=.int .i64 t.check∧Ext h aa:=by
 have eo:=H
 obtain ⟨bN,rfl,L,gz⟩:=aB.open H
 have ol:=L.one
 refine Xk rfl (cL ?_)
 unfold FH
 obtain ⟨ab,an,aK,bC⟩:=dM h (cc t bN)
 rw [ML]
 simp +contextual only [ol.1,ol.2.1,an,bC.g,↓ak,ax,simprocAttr]
 refine bY (Sk _ t (Nat.le_refl _) aQ _ ab (eo.ext aK)) ?_
 rintro x ae ⟨rfl,aS⟩
 have bV:=bC.ext aS
 have cn:=aK.trans aS
 cases c:t.shape with
 | false=>
   simp +contextual only [↓ak,ax,simprocAttr]
   exact cn
 | true=>
 simp +contextual only [bV.g,↓ak,ax,simprocAttr]
 refine bY (J5 _ t (Nat.le_refl _) aQ _ ae (eo.ext cn)) ?_
 rintro x aG ⟨rfl,bn⟩
 have dd:=bV.ext bn
 have en:=cn.trans bn
 by_cases bI:t.size≤4096
 · have f2:((4096:Int) < (t.size:Int))=False:=eq_false (by omega)
   simp +contextual only [dd.g,f2,decide_true,decide_false,↓ak,ax,simprocAttr]
   refine bY (RM _ t (Nat.le_refl _) aQ _ aG (eo.ext en)) ?_
   rintro x ba ⟨rfl,b2⟩
   have hC:=en.trans b2
   by_cases c3:t.deep≤200
   · have f3:((200:Int) < (t.deep:Int))=False:=eq_false (by omega)
     simp +contextual only [f3,decide_true,decide_false,↓ak,ax,simprocAttr]
     exact ⟨by simp [bI,c3],hC⟩
   · have f3:((200:Int) < (t.deep:Int))=True:=eq_true (by omega)
     simp +contextual only [f3,decide_true,decide_false,↓ak,ax,simprocAttr]
     exact ⟨by simp [bI,c3],hC⟩
 · have f2:((4096:Int) < (t.size:Int))=True:=eq_true (by omega)
   simp +contextual only [dd.g,f2,decide_true,decide_false,↓ak,ax,simprocAttr]
   exact ⟨by simp [bI],en⟩
theorem aB.PT [Lay] {F:aP→Prop} {h:af} {l:List aB} {v:V} (H:cw F h 4 (l.map aB.enc) v) {k:IntKind} {i:Nat} (aC:i<l.length):
 ∃b off bN,iT 4 v (.int k i)=some (.ptr b (off+i * 4))∧bJ F h l[i].enc [.int .i64 l[i].k,.int .i64 l[i].n,.str l[i].s,bN]∧cw F h 4 (l[i].l.map aB.enc) bN∧
  (∀aa,Ext h aa→kI 4 (aa.get b) (off+i * 4)=some (.agg [.int .i64 l[i].k,.int .i64 l[i].n,.str l[i].s,bN]))∧
  (∀aa,Ext h aa→iw (aa.get b) (off+i * 4)=some (.int .i64 l[i].k))∧(∀aa,Ext h aa→iw (aa.get b) (off+i * 4+2)=some (.str l[i].s))∧(∀aa,Ext h aa→iw (aa.get b) (off+i * 4+3)=some bN):=by
 obtain ⟨b,off,u,aK,aS,bn,b2,fJ⟩:=H.at (k:=k) (i:=i) (by rw [List.length_map];exact aC)
 rw [List.getElem_map] at aS
 obtain ⟨bN,rfl,L,_⟩:=aB.open aS
 exact ⟨b,off,bN,aK,aS,L,b2,fun aa e=>by simpa using fJ aa e 0 (by omega),fun aa e=>by simpa using fJ aa e 2 (by omega),fun aa e=>by simpa using fJ aa e 3 (by omega)⟩
set_option maxHeartbeats 1000000 in
theorem Q5:∀(N:Nat) (l:List aB),c9 l<N→∀(m:Int) (v:V) (h:af),cw Any h 4 (l.map aB.enc) v→bB Tryz.prog 46 [v,.int .i64 m] h fun x aa=>(∃n,x=.int .i64 n)∧aa=h
 | 0,l,aQ,_,_,_,_=>by omega
 | N+1,l,aQ,m,v,h,L=>by
   have ai:=L.len
   have hle:=L.le
   rw [List.length_map] at ai hle
   refine X6 rfl (cL ?_)
   unfold F1
   simp +contextual only [↓ak,ax,simprocAttr]
   refine fG (fun r g=>r 0=v∧r 1=.int .i64 m∧g=h∧∃(i:Nat) (n:Int),r 5=.int .i64 n∧r 6=.int .i64 i∧i≤l.length) (fun r g=>l.length - (r 6).toN) ?_ ?_
   · exact ⟨by simp only [↓ak,bL,simprocAttr],by simp only [↓ak,bL,simprocAttr],rfl,0,0,by simp only [↓ak,bL,simprocAttr],by simp only [↓ak,bL,simprocAttr]<;>rfl,by omega⟩
   rintro r g ⟨bE,bl,rfl,i,n,c1,eQ,aC⟩
   unfold Mv
   by_cases aL:i<l.length
   · have g0:((i:Int) < (l.length:Int))=True:=eq_true (by omega)
     by_cases aU:n≤m
     · have HR:=eq_true aU
       obtain ⟨b,off,wl,cD,X,fI,ld,fb,P7,zQ⟩:=aB.PT L (k:=.i64) aL
       have d3:=P7 g (Ext.refl g)
       have d4:=zQ g (Ext.refl g)
       have dH:=hT aL (by unfold top at hle;omega)
       have fv:l[i].s.length≤top:=by obtain ⟨_,_,_,q⟩:=aB.open X;exact q
       have aiK:=aiL (P:=Tryz.prog) (n:=l[i].s.length) (by unfold top at fv;omega)
       simp +contextual only [bE,bl,c1,eQ,ai,g0,HR,cD,d3,d4,aiK,↓ak,ax,simprocAttr]
       refine bY (Q5 N l[i].l (by have:=JG aL;omega) _ wl g fI) ?_
       rintro x g2 ⟨⟨y,rfl⟩,rfl⟩
       simp +contextual only [bE,bl,c1,eQ,dH,↓ak,ax,simprocAttr]
       exact ⟨⟨i+1,_,rfl,rfl,aL⟩,by omega⟩
     · have HR:=eq_false aU
       simp +contextual only [bE,bl,c1,eQ,ai,g0,HR,↓ak,ax,simprocAttr]
       exact ⟨_,rfl⟩
   · have g0:((i:Int) < (l.length:Int))=False:=eq_false (by omega)
     simp +contextual only [bE,bl,c1,eQ,ai,g0,↓ak,ax,simprocAttr]
     exact ⟨_,rfl⟩
theorem agl (l:List aB) (m:Int) (v:V) (h:af) (L:cw Any h 4 (l.map aB.enc) v):bB Tryz.prog 10 [v,.int .i64 m] h fun x aa=>(∃b,x=.bool b)∧aa=h:=by
 refine Wf rfl (cL ?_)
 unfold Fe
 simp +contextual only [↓ak,ax,simprocAttr]
 refine bY (Q5 _ l (Nat.lt_succ_self _) m v h L) ?_
 rintro x g2 ⟨⟨y,rfl⟩,rfl⟩
 simp +contextual only [↓ak,ax,simprocAttr]
 exact ⟨_,rfl⟩
set_option maxHeartbeats 1000000 in
theorem MW:∀(N:Nat) (l:List aB),c9 l<N→N≤1000000000→∀(v:V) (h:af),cw Any h 4 (l.map aB.enc) v→bB Tryz.prog 12 [v] h fun x aa=>cw (jw h) aa 4 (l.map aB.enc) x∧Ext h aa
 | 0,l,aQ,_,_,_,_=>by omega
 | N+1,l,aQ,bG,v,h,L=>by
   have ai:=L.len
   have hle:=L.le
   rw [List.length_map] at ai hle
   refine Wx rfl (cL ?_)
   unfold Fk
   simp +contextual only [↓ak,ax,simprocAttr]
   refine fG (fun r g=>r 0=v∧∃(i:Nat) (w:V),r 3=w∧r 4=.int .i64 i∧i≤l.length∧fo h.next (jw h) g 4 ((l.take i).map aB.enc) w∧Ext h g) (fun r g=>l.length - (r 4).toN) ?_ ?_
   · exact ⟨by simp only [↓ak,bL,simprocAttr],0,.b6,by simp only [↓ak,bL,simprocAttr],by simp only [↓ak,bL,simprocAttr]<;>rfl,by omega,fo.nil _ _ _ _,Ext.refl h⟩
   rintro r g ⟨bE,i,w,cg,c7,aC,W,E⟩
   unfold Mk
   have um:=oN l
   by_cases aL:i<l.length
   · have g0:((i:Int) < (l.length:Int))=True:=eq_true (by omega)
     obtain ⟨b,off,wl,cD,X,fI,ld,fb,P7,zQ⟩:=aB.PT (L.ext E) (k:=.i64) aL
     have d0:=ld g (Ext.refl g)
     obtain ⟨g1,ek,bj,Z⟩:=ga g [.int .i64 0,.int .i64 0,.str [],.b6] [.int .i64 l[i].k,.int .i64 l[i].n,.str l[i].s,wl]
     have d4:=zQ g1 bj
     have dH:=hT aL (by unfold top at hle;omega)
     have ol:=fI.one
     simp +contextual only [bE,cg,c7,ai,g0,cD,d0,d4,ek,ol.1,ol.2.1,↓ak,ax,simprocAttr]
     refine bY (MW N l[i].l (by have:=JG aL;omega) (by omega) wl g1 (fI.ext bj)) ?_
     rintro y g2 ⟨Y,ct⟩
     have Bh:=Z.ext ct
     have fW:=Y.one
     have ag5:=Z.lt
     have xP:Ext g g2:=bj.trans ct
     have po:=Bh.put [.int .i64 l[i].k,.int .i64 l[i].n,.str l[i].s,y]
     have UY:=Y.set (b:=al g.next) (fun q=>by unfold jw at q;rw [cK] at q;omega) (.a1 [.int .i64 l[i].k,.int .i64 l[i].n,.str l[i].s,y] 0 false)
     have Tn:Ext g (g2.set (al g.next) (.a1 [.int .i64 l[i].k,.int .i64 l[i].n,.str l[i].s,y] 0 false)):=xP.set (Nat.le_refl _) _
     have hw:∀b,jw g1 b→jw h b∧¬w.aW b:=fun b q=>by
      have:=E.next
      unfold jw at q ⊢
      refine ⟨by omega,fun z=>?_⟩
      have:=W.QQ z
      unfold Old at this
      omega
     have aq:bJ (fun b=>jw h b∧¬w.aW b) (g2.set (al g.next) (.a1 [.int .i64 l[i].k,.int .i64 l[i].n,.str l[i].s,y] 0 false)) l[i].enc [.int .i64 l[i].k,.int .i64 l[i].n,.str l[i].s,y]:=by
      rw [sF]
      have gz:l[i].s.length≤top:=by obtain ⟨_,_,_,q⟩:=aB.open X;exact q
      exact .i (.i (.s gz ((UY.fg hw).cons .nil)))
     have rU:=W.ext Tn
     have en:=E.trans Tn
     simp +contextual only [bE,cg,c7,Bh.g,fW.1,fW.2.1,↓ak,ax,simprocAttr]
     have n3:(g2.set (al g.next) (.a1 [.int .i64 l[i].k,.int .i64 l[i].n,.str l[i].s,y] 0 false)).next=g2.next:=mF ..
     generalize g2.set (al g.next) (.a1 [.int .i64 l[i].k,.int .i64 l[i].n,.str l[i].s,y] 0 false)=g3 at *
     obtain ⟨ao,g4,an,az,aN,bM,dL⟩:=rU.add aq (by omega) en.next (by rw [List.length_map,List.length_take];unfold top;omega) rfl
     rw [n3] at an
     simp +contextual only [bE,cg,c7,po.g,fW.1,fW.2.1,an,dH,↓ak,ax,simprocAttr]
     refine ⟨⟨i+1,rfl,aL,?_,en.ke aN fun b ag=>W.base ag⟩,by omega⟩
     rw [take_one aL,List.map_append]
     exact az
   · have g0:((i:Int) < (l.length:Int))=False:=eq_false (by omega)
     rw [List.take_of_length_le (by omega)] at W
     simp +contextual only [bE,cg,c7,ai,g0,↓ak,ax,simprocAttr]
     exact ⟨W.fv (by rw [List.length_map];exact hle) (fun _ q=>q) fun _ q=>q,E⟩
set_option maxHeartbeats 2000000 in
theorem J9:∀(N:Nat),(∀(t:aB),2 * t.size<N→∀(ad ws:List V) (h:af),bJ Any h t.enc ad→bJ Any h t.enc ws→bB Tryz.prog 25 [.agg ad,.agg ws] h fun x aa=>x=.bool true∧Ext h aa)∧
 (∀(l:List aB),2 * c9 l+1<N→∀(v w:V) (h:af),cw Any h 4 (l.map aB.enc) v→cw Any h 4 (l.map aB.enc) w→bB Tryz.prog 17 [v,w] h fun x aa=>x=.bool true∧Ext h aa)
 | 0=>⟨fun t q=>by omega,fun l q=>by omega⟩
 | N+1=>by
   obtain ⟨zF,uz⟩:=J9 N
   refine ⟨fun t aQ ad ws h H cq=>?_,fun l aQ v w h L tm=>?_⟩
   · obtain ⟨bN,rfl,L,_⟩:=aB.open H
     obtain ⟨wl,rfl,tm,_⟩:=aB.open cq
     have ca:=size_eq t
     have ol:=L.one
     have di:=tm.one
     refine Xn rfl (cL ?_)
     unfold FI
     obtain ⟨ab,an,aK,bC⟩:=dM h [.int .i64 t.k,.int .i64 t.n,.str t.s,bN]
     obtain ⟨ae,az,aS,bV⟩:=dM ab [.int .i64 t.k,.int .i64 t.n,.str t.s,wl]
     have Tr:=bC.ext aS
     simp +contextual only [ol.1,ol.2.1,di.1,di.2.1,an,az,Tr.g,bV.g,decide_true,↓ak,ax,simprocAttr]
     refine bY (uz t.l (by omega) bN wl ae (L.ext (aK.trans aS)) (tm.ext (aK.trans aS))) ?_
     rintro x aG ⟨rfl,bn⟩
     simp +contextual only [↓ak,ax,simprocAttr]
     exact (aK.trans aS).trans bn
   · have ai:=L.len
     have h8:=tm.len
     have hle:=L.le
     rw [List.length_map] at ai hle h8
     refine Xd rfl (cL ?_)
     unfold qD
     simp +contextual only [ai,h8,↓ak,ax,simprocAttr]
     refine fG (fun r g=>r 0=v∧r 1=w∧∃i:Nat,r 5=.int .i64 i∧i≤l.length∧Ext h g) (fun r g=>l.length - (r 5).toN) ?_ ?_
     · exact ⟨by simp only [↓ak,bL,simprocAttr],by simp only [↓ak,bL,simprocAttr],0,by simp only [↓ak,bL,simprocAttr]<;>rfl,by omega,Ext.refl h⟩
     rintro r g ⟨bE,bl,i,c1,aC,E⟩
     unfold Mn
     by_cases aL:i<l.length
     · have g0:((i:Int) < (l.length:Int))=True:=eq_true (by omega)
       obtain ⟨b,off,ul,cD,X,fI,ld⟩:=aB.hN (L.ext E) (k:=.i64) aL
       obtain ⟨ck,Ab,amR,kF,yt,alA,l2⟩:=aB.hN (tm.ext E) (k:=.i64) aL
       have d1:=ld g (Ext.refl g)
       have d2:=l2 g (Ext.refl g)
       have dH:=hT aL (by unfold top at hle;omega)
       have ca:=xv (List.getElem_mem aL)
       simp +contextual only [bE,bl,c1,ai,g0,cD,kF,d1,d2,↓ak,ax,simprocAttr]
       refine bY (zF l[i] (by omega) _ _ g X yt) ?_
       rintro x g2 ⟨rfl,aS⟩
       have d3:=ld g2 aS
       have d4:=l2 g2 aS
       simp +contextual only [bE,bl,c1,dH,d1,d2,d3,d4,↓ak,ax,simprocAttr]
       exact ⟨⟨i+1,rfl,aL,E.trans aS⟩,by omega⟩
     · have g0:((i:Int) < (l.length:Int))=False:=eq_false (by omega)
       simp +contextual only [bE,bl,c1,ai,g0,↓ak,ax,simprocAttr]
       exact E
theorem ajy (l:List aB) (v w:V) (h:af) (L:cw Any h 4 (l.map aB.enc) v) (tm:cw Any h 4 (l.map aB.enc) w):bB Tryz.prog 17 [v,w] h fun x aa=>x=.bool true∧Ext h aa:=(J9 _).2 l (Nat.lt_succ_self _) v w h L tm
theorem ajx (t:aB) (ad ws:List V) (h:af) (H:bJ Any h t.enc ad) (cq:bJ Any h t.enc ws):bB Tryz.prog 25 [.agg ad,.agg ws] h fun x aa=>x=.bool true∧Ext h aa:=(J9 _).1 t (Nat.lt_succ_self _) ad ws h H cq
abbrev z5:List V:=[.int .i64 0,.int .i64 0,.str [],.b6]
abbrev n' (t:aB) (bN:V):List V:=[.int .i64 t.k,.int .i64 t.n,.str t.s,bN]
set_option maxHeartbeats 4000000 in
theorem Rl:∀N:Nat,(∀(t u:aB),t.size≤N→∀(ad ws:List V) (h:af),bJ Any h t.enc ad→bJ Any h u.enc ws→bB Tryz.prog 28 [.agg ad,.agg ws] h fun x aa=>x=.bool (t.same u)∧Ext h aa)∧
 (∀(l m:List aB),c9 l≤N→∀(v w:V) (h:af),cw Any h 4 (l.map aB.enc) v→cw Any h 4 (m.map aB.enc) w→bB Tryz.prog 66 [v,w,.func 28 []] h fun x aa=>x=.bool (i' l m)∧Ext h aa)
 | 0=>by
   refine ⟨fun t u aQ=>by have:=lu t;omega,fun l m aQ v w h L M=>?_⟩
   have k6:l.length=0:=by have:=oN l;omega
   obtain rfl:=List.eq_nil_of_length_eq_zero k6
   have ai:=L.len
   have hm:=M.len
   rw [List.length_map] at ai hm
   refine By rfl (cL ?_)
   unfold vN
   by_cases aA:m.length=0
   · obtain rfl:=List.eq_nil_of_length_eq_zero aA
     simp +contextual only [ai,hm,decide_true,decide_false,↓ak,ax,simprocAttr]
     refine fG (fun r g=>r 17=.int .i64 0∧r 16=.int .i64 0∧g=h) (fun r g=>0) ?_ ?_
     · exact ⟨by simp only [↓ak,bL,simprocAttr],by simp only [↓ak,bL,simprocAttr]<;>rfl,rfl⟩
     rintro r g ⟨jS,r16,rfl⟩
     unfold yJ
     simp +contextual only [r16,jS,show ((0:Int)<0)=False from by simp,↓ak,ax,simprocAttr]
     exact ⟨rfl,Ext.refl _⟩
   · have f0:((0:Int)=(m.length:Int))=False:=eq_false (by omega)
     simp only [List.length_nil,Int.ofNat_zero,Int.natCast_zero] at ai
     simp +contextual only [ai,hm,f0,decide_true,decide_false,↓ak,ax,simprocAttr]
     refine ⟨?_,Ext.refl _⟩
     match m,aA with
     | u::m,_=>rw [i']
     | [],aA=>exact absurd rfl aA
 | N+1=>by
   obtain ⟨zF,uz⟩:=Rl N
   have H1:∀(t u:aB),t.size≤N+1→∀(ad ws:List V) (h:af),bJ Any h t.enc ad→bJ Any h u.enc ws→bB Tryz.prog 28 [.agg ad,.agg ws] h fun x aa=>x=.bool (t.same u)∧Ext h aa:=by
    intro t u aQ ad ws h H cq
    obtain ⟨bN,rfl,L,_⟩:=aB.open H
    obtain ⟨wl,rfl,M,_⟩:=aB.open cq
    have ol:=L.one
    have db:=M.one
    have ca:=size_eq t
    refine Xw rfl (cL ?_)
    unfold FL
    obtain ⟨ab,an,aK,bC⟩:=dM h (n' t bN)
    obtain ⟨ae,az,aS,ec⟩:=dM ab (n' u wl)
    have bV:=bC.ext aS
    have cQ:=aK.trans aS
    rw [Sf]
    by_cases bu:t.k=u.k
    · by_cases bI:t.n=u.n
      · by_cases c3:t.s=u.s
        · simp +contextual only [an,az,ol.1,ol.2.1,db.1,db.2.1,bV.g,ec.g,eq_true bu,eq_true bI,eq_true c3,decide_true,decide_false,Bool.true_and,↓ak,ax,simprocAttr]
          refine bY (uz t.l u.l (by omega) bN wl ae (L.ext cQ) (M.ext cQ)) ?_
          rintro x aG ⟨rfl,bn⟩
          simp +contextual only [↓ak,ax,simprocAttr]
          exact cQ.trans bn
        · simp +contextual only [an,az,ol.1,ol.2.1,db.1,db.2.1,bV.g,ec.g,eq_true bu,eq_true bI,eq_false c3,decide_true,decide_false,Bool.true_and,Bool.false_and,↓ak,ax,simprocAttr]
          exact cQ
      · simp +contextual only [an,az,ol.1,ol.2.1,db.1,db.2.1,bV.g,ec.g,eq_true bu,eq_false bI,decide_true,decide_false,Bool.true_and,Bool.false_and,↓ak,ax,simprocAttr]
        exact cQ
    · simp +contextual only [an,az,ol.1,ol.2.1,db.1,db.2.1,bV.g,ec.g,eq_false bu,decide_true,decide_false,Bool.true_and,Bool.false_and,↓ak,ax,simprocAttr]
      exact cQ
   refine ⟨H1,fun l m aQ v w h L M=>?_⟩
   have ai:=L.len
   have hm:=M.len
   have hle:=L.le
   rw [List.length_map] at ai hm hle
   refine By rfl (cL ?_)
   unfold vN
   by_cases aA:l.length=m.length
   · have f0:((l.length:Int)=(m.length:Int))=True:=eq_true (by omega)
     simp +contextual only [ai,hm,f0,decide_true,decide_false,↓ak,ax,simprocAttr]
     refine fG (fun r g=>r 1=w∧r 2=.func 28 []∧r 15=v∧r 16=.int .i64 l.length∧∃i:Nat,r 17=.int .i64 i∧i≤l.length∧i' l m=i' (l.drop i) (m.drop i)∧Ext h g) (fun r g=>l.length - (r 17).toN) ?_ ?_
     · exact ⟨by simp only [↓ak,bL,simprocAttr],by simp only [↓ak,bL,simprocAttr],by simp only [↓ak,bL,simprocAttr],by simp only [↓ak,bL,simprocAttr],0,by simp only [↓ak,bL,simprocAttr]<;>rfl,by omega,rfl,Ext.refl h⟩
     rintro r g ⟨bl,bT,jR,r16,i,jS,aC,ah,E⟩
     unfold yJ
     by_cases aL:i<l.length
     · have g0:((i:Int) < (l.length:Int))=True:=eq_true (by omega)
       obtain ⟨b,off,bN,cD,X,fI,ld⟩:=aB.hN (L.ext E) (k:=.i64) aL
       obtain ⟨ck,Ab,wl,kF,Y,vD,l2⟩:=aB.hN (M.ext E) (k:=.i64) (show i<m.length by omega)
       have d1:=ld g (Ext.refl g)
       have ol:=fI.one
       have db:=vD.one
       have dH:=hT aL (by unfold top at hle;omega)
       obtain ⟨g1,ek,bj,bC⟩:=ga g z5 (n' l[i] bN)
       obtain ⟨g2,eJ,ct,ec⟩:=ga g1 z5 (n' m[i] wl)
       have d2:=l2 g1 bj
       have bV:=bC.ext ct
       have jb:=bj.trans ct
       have bo:=xv (List.getElem_mem aL)
       simp +contextual only [bl,bT,jR,r16,jS,g0,cD,kF,d1,d2,ek,eJ,ol.1,ol.2.1,db.1,db.2.1,bC.g,bV.g,ec.g,jy,List.cons_append,List.nil_append,show (28=4294967296)=False from by simp,if_false,↓ak,ax,simprocAttr]
       refine bY (H1 l[i] m[i] (by omega) _ _ g2 (X.ext jb) (Y.ext jb)) ?_
       rintro x g3 ⟨rfl,gr⟩
       have aZ:=JD aL (show i<m.length by omega)
       have en:=E.trans (jb.trans gr)
       cases ag:l[i].same m[i] with
       | true=>
         simp +contextual only [bl,bT,jR,r16,jS,dH,↓ak,ax,simprocAttr]
         refine ⟨⟨i+1,rfl,aL,?_,en⟩,by omega⟩
         rw [ah,aZ,ag,Bool.true_and]
       | false=>
         simp +contextual only [bl,bT,jR,r16,jS,dH,↓ak,ax,simprocAttr]
         refine ⟨?_,en⟩
         rw [ah,aZ,ag,Bool.false_and]
     · have g0:((i:Int) < (l.length:Int))=False:=eq_false (by omega)
       simp +contextual only [bl,bT,jR,r16,jS,g0,↓ak,ax,simprocAttr]
       refine ⟨?_,E⟩
       rw [ah,List.drop_eq_nil_of_le (by omega),List.drop_eq_nil_of_le (by omega),i']
   · have f0:((l.length:Int)=(m.length:Int))=False:=eq_false (by omega)
     simp +contextual only [ai,hm,f0,decide_true,decide_false,↓ak,ax,simprocAttr]
     refine ⟨?_,Ext.refl _⟩
     cases ag:i' l m with
     | false=>rfl
     | true=>exact absurd (JE ag) aA
theorem SZ (t u:aB) (ad ws:List V) (h:af) (H:bJ Any h t.enc ad) (cq:bJ Any h u.enc ws):bB Tryz.prog 28 [.agg ad,.agg ws] h fun x aa=>x=.bool (t.same u)∧Ext h aa:=(Rl t.size).1 t u (Nat.le_refl _) ad ws h H cq
set_option maxHeartbeats 4000000 in
theorem J4:∀(N:Nat) (t u:aB),t.size≤N→∀(ad ws:List V) (h:af),bJ Any h t.enc ad→bJ Any h u.enc ws→bB Tryz.prog 32 [.agg ad,.agg ws] h fun x aa=>x=.bool (t.same u)∧Ext h aa
 | 0,t,u,aQ,_,_,_,_,_=>by have:=lu t;omega
 | N+1,t,u,aQ,ad,ws,h,H,cq=>by
   obtain ⟨bN,rfl,L,_⟩:=aB.open H
   obtain ⟨wl,rfl,M,_⟩:=aB.open cq
   have ol:=L.one
   have db:=M.one
   have ai:=L.len
   have hm:=M.len
   have hle:=L.le
   rw [List.length_map] at ai hm hle
   have ca:=size_eq t
   refine XI rfl (cL ?_)
   unfold FR
   obtain ⟨ab,an,aK,bC⟩:=dM h (n' t bN)
   obtain ⟨ae,az,aS,ec⟩:=dM ab (n' u wl)
   have bV:=bC.ext aS
   have cQ:=aK.trans aS
   rw [Sf]
   by_cases bu:t.k=u.k
   · by_cases bI:t.n=u.n
     · by_cases c3:t.s=u.s
       · by_cases aA:t.l.length=u.l.length
         · have f0:((t.l.length:Int)=(u.l.length:Int))=True:=eq_true (by omega)
           simp +contextual only [an,az,ol.1,ol.2.1,db.1,db.2.1,bV.g,ec.g,ai,hm,f0,eq_true bu,eq_true bI,eq_true c3,decide_true,decide_false,Bool.true_and,↓ak,ax,simprocAttr]
           refine fG (fun r g=>r 2=.ptr (al h.next) 0∧r 3=.ptr (al ab.next) 0∧∃i:Nat,r 5=.int .i64 i∧i≤t.l.length∧i' t.l u.l=i' (t.l.drop i) (u.l.drop i)∧Ext ae g) (fun r g=>t.l.length - (r 5).toN) ?_ ?_
           · exact ⟨by simp only [↓ak,bL,simprocAttr],by simp only [↓ak,bL,simprocAttr],0,by simp only [↓ak,bL,simprocAttr]<;>rfl,by omega,rfl,Ext.refl ae⟩
           rintro r g ⟨bT,cg,i,c1,aC,ah,E⟩
           unfold Ms
           have hB:=bV.ext E
           have nU:=ec.ext E
           by_cases aL:i<t.l.length
           · have g0:((i:Int) < (t.l.length:Int))=True:=eq_true (by omega)
             obtain ⟨b,off,akQ,cD,X,fI,ld⟩:=aB.hN (L.ext (cQ.trans E)) (k:=.i64) aL
             obtain ⟨ck,Ab,amU,kF,Y,vD,l2⟩:=aB.hN (M.ext (cQ.trans E)) (k:=.i64) (show i<u.l.length by omega)
             have d1:=ld g (Ext.refl g)
             have d2:=l2 g (Ext.refl g)
             have dH:=hT aL (by unfold top at hle;omega)
             have bo:=l9 (t:=t) (List.getElem_mem aL)
             simp +contextual only [bT,cg,c1,hB.g,nU.g,ai,g0,cD,kF,d1,d2,↓ak,ax,simprocAttr]
             refine bY (J4 N t.l[i] u.l[i] (by omega) _ _ g X Y) ?_
             rintro x g3 ⟨rfl,gr⟩
             have d13:=ld g3 gr
             have d23:=l2 g3 gr
             have KN:=hB.ext gr
             have KR:=nU.ext gr
             have aZ:=JD aL (show i<u.l.length by omega)
             have en:=E.trans gr
             cases ag:t.l[i].same u.l[i] with
             | true=>
               simp +contextual only [bT,cg,c1,hB.g,nU.g,KN.g,KR.g,ai,g0,cD,kF,d1,d2,d13,d23,dH,↓ak,ax,simprocAttr]
               refine ⟨⟨i+1,rfl,aL,?_,en⟩,by omega⟩
               rw [ah,aZ,ag,Bool.true_and]
             | false=>
               simp +contextual only [bT,cg,c1,hB.g,nU.g,KN.g,KR.g,ai,g0,cD,kF,d1,d2,d13,d23,dH,↓ak,ax,simprocAttr]
               refine ⟨?_,cQ.trans en⟩
               rw [ah,aZ,ag,Bool.false_and]
           · have g0:((i:Int) < (t.l.length:Int))=False:=eq_false (by omega)
             simp +contextual only [bT,cg,c1,hB.g,nU.g,ai,g0,↓ak,ax,simprocAttr]
             refine ⟨?_,cQ.trans E⟩
             rw [ah,List.drop_eq_nil_of_le (by omega),List.drop_eq_nil_of_le (by omega),i']
         · have f0:((t.l.length:Int)=(u.l.length:Int))=False:=eq_false (by omega)
           simp +contextual only [an,az,ol.1,ol.2.1,db.1,db.2.1,bV.g,ec.g,ai,hm,f0,eq_true bu,eq_true bI,eq_true c3,decide_true,decide_false,Bool.true_and,↓ak,ax,simprocAttr]
           refine ⟨?_,cQ⟩
           cases ag:i' t.l u.l with
           | false=>rfl
           | true=>exact absurd (JE ag) aA
       · simp +contextual only [an,az,ol.1,ol.2.1,db.1,db.2.1,bV.g,ec.g,eq_true bu,eq_true bI,eq_false c3,decide_true,decide_false,Bool.true_and,Bool.false_and,↓ak,ax,simprocAttr]
         exact cQ
     · simp +contextual only [an,az,ol.1,ol.2.1,db.1,db.2.1,bV.g,ec.g,eq_true bu,eq_false bI,decide_true,decide_false,Bool.true_and,Bool.false_and,↓ak,ax,simprocAttr]
       exact cQ
   · simp +contextual only [an,az,ol.1,ol.2.1,db.1,db.2.1,bV.g,ec.g,eq_false bu,decide_true,decide_false,Bool.true_and,Bool.false_and,↓ak,ax,simprocAttr]
     exact cQ
end Go.Proofs.YthemdhlheglhoaaGreatDoor
