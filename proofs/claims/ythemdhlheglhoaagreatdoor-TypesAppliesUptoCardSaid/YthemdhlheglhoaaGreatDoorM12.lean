/- The chapter's functions, walked by the abstract machine: plain lemmas, no condition. Printed by a program from longer texts: names made short. -/
import Derived.Test.YthemdhlheglhoaaGreatDoorM10
import Derived.Test.YthemdhlheglhoaaGreatDoorM11
import Derived.Test.YthemdhlheglhoaaGreatDoorM8
set_option linter.unusedSectionVars false
set_option linter.unusedSimpArgs false
set_option linter.unusedVariables false
namespace Go.Proofs.YthemdhlheglhoaaGreatDoor
open Go a6
abbrev dV:=List (Int × aL)
section
variable (s:dV)
mutual
def aL.put:aL→aL
 | .mk k n x l=>match (if k=1 then dj n s else none) with
   | some u=>u
   | none=>.mk k n x (cN l)
def cN:List aL→List aL
 | []=>[]
 | t::l=>t.put::cN l
end
mutual
def aL.fZ:aL→Int→aL × Int
 | .mk k n x l,r=>match (if k=1 then dj n s else none) with
   | some u=>(u,r-u.size)
   | none=>(.mk k n x (fm l (r-1)).1,(fm l (r-1)).2)
def fm:List aL→Int→List aL × Int
 | [],r=>([],r)
 | t::l,r=>if r<0 then ([],r) else ((t.fZ r).1::(fm l (t.fZ r).2).1,(fm l (t.fZ r).2).2)
end
theorem put_eq (t:aL):t.put s=match (if t.k=1 then dj t.n s else none) with
 | some u=>u
 | none=>.mk t.k t.n t.s (cN s t.l):=by
 cases t;rw [aL.put];rfl
theorem acV (t:aL) (r:Int):t.fZ s r=match (if t.k=1 then dj t.n s else none) with
 | some u=>(u,r-u.size)
 | none=>(.mk t.k t.n t.s (fm s t.l (r-1)).1,(fm s t.l (r-1)).2):=by
 cases t;rw [aL.fZ];rfl
theorem uR:∀l:List aL,cN s l=l.map (aL.put s)
 | []=>rfl
 | t::l=>by rw [cN,List.map_cons,uR l]
mutual
theorem Gk:∀(t:aL) (r:Int),0≤r→((t.put s).size≤r→t.fZ s r=(t.put s,r - (t.put s).size))∧(r < (t.put s).size→(t.fZ s r).2<0)
 | .mk k n x l,r,a_=>by
   rw [aL.put,aL.fZ]
   cases (if k=1 then dj n s else none) with
   | some u=>exact ⟨fun _=>rfl,fun h=>by simp only at h ⊢;omega⟩
   | none=>
     simp only
     rw [aL.size]
     by_cases aa:0≤r-1
     · obtain ⟨a,b⟩:=Nj l (r-1) aa
       refine ⟨fun h=>?_,fun h=>b (by omega)⟩
       rw [a (by omega)]
       simp only [Prod.mk.injEq,true_and]
       omega
     · have ag:=xE l (r-1) (by omega)
       refine ⟨fun h=>by omega,fun h=>by rw [ag];simp only;omega⟩
theorem Nj:∀(l:List aL) (r:Int),0≤r→((c2 (cN s l):Int)≤r→fm s l r=(cN s l,r-c2 (cN s l)))∧(r<c2 (cN s l)→(fm s l r).2<0)
 | [],r,a_=>by
   rw [cN,fm,c2]
   exact ⟨fun _=>by simp,fun h=>by omega⟩
 | t::l,r,a_=>by
   rw [cN,fm,c2,if_neg (by omega)]
   obtain ⟨a,b⟩:=Gk t r a_
   by_cases aa:((t.put s).size:Int)≤r
   · rw [a aa]
     obtain ⟨c,d⟩:=Nj l (r - (t.put s).size) (by omega)
     refine ⟨fun h=>?_,fun h=>d (by omega)⟩
     rw [c (by omega)]
     simp only [Prod.mk.injEq,true_and]
     omega
   · have:=b (by omega)
     refine ⟨fun h=>by omega,fun h=>?_⟩
     simp only
     rw [xE l _ this]
     exact this
theorem xE:∀(l:List aL) (r:Int),r<0→fm s l r=([],r)
 | [],r,_=>by rw [fm]
 | t::l,r,h=>by rw [fm,if_pos h]
end
mutual
theorem Ng (M:Nat) (cE:1≤M) (aQ:∀n u,dj n s=some u→u.size≤M):∀(t:aL) (r:Int),0≤r→-(M:Int)≤(t.fZ s r).2∧(t.fZ s r).2≤r
 | .mk k n x l,r,a_=>by
   rw [aL.fZ]
   cases az:(if k=1 then dj n s else none) with
   | some u=>
     have:u.size≤M:=by
      by_cases c:k=1
      · rw [if_pos c] at az;exact aQ n u az
      · rw [if_neg c] at az;cases az
     simp only;omega
   | none=>
     simp only
     by_cases aa:0≤r-1
     · have:=Ni M cE aQ l (r-1) aa;omega
     · rw [xE s l _ (by omega)];simp only;omega
theorem Ni (M:Nat) (cE:1≤M) (aQ:∀n u,dj n s=some u→u.size≤M):∀(l:List aL) (r:Int),0≤r→-(M:Int)≤(fm s l r).2∧(fm s l r).2≤r
 | [],r,a_=>by rw [fm];simp only;omega
 | t::l,r,a_=>by
   rw [fm,if_neg (by omega)]
   have aa:=Ng M cE aQ t r a_
   simp only
   by_cases ae:0≤(t.fZ s r).2
   · have:=Ni M cE aQ l _ ae;omega
   · rw [xE s l _ (by omega)];simp only;omega
end
theorem Nh:∀(l:List aL) (r:Int),(fm s l r).1.length≤l.length
 | [],r=>by rw [fm];simp
 | t::l,r=>by
   rw [fm]
   split
   · simp
   · have:=Nh l (t.fZ s r).2
     simp only [List.length_cons];omega
end
def mq (last:Int):dV→Bool
 | []=>true
 | (n,t)::s=>decide (last<n)&&decide (n≤1048575)&&decide (t.check=0)&&mq n s
def sH (s:dV):Bool:=mq (-1) s
theorem vV {t:aL} (h:t.check=0):t.shape=true∧t.size≤4096∧t.deep≤200:=by
 unfold aL.check at h
 split at h
 · rename_i aa
   split at h
   · rename_i ae;exact ⟨aa,ae⟩
   · cases h
 · cases h
theorem T9 {t:aL} (h:t.shape=true):t.check=if t.size≤4096∧t.deep≤200 then 0 else 3:=by
 unfold aL.check
 rw [if_pos h]
theorem A_ {last:Int}:∀{s:dV},mq last s=true→∀n u,dj n s=some u→u.check=0∧0≤n-last
 | [],_,n,u,h=>by cases h
 | (m,t)::s,aQ,n,u,h=>by
   rw [mq] at aQ
   simp only [Bool.and_eq_true,decide_eq_true_eq] at aQ
   simp only [dj] at h
   split at h
   · rename_i e;cases h;subst e;exact ⟨aQ.1.2,by omega⟩
   · have:=A_ aQ.2 n u h;exact ⟨this.1,by omega⟩
def jd:aL:=.mk 0 0 [] []
def gd (s:dV) (t:aL):aL × Int:=
 if sH s=true∧t.check=0 then (if (t.put s).size≤4096∧(t.put s).deep≤200 then (t.put s,0) else (jd,3)) else (jd,2)
section
variable {s:dV}
mutual
theorem Np (aQ:∀n u,dj n s=some u→u.shape=true):∀t:aL,t.shape=true→(t.put s).shape=true
 | .mk k n x l,h=>by
   rw [aL.put]
   cases az:(if k=1 then dj n s else none) with
   | some u=>
     by_cases c:k=1
     · rw [if_pos c] at az;exact aQ n u az
     · rw [if_neg c] at az;cases az
   | none=>
     simp only
     rw [aL.shape,Bool.and_eq_true] at h ⊢
     refine ⟨?_,Nt aQ l h.2⟩
     have aa:=h.1
     unfold aL.own at aa ⊢
     simp only [aL.k,aL.n,aL.s,aL.l] at aa ⊢
     simp only [uR,List.length_map]
     exact aa
theorem Nt (aQ:∀n u,dj n s=some u→u.shape=true):∀l:List aL,ih l=true→ih (cN s l)=true
 | [],_=>by rw [cN,ih]
 | t::l,h=>by
   rw [ih,Bool.and_eq_true] at h
   rw [cN,ih,Np aQ t h.1,Nt aQ l h.2];rfl
end
end
theorem Qp {s:dV} {t:aL} (aQ:sH s=true) (aA:t.check=0):
 gd s t=if (t.fZ s 4096).2<0 then (jd,3) else if (t.fZ s 4096).1.check=0 then ((t.fZ s 4096).1,0) else (jd,3):=by
 have ai:=A_ aQ
 have gB:=Np (s:=s) (fun n u h=>(vV (ai n u h).1).1) t (vV aA).1
 unfold gd
 rw [if_pos ⟨aQ,aA⟩]
 obtain ⟨a,b⟩:=Gk s t 4096 (by omega)
 by_cases c:(t.put s).size≤4096
 · have e:=a (by omega)
   rw [e]
   simp only
   have l0:¬((4096:Int) - (t.put s).size<0):=by omega
   rw [T9 gB]
   by_cases d:(t.put s).deep≤200
   · simp [c,d,l0]
   · simp [c,d,l0]
 · have:=b (by omega)
   simp [c,this]
mutual
theorem Gl:∀t:aL,t.put []=t
 | .mk k n x l=>by
   rw [aL.put]
   have:(if k=1 then dj n ([]:dV) else none)=none:=by split<;>rfl
   rw [this]
   simp only
   rw [Nr l]
theorem Nr:∀l:List aL,cN [] l=l
 | []=>rfl
 | t::l=>by rw [cN,Gl t,Nr l]
end
end Go.Proofs.YthemdhlheglhoaaGreatDoor
namespace Go.Proofs.YthemdhlheglhoaaGreatDoor
open Go a6
abbrev z4:List V:=[.int .i64 0,.int .i64 0,.str [],.b6]
abbrev cG (t:aL) (b7:V):List V:=[.int .i64 t.k,.int .i64 t.n,.str t.s,b7]
def Av (s:List UInt8):Bool:=match ly s with
 | .ok [w]=>decide (w.kind=3)&&decide (w.text=s)
 | _=>false
theorem ach (s:List UInt8):Av s=hV 3 s:=by
 rw [Bool.eq_iff_iff]
 refine ⟨fun h=>?_,fun h=>?_⟩
 · unfold Av at h
   split at h
   · rename_i w hw
     simp only [Bool.and_eq_true,decide_eq_true_eq] at h
     have aV:hV w.kind w.text=true:=by
      unfold ly at hw
      split at hw
      · cases hw
      · split at hw
        · cases hw
        · exact z_ _ _ _ _ hw w (by simp) (.inl h.1)
     rw [h.1,h.2] at aV
     exact aV
   · cases h
 · have aG:=adf (.inl rfl) h
   simp only [show ((3:Int)=5)=False from by simp,if_false] at aG
   unfold Av
   rw [aG]
   simp
set_option maxHeartbeats 2000000 in
theorem abz (z:List UInt8) (h:af):bI Tryz.prog 88 [.str z] h fun x ab=>x=.bool (hV 3 z)∧Ext h ab:=by
 rw [←ach]
 refine Tx rfl (df ?_)
 unfold C9
 simp +contextual only [↓aw,aH,simprocAttr]
 refine cF (aa6 z h) ?_
 rintro x aa ⟨aN,al⟩
 unfold Av
 cases dW:ly z with
 | error e=>
   rw [dW] at al
   simp only at al
   subst al
   obtain ⟨ae,aC,bf,dx⟩:=ht aa [.int .i64 0,.int .i64 0] [.int .i64 e.1,.int .i64 e.2]
   by_cases he:e.1=0
   · simp +contextual only [aC,dx.g,eq_true he,show kq .b6=some (.int .i64 0) from rfl,show ((0:Int)=1)=False from by simp,decide_false,↓aw,aH,simprocAttr]
     exact aN.trans bf
   · simp +contextual only [aC,dx.g,eq_false he,decide_false,↓aw,aH,simprocAttr]
     exact aN.trans bf
 | ok ws=>
   rw [dW] at al
   simp only at al
   obtain ⟨v,rfl,S⟩:=al
   obtain ⟨ae,aC,bf,dx⟩:=ht aa [.int .i64 0,.int .i64 0] [.int .i64 0,.int .i64 0]
   have q7:=(S.ext bf).v
   have ai:=q7.len
   have eo:=q7.one
   match ws,dW,q7,ai with
   | [],_,q7,ai=>
     have fC:kq v=some (.int .i64 0):=ai
     simp +contextual only [aC,dx.g,fC,eo.1,eo.2.1,show ((0:Int)=1)=False from by simp,decide_true,decide_false,↓aw,aH,simprocAttr]
     exact aN.trans bf
   | [w],dW,q7,ai=>
     have fC:kq v=some (.int .i64 1):=ai
     obtain ⟨ct,dS,Ym,H4⟩:=q7.cH (k:=.i64) (i:=0) (by simp)
     have La:iU 4 v (.int .i64 0)=some (.ptr ct dS):=by simpa using Ym
     have d0:iC (ae.get ct) dS=some (.int .i64 w.kind):=by have:=H4.iB (i:=0) (by simp [nn,b8.enc]);simpa [nn,b8.enc] using this
     have d3:iC (ae.get ct) (dS+3)=some (.str w.text):=by have:=H4.iB (i:=3) (by simp [nn,b8.enc]);simpa [nn,b8.enc] using this
     by_cases bE:w.kind=3
     · simp +contextual only [aC,dx.g,fC,eo.1,eo.2.1,La,d0,d3,eq_true bE,decide_true,decide_false,Bool.true_and,↓aw,aH,simprocAttr]
       exact aN.trans bf
     · simp +contextual only [aC,dx.g,fC,eo.1,eo.2.1,La,d0,d3,eq_false bE,decide_true,decide_false,Bool.false_and,↓aw,aH,simprocAttr]
       exact aN.trans bf
   | w::bM::ws,_,q7,ai=>
     have fC:(((ws.length+2:Nat):Int)=1)=False:=eq_false (by omega)
     have Xh:kq v=some (.int .i64 ((ws.length+2:Nat):Int)):=ai
     simp +contextual only [aC,dx.g,Xh,fC,eo.1,eo.2.1,decide_true,decide_false,↓aw,aH,simprocAttr]
     exact aN.trans bf
set_option maxHeartbeats 4000000 in
theorem acu (t:aL) (ad:List V) (h:af) (H:bV Any h t.enc ad):bI Tryz.prog 57 [.agg ad] h fun x ab=>x=.bool t.own∧Ext h ab:=by
 obtain ⟨b7,rfl,L,h_⟩:=aL.open H
 have ol:=L.one
 have ai:=L.len
 rw [List.length_map] at ai
 refine S2 rfl (df ?_)
 unfold CX
 obtain ⟨aa,au,aN,ck⟩:=fA h (cG t b7)
 have bJ:B1=[45,62]:=rfl
 have a2:GY=[42]:=rfl
 unfold aL.own
 rw [bJ,a2]
 by_cases bL:t.k=1
 · rw [if_pos bL]
   by_cases bE:0≤t.n
   · by_cases bR:t.n≤1048575
     · by_cases c3:t.s=[]
       · simp +contextual only [ol.1,ol.2.1,au,ck.g,ai,eq_true bL,eq_true bE,eq_true bR,eq_true c3,decide_true,decide_false,Bool.true_and,↓aw,aH,simprocAttr]
         refine ⟨?_,aN⟩
         simp
       · simp +contextual only [ol.1,ol.2.1,au,ck.g,ai,eq_true bL,eq_true bE,eq_true bR,eq_false c3,decide_true,decide_false,Bool.true_and,Bool.false_and,Bool.and_false,↓aw,aH,simprocAttr]
         exact aN
     · simp +contextual only [ol.1,ol.2.1,au,ck.g,ai,eq_true bL,eq_true bE,eq_false bR,decide_true,decide_false,Bool.true_and,Bool.false_and,Bool.and_false,↓aw,aH,simprocAttr]
       exact aN
   · simp +contextual only [ol.1,ol.2.1,au,ck.g,ai,eq_true bL,eq_false bE,decide_true,decide_false,Bool.true_and,Bool.false_and,Bool.and_false,↓aw,aH,simprocAttr]
     exact aN
 · rw [if_neg bL]
   by_cases b0:t.k=2
   · rw [if_pos b0]
     have hB:((t.l.length:Int)=2)=(t.l.length=2):=by apply propext;omega
     have wD:((t.l.length:Int)≤64)=(t.l.length≤64):=by apply propext;omega
     by_cases c3:t.s=[45,62]
     · rw [if_pos (.inl c3)]
       by_cases dh:t.n=0
       · simp +contextual only [ol.1,ol.2.1,au,ck.g,ai,eq_false bL,eq_true b0,eq_true c3,eq_true dh,hB,decide_true,decide_false,Bool.true_and,Bool.false_and,↓aw,aH,simprocAttr]
         exact aN
       · simp +contextual only [ol.1,ol.2.1,au,ck.g,ai,eq_false bL,eq_true b0,eq_true c3,eq_false dh,decide_true,decide_false,Bool.true_and,Bool.false_and,↓aw,aH,simprocAttr]
         exact aN
     · by_cases gg:t.s=[42]
       · rw [if_pos (.inr gg)]
         by_cases dh:t.n=0
         · simp +contextual only [ol.1,ol.2.1,au,ck.g,ai,eq_false bL,eq_true b0,eq_false c3,eq_true gg,eq_true dh,hB,decide_true,decide_false,Bool.true_and,Bool.false_and,↓aw,aH,simprocAttr]
           exact aN
         · simp +contextual only [ol.1,ol.2.1,au,ck.g,ai,eq_false bL,eq_true b0,eq_false c3,eq_true gg,eq_false dh,decide_true,decide_false,Bool.true_and,Bool.false_and,↓aw,aH,simprocAttr]
           exact aN
       · rw [if_neg (fun q=>q.elim c3 gg)]
         by_cases dh:t.n=0
         · by_cases c5:t.l.length≤64
           · simp +contextual only [ol.1,ol.2.1,au,ck.g,ai,eq_false bL,eq_true b0,eq_false c3,eq_false gg,eq_true dh,wD,eq_true c5,decide_true,decide_false,Bool.true_and,Bool.false_and,↓aw,aH,simprocAttr]
             refine cF (abz t.s aa) ?_
             rintro x ae ⟨rfl,bf⟩
             simp +contextual only [↓aw,aH,simprocAttr]
             exact aN.trans bf
           · simp +contextual only [ol.1,ol.2.1,au,ck.g,ai,eq_false bL,eq_true b0,eq_false c3,eq_false gg,eq_true dh,wD,eq_false c5,decide_true,decide_false,Bool.true_and,Bool.false_and,↓aw,aH,simprocAttr]
             exact aN
         · simp +contextual only [ol.1,ol.2.1,au,ck.g,ai,eq_false bL,eq_true b0,eq_false c3,eq_false gg,eq_false dh,decide_true,decide_false,Bool.true_and,Bool.false_and,↓aw,aH,simprocAttr]
           exact aN
   · rw [if_neg b0]
     simp +contextual only [ol.1,ol.2.1,au,ck.g,ai,eq_false bL,eq_false b0,decide_true,decide_false,↓aw,aH,simprocAttr]
     exact aN
set_option maxHeartbeats 4000000 in
theorem Gv:∀(N:Nat) (t:aL),t.size≤N→N≤1000000000→∀(ad:List V) (h:af),bV Any h t.enc ad→bI Tryz.prog 59 [.agg ad] h fun x ab=>x=.int .i64 (t.deep:Nat)∧Ext h ab
 | 0,t,aQ,_,_,_,_=>by have:=oa t;omega
 | N+1,t,aQ,tF,ad,h,H=>by
   obtain ⟨b7,rfl,L,_⟩:=aL.open H
   have bx:N≤1000000000:=by omega
   have ol:=L.one
   have ai:=L.len
   have hle:=L.le
   rw [List.length_map] at ai hle
   have Kf:=size_eq t
   refine S8 rfl (df ?_)
   unfold C0
   obtain ⟨aa,au,aN,ck⟩:=fA h (cG t b7)
   simp +contextual only [ol.1,ol.2.1,au,↓aw,aH,simprocAttr]
   refine gE (fun r g=>r 1=.ptr (aq h.next) 0∧∃i:Nat,r 3=.int .i64 (fw (t.l.take i):Nat)∧r 4=.int .i64 i∧i≤t.l.length∧Ext aa g) (fun r g=>t.l.length - (r 4).toN) ?_ ?_
   · exact ⟨by simp only [↓aw,b4,simprocAttr],0,by simp only [↓aw,b4,simprocAttr]<;>rfl,by simp only [↓aw,b4,simprocAttr]<;>rfl,by omega,Ext.refl aa⟩
   rintro r g ⟨bw,i,bS,cP,aD,E⟩
   unfold IA
   have A:=ck.ext E
   have ou:=L.ext (aN.trans E)
   have iv:=xD t.l i
   have nH:=xz (t.l.take i)
   by_cases aP:i<t.l.length
   · have g0:((i:Int) < (t.l.length:Int))=True:=eq_true (by omega)
     obtain ⟨b,off,wl,cH,X,gw,ld⟩:=aL.hR ou (k:=.i64) aP
     have d1:=ld g (Ext.refl g)
     have ez:=jc aP (by unfold top at hle;omega)
     have bm:=qA (t:=t) (List.getElem_mem aP)
     simp +contextual only [bw,bS,cP,A.g,ai,g0,cH,d1,↓aw,aH,simprocAttr]
     refine cF (Gv N t.l[i] (by omega) bx _ g X) ?_
     rintro x g2 ⟨rfl,ch⟩
     simp +contextual only [bw,bS,cP,FH,ez,↓aw,aH,simprocAttr]
     exact ⟨⟨i+1,by rw [acF aP],rfl,aP,E.trans ch⟩,by omega⟩
   · have g0:((i:Int) < (t.l.length:Int))=False:=eq_false (by omega)
     rw [List.take_of_length_le (by omega)] at bS
     have bN:IntKind.i64.wrap ((fw t.l:Int)+1)=((fw t.l+1:Nat):Int):=by
      have:=xz t.l
      rw [wrap_i64 (by omega) (by omega)];rfl
     simp +contextual only [bw,bS,cP,A.g,ai,g0,bN,↓aw,aH,simprocAttr]
     exact ⟨by rw [UA],aN.trans E⟩
set_option maxHeartbeats 4000000 in
theorem GK:∀(N:Nat) (t:aL),t.size≤N→N≤1000000000→∀(ad:List V) (h:af),bV Any h t.enc ad→bI Tryz.prog 31 [.agg ad] h fun x ab=>x=.int .i64 (t.size:Nat)∧Ext h ab
 | 0,t,aQ,_,_,_,_=>by have:=oa t;omega
 | N+1,t,aQ,tF,ad,h,H=>by
   obtain ⟨b7,rfl,L,_⟩:=aL.open H
   have bx:N≤1000000000:=by omega
   have ol:=L.one
   have ai:=L.len
   have hle:=L.le
   rw [List.length_map] at ai hle
   have Kf:=size_eq t
   refine SO rfl (df ?_)
   unfold CT
   obtain ⟨aa,au,aN,ck⟩:=fA h (cG t b7)
   simp +contextual only [ol.1,ol.2.1,au,↓aw,aH,simprocAttr]
   refine gE (fun r g=>r 1=.ptr (aq h.next) 0∧∃i:Nat,r 3=.int .i64 ((1+c2 (t.l.take i):Nat):Int)∧r 4=.int .i64 i∧i≤t.l.length∧Ext aa g) (fun r g=>t.l.length - (r 4).toN) ?_ ?_
   · exact ⟨by simp only [↓aw,b4,simprocAttr],0,by simp only [↓aw,b4,simprocAttr]<;>rfl,by simp only [↓aw,b4,simprocAttr]<;>rfl,by omega,Ext.refl aa⟩
   rintro r g ⟨bw,i,bS,cP,aD,E⟩
   unfold Iy
   have A:=ck.ext E
   have ou:=L.ext (aN.trans E)
   have iv:=xD t.l i
   by_cases aP:i<t.l.length
   · have g0:((i:Int) < (t.l.length:Int))=True:=eq_true (by omega)
     obtain ⟨b,off,wl,cH,X,gw,ld⟩:=aL.hR ou (k:=.i64) aP
     have d1:=ld g (Ext.refl g)
     have ez:=jc aP (by unfold top at hle;omega)
     have bm:=qA (t:=t) (List.getElem_mem aP)
     have aA:=M9 aP
     have XX:=xD t.l (i+1)
     simp +contextual only [bw,bS,cP,A.g,ai,g0,cH,d1,↓aw,aH,simprocAttr]
     refine cF (GK N t.l[i] (by omega) bx _ g X) ?_
     rintro x g2 ⟨rfl,ch⟩
     have bN:IntKind.i64.wrap (((1+c2 (t.l.take i):Nat):Int) + (t.l[i].size:Nat))=((1+c2 (t.l.take (i+1)):Nat):Int):=by
      rw [wrap_i64 (by omega) (by omega),aA];omega
     simp +contextual only [bw,bS,cP,bN,ez,↓aw,aH,simprocAttr]
     exact ⟨⟨i+1,rfl,rfl,aP,E.trans ch⟩,by omega⟩
   · have g0:((i:Int) < (t.l.length:Int))=False:=eq_false (by omega)
     rw [List.take_of_length_le (by omega)] at bS
     simp +contextual only [bw,bS,cP,A.g,ai,g0,↓aw,aH,simprocAttr]
     exact ⟨by rw [size_eq],aN.trans E⟩
theorem adM {l:List aL} {i:Nat} (h:i<l.length):ih (l.drop i)=(l[i].shape&&ih (l.drop (i+1))):=by
 rw [List.drop_eq_getElem_cons h,ih]
set_option maxHeartbeats 8000000 in
theorem NZ:∀(N:Nat) (t:aL),t.size≤N→N≤1000000000→∀(ad:List V) (h:af),bV Any h t.enc ad→bI Tryz.prog 58 [.agg ad] h fun x ab=>x=.bool t.shape∧Ext h ab
 | 0,t,aQ,_,_,_,_=>by have:=oa t;omega
 | N+1,t,aQ,tF,ad,h,H=>by
   obtain ⟨b7,rfl,L,h_⟩:=aL.open H
   have bx:N≤1000000000:=by omega
   have ol:=L.one
   have ai:=L.len
   have hle:=L.le
   rw [List.length_map] at ai hle
   have Kf:=size_eq t
   refine S5 rfl (df ?_)
   unfold CY
   obtain ⟨aa,au,aN,ck⟩:=fA h (cG t b7)
   have bJ:B1=[45,62]:=rfl
   have a2:GY=[42]:=rfl
   have Ps:=L.ext aN
   rw [xJ]
   unfold aL.own
   rw [bJ,a2]
   by_cases bL:t.k=1
   · rw [if_pos bL]
     by_cases bE:0≤t.n
     · by_cases bR:t.n≤1048575
       · by_cases c3:t.s=[]
         · by_cases dh:t.l.length=0
           · have ri:((t.l.length:Int)=0)=True:=eq_true (by omega)
             have mM:=List.eq_nil_of_length_eq_zero dh
             simp +contextual only [ol.1,ol.2.1,au,ck.g,ai,eq_true bL,eq_true bE,eq_true bR,eq_true c3,ri,decide_true,decide_false,Bool.true_and,↓aw,aH,simprocAttr]
             refine ⟨?_,aN⟩
             rw [decide_eq_true dh,mM,ih];rfl
           · have ri:((t.l.length:Int)=0)=False:=eq_false (by omega)
             simp +contextual only [ol.1,ol.2.1,au,ck.g,ai,eq_true bL,eq_true bE,eq_true bR,eq_true c3,ri,decide_true,decide_false,Bool.true_and,↓aw,aH,simprocAttr]
             refine ⟨?_,aN⟩
             rw [decide_eq_false dh];rfl
         · simp +contextual only [ol.1,ol.2.1,au,ck.g,ai,eq_true bL,eq_true bE,eq_true bR,eq_false c3,decide_true,decide_false,Bool.true_and,Bool.false_and,Bool.and_false,↓aw,aH,simprocAttr]
           exact aN
       · simp +contextual only [ol.1,ol.2.1,au,ck.g,ai,eq_true bL,eq_true bE,eq_false bR,decide_true,decide_false,Bool.true_and,Bool.false_and,Bool.and_false,↓aw,aH,simprocAttr]
         exact aN
     · simp +contextual only [ol.1,ol.2.1,au,ck.g,ai,eq_true bL,eq_false bE,decide_true,decide_false,Bool.true_and,Bool.false_and,Bool.and_false,↓aw,aH,simprocAttr]
       exact aN
   · rw [if_neg bL]
     have kids:∀{g0:af} (fR:Ext aa g0) {r:aR} (bw:r 1=.ptr (aq h.next) 0) (cP:r 4=.int .i64 0) {Q:cY→aR→af→Prop} (cK:∀e r g,e.ends→r 2=.bool (ih t.l)→Ext h g→Q e r g),
      uA Tryz.prog CZ [.a8 0,.c (.seq (bz.aB [⟨(some 2),.fh (.c (.bool true)),none,[]⟩]) (bz.ret))] r g0 Q:=by
      intro g0 fR r bw cP Q cK
      refine gE (fun r g=>r 1=.ptr (aq h.next) 0∧∃i:Nat,r 4=.int .i64 i∧i≤t.l.length∧ih t.l=ih (t.l.drop i)∧Ext aa g) (fun r g=>t.l.length - (r 4).toN) ?_ ?_
      · exact ⟨bw,0,cP,by omega,rfl,fR⟩
      clear bw cP
      rintro r g ⟨bw,i,cP,aD,gB,E⟩
      unfold CZ
      have A:=ck.ext E
      by_cases aP:i<t.l.length
      · have DI:((i:Int) < (t.l.length:Int))=True:=eq_true (by omega)
        obtain ⟨b,off,wl,cH,X,gw,ld⟩:=aL.hR (Ps.ext E) (k:=.i64) aP
        have d1:=ld g (Ext.refl g)
        have ez:=jc aP (by unfold top at hle;omega)
        have bm:=qA (t:=t) (List.getElem_mem aP)
        have a1:=adM aP
        simp +contextual only [bw,cP,A.g,ai,DI,cH,d1,↓aw,aH,simprocAttr]
        refine cF (NZ N t.l[i] (by omega) bx _ g X) ?_
        rintro x g2 ⟨rfl,ch⟩
        cases ah:t.l[i].shape with
        | true=>
          simp +contextual only [bw,cP,ez,↓aw,aH,simprocAttr]
          exact ⟨⟨i+1,rfl,aP,by rw [gB,a1,ah,Bool.true_and],E.trans ch⟩,by omega⟩
        | false=>
          simp +contextual only [bw,cP,ez,↓aw,aH,simprocAttr]
          exact cK _ _ _ (by trivial) (by rw [gB,a1,ah,Bool.false_and];simp only [↓aw,b4,simprocAttr]) (aN.trans (E.trans ch))
      · have DI:((i:Int) < (t.l.length:Int))=False:=eq_false (by omega)
        rw [List.drop_eq_nil_of_le (by omega),ih] at gB
        simp +contextual only [bw,cP,A.g,ai,DI,↓aw,aH,simprocAttr]
        exact cK _ _ _ (by trivial) (by rw [gB];simp only [↓aw,b4,simprocAttr]) (aN.trans E)
     by_cases b0:t.k=2
     · rw [if_pos b0]
       by_cases dh:t.n=0
       · have hB:((t.l.length:Int)=2)=(t.l.length=2):=by apply propext;omega
         have wD:(64 < (t.l.length:Int))=(64<t.l.length):=by apply propext;omega
         by_cases c3:t.s=[45,62]
         · rw [if_pos (.inl c3)]
           by_cases c5:t.l.length=2
           · simp +contextual only [ol.1,ol.2.1,au,ck.g,ai,eq_false bL,eq_true b0,eq_true c3,eq_true dh,hB,eq_true c5,decide_true,decide_false,Bool.true_and,Bool.false_and,Bool.and_false,Bool.not_true,Bool.not_false,↓aw,aH,simprocAttr]
             exact kids (Ext.refl _) (by simp only [↓aw,b4,simprocAttr]) (by simp only [↓aw,b4,simprocAttr]) fun e r g he aG E=>⟨he,aG,E⟩
           · simp +contextual only [ol.1,ol.2.1,au,ck.g,ai,eq_false bL,eq_true b0,eq_true c3,eq_true dh,hB,eq_false c5,decide_true,decide_false,Bool.true_and,Bool.false_and,Bool.and_false,Bool.not_true,Bool.not_false,↓aw,aH,simprocAttr]
             exact aN
         · by_cases gg:t.s=[42]
           · rw [if_pos (.inr gg)]
             by_cases c5:t.l.length=2
             · simp +contextual only [ol.1,ol.2.1,au,ck.g,ai,eq_false bL,eq_true b0,eq_false c3,eq_true gg,eq_true dh,hB,eq_true c5,decide_true,decide_false,Bool.true_and,Bool.false_and,Bool.and_false,Bool.not_true,Bool.not_false,↓aw,aH,simprocAttr]
               exact kids (Ext.refl _) (by simp only [↓aw,b4,simprocAttr]) (by simp only [↓aw,b4,simprocAttr]) fun e r g he aG E=>⟨he,aG,E⟩
             · simp +contextual only [ol.1,ol.2.1,au,ck.g,ai,eq_false bL,eq_true b0,eq_false c3,eq_true gg,eq_true dh,hB,eq_false c5,decide_true,decide_false,Bool.true_and,Bool.false_and,Bool.and_false,Bool.not_true,Bool.not_false,↓aw,aH,simprocAttr]
               exact aN
           · rw [if_neg (fun q=>q.elim c3 gg)]
             simp +contextual only [ol.1,ol.2.1,au,ck.g,ai,eq_false bL,eq_true b0,eq_false c3,eq_false gg,eq_true dh,decide_true,decide_false,Bool.true_and,Bool.false_and,Bool.and_false,Bool.not_true,Bool.not_false,↓aw,aH,simprocAttr]
             refine cF (adh 3 t.s (by unfold top at h_;omega) (.inl rfl) aa) ?_
             rintro x ae ⟨rfl,bf⟩
             have dx:=ck.ext bf
             cases kg:hV 3 t.s with
             | false=>
               simp +contextual only [↓aw,aH,simprocAttr]
               exact aN.trans bf
             | true=>
               by_cases c5:t.l.length≤64
               · have CV:(64<t.l.length)=False:=eq_false (by omega)
                 simp +contextual only [dx.g,ai,wD,CV,eq_true c5,decide_true,decide_false,Bool.true_and,↓aw,aH,simprocAttr]
                 exact kids bf (by simp only [↓aw,b4,simprocAttr]) (by simp only [↓aw,b4,simprocAttr]) fun e r g he aG E=>⟨he,aG,E⟩
               · have CV:(64<t.l.length)=True:=eq_true (by omega)
                 simp +contextual only [dx.g,ai,wD,CV,eq_false c5,decide_true,decide_false,Bool.true_and,Bool.false_and,↓aw,aH,simprocAttr]
                 exact aN.trans bf
       · by_cases c3:t.s=[45,62]
         · rw [if_pos (.inl c3)]
           simp +contextual only [ol.1,ol.2.1,au,ck.g,ai,eq_false bL,eq_true b0,eq_true c3,eq_false dh,decide_true,decide_false,Bool.true_and,Bool.false_and,Bool.and_false,Bool.not_true,Bool.not_false,↓aw,aH,simprocAttr]
           exact aN
         · by_cases gg:t.s=[42]
           · rw [if_pos (.inr gg)]
             simp +contextual only [ol.1,ol.2.1,au,ck.g,ai,eq_false bL,eq_true b0,eq_false c3,eq_true gg,eq_false dh,decide_true,decide_false,Bool.true_and,Bool.false_and,Bool.and_false,Bool.not_true,Bool.not_false,↓aw,aH,simprocAttr]
             exact aN
           · rw [if_neg (fun q=>q.elim c3 gg)]
             simp +contextual only [ol.1,ol.2.1,au,ck.g,ai,eq_false bL,eq_true b0,eq_false c3,eq_false gg,eq_false dh,decide_true,decide_false,Bool.true_and,Bool.false_and,Bool.and_false,Bool.not_true,Bool.not_false,↓aw,aH,simprocAttr]
             exact aN
     · rw [if_neg b0]
       by_cases c3:t.s=[45,62]
       · simp +contextual only [ol.1,ol.2.1,au,ck.g,ai,eq_false bL,eq_false b0,eq_true c3,decide_true,decide_false,Bool.true_and,Bool.false_and,Bool.and_false,Bool.not_true,Bool.not_false,↓aw,aH,simprocAttr]
         exact aN
       · simp +contextual only [ol.1,ol.2.1,au,ck.g,ai,eq_false bL,eq_false b0,eq_false c3,decide_true,decide_false,Bool.true_and,Bool.false_and,Bool.and_false,Bool.not_true,Bool.not_false,↓aw,aH,simprocAttr]
         exact aN
theorem IN (t:aL):t.check=if t.shape=true then (if t.size≤4096 then (if t.deep≤200 then 0 else 3) else 3) else 2:=by
 unfold aL.check
 split
 · by_cases a:t.size≤4096
   · by_cases b:t.deep≤200
     · rw [if_pos ⟨a,b⟩,if_pos a,if_pos b]
     · rw [if_neg (fun q=>b q.2),if_pos a,if_neg b]
   · rw [if_neg (fun q=>a q.1),if_neg a]
 · rfl
theorem Gu (t:aL) (aQ:t.size≤1000000000) (ad:List V) (h:af) (H:bV Any h t.enc ad):bI Tryz.prog 20 [.agg ad] h fun x ab=>x=.int .i64 t.check∧Ext h ab:=by
 have hh:=H
 obtain ⟨b7,rfl,L,h_⟩:=aL.open H
 have ol:=L.one
 refine Sq rfl (df ?_)
 unfold CK
 obtain ⟨aa,au,aN,ck⟩:=fA h (cG t b7)
 rw [IN]
 simp +contextual only [ol.1,ol.2.1,au,ck.g,↓aw,aH,simprocAttr]
 refine cF (NZ _ t (Nat.le_refl _) aQ _ aa (hh.ext aN)) ?_
 rintro x ae ⟨rfl,bf⟩
 have dx:=ck.ext bf
 have bX:=aN.trans bf
 cases c:t.shape with
 | false=>
   simp +contextual only [↓aw,aH,simprocAttr]
   exact bX
 | true=>
 simp +contextual only [dx.g,↓aw,aH,simprocAttr]
 refine cF (GK _ t (Nat.le_refl _) aQ _ ae (hh.ext bX)) ?_
 rintro x aI ⟨rfl,bT⟩
 have gu:=dx.ext bT
 have fp:=bX.trans bT
 by_cases bR:t.size≤4096
 · have f2:((4096:Int) < (t.size:Int))=False:=eq_false (by omega)
   simp +contextual only [gu.g,f2,decide_true,decide_false,↓aw,aH,simprocAttr]
   refine cF (Gv _ t (Nat.le_refl _) aQ _ aI (hh.ext fp)) ?_
   rintro x bo ⟨rfl,dA⟩
   have jB:=fp.trans dA
   by_cases c3:t.deep≤200
   · have f3:((200:Int) < (t.deep:Int))=False:=eq_false (by omega)
     simp +contextual only [f3,decide_true,decide_false,↓aw,aH,simprocAttr]
     exact ⟨by simp [bR,c3],jB⟩
   · have f3:((200:Int) < (t.deep:Int))=True:=eq_true (by omega)
     simp +contextual only [f3,decide_true,decide_false,↓aw,aH,simprocAttr]
     exact ⟨by simp [bR,c3],jB⟩
 · have f2:((4096:Int) < (t.size:Int))=True:=eq_true (by omega)
   simp +contextual only [gu.g,f2,decide_true,decide_false,↓aw,aH,simprocAttr]
   exact ⟨by simp [bR],fp⟩
theorem aL.Lz [Lay] {F:aO→Prop} {h:af} {l:List aL} {v:V} (H:cZ F h 4 (l.map aL.enc) v) {k:IntKind} {i:Nat} (aD:i<l.length):
 ∃b off b7,iU 4 v (.int k i)=some (.ptr b (off+i * 4))∧bV F h l[i].enc [.int .i64 l[i].k,.int .i64 l[i].n,.str l[i].s,b7]∧cZ F h 4 (l[i].l.map aL.enc) b7∧
  (∀ab,Ext h ab→lu 4 (ab.get b) (off+i * 4)=some (.agg [.int .i64 l[i].k,.int .i64 l[i].n,.str l[i].s,b7]))∧
  (∀ab,Ext h ab→iC (ab.get b) (off+i * 4)=some (.int .i64 l[i].k))∧(∀ab,Ext h ab→iC (ab.get b) (off+i * 4+2)=some (.str l[i].s))∧(∀ab,Ext h ab→iC (ab.get b) (off+i * 4+3)=some b7):=by
 obtain ⟨b,off,u,aN,bf,bT,dA,iM⟩:=H.at (k:=k) (i:=i) (by rw [List.length_map];exact aD)
 rw [List.getElem_map] at bf
 obtain ⟨b7,rfl,L,_⟩:=aL.open bf
 exact ⟨b,off,b7,aN,bf,L,dA,fun ab e=>by simpa using iM ab e 0 (by omega),fun ab e=>by simpa using iM ab e 2 (by omega),fun ab e=>by simpa using iM ab e 3 (by omega)⟩
set_option maxHeartbeats 1000000 in
theorem MQ:∀(N:Nat) (l:List aL),c2 l<N→∀(m:Int) (v:V) (h:af),cZ Any h 4 (l.map aL.enc) v→bI Tryz.prog 46 [v,.int .i64 m] h fun x ab=>(∃n,x=.int .i64 n)∧ab=h
 | 0,l,aQ,_,_,_,_=>by omega
 | N+1,l,aQ,m,v,h,L=>by
   have ai:=L.len
   have hle:=L.le
   rw [List.length_map] at ai hle
   refine SU rfl (df ?_)
   unfold CU
   simp +contextual only [↓aw,aH,simprocAttr]
   refine gE (fun r g=>r 0=v∧r 1=.int .i64 m∧g=h∧∃(i:Nat) (n:Int),r 5=.int .i64 n∧r 6=.int .i64 i∧i≤l.length) (fun r g=>l.length - (r 6).toN) ?_ ?_
   · exact ⟨by simp only [↓aw,b4,simprocAttr],by simp only [↓aw,b4,simprocAttr],rfl,0,0,by simp only [↓aw,b4,simprocAttr],by simp only [↓aw,b4,simprocAttr]<;>rfl,by omega⟩
   rintro r g ⟨bk,bw,rfl,i,n,dK,dw,aD⟩
   unfold Iz
   by_cases aP:i<l.length
   · have g0:((i:Int) < (l.length:Int))=True:=eq_true (by omega)
     by_cases aV:n≤m
     · have EC:=eq_true aV
       obtain ⟨b,off,wl,cH,X,gw,ld,iV,LQ,jt⟩:=aL.Lz L (k:=.i64) aP
       have d3:=LQ g (Ext.refl g)
       have d4:=jt g (Ext.refl g)
       have ez:=jc aP (by unfold top at hle;omega)
       have fx:l[i].s.length≤top:=by obtain ⟨_,_,_,q⟩:=aL.open X;exact q
       have ac0:=ac1 (P:=Tryz.prog) (n:=l[i].s.length) (by unfold top at fx;omega)
       simp +contextual only [bk,bw,dK,dw,ai,g0,EC,cH,d3,d4,ac0,↓aw,aH,simprocAttr]
       refine cF (MQ N l[i].l (by have:=Gj aP;omega) _ wl g gw) ?_
       rintro x g2 ⟨⟨y,rfl⟩,rfl⟩
       simp +contextual only [bk,bw,dK,dw,ez,↓aw,aH,simprocAttr]
       exact ⟨⟨i+1,_,rfl,rfl,aP⟩,by omega⟩
     · have EC:=eq_false aV
       simp +contextual only [bk,bw,dK,dw,ai,g0,EC,↓aw,aH,simprocAttr]
       exact ⟨_,rfl⟩
   · have g0:((i:Int) < (l.length:Int))=False:=eq_false (by omega)
     simp +contextual only [bk,bw,dK,dw,ai,g0,↓aw,aH,simprocAttr]
     exact ⟨_,rfl⟩
theorem LD (l:List aL) (m:Int) (v:V) (h:af) (L:cZ Any h 4 (l.map aL.enc) v):bI Tryz.prog 10 [v,.int .i64 m] h fun x ab=>(∃b,x=.bool b)∧ab=h:=by
 refine Rj rfl (df ?_)
 unfold Ch
 simp +contextual only [↓aw,aH,simprocAttr]
 refine cF (MQ _ l (Nat.lt_succ_self _) m v h L) ?_
 rintro x g2 ⟨⟨y,rfl⟩,rfl⟩
 simp +contextual only [↓aw,aH,simprocAttr]
 exact ⟨_,rfl⟩
set_option maxHeartbeats 1000000 in
theorem Dj:∀(N:Nat) (l:List aL),c2 l<N→N≤1000000000→∀(v:V) (h:af),cZ Any h 4 (l.map aL.enc) v→bI Tryz.prog 12 [v] h fun x ab=>cZ (fK h) ab 4 (l.map aL.enc) x∧Ext h ab
 | 0,l,aQ,_,_,_,_=>by omega
 | N+1,l,aQ,bx,v,h,L=>by
   have ai:=L.len
   have hle:=L.le
   rw [List.length_map] at ai hle
   refine RB rfl (df ?_)
   unfold Cn
   simp +contextual only [↓aw,aH,simprocAttr]
   refine gE (fun r g=>r 0=v∧∃(i:Nat) (w:V),r 3=w∧r 4=.int .i64 i∧i≤l.length∧gb h.next (fK h) g 4 ((l.take i).map aL.enc) w∧Ext h g) (fun r g=>l.length - (r 4).toN) ?_ ?_
   · exact ⟨by simp only [↓aw,b4,simprocAttr],0,.b6,by simp only [↓aw,b4,simprocAttr],by simp only [↓aw,b4,simprocAttr]<;>rfl,by omega,gb.nil _ _ _ _,Ext.refl h⟩
   rintro r g ⟨bk,i,w,bS,cP,aD,W,E⟩
   unfold Ip
   have tY:=uQ l
   by_cases aP:i<l.length
   · have g0:((i:Int) < (l.length:Int))=True:=eq_true (by omega)
     obtain ⟨b,off,wl,cH,X,gw,ld,iV,LQ,jt⟩:=aL.Lz (L.ext E) (k:=.i64) aP
     have d0:=ld g (Ext.refl g)
     obtain ⟨g1,et,bs,Z⟩:=ht g [.int .i64 0,.int .i64 0,.str [],.b6] [.int .i64 l[i].k,.int .i64 l[i].n,.str l[i].s,wl]
     have d4:=jt g1 bs
     have ez:=jc aP (by unfold top at hle;omega)
     have ol:=gw.one
     simp +contextual only [bk,bS,cP,ai,g0,cH,d0,d4,et,ol.1,ol.2.1,↓aw,aH,simprocAttr]
     refine cF (Dj N l[i].l (by have:=Gj aP;omega) (by omega) wl g1 (gw.ext bs)) ?_
     rintro y g2 ⟨Y,ch⟩
     have s8:=Z.ext ch
     have fl:=Y.one
     have abl:=Z.lt
     have u_:Ext g g2:=bs.trans ch
     have q':=s8.put [.int .i64 l[i].k,.int .i64 l[i].n,.str l[i].s,y]
     have PY:=Y.set (b:=aq g.next) (fun q=>by unfold fK at q;rw [c7] at q;omega) (.bb [.int .i64 l[i].k,.int .i64 l[i].n,.str l[i].s,y] 0 false)
     have OV:Ext g (g2.set (aq g.next) (.bb [.int .i64 l[i].k,.int .i64 l[i].n,.str l[i].s,y] 0 false)):=u_.set (Nat.le_refl _) _
     have hw:∀b,fK g1 b→fK h b∧¬w.a8 b:=fun b q=>by
      have:=E.next
      unfold fK at q ⊢
      refine ⟨by omega,fun z=>?_⟩
      have:=W.FY z
      unfold Old at this
      omega
     have al:bV (fun b=>fK h b∧¬w.a8 b) (g2.set (aq g.next) (.bb [.int .i64 l[i].k,.int .i64 l[i].n,.str l[i].s,y] 0 false)) l[i].enc [.int .i64 l[i].k,.int .i64 l[i].n,.str l[i].s,y]:=by
      rw [qw]
      have h_:l[i].s.length≤top:=by obtain ⟨_,_,_,q⟩:=aL.open X;exact q
      exact .i (.i (.s h_ ((PY.fH hw).cons .nil)))
     have BU:=W.ext OV
     have fp:=E.trans OV
     simp +contextual only [bk,bS,cP,s8.g,fl.1,fl.2.1,↓aw,aH,simprocAttr]
     have n3:(g2.set (aq g.next) (.bb [.int .i64 l[i].k,.int .i64 l[i].n,.str l[i].s,y] 0 false)).next=g2.next:=k2 ..
     generalize g2.set (aq g.next) (.bb [.int .i64 l[i].k,.int .i64 l[i].n,.str l[i].s,y] 0 false)=g3 at *
     obtain ⟨aj,g4,au,aC,aM,bG,dJ⟩:=BU.add al (by omega) fp.next (by rw [List.length_map,List.length_take];unfold top;omega) rfl
     rw [n3] at au
     simp +contextual only [bk,bS,cP,q'.g,fl.1,fl.2.1,au,ez,↓aw,aH,simprocAttr]
     refine ⟨⟨i+1,rfl,aP,?_,fp.lz aM fun b ah=>W.base ah⟩,by omega⟩
     rw [take_one aP,List.map_append]
     exact aC
   · have g0:((i:Int) < (l.length:Int))=False:=eq_false (by omega)
     rw [List.take_of_length_le (by omega)] at W
     simp +contextual only [bk,bS,cP,ai,g0,↓aw,aH,simprocAttr]
     exact ⟨W.fx (by rw [List.length_map];exact hle) (fun _ q=>q) fun _ q=>q,E⟩
set_option maxHeartbeats 2000000 in
theorem GO:∀(N:Nat),(∀(t:aL),2 * t.size<N→∀(ad ws:List V) (h:af),bV Any h t.enc ad→bV Any h t.enc ws→bI Tryz.prog 25 [.agg ad,.agg ws] h fun x ab=>x=.bool true∧Ext h ab)∧
 (∀(l:List aL),2 * c2 l+1<N→∀(v w:V) (h:af),cZ Any h 4 (l.map aL.enc) v→cZ Any h 4 (l.map aL.enc) w→bI Tryz.prog 17 [v,w] h fun x ab=>x=.bool true∧Ext h ab)
 | 0=>⟨fun t q=>by omega,fun l q=>by omega⟩
 | N+1=>by
   obtain ⟨Fh,Fi⟩:=GO N
   refine ⟨fun t aQ ad ws h H cR=>?_,fun l aQ v w h L ot=>?_⟩
   · obtain ⟨b7,rfl,L,_⟩:=aL.open H
     obtain ⟨wl,rfl,ot,_⟩:=aL.open cR
     have b5:=size_eq t
     have ol:=L.one
     have du:=ot.one
     refine SF rfl (df ?_)
     unfold CO
     obtain ⟨aa,au,aN,ck⟩:=fA h [.int .i64 t.k,.int .i64 t.n,.str t.s,b7]
     obtain ⟨ae,aC,bf,dx⟩:=fA aa [.int .i64 t.k,.int .i64 t.n,.str t.s,wl]
     have O2:=ck.ext bf
     simp +contextual only [ol.1,ol.2.1,du.1,du.2.1,au,aC,O2.g,dx.g,decide_true,↓aw,aH,simprocAttr]
     refine cF (Fi t.l (by omega) b7 wl ae (L.ext (aN.trans bf)) (ot.ext (aN.trans bf))) ?_
     rintro x aI ⟨rfl,bT⟩
     simp +contextual only [↓aw,aH,simprocAttr]
     exact (aN.trans bf).trans bT
   · have ai:=L.len
     have hB:=ot.len
     have hle:=L.le
     rw [List.length_map] at ai hle hB
     refine Sj rfl (df ?_)
     unfold oI
     simp +contextual only [ai,hB,↓aw,aH,simprocAttr]
     refine gE (fun r g=>r 0=v∧r 1=w∧∃i:Nat,r 5=.int .i64 i∧i≤l.length∧Ext h g) (fun r g=>l.length - (r 5).toN) ?_ ?_
     · exact ⟨by simp only [↓aw,b4,simprocAttr],by simp only [↓aw,b4,simprocAttr],0,by simp only [↓aw,b4,simprocAttr]<;>rfl,by omega,Ext.refl h⟩
     rintro r g ⟨bk,bw,i,dK,aD,E⟩
     unfold It
     by_cases aP:i<l.length
     · have g0:((i:Int) < (l.length:Int))=True:=eq_true (by omega)
       obtain ⟨b,off,ul,cH,X,gw,ld⟩:=aL.hR (L.ext E) (k:=.i64) aP
       obtain ⟨cf,Ar,agP,mV,q9,afA,LP⟩:=aL.hR (ot.ext E) (k:=.i64) aP
       have d1:=ld g (Ext.refl g)
       have d2:=LP g (Ext.refl g)
       have ez:=jc aP (by unfold top at hle;omega)
       have b5:=AI (List.getElem_mem aP)
       simp +contextual only [bk,bw,dK,ai,g0,cH,mV,d1,d2,↓aw,aH,simprocAttr]
       refine cF (Fh l[i] (by omega) _ _ g X q9) ?_
       rintro x g2 ⟨rfl,bf⟩
       have d3:=ld g2 bf
       have d4:=LP g2 bf
       simp +contextual only [bk,bw,dK,ez,d1,d2,d3,d4,↓aw,aH,simprocAttr]
       exact ⟨⟨i+1,rfl,aP,E.trans bf⟩,by omega⟩
     · have g0:((i:Int) < (l.length:Int))=False:=eq_false (by omega)
       simp +contextual only [bk,bw,dK,ai,g0,↓aw,aH,simprocAttr]
       exact E
theorem adI (l:List aL) (v w:V) (h:af) (L:cZ Any h 4 (l.map aL.enc) v) (ot:cZ Any h 4 (l.map aL.enc) w):bI Tryz.prog 17 [v,w] h fun x ab=>x=.bool true∧Ext h ab:=(GO _).2 l (Nat.lt_succ_self _) v w h L ot
theorem NT (t:aL) (ad ws:List V) (h:af) (H:bV Any h t.enc ad) (cR:bV Any h t.enc ws):bI Tryz.prog 25 [.agg ad,.agg ws] h fun x ab=>x=.bool true∧Ext h ab:=(GO _).1 t (Nat.lt_succ_self _) ad ws h H cR
abbrev z5:List V:=[.int .i64 0,.int .i64 0,.str [],.b6]
end Go.Proofs.YthemdhlheglhoaaGreatDoor
