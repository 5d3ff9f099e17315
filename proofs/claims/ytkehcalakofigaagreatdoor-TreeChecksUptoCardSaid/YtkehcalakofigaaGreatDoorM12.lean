/- The chapter's functions, walked by the abstract machine: plain lemmas, no condition. Printed by a program from longer texts: names made short. -/
import Derived.Test.YtkehcalakofigaaGreatDoorM10
import Derived.Test.YtkehcalakofigaaGreatDoorM11
import Derived.Test.YtkehcalakofigaaGreatDoorM6
import Derived.Test.YtkehcalakofigaaGreatDoorM4
set_option linter.unusedSectionVars false
set_option linter.unusedSimpArgs false
set_option linter.unusedVariables false
namespace Go.Proofs.YtkehcalakofigaaGreatDoor
open Go a1
noncomputable def K_ (n:Nat):Bool:=match ob ctx 1000 64 [.int .u64 1,.int .u64 n] ae.empty with
 | .val (.tuple [.int .u64 a,.int .u64 b]) ar=>pM a 0&&pM b n&&Nat.beq ar.next 0
 | _=>false
set_option maxRecDepth 100000 in
theorem Zl:(List.range 65).all K_=true:=by kernel_rfl
theorem Zk (n:Nat) (a7:n≤64) (h:ae):bF Tryz.prog 64 [.int .u64 1,.int .u64 n] h fun x aa=>x=.tuple [.int .u64 0,.int .u64 n]∧aa=h:=by
 have q:=List.all_eq_true.1 Zl n (List.mem_range.2 (by omega))
 unfold K_ at q
 split at q
 · rename_i a b ar he
   simp only [Bool.and_eq_true] at q
   obtain ⟨⟨aj,ay⟩,aK⟩:=q
   have aj:=yV aj
   have ay:=yV ay
   have aK:=Nat.eq_of_beq_eq_true aK
   have c:=Tm (C:=ctx) follows c2 E8 (n:=1000) (f:=64) (by rfl) (by kernel_rfl) (by kernel_rfl) ⟨_,Tryz.func64,by kernel_rfl⟩ he h
   refine ⟨_,_,c,?_,?_⟩
   · simp only [V.cz,im,aj,ay]
   · unfold ae.app
     rw [aK];rfl
 · cases q
theorem aab (z:Int):∀i:Nat,eb (List.replicate i (V.int .i64 z))=true:=fun i=>by
 induction i with
 | zero=>rfl
 | succ i bh=>simpa [List.replicate_succ,eb,V.one] using bh
theorem abW {i m n:Nat} {z y:V} (U:m≤i) (ad:i+m≤n):hh (List.replicate i z++List.replicate (n-i) y) i (List.take m (List.replicate i z))=List.replicate (i+m) z++List.replicate (n - (i+m)) y:=by
 apply List.ext_getElem?
 intro q
 have hm:(List.take m (List.replicate i z)).length=m:=by rw [List.length_take,List.length_replicate];omega
 rw [abV _ _ _ (by rw [hm,List.length_append,List.length_replicate,List.length_replicate];omega),hm]
 by_cases a:q<i
 · rw [if_pos a,List.getElem?_append_left (by rw [List.length_replicate];exact a),List.getElem?_append_left (by rw [List.length_replicate];omega),List.getElem?_replicate,List.getElem?_replicate,if_pos a,if_pos (by omega)]
 · rw [if_neg a]
   by_cases b:q<i+m
   · rw [if_pos b,List.getElem?_take_of_lt (by omega),List.getElem?_replicate,if_pos (by omega),List.getElem?_append_left (by rw [List.length_replicate];omega),List.getElem?_replicate,if_pos b]
   · rw [if_neg b,List.getElem?_append_right (by rw [List.length_replicate];omega),List.getElem?_append_right (by rw [List.length_replicate];omega),List.length_replicate,List.length_replicate,List.getElem?_replicate,List.getElem?_replicate]
     by_cases c:q<n
     · rw [if_pos (by omega),if_pos (by omega)]
     · rw [if_neg (by omega),if_neg (by omega)]
set_option maxHeartbeats 2000000 in
theorem aa0 (v:V) (z:Int) (n:Nat) (a7:n≤64) (h:ae) (H:eZ h 1 v 1 [.int .i64 z]):bF Tryz.prog 47 [v,.int .i64 n] h fun x aa=>cF Any aa 1 ((List.replicate n z).map a1.encI) x∧Ext h aa:=by
 refine Qo rfl (db ?_)
 unfold BK
 have f0:((n:Int)<0)=False:=eq_false (by omega)
 have bM:IntKind.u64.wrap (n:Int)=(n:Int):=by rw [IntKind.wrap_u64];omega
 have bI:IntKind.i64.wrap (n:Int)=(n:Int):=wrap_i64 (by omega) (by omega)
 have aw:IntKind.u64.wrap 1=1:=by decide
 have f1:((9223372036854775807:Int) < (n:Int))=False:=eq_false (by omega)
 have ai:iO v=some (.int .i64 1):=H.len
 simp +contextual only [f0,ai,aw,bM,↓ak,au,simprocAttr]
 refine bT (Zk n a7 h) ?_
 rintro x U ⟨rfl,rfl⟩
 obtain ⟨ad,ay,aM,g2⟩:∃H,U.new (.bk (List.replicate n (.int .i64 0)) 0 false)=H∧Ext U H∧Has H U.next (List.replicate n (.int .i64 0)):=iB U _
 have mk:=Zd (h:=U) (n:=n) (z:=.int .i64 0) (k:=.i64) (bl:=.i64) (by omega)
 rw [ay] at mk
 have hlen:(List.replicate n (V.int .i64 0)).length=n:=List.length_replicate
 have u7:=copy_eq (h:=ad) (b:=aH U.next) (off:=0) (l:=n) (c:=n) (H.ext aM) g2.g (by rw [hlen,Nat.zero_add];exact Nat.min_le_right _ _) rfl
 simp +contextual only [f0,f1,bI,mk,u7,↓ak,au,simprocAttr]
 refine gu (fun r g=>r 7=.slice (aH U.next) 0 n n∧∃i:Nat,r 8=.int .i64 i∧i≤n∧(1≤n→1≤i)∧Has g U.next (List.replicate i (V.int .i64 z)++List.replicate (n-i) (V.int .i64 0))∧Ext U g) (fun r g=>n - (r 8).toN) ?_ ?_
 · refine ⟨by simp only [↓ak,c1,simprocAttr],Nat.min 1 n,by simp only [↓ak,c1,simprocAttr],Nat.min_le_right _ _,fun q=>by rw [show Nat.min 1 n=1 from Nat.min_eq_left q];omega,?_,aM.set (Nat.le_refl _) _⟩
   have:=g2.put (hh (List.replicate n (V.int .i64 0)) 0 (List.take (Nat.min 1 n) [V.int .i64 z]))
   by_cases bq:n=0
   · subst bq;exact this
   · rw [show Nat.min 1 n=1 from Nat.min_eq_left (by omega)] at this ⊢
     obtain ⟨m,rfl⟩:∃m,n=m+1:=⟨n-1,by omega⟩
     exact this
 rintro r g ⟨gU,i,fj,aB,rb,G,E⟩
 unfold Hg
 by_cases aN:i<n
 · have g0:((i:Int) < (n:Int))=True:=eq_true (by omega)
   have IL:=rb (by omega)
   have S:eZ g 1 (.slice (aH U.next) 0 i n) i (List.replicate i (V.int .i64 z)):=by
    refine ⟨by rw [List.length_replicate,Nat.mul_one],rfl,gS G.lt,_,.inr ⟨0,false,G.g⟩,by rw [List.length_append,List.length_replicate];omega,?_⟩
    rw [List.drop_zero,List.take_left' rfl]
   have u7:=copy_eq (h:=g) (b:=aH U.next) (off:=i) (l:=n-i) (c:=n-i) S G.g (by rw [List.length_append,List.length_replicate,List.length_replicate];have:Nat.min i (n-i)≤n-i:=Nat.min_le_right _ _;omega) (aab z i)
   have Ve:Nat.min i (n-i)≤i:=Nat.min_le_left _ _
   have kU:Nat.min i (n-i)≤n-i:=Nat.min_le_right _ _
   have adR:1≤Nat.min i (n-i):=Nat.le_min.2 ⟨IL,by omega⟩
   generalize Nat.min i (n-i)=m at *
   have eG:IntKind.i64.wrap ((i:Int) + ((m:Nat):Int))=((i+m:Nat):Int):=by rw [wrap_i64 (by omega) (by omega)];omega
   have bC:=St (b:=aH U.next) (k:=.i64) aN
   have bY:=Ss (b:=aH U.next) (k:=.i64) aB IL
   simp +contextual only [gU,fj,g0,bC,bY,u7,eG,↓ak,au,simprocAttr]
   refine ⟨⟨i+m,rfl,by omega,fun _=>by omega,?_,E.set (Nat.le_refl _) _⟩,by omega⟩
   have:=G.put (hh (List.replicate i (V.int .i64 z)++List.replicate (n-i) (V.int .i64 0)) i (List.take m (List.replicate i (V.int .i64 z))))
   rw [abW Ve (by omega)] at this ⊢
   exact this
 · have g0:((i:Int) < (n:Int))=False:=eq_false (by omega)
   have:i=n:=by omega
   subst this
   simp +contextual only [gU,fj,g0,↓ak,au,simprocAttr]
   refine ⟨eZ.fe (l:=List.replicate i z) ?_ (fun b o l c e=>by cases e;exact Nat.le_refl _) (by rw [List.length_replicate];unfold top;omega),E⟩
   have aD:=G.g
   rw [Nat.sub_self,List.replicate_zero,List.append_nil] at aD
   have aB:jl (List.replicate i z)=List.replicate i (V.int .i64 z):=by unfold jl;rw [List.map_replicate]
   rw [aB,List.length_replicate]
   exact ⟨by rw [List.length_replicate,Nat.mul_one],rfl,gS G.lt,_,.inr ⟨0,false,aD⟩,by rw [List.length_replicate];omega,by rw [List.drop_zero,List.take_length]⟩
end Go.Proofs.YtkehcalakofigaaGreatDoor
namespace Go.Proofs.YtkehcalakofigaaGreatDoor
open Go a1
set_option maxHeartbeats 2000000 in
theorem ack (kV:Int) (s:List UInt8) (h:ae):bF Tryz.prog 46 [.int .i64 kV,.str s] h fun x aa=>x=.bool (uk dm kV s)∧Ext h aa:=by
 refine Ql rfl (db ?_)
 unfold BJ uk
 by_cases bK:kV=1
 · simp +contextual only [eq_true bK,if_true,↓ak,au,simprocAttr]
   refine bT (FY 3 (by simp) s h) ?_
   rintro x U ⟨rfl,aE⟩
   simp +contextual only [↓ak,au,simprocAttr]
   exact aE
 by_cases a2:kV=2
 · simp +contextual only [eq_false bK,eq_true a2,if_true,if_false,↓ak,au,simprocAttr]
   refine bT (FY 4 (by simp) s h) ?_
   rintro x U ⟨rfl,aE⟩
   simp +contextual only [↓ak,au,simprocAttr]
   exact aE
 by_cases a3:kV=3
 · simp +contextual only [eq_false bK,eq_false a2,eq_true a3,if_true,if_false,↓ak,au,simprocAttr]
   refine bT (FY 5 (by simp) s h) ?_
   rintro x U ⟨rfl,aE⟩
   simp +contextual only [↓ak,au,simprocAttr]
   exact aE
 by_cases a4:kV=4
 · have aV:decide (s.length≤4096)=decide ((s.length:Int)≤4096):=decide_eq_decide.2 ⟨fun q=>by omega,fun q=>by omega⟩
   simp +contextual only [eq_false bK,eq_false a2,eq_false a3,eq_true a4,aV,if_true,if_false,↓ak,au,simprocAttr]
   exact Ext.refl _
 by_cases a5:kV=5
 · obtain ⟨U,aj,aE,Y⟩:=pY h 1 8 [.str [43],.str [45],.str [42],.str [47],.str [109,111,100],.str [61],.str [60],.str [60,61]] rfl (by unfold top;omega)
   simp +contextual only [eq_false bK,eq_false a2,eq_false a3,eq_false a4,eq_true a5,aj,if_true,if_false,↓ak,au,simprocAttr]
   refine eR (Sf s opsL _ U Y.v (by decide)) ?_
   simp +contextual only [↓ak,au,simprocAttr]
   exact aE
 · simp +contextual only [eq_false bK,eq_false a2,eq_false a3,eq_false a4,eq_false a5,if_false,↓ak,au,simprocAttr]
   exact Ext.refl _
theorem gm.open {F:aO→Prop} {h:ae} {r:gm} {ab:List V} (H:ct F h r.enc ab):∃iE oL,ab=[iE,.int .i64 r.rest,.int .i64 r.least,.int .i64 r.ig,oL,.int .i64 r.bJ,.int .i64 r.aB,.int .i64 r.s]∧cF F h 1 (r.first.map a1.encI) iE∧cF F h 1 (r.last.map a1.encI) oL:=by
 unfold gm.enc at H
 obtain ⟨iE,_,rfl,w7,H1⟩:=H.fH
 obtain ⟨_,rfl,cN⟩:=H1.int
 obtain ⟨_,rfl,Az⟩:=cN.int
 obtain ⟨_,rfl,AA⟩:=Az.int
 obtain ⟨oL,_,rfl,AR,AB⟩:=AA.fH
 obtain ⟨_,rfl,Nq⟩:=AB.int
 obtain ⟨_,rfl,Nr⟩:=Nq.int
 obtain ⟨_,rfl,Ns⟩:=Nr.int
 obtain rfl:=Ns.no
 exact ⟨iE,oL,rfl,w7,AR⟩
theorem Zg {t:a'} (h:lQ t.k=none):t.may dm=false:=by
 cases t;rw [a'.may];simp only [a'.k] at h;rw [h]
theorem Zh {t:a'} {r:gm} (h:lQ t.k=some r):t.may dm=(vm dm r t.k t.n t.a t.s&&ie r t.k t.n t.l.length&&ky dm (kN r t.k t.n t.l.length) t.l):=by
 cases t;rw [a'.may];simp only [a'.k] at h;rw [h];rfl
theorem abe {k:Int} {r:gm} (h:lQ k=some r):r.first.length≤3∧r.last.length≤1∧0≤r.least∧(k=50→r.bJ=0∧r.aB=64):=by
 have hm:=zX (l:=oV) h
 simp only [oV,List.mem_cons,Prod.mk.injEq,List.not_mem_nil,or_false] at hm
 rcases hm with h | h | h | h | h | h | h | h | h | h | h | h | h | h | h | h | h | h | h | h | h | h | h | h | h | h | h | h | h | h | h | h | h | h | h | h | h | h<;>
 obtain ⟨rfl,rfl⟩:=h<;>simp
theorem T3 {r:gm} {k n:Int} {len i:Nat} (bb:0≤fk r k n len) (aB:i<len):(kN r k n len)[i]? =some (if ax:i < (firstM r k n).length then (firstM r k n)[i] else if i < (firstM r k n).length + (fk r k n len).toNat then r.rest else (r.last[i - ((firstM r k n).length + (fk r k n len).toNat)]?.getD 0)):=by
 have hlen:(len:Int)=(firstM r k n).length+fk r k n len+r.last.length:=by unfold fk;omega
 unfold kN
 by_cases a:i < (firstM r k n).length
 · rw [dif_pos a,List.append_assoc,List.getElem?_append_left a,List.getElem?_eq_getElem a]
 · rw [dif_neg a]
   by_cases b:i < (firstM r k n).length + (fk r k n len).toNat
   · rw [if_pos b,List.getElem?_append_left (by rw [List.length_append,List.length_replicate];exact b),List.getElem?_append_right (by omega),List.getElem?_replicate,if_pos (by omega)]
   · rw [if_neg b,List.getElem?_append_right (by rw [List.length_append,List.length_replicate];omega),List.length_append,List.length_replicate]
     rw [List.getElem?_eq_getElem (by omega)]
     rfl
theorem T4 {r:gm} {k n:Int} {len:Nat} (bb:0≤fk r k n len):(kN r k n len).length=len:=by
 have hlen:(len:Int)=(firstM r k n).length+fk r k n len+r.last.length:=by unfold fk;omega
 unfold kN
 rw [List.length_append,List.length_append,List.length_replicate]
 omega
theorem uP (b:aO) (o:Nat):(oG 2 1).run (.ptr b o) (.int .i64 0)=some (.ptr b o):=rfl
theorem uQ (b:aO) (o:Nat):(oG 2 1).run (.ptr b o) (.int .i64 1)=some (.ptr b (o+1)):=rfl
set_option maxHeartbeats 8000000 in
theorem KS:∀(N:Nat) (t:a'),t.size≤N→N≤1000000000→∀(dk:V) (F:aO→Prop) (ab:List V) (h:ae),lb F h zY dk→ct Any h t.enc ab→bF Tryz.prog 37 [dk,.agg ab] h fun x aa=>x=.bool (t.may dm)∧Ext h aa
 | 0,t,aQ,_,_,_,_,_,_,_=>by have:=rV t;omega
 | N+1,t,aQ,yp,dk,F,ab,h,M,H=>by
   have se:=H
   obtain ⟨dI,rfl,L,_⟩:=a'.open H
   have bw:N≤1000000000:=by omega
   have ol:=L.one
   have ai:=L.len
   have hle:=L.le
   rw [List.length_map] at ai hle
   have bZ:=size_eq t
   have ib:=wK t.l
   refine P8 rfl (db ?_)
   unfold BF
   obtain ⟨U,aj,aE,pj⟩:=iB h [.int .i64 t.k,.int .i64 t.n,.int .i64 t.a,.str t.s,dI]
   have look:=(M.ext aE).look t.k (.agg [.cq,.int .i64 0,.int .i64 0,.int .i64 0,.cq,.int .i64 0,.int .i64 0,.int .i64 0]) true
   rw [Th] at look
   cases aG:lQ t.k with
   | none=>
     rw [aG] at look
     rcases look with ⟨_,k0⟩ | ⟨_,_,a6,_⟩
     · rw [cond_true] at k0
       replace k0:jr la.int.eq _ true U dk _=_:=k0
       rw [Zg aG]
       obtain ⟨ad,ay,aM,k9⟩:=j' U [.cq,.int .i64 0,.int .i64 0,.int .i64 0,.cq,.int .i64 0,.int .i64 0,.int .i64 0] [.cq,.int .i64 0,.int .i64 0,.int .i64 0,.cq,.int .i64 0,.int .i64 0,.int .i64 0]
       simp +contextual only [ol.1,ol.2.1,aj,ay,pj.g,k0,↓ak,au,simprocAttr]
       exact aE.trans aM
     · cases a6
   | some r=>
   rw [aG] at look
   rcases look with ⟨a6,_⟩ | ⟨ds,y,pE,Y,k0⟩
   · cases a6
   rw [cond_true] at k0
   replace k0:jr la.int.eq _ true U dk _=_:=k0
   obtain rfl:r.enc=ds:=Option.some.inj pE
   rw [Zh aG]
   obtain ⟨aen,aeo,aep,abd⟩:=abe aG
   obtain ⟨iE,oL,aZ,Ga,Gi⟩:=gm.open Y
   have of:=Ga.one
   have wB:=Gi.one
   obtain ⟨ad,ay,aM,k9⟩:=j' U [.cq,.int .i64 0,.int .i64 0,.int .i64 0,.cq,.int .i64 0,.int .i64 0,.int .i64 0] [iE,.int .i64 r.rest,.int .i64 r.least,.int .i64 r.ig,oL,.int .i64 r.bJ,.int .i64 r.aB,.int .i64 r.s]
   have pk:=pj.ext aM
   have bN:=aE.trans aM
   unfold vm
   by_cases bC:t.n<r.bJ
   · rw [decide_eq_false (show ¬r.bJ≤t.n by omega)]
     simp +contextual only [ol.1,ol.2.1,aj,ay,pj.g,pk.g,k9.g,uP,uQ,k0,aZ,of.1,wB.1,eq_true bC,Bool.false_and,↓ak,au,simprocAttr]
     exact bN
   by_cases bY:r.aB<t.n
   · rw [decide_eq_false (show ¬t.n≤r.aB by omega)]
     simp +contextual only [ol.1,ol.2.1,aj,ay,pj.g,pk.g,k9.g,uP,uQ,k0,aZ,of.1,wB.1,eq_false bC,eq_true bY,Bool.false_and,Bool.and_false,↓ak,au,simprocAttr]
     exact bN
   by_cases c3:t.a<0
   · rw [decide_eq_false (show ¬0≤t.a by omega)]
     simp +contextual only [ol.1,ol.2.1,aj,ay,pj.g,pk.g,k9.g,uP,uQ,k0,aZ,of.1,wB.1,eq_false bC,eq_false bY,eq_true c3,Bool.false_and,Bool.and_false,↓ak,au,simprocAttr]
     exact bN
   by_cases fZ:65536<t.a
   · rw [decide_eq_false (show ¬t.a≤65536 by omega)]
     simp +contextual only [ol.1,ol.2.1,aj,ay,pj.g,pk.g,k9.g,uP,uQ,k0,aZ,of.1,wB.1,eq_false bC,eq_false bY,eq_false c3,eq_true fZ,Bool.false_and,Bool.and_false,↓ak,au,simprocAttr]
     exact bN
   rw [decide_eq_true (show r.bJ≤t.n by omega),decide_eq_true (show t.n≤r.aB by omega),decide_eq_true (show 0≤t.a by omega),decide_eq_true (show t.a≤65536 by omega)]
   simp +contextual only [ol.1,ol.2.1,aj,ay,pj.g,pk.g,k9.g,uP,uQ,k0,aZ,of.1,wB.1,eq_false bC,eq_false bY,eq_false c3,eq_false fZ,Bool.true_and,↓ak,au,simprocAttr]
   refine bT (ack r.s t.s ad) ?_
   rintro x aI ⟨rfl,b9⟩
   have uH:=pk.ext b9
   have Ar:=k9.ext b9
   have lX:=bN.trans b9
   cases c5:uk dm r.s t.s with
   | false=>
     simp +contextual only [Bool.false_and,↓ak,au,simprocAttr]
     exact lX
   | true=>
   have Np:cF Any aI 1 (r.first.map a1.encI) iE:=(Ga.ext (aM.trans b9)).k8 fun _ _=>trivial
   have AS:cF Any aI 1 (r.last.map a1.encI) oL:=(Gi.ext (aM.trans b9)).k8 fun _ _=>trivial
   have D2:∀(dn:List Int),dn.length≤64→IntKind.i64.wrap (IntKind.i64.wrap ((t.l.length:Int) - (dn.length:Int)) - (r.last.length:Int))=(t.l.length:Int)-dn.length-r.last.length:=fun dn pz=>by
    rw [wrap_i64 (n:=(t.l.length:Int) - (dn.length:Int)) (by omega) (by omega),wrap_i64 (by omega) (by omega)]
   have Jj:=AS.len
   rw [List.length_map] at Jj
   by_cases u2:t.k=50
   obtain ⟨ad3,adP⟩:=abd u2
   obtain ⟨n,a7⟩:=Int.eq_ofNat_of_zero_le (show 0≤t.n by omega)
   obtain ⟨br,bE,gD,Z⟩:=pY aI 1 1 [.int .i64 8] rfl (by unfold top;omega)
   have Gq:=uH.ext gD
   have g3:=uH.g
   have g4:=Gq.g
   rw [a7] at g3 g4
   simp +contextual only [g3,g4,Ar.g,bE,eq_true u2,a7,↓ak,au,simprocAttr]
   refine bT (aa0 _ 8 n (by omega) br Z.v) ?_
   rintro yf cp ⟨uA,kM⟩
   have vn:firstM r t.k t.n=List.replicate n 8:=by unfold firstM;rw [if_pos u2,a7];rfl
   rw [←vn] at uA
   have qB:=Gq.ext kM
   have qq:=(Ar.ext gD).ext kM
   have k_:=(lX.trans gD).trans kM
   have Gj:=(AS.ext gD).ext kM
   have I8:(firstM r t.k t.n).length≤64:=by rw [vn,List.length_replicate];omega
   rw [←a7]
   rotate_left
   have vn:firstM r t.k t.n=r.first:=by unfold firstM;rw [if_neg u2]
   have uA:=Np
   rw [←vn] at uA
   have qB:=uH
   have qq:=Ar
   have k_:=lX
   have Gj:=AS
   have I8:(firstM r t.k t.n).length≤64:=by rw [vn];omega
   simp +contextual only [qB.g,qq.g,eq_false u2,↓ak,au,simprocAttr]
   all_goals
    have iI:=uA.len
    rw [List.length_map] at iI
    have mv:=D2 (firstM r t.k t.n) I8
    simp +contextual only [qB.g,qq.g,ai,iI,Jj,mv,↓ak,au,simprocAttr]
    have tl:fk r t.k t.n t.l.length=(t.l.length:Int) - (firstM r t.k t.n).length-r.last.length:=rfl
    rw [←tl]
    by_cases d1:fk r t.k t.n t.l.length<r.least
    · have cy:ie r t.k t.n t.l.length=false:=by unfold ie;rw [decide_eq_false (by omega)];rfl
      simp +contextual only [eq_true d1,cy,Bool.and_false,Bool.false_and,qB.g,qq.g,↓ak,au,simprocAttr]
      exact k_
    by_cases d2:r.ig<fk r t.k t.n t.l.length
    · have cy:ie r t.k t.n t.l.length=false:=by unfold ie;rw [decide_eq_false (show ¬fk r t.k t.n t.l.length≤r.ig by omega),Bool.and_false]
      simp +contextual only [eq_false d1,eq_true d2,cy,Bool.and_false,Bool.false_and,qB.g,qq.g,↓ak,au,simprocAttr]
      exact k_
    have cy:ie r t.k t.n t.l.length=true:=by unfold ie;rw [decide_eq_true (show r.least≤_ by omega),decide_eq_true (show fk r t.k t.n t.l.length≤r.ig by omega)];rfl
    have bb:0≤fk r t.k t.n t.l.length:=by omega
    simp +contextual only [eq_false d1,eq_false d2,cy,ai,Bool.true_and,qB.g,qq.g,↓ak,au,simprocAttr]
    have ou:=T4 bb
    have TB:=fun (i:Nat) (aB:i<t.l.length)=>T3 (r:=r) (k:=t.k) (n:=t.n) bb aB
    have adY:fk r t.k t.n t.l.length≤t.l.length:=by unfold fk;omega
    have DO:(t.l.length:Int)=(firstM r t.k t.n).length+fk r t.k t.n t.l.length+r.last.length:=by unfold fk;omega
    generalize kN r t.k t.n t.l.length=gs at *
    generalize fk r t.k t.n t.l.length=rest at *
    obtain ⟨oU,rfl⟩:=Int.eq_ofNat_of_zero_le bb
    generalize firstM r t.k t.n=bO at *
    refine gu (fun R g=>R 0=dk∧R 3=.ptr (aH h.next) 0∧R 5=.ptr (aH U.next) 0∧R 8=.int .i64 oU∧R 85=dI∧R 86=.int .i64 t.l.length∧(∃yf,R 7=yf∧cF Any g 1 (bO.map a1.encI) yf)∧cF Any g 1 (r.last.map a1.encI) oL∧
     Has g h.next [.int .i64 t.k,.int .i64 t.n,.int .i64 t.a,.str t.s,dI]∧Has g U.next [iE,.int .i64 r.rest,.int .i64 r.least,.int .i64 r.ig,oL,.int .i64 r.bJ,.int .i64 r.aB,.int .i64 r.s]∧Ext h g∧
     ∃i:Nat,R 87=.int .i64 i∧i≤t.l.length∧ky dm gs t.l=ky dm (gs.drop i) (t.l.drop i)) (fun R g=>t.l.length - (R 87).toN) ?_ ?_
    · exact ⟨by simp only [↓ak,c1,simprocAttr],by simp only [↓ak,c1,simprocAttr],by simp only [↓ak,c1,simprocAttr],by simp only [↓ak,c1,simprocAttr]<;>rfl,by simp only [↓ak,c1,simprocAttr],by simp only [↓ak,c1,simprocAttr],⟨_,by simp only [↓ak,c1,simprocAttr],uA⟩,Gj,qB,qq,k_,0,by simp only [↓ak,c1,simprocAttr]<;>rfl,by omega,rfl⟩
    rintro R g ⟨bp,bQ,cL,fj,p9,p_,⟨yf,gU,Ay⟩,gX,P,B,E,i,qa,aB,bg⟩
    unfold Hd
    by_cases aN:i<t.l.length
    · have g0:((i:Int) < (t.l.length:Int))=True:=eq_true (by omega)
      obtain ⟨b,off,wl,c4,X,gB,ld,_,_,_⟩:=a'.rI (L.ext E) (k:=.i64) aN
      have fo:=ld g (Ext.refl g)
      have gx:=gB.one
      have eG:=j1 aN (by unfold top at hle;omega)
      have U':=rU (t:=t) (List.getElem_mem aN)
      have iI:=Ay.len
      rw [List.length_map] at iI
      obtain ⟨g1,ed,bu,Z⟩:=j' g [.int .i64 0,.int .i64 0,.int .i64 0,.str [],.cq] [.int .i64 t.l[i].k,.int .i64 t.l[i].n,.int .i64 t.l[i].a,.str t.l[i].s,wl]
      have pj:=P.ext bu
      have Aq:=B.ext bu
      have kP:=TB i aN
      have G:gs[i]? =some gs[i]:=List.getElem?_eq_getElem (by omega)
      rw [List.drop_eq_getElem_cons aN,List.drop_eq_getElem_cons (show i<gs.length by omega),ky] at bg
      rw [G] at kP
      have kP:=Option.some.inj kP
      generalize gs[i]=Gc at *
      have bM:IntKind.i64.wrap ((bO.length:Int) + (oU:Int))=((bO.length+oU:Nat):Int):=by rw [wrap_i64 (by omega) (by omega)];omega
      by_cases bK:i<bO.length
      have xv:((i:Int) < (bO.length:Int))=True:=eq_true (by omega)
      obtain ⟨ca,zn,iK,lG⟩:=(Ay.ext bu).Ec (k:=.i64) bK
      have d2:=lG g1 (Ext.refl g1)
      rw [dif_pos bK] at kP
      rw [←kP] at d2
      simp +contextual only [bp,bQ,cL,gU,fj,p9,p_,qa,g0,c4,fo,gx.1,gx.2.1,ed,Z.g,Aq.g,iI,xv,iK,d2,↓ak,au,simprocAttr]
      rotate_left
      rw [dif_neg bK] at kP
      have xv:((i:Int) < (bO.length:Int))=False:=eq_false (by omega)
      by_cases a2:bO.length+oU≤i
      have AY:(((bO.length+oU:Nat):Int)≤(i:Int))=True:=eq_true (by omega)
      have bI:IntKind.i64.wrap (IntKind.i64.wrap ((i:Int) - (bO.length:Int)) - (oU:Int))=((i - (bO.length+oU):Nat):Int):=by rw [wrap_i64 (n:=(i:Int) - (bO.length:Int)) (by omega) (by omega),wrap_i64 (by omega) (by omega)];omega
      obtain ⟨ca,zn,iK,lG⟩:=(gX.ext bu).Ec (k:=.i64) (i:=i - (bO.length+oU)) (by omega)
      have d2:=lG g1 (Ext.refl g1)
      rw [if_neg (by omega),Int.toNat_natCast,List.getElem?_eq_getElem (by omega),Option.getD_some] at kP
      rw [←kP] at d2
      simp +contextual only [bp,bQ,cL,gU,fj,p9,p_,qa,g0,c4,fo,gx.1,gx.2.1,ed,Z.g,Aq.g,iI,xv,AY,bM,bI,iK,d2,↓ak,au,simprocAttr]
      rotate_left
      have AY:(((bO.length+oU:Nat):Int)≤(i:Int))=False:=eq_false (by omega)
      rw [if_pos (by omega)] at kP
      simp +contextual only [bp,bQ,cL,gU,fj,p9,p_,qa,g0,c4,fo,gx.1,gx.2.1,ed,Z.g,Aq.g,iI,xv,AY,bM,←kP,↓ak,au,simprocAttr]
      all_goals
       refine bT (Wz t.l[i] Gc _ g1 (X.ext bu)) ?_
       rintro x g2 ⟨rfl,aM⟩
       have uL:=Z.ext aM
       have Am:=bu.trans aM
       cases BV:pP t.l[i].k Gc with
       | false=>
         rw [BV,Bool.false_and,Bool.false_and] at bg
         simp +contextual only [bp,bQ,cL,fj,p9,p_,qa,uL.g,↓ak,au,simprocAttr]
         exact ⟨by rw [bg],E.trans Am⟩
       | true=>
         simp +contextual only [bp,bQ,cL,fj,p9,p_,qa,uL.g,gx.1,gx.2.1,↓ak,au,simprocAttr]
         refine bT (KS N t.l[i] (by omega) bw dk F _ g2 (M.ext (E.trans Am)) (X.ext Am)) ?_
         rintro x g3 ⟨rfl,b9⟩
         have sb:=Am.trans b9
         cases j_:t.l[i].may dm with
         | false=>
           rw [j_,Bool.and_false,Bool.false_and] at bg
           simp +contextual only [bp,bQ,cL,fj,p9,p_,qa,↓ak,au,simprocAttr]
           exact ⟨by rw [bg],E.trans sb⟩
         | true=>
           rw [BV,j_,Bool.true_and,Bool.true_and] at bg
           simp +contextual only [bp,bQ,cL,gU,fj,p9,p_,qa,eG,↓ak,au,simprocAttr]
           exact ⟨⟨Ay.ext sb,gX.ext sb,P.ext sb,(by first | exact B.ext sb | (rw [kP];exact B.ext sb)),E.trans sb,i+1,rfl,aN,bg⟩,by omega⟩
    · have g0:((i:Int) < (t.l.length:Int))=False:=eq_false (by omega)
      rw [List.drop_eq_nil_of_le (show t.l.length≤i by omega),ky] at bg
      simp +contextual only [bp,bQ,cL,fj,p9,p_,qa,g0,↓ak,au,simprocAttr]
      exact ⟨by rw [bg],E⟩
def qK (l:List a'):Int:=if l.all (fun t=>decide (e4 t.k=7)&&t.may dm) then (if l.all (fun t=>decide (t.deep≤200)) then 0 else 260) else 2
theorem R5 (l:List a') (aQ:ek l≤1000000000):rW l=qK l:=by
 have:∀t ∈ l,t.hN dm=t.may dm:=fun t aC=>KT _ t (Nat.le_refl _) (by have:=nC aC;omega)
 unfold rW qK
 have e:l.all (fun t=>decide (e4 t.k=7)&&t.hN dm)=l.all (fun t=>decide (e4 t.k=7)&&t.may dm):=by
  rw [Bool.eq_iff_iff,List.all_eq_true,List.all_eq_true]
  exact ⟨fun q t aC=>by rw [←this t aC];exact q t aC,fun q t aC=>by rw [this t aC];exact q t aC⟩
 rw [e]
set_option maxHeartbeats 2000000 in
theorem R4 (l:List a') (aQ:ek l≤1000000000) (v:V) (h:ae) (L:cF Any h 5 (l.map a'.enc) v):bF Tryz.prog 11 [v] h fun x aa=>x=.int .i64 (qK l)∧Ext h aa:=by
 have ai:=L.len
 have hle:=L.le
 rw [List.length_map] at ai hle
 refine PD rfl (db ?_)
 unfold Bp
 simp +contextual only [↓ak,au,simprocAttr]
 refine bT (abf h) ?_
 rintro dk U ⟨aE,M⟩
 simp +contextual only [ai,↓ak,au,simprocAttr]
 refine gu (fun r g=>r 0=v∧r 3=dk∧r 9=v∧r 10=.int .i64 l.length∧∃i:Nat,r 11=.int .i64 i∧i≤l.length∧Ext U g∧(l.take i).all (fun t=>decide (e4 t.k=7)&&t.may dm)=true) (fun r g=>l.length - (r 11).toN) ?_ ?_
 · exact ⟨by simp only [↓ak,c1,simprocAttr],by simp only [↓ak,c1,simprocAttr],by simp only [↓ak,c1,simprocAttr],by simp only [↓ak,c1,simprocAttr],0,by simp only [↓ak,c1,simprocAttr]<;>rfl,by omega,Ext.refl U,rfl⟩
 rintro r g ⟨bp,bQ,tZ,tX,i,tY,aB,E,cU⟩
 unfold G6
 have gX:=L.ext (aE.trans E)
 by_cases aN:i<l.length
 · have g0:((i:Int) < (l.length:Int))=True:=eq_true (by omega)
   obtain ⟨b,off,wl,c4,X,gB,ld⟩:=a'.nu gX (k:=.i64) aN
   have fo:=ld g (Ext.refl g)
   have eG:=j1 aN (by unfold top at hle;omega)
   have bq:=nC (List.getElem_mem aN)
   have gx:=gB.one
   obtain ⟨g1,ed,bu,Z⟩:=j' g [.int .i64 0,.int .i64 0,.int .i64 0,.str [],.cq] [.int .i64 l[i].k,.int .i64 l[i].n,.int .i64 l[i].a,.str l[i].s,wl]
   simp +contextual only [bp,bQ,tZ,tX,tY,g0,c4,fo,ed,Z.g,gx.1,gx.2.1,↓ak,au,simprocAttr]
   refine bT (IH l[i].k g1) ?_
   rintro x g2 ⟨rfl,rfl⟩
   have bad:(decide (e4 l[i].k=7)&&l[i].may dm)=false→qK l=2:=fun q=>by
    unfold qK
    rw [if_neg]
    intro z
    have:=List.all_eq_true.1 z _ (List.getElem_mem aN)
    rw [q] at this;cases this
   by_cases bC:e4 l[i].k=7
   · simp +contextual only [bp,bQ,tZ,tX,tY,Z.g,eq_true bC,↓ak,au,simprocAttr]
     refine bT (KS _ l[i] (Nat.le_refl _) (by omega) dk _ _ g2 (M.ext (E.trans bu)) (X.ext bu)) ?_
     rintro x g3 ⟨rfl,b9⟩
     cases bY:l[i].may dm with
     | true=>
       simp +contextual only [bp,bQ,tZ,tX,tY,eG,↓ak,au,simprocAttr]
       refine ⟨⟨i+1,rfl,aN,E.trans (bu.trans b9),?_⟩,by omega⟩
       rw [take_one aN,List.all_append,cU]
       simp [bC,bY]
     | false=>
       simp +contextual only [bp,bQ,eG,↓ak,au,simprocAttr]
       exact ⟨by rw [bad (by rw [bY,Bool.and_false])],aE.trans (E.trans (bu.trans b9))⟩
   · simp +contextual only [bp,bQ,tZ,tX,tY,Z.g,eq_false bC,↓ak,au,simprocAttr]
     exact ⟨by rw [bad (by rw [decide_eq_false bC,Bool.false_and])],aE.trans (E.trans bu)⟩
 · have g0:((i:Int) < (l.length:Int))=False:=eq_false (by omega)
   rw [List.take_of_length_le (by omega)] at cU
   have ar:qK l=if l.all (fun t=>decide (t.deep≤200)) then 0 else 260:=by unfold qK;rw [if_pos cU]
   rw [ar]
   simp +contextual only [bp,bQ,tZ,tX,tY,ai,g0,↓ak,au,simprocAttr]
   refine gu (fun r g=>r 26=v∧r 27=.int .i64 l.length∧∃i:Nat,r 28=.int .i64 i∧i≤l.length∧Ext h g∧(l.take i).all (fun t=>decide (t.deep≤200))=true) (fun r g=>l.length - (r 28).toN) ?_ ?_
   · exact ⟨by simp only [bp,↓ak,c1,simprocAttr],by simp only [↓ak,c1,simprocAttr],0,by simp only [↓ak,c1,simprocAttr]<;>rfl,by omega,aE.trans E,rfl⟩
   clear aB bp bQ tZ tX tY gX E g0 aN
   rintro r g ⟨zJ,zK,i,zL,aB,E,cU⟩
   unfold G7
   have gX:=L.ext E
   by_cases aN:i<l.length
   · have g0:((i:Int) < (l.length:Int))=True:=eq_true (by omega)
     obtain ⟨b,off,wl,c4,X,gB,ld⟩:=a'.nu gX (k:=.i64) aN
     have fo:=ld g (Ext.refl g)
     have eG:=j1 aN (by unfold top at hle;omega)
     have bq:=nC (List.getElem_mem aN)
     have gx:=gB.one
     obtain ⟨g1,ed,bu,Z⟩:=j' g [.int .i64 0,.int .i64 0,.int .i64 0,.str [],.cq] [.int .i64 l[i].k,.int .i64 l[i].n,.int .i64 l[i].a,.str l[i].s,wl]
     simp +contextual only [zJ,zK,zL,g0,c4,fo,ed,Z.g,gx.1,gx.2.1,↓ak,au,simprocAttr]
     refine bT (Cd _ l[i] (Nat.le_refl _) (by omega) _ g1 (X.ext bu)) ?_
     rintro x g2 ⟨rfl,aM⟩
     by_cases bC:(200:Int) < (l[i].deep:Int)
     · simp +contextual only [zJ,zK,zL,eq_true bC,↓ak,au,simprocAttr]
       refine ⟨?_,E.trans (bu.trans aM)⟩
       rw [if_neg]
       intro z
       have:=List.all_eq_true.1 z _ (List.getElem_mem aN)
       simp only [decide_eq_true_eq] at this
       omega
     · simp +contextual only [zJ,zK,zL,eG,eq_false bC,↓ak,au,simprocAttr]
       refine ⟨⟨i+1,rfl,aN,E.trans (bu.trans aM),?_⟩,by omega⟩
       rw [take_one aN,List.all_append,cU]
       simp;omega
   · have g0:((i:Int) < (l.length:Int))=False:=eq_false (by omega)
     rw [List.take_of_length_le (by omega)] at cU
     simp +contextual only [zJ,zK,zL,ai,g0,↓ak,au,simprocAttr]
     exact ⟨by rw [if_pos cU],E⟩
end Go.Proofs.YtkehcalakofigaaGreatDoor
namespace Go.Proofs.YtkehcalakofigaaGreatDoor
open Go a1 Go.RowKit
set_option maxRecDepth 100000 in
theorem OA:FQ ctx 100000 9 []=true:=by kernel_rfl
theorem Oz (h:ae):eo Tryz.prog 9 [] h (.bool true) h:=
 R8 (by kernel_rfl) (fun E x q=>by subst q;simp [Rel]) ⟨_,Tryz.func9,by kernel_rfl⟩ (fun w hw=>acx (C:=ctx) follows c2 hw E8 (by kernel_rfl) (by kernel_rfl) OA) h
theorem GN (h:ae):bF Tryz.prog 9 [] h fun x aa=>x=.bool true∧aa=h:=⟨_,_,Oz h,rfl,rfl⟩
end Go.Proofs.YtkehcalakofigaaGreatDoor
namespace Go.Proofs.YtkehcalakofigaaGreatDoor
open Go a1
set_option maxHeartbeats 4000000 in
theorem R6 (l:List a') (aQ:ek l≤900000000) (v:V) (h:ae) (L:cF Any h 5 (l.map a'.enc) v):bF Tryz.prog 3 [v] h fun x aa=>x=.bool true:=by
 have ai:=L.len
 have hle:=L.le
 rw [List.length_map] at ai hle
 refine Qf rfl (db ?_)
 unfold c3
 simp +contextual only [↓ak,au,simprocAttr]
 refine bT (Yw l 400 v h L) ?_
 rintro x bb ⟨⟨b,rfl⟩,rfl⟩
 cases b with
 | true=>
   simp +contextual only [↓ak,au,simprocAttr]
   refine bT (GN _) ?_
   rintro x U ⟨rfl,rfl⟩
   simp +contextual only [↓ak,au,simprocAttr]
 | false=>
 simp +contextual only [↓ak,au,simprocAttr]
 refine bT (HD (ek l+1) l (by omega) (by omega) v bb L) ?_
 rintro w U ⟨NM,aE⟩
 have W:cF Any U 5 (l.map a'.enc) w:=NM.k8 fun _ _=>trivial
 simp +contextual only [↓ak,au,simprocAttr]
 refine bT (R4 l (by omega) w U W) ?_
 rintro x ad ⟨rfl,aM⟩
 simp +contextual only [↓ak,au,simprocAttr]
 refine bT (aaW l (by omega) v ad (L.ext (aE.trans aM))) ?_
 rintro x aI ⟨rfl,b9⟩
 rw [R5 l (by omega)]
 have lX:=(aE.trans aM).trans b9
 have xq:=W.ext (aM.trans b9)
 simp +contextual only [↓ak,au,simprocAttr]
 refine gu (fun r g=>r 0=v∧r 3=w∧∃i:Nat,r 4=.int .i64 i∧i≤l.length∧Ext aI g) (fun r g=>l.length - (r 4).toN) ?_ ?_
 · exact ⟨by simp only [↓ak,c1,simprocAttr],by simp only [↓ak,c1,simprocAttr],0,by simp only [↓ak,c1,simprocAttr]<;>rfl,by omega,Ext.refl aI⟩
 rintro r g ⟨bp,bQ,i,fW,aB,E⟩
 unfold Hf
 by_cases aN:i<l.length
 · have g0:((i:Int) < (l.length:Int))=True:=eq_true (by omega)
   obtain ⟨b,off,wl,c4,X,gB,ld⟩:=a'.nu (L.ext (lX.trans E)) (k:=.i64) aN
   obtain ⟨ca,zn,aez,iK,xr,NN,lG⟩:=a'.nu (xq.ext E) (k:=.i64) aN
   have d1:=ld g (Ext.refl g)
   have d2:=lG g (Ext.refl g)
   have bq:=nC (List.getElem_mem aN)
   have eG:=j1 aN (by unfold top at hle;omega)
   simp +contextual only [bp,bQ,fW,ai,g0,c4,iK,d1,d2,↓ak,au,simprocAttr]
   refine bT (Cd _ l[i] (Nat.le_refl _) (by omega) _ g xr) ?_
   rintro x g2 ⟨rfl,dE⟩
   have d12:=ld g2 dE
   have d22:=lG g2 dE
   simp +contextual only [bp,bQ,fW,ai,g0,c4,iK,d1,d2,d12,d22,↓ak,au,simprocAttr]
   refine bT (Ff _ l[i] (Nat.le_refl _) (by omega) _ g2 (X.ext dE)) ?_
   rintro x g3 ⟨rfl,kD⟩
   have d13:=ld g3 (dE.trans kD)
   have d23:=lG g3 (dE.trans kD)
   simp +contextual only [bp,bQ,fW,ai,g0,c4,iK,d1,d2,d12,d22,d13,d23,decide_true,decide_false,↓ak,au,simprocAttr]
   refine bT (abH l[i] (by omega) _ g3 (xr.ext (dE.trans kD))) ?_
   rintro x g4 ⟨rfl,ur⟩
   have d14:=ld g4 ((dE.trans kD).trans ur)
   have d24:=lG g4 ((dE.trans kD).trans ur)
   simp +contextual only [bp,bQ,fW,ai,g0,c4,iK,d1,d2,d12,d22,d13,d23,d14,d24,↓ak,au,simprocAttr]
   refine bT (Ma _ l[i] (Nat.le_refl _) (by omega) _ g4 (X.ext ((dE.trans kD).trans ur))) ?_
   rintro x g5 ⟨rfl,F0⟩
   have d15:=ld g5 (((dE.trans kD).trans ur).trans F0)
   have d25:=lG g5 (((dE.trans kD).trans ur).trans F0)
   simp +contextual only [bp,bQ,fW,ai,g0,eG,c4,iK,d1,d2,d12,d22,d13,d23,d14,d24,d15,d25,↓ak,au,simprocAttr]
   exact ⟨⟨i+1,rfl,aN,E.trans (((dE.trans kD).trans ur).trans F0)⟩,by omega⟩
 · have g0:((i:Int) < (l.length:Int))=False:=eq_false (by omega)
   simp +contextual only [bp,bQ,fW,ai,g0,↓ak,au,simprocAttr]
   refine bT (abu l w v g (xq.ext E) (L.ext (lX.trans E))) ?_
   rintro x g2 ⟨rfl,dE⟩
   simp +contextual only [↓ak,au,simprocAttr]
   refine bT (GN _) ?_
   rintro x g3 ⟨rfl,rfl⟩
   simp +contextual only [↓ak,au,simprocAttr]
end Go.Proofs.YtkehcalakofigaaGreatDoor
