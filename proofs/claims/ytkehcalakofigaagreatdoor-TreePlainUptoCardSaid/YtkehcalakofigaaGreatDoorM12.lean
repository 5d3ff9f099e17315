/- The chapter's functions, walked by the abstract machine: plain lemmas, no condition. Printed by a program from longer texts: names made short. -/
import Derived.Test.YtkehcalakofigaaGreatDoorM10
import Derived.Test.YtkehcalakofigaaGreatDoorM11
set_option linter.unusedSectionVars false
set_option linter.unusedSimpArgs false
set_option linter.unusedVariables false
namespace Go.Proofs.YtkehcalakofigaaGreatDoor
open Go aS
noncomputable def Oo (n:Nat):Bool:=match pd ctx 1000 64 [.int .u64 1,.int .u64 n] af.empty with
 | .val (.tuple [.int .u64 a,.int .u64 b]) ao=>qT a 0&&qT b n&&Nat.beq ao.next 0
 | _=>false
set_option maxRecDepth 100000 in
theorem adx:(List.range 65).all Oo=true:=by kernel_rfl
theorem adw (n:Nat) (aZ:n≤64) (h:af):bM Tryz.prog 64 [.int .u64 1,.int .u64 n] h fun x ab=>x=.tuple [.int .u64 0,.int .u64 n]∧ab=h:=by
 have q:=List.all_eq_true.1 adx n (List.mem_range.2 (by omega))
 unfold Oo at q
 split at q
 · rename_i a b ao he
   simp only [Bool.and_eq_true] at q
   obtain ⟨⟨aq,av⟩,aK⟩:=q
   have aq:=A4 aq
   have av:=A4 av
   have aK:=Nat.eq_of_beq_eq_true aK
   have c:=W' (C:=ctx) follows dq HP (n:=1000) (f:=64) (by rfl) (by kernel_rfl) (by kernel_rfl) ⟨_,Tryz.func64,by kernel_rfl⟩ he h
   refine ⟨_,_,c,?_,?_⟩
   · simp only [V.cF,iT,aq,av]
   · unfold af.app
     rw [aK];rfl
 · cases q
theorem aem (z:Int):∀i:Nat,ed (List.replicate i (V.int .i64 z))=true:=fun i=>by
 induction i with
 | zero=>rfl
 | succ i bf=>simpa [List.replicate_succ,ed,V.one] using bf
theorem agc {i m n:Nat} {z y:V} (aa:m≤i) (ae:i+m≤n):hB (List.replicate i z++List.replicate (n-i) y) i (List.take m (List.replicate i z))=List.replicate (i+m) z++List.replicate (n - (i+m)) y:=by
 apply List.ext_getElem?
 intro q
 have hm:(List.take m (List.replicate i z)).length=m:=by rw [List.length_take,List.length_replicate];omega
 rw [agb _ _ _ (by rw [hm,List.length_append,List.length_replicate,List.length_replicate];omega),hm]
 by_cases a:q<i
 · rw [if_pos a,List.getElem?_append_left (by rw [List.length_replicate];exact a),List.getElem?_append_left (by rw [List.length_replicate];omega),List.getElem?_replicate,List.getElem?_replicate,if_pos a,if_pos (by omega)]
 · rw [if_neg a]
   by_cases b:q<i+m
   · rw [if_pos b,List.getElem?_take_of_lt (by omega),List.getElem?_replicate,if_pos (by omega),List.getElem?_append_left (by rw [List.length_replicate];omega),List.getElem?_replicate,if_pos b]
   · rw [if_neg b,List.getElem?_append_right (by rw [List.length_replicate];omega),List.getElem?_append_right (by rw [List.length_replicate];omega),List.length_replicate,List.length_replicate,List.getElem?_replicate,List.getElem?_replicate]
     by_cases c:q<n
     · rw [if_pos (by omega),if_pos (by omega)]
     · rw [if_neg (by omega),if_neg (by omega)]
set_option maxHeartbeats 2000000 in
theorem aff (v:V) (z:Int) (n:Nat) (aZ:n≤64) (h:af) (H:eL h 1 v 1 [.int .i64 z]):bM Tryz.prog 47 [v,.int .i64 n] h fun x ab=>ch Any ab 1 ((List.replicate n z).map aS.encI) x∧Ext h ab:=by
 refine UA rfl (dt ?_)
 unfold D'
 have f0:((n:Int)<0)=False:=eq_false (by omega)
 have bY:IntKind.u64.wrap (n:Int)=(n:Int):=by rw [IntKind.wrap_u64];omega
 have bK:IntKind.i64.wrap (n:Int)=(n:Int):=wrap_i64 (by omega) (by omega)
 have au:IntKind.u64.wrap 1=1:=by decide
 have f1:((9223372036854775807:Int) < (n:Int))=False:=eq_false (by omega)
 have ai:jo v=some (.int .i64 1):=H.len
 simp +contextual only [f0,ai,au,bY,↓aw,aJ,simprocAttr]
 refine cj (adw n aZ h) ?_
 rintro x aa ⟨rfl,rfl⟩
 obtain ⟨ae,av,aY,g2⟩:∃H,aa.new (.bq (List.replicate n (.int .i64 0)) 0 false)=H∧Ext aa H∧Has H aa.next (List.replicate n (.int .i64 0)):=gO aa _
 have mk:=adm (h:=aa) (n:=n) (z:=.int .i64 0) (k:=.i64) (bl:=.i64) (by omega)
 rw [av] at mk
 have hlen:(List.replicate n (V.int .i64 0)).length=n:=List.length_replicate
 have wP:=copy_eq (h:=ae) (b:=ay aa.next) (off:=0) (l:=n) (c:=n) (H.ext aY) g2.g (by rw [hlen,Nat.zero_add];exact Nat.min_le_right _ _) rfl
 simp +contextual only [f0,f1,bK,mk,wP,↓aw,aJ,simprocAttr]
 refine gS (fun r g=>r 7=.slice (ay aa.next) 0 n n∧∃i:Nat,r 8=.int .i64 i∧i≤n∧(1≤n→1≤i)∧Has g aa.next (List.replicate i (V.int .i64 z)++List.replicate (n-i) (V.int .i64 0))∧Ext aa g) (fun r g=>n - (r 8).toN) ?_ ?_
 · refine ⟨by simp only [↓aw,bw,simprocAttr],Nat.min 1 n,by simp only [↓aw,bw,simprocAttr],Nat.min_le_right _ _,fun q=>by rw [show Nat.min 1 n=1 from Nat.min_eq_left q];omega,?_,aY.set (Nat.le_refl _) _⟩
   have:=g2.put (hB (List.replicate n (V.int .i64 0)) 0 (List.take (Nat.min 1 n) [V.int .i64 z]))
   by_cases bh:n=0
   · subst bh;exact this
   · rw [show Nat.min 1 n=1 from Nat.min_eq_left (by omega)] at this ⊢
     obtain ⟨m,rfl⟩:∃m,n=m+1:=⟨n-1,by omega⟩
     exact this
 rintro r g ⟨fj,i,dE,az,sx,G,E⟩
 unfold Kd
 by_cases aP:i<n
 · have g0:((i:Int) < (n:Int))=True:=eq_true (by omega)
   have LS:=sx (by omega)
   have S:eL g 1 (.slice (ay aa.next) 0 i n) i (List.replicate i (V.int .i64 z)):=by
    refine ⟨by rw [List.length_replicate,Nat.mul_one],rfl,fh G.lt,_,.inr ⟨0,false,G.g⟩,by rw [List.length_append,List.length_replicate];omega,?_⟩
    rw [List.drop_zero,List.take_left' rfl]
   have wP:=copy_eq (h:=g) (b:=ay aa.next) (off:=i) (l:=n-i) (c:=n-i) S G.g (by rw [List.length_append,List.length_replicate,List.length_replicate];have:Nat.min i (n-i)≤n-i:=Nat.min_le_right _ _;omega) (aem z i)
   have Y':Nat.min i (n-i)≤i:=Nat.min_le_left _ _
   have lH:Nat.min i (n-i)≤n-i:=Nat.min_le_right _ _
   have ah9:1≤Nat.min i (n-i):=Nat.le_min.2 ⟨LS,by omega⟩
   generalize Nat.min i (n-i)=m at *
   have eR:IntKind.i64.wrap ((i:Int) + ((m:Nat):Int))=((i+m:Nat):Int):=by rw [wrap_i64 (by omega) (by omega)];omega
   have bs:=Wc (b:=ay aa.next) (k:=.i64) aP
   have bN:=Wb (b:=ay aa.next) (k:=.i64) az LS
   simp +contextual only [fj,dE,g0,bs,bN,wP,eR,↓aw,aJ,simprocAttr]
   refine ⟨⟨i+m,rfl,by omega,fun _=>by omega,?_,E.set (Nat.le_refl _) _⟩,by omega⟩
   have:=G.put (hB (List.replicate i (V.int .i64 z)++List.replicate (n-i) (V.int .i64 0)) i (List.take m (List.replicate i (V.int .i64 z))))
   rw [agc Y' (by omega)] at this ⊢
   exact this
 · have g0:((i:Int) < (n:Int))=False:=eq_false (by omega)
   have:i=n:=by omega
   subst this
   simp +contextual only [fj,dE,g0,↓aw,aJ,simprocAttr]
   refine ⟨eL.afZ (l:=List.replicate i z) ?_ (fun b o l c e=>by cases e;exact Nat.le_refl _) (by rw [List.length_replicate];unfold top;omega),E⟩
   have aG:=G.g
   rw [Nat.sub_self,List.replicate_zero,List.append_nil] at aG
   have az:u' (List.replicate i z)=List.replicate i (V.int .i64 z):=by unfold u';rw [List.map_replicate]
   rw [az,List.length_replicate]
   exact ⟨by rw [List.length_replicate,Nat.mul_one],rfl,fh G.lt,_,.inr ⟨0,false,aG⟩,by rw [List.length_replicate];omega,by rw [List.drop_zero,List.take_length]⟩
end Go.Proofs.YtkehcalakofigaaGreatDoor
namespace Go.Proofs.YtkehcalakofigaaGreatDoor
open Go aS
set_option maxHeartbeats 2000000 in
theorem agD (lJ:Int) (s:List UInt8) (h:af):bM Tryz.prog 46 [.int .i64 lJ,.str s] h fun x ab=>x=.bool (Cs ee lJ s)∧Ext h ab:=by
 refine Ux rfl (dt ?_)
 unfold D9 Cs
 by_cases bH:lJ=1
 · simp +contextual only [eq_true bH,if_true,↓aw,aJ,simprocAttr]
   refine cj (IE 3 (by simp) s h) ?_
   rintro x aa ⟨rfl,aN⟩
   simp +contextual only [↓aw,aJ,simprocAttr]
   exact aN
 by_cases a2:lJ=2
 · simp +contextual only [eq_false bH,eq_true a2,if_true,if_false,↓aw,aJ,simprocAttr]
   refine cj (IE 4 (by simp) s h) ?_
   rintro x aa ⟨rfl,aN⟩
   simp +contextual only [↓aw,aJ,simprocAttr]
   exact aN
 by_cases a3:lJ=3
 · simp +contextual only [eq_false bH,eq_false a2,eq_true a3,if_true,if_false,↓aw,aJ,simprocAttr]
   refine cj (IE 5 (by simp) s h) ?_
   rintro x aa ⟨rfl,aN⟩
   simp +contextual only [↓aw,aJ,simprocAttr]
   exact aN
 by_cases a4:lJ=4
 · have aX:decide (s.length≤4096)=decide ((s.length:Int)≤4096):=decide_eq_decide.2 ⟨fun q=>by omega,fun q=>by omega⟩
   simp +contextual only [eq_false bH,eq_false a2,eq_false a3,eq_true a4,aX,if_true,if_false,↓aw,aJ,simprocAttr]
   exact Ext.refl _
 by_cases a5:lJ=5
 · obtain ⟨aa,aq,aN,Y⟩:=GZ h 1 8 [.str [43],.str [45],.str [42],.str [47],.str [109,111,100],.str [61],.str [60],.str [60,61]] rfl (by unfold top;omega)
   simp +contextual only [eq_false bH,eq_false a2,eq_false a3,eq_false a4,eq_true a5,aq,if_true,if_false,↓aw,aJ,simprocAttr]
   refine gp (V2 s opsL _ aa Y.v (by decide)) ?_
   simp +contextual only [↓aw,aJ,simprocAttr]
   exact aN
 · simp +contextual only [eq_false bH,eq_false a2,eq_false a3,eq_false a4,eq_false a5,if_false,↓aw,aJ,simprocAttr]
   exact Ext.refl _
theorem gC.open {F:aO→Prop} {h:af} {r:gC} {ad:List V} (H:b9 F h r.enc ad):∃hI pX,ad=[hI,.int .i64 r.rest,.int .i64 r.least,.int .i64 r.iN,pX,.int .i64 r.bG,.int .i64 r.az,.int .i64 r.s]∧ch F h 1 (r.first.map aS.encI) hI∧ch F h 1 (r.last.map aS.encI) pX:=by
 unfold gC.enc at H
 obtain ⟨hI,_,rfl,zb,H1⟩:=H.e8
 obtain ⟨_,rfl,cG⟩:=H1.int
 obtain ⟨_,rfl,CQ⟩:=cG.int
 obtain ⟨_,rfl,CR⟩:=CQ.int
 obtain ⟨pX,_,rfl,Ro,CS⟩:=CR.e8
 obtain ⟨_,rfl,Rc⟩:=CS.int
 obtain ⟨_,rfl,Re⟩:=Rc.int
 obtain ⟨_,rfl,Rf⟩:=Re.int
 obtain rfl:=Rf.no
 exact ⟨hI,pX,rfl,zb,Ro⟩
theorem adq {t:aL} (h:oL t.k=none):t.may ee=false:=by
 cases t;rw [aL.may];simp only [aL.k] at h;rw [h]
theorem adr {t:aL} {r:gC} (h:oL t.k=some r):t.may ee=(xg ee r t.k t.n t.a t.s&&k_ r t.k t.n t.l.length&&j1 ee (qH r t.k t.n t.l.length) t.l):=by
 cases t;rw [aL.may];simp only [aL.k] at h;rw [h];rfl
theorem PJ {k:Int} {r:gC} (h:oL k=some r):r.first.length≤3∧r.last.length≤1∧0≤r.least∧(k=50→r.bG=0∧r.az=64):=by
 have hm:=PI (l:=yE) h
 simp only [yE,List.mem_cons,Prod.mk.injEq,List.not_mem_nil,or_false] at hm
 rcases hm with h | h | h | h | h | h | h | h | h | h | h | h | h | h | h | h | h | h | h | h | h | h | h | h | h | h | h | h | h | h | h | h | h | h | h | h | h | h<;>
 obtain ⟨rfl,rfl⟩:=h<;>simp
theorem XU {r:gC} {k n:Int} {len i:Nat} (ba:0≤gl r k n len) (az:i<len):(qH r k n len)[i]? =some (if ax:i < (firstM r k n).length then (firstM r k n)[i] else if i < (firstM r k n).length + (gl r k n len).toNat then r.rest else (r.last[i - ((firstM r k n).length + (gl r k n len).toNat)]?.getD 0)):=by
 have hlen:(len:Int)=(firstM r k n).length+gl r k n len+r.last.length:=by unfold gl;omega
 unfold qH
 by_cases a:i < (firstM r k n).length
 · rw [dif_pos a,List.append_assoc,List.getElem?_append_left a,List.getElem?_eq_getElem a]
 · rw [dif_neg a]
   by_cases b:i < (firstM r k n).length + (gl r k n len).toNat
   · rw [if_pos b,List.getElem?_append_left (by rw [List.length_append,List.length_replicate];exact b),List.getElem?_append_right (by omega),List.getElem?_replicate,if_pos (by omega)]
   · rw [if_neg b,List.getElem?_append_right (by rw [List.length_append,List.length_replicate];omega),List.length_append,List.length_replicate]
     rw [List.getElem?_eq_getElem (by omega)]
     rfl
theorem LN {r:gC} {k n:Int} {len:Nat} (ba:0≤gl r k n len):(qH r k n len).length=len:=by
 have hlen:(len:Int)=(firstM r k n).length+gl r k n len+r.last.length:=by unfold gl;omega
 unfold qH
 rw [List.length_append,List.length_append,List.length_replicate]
 omega
theorem wA (b:aO) (o:Nat):(pS 2 1).run (.ptr b o) (.int .i64 0)=some (.ptr b o):=rfl
theorem wB (b:aO) (o:Nat):(pS 2 1).run (.ptr b o) (.int .i64 1)=some (.ptr b (o+1)):=rfl
set_option maxHeartbeats 8000000 in
theorem G8:∀(N:Nat) (t:aL),t.size≤N→N≤1000000000→∀(dp:V) (F:aO→Prop) (ad:List V) (h:af),l2 F h Ca dp→b9 Any h t.enc ad→bM Tryz.prog 37 [dp,.agg ad] h fun x ab=>x=.bool (t.may ee)∧Ext h ab
 | 0,t,aQ,_,_,_,_,_,_,_=>by have:=ri t;omega
 | N+1,t,aQ,Fe,dp,F,ad,h,M,H=>by
   have hU:=H
   obtain ⟨cH,rfl,L,_⟩:=aL.open H
   have bx:N≤1000000000:=by omega
   have ol:=L.one
   have ai:=L.len
   have hle:=L.le
   rw [List.length_map] at ai hle
   have b5:=size_eq t
   have h5:=p2 t.l
   refine Ui rfl (dt ?_)
   unfold D4
   obtain ⟨aa,aq,aN,qx⟩:=gO h [.int .i64 t.k,.int .i64 t.n,.int .i64 t.a,.str t.s,cH]
   have look:=(M.ext aN).look t.k (.agg [.b4,.int .i64 0,.int .i64 0,.int .i64 0,.b4,.int .i64 0,.int .i64 0,.int .i64 0]) true
   rw [W4] at look
   cases aH:oL t.k with
   | none=>
     rw [aH] at look
     rcases look with ⟨_,iM⟩ | ⟨_,_,a',_⟩
     · rw [cond_true] at iM
       replace iM:iq j9.int.eq _ true aa dp _=_:=iM
       rw [adq aH]
       obtain ⟨ae,av,aY,eo⟩:=gZ aa [.b4,.int .i64 0,.int .i64 0,.int .i64 0,.b4,.int .i64 0,.int .i64 0,.int .i64 0] [.b4,.int .i64 0,.int .i64 0,.int .i64 0,.b4,.int .i64 0,.int .i64 0,.int .i64 0]
       simp +contextual only [ol.1,ol.2.1,aq,av,qx.g,iM,↓aw,aJ,simprocAttr]
       exact aN.trans aY
     · cases a'
   | some r=>
   rw [aH] at look
   rcases look with ⟨a',_⟩ | ⟨ds,y,px,Y,iM⟩
   · cases a'
   rw [cond_true] at iM
   replace iM:iq j9.int.eq _ true aa dp _=_:=iM
   obtain rfl:r.enc=ds:=Option.some.inj px
   rw [adr aH]
   obtain ⟨aiG,aiH,aiI,afs⟩:=PJ aH
   obtain ⟨hI,pX,a6,I5,Jd⟩:=gC.open Y
   have of:=I5.one
   have yo:=Jd.one
   obtain ⟨ae,av,aY,eo⟩:=gZ aa [.b4,.int .i64 0,.int .i64 0,.int .i64 0,.b4,.int .i64 0,.int .i64 0,.int .i64 0] [hI,.int .i64 r.rest,.int .i64 r.least,.int .i64 r.iN,pX,.int .i64 r.bG,.int .i64 r.az,.int .i64 r.s]
   have nR:=qx.ext aY
   have bQ:=aN.trans aY
   unfold xg
   by_cases bs:t.n<r.bG
   · rw [decide_eq_false (show ¬r.bG≤t.n by omega)]
     simp +contextual only [ol.1,ol.2.1,aq,av,qx.g,nR.g,eo.g,wA,wB,iM,a6,of.1,yo.1,eq_true bs,Bool.false_and,↓aw,aJ,simprocAttr]
     exact bQ
   by_cases bN:r.az<t.n
   · rw [decide_eq_false (show ¬t.n≤r.az by omega)]
     simp +contextual only [ol.1,ol.2.1,aq,av,qx.g,nR.g,eo.g,wA,wB,iM,a6,of.1,yo.1,eq_false bs,eq_true bN,Bool.false_and,Bool.and_false,↓aw,aJ,simprocAttr]
     exact bQ
   by_cases c3:t.a<0
   · rw [decide_eq_false (show ¬0≤t.a by omega)]
     simp +contextual only [ol.1,ol.2.1,aq,av,qx.g,nR.g,eo.g,wA,wB,iM,a6,of.1,yo.1,eq_false bs,eq_false bN,eq_true c3,Bool.false_and,Bool.and_false,↓aw,aJ,simprocAttr]
     exact bQ
   by_cases g':65536<t.a
   · rw [decide_eq_false (show ¬t.a≤65536 by omega)]
     simp +contextual only [ol.1,ol.2.1,aq,av,qx.g,nR.g,eo.g,wA,wB,iM,a6,of.1,yo.1,eq_false bs,eq_false bN,eq_false c3,eq_true g',Bool.false_and,Bool.and_false,↓aw,aJ,simprocAttr]
     exact bQ
   rw [decide_eq_true (show r.bG≤t.n by omega),decide_eq_true (show t.n≤r.az by omega),decide_eq_true (show 0≤t.a by omega),decide_eq_true (show t.a≤65536 by omega)]
   simp +contextual only [ol.1,ol.2.1,aq,av,qx.g,nR.g,eo.g,wA,wB,iM,a6,of.1,yo.1,eq_false bs,eq_false bN,eq_false c3,eq_false g',Bool.true_and,↓aw,aJ,simprocAttr]
   refine cj (agD r.s t.s ae) ?_
   rintro x aF ⟨rfl,cz⟩
   have rS:=nR.ext cz
   have CD:=eo.ext cz
   have lp:=bQ.trans cz
   cases c5:Cs ee r.s t.s with
   | false=>
     simp +contextual only [Bool.false_and,↓aw,aJ,simprocAttr]
     exact lp
   | true=>
   have Rb:ch Any aF 1 (r.first.map aS.encI) hI:=(I5.ext (aY.trans cz)).iX fun _ _=>trivial
   have C5:ch Any aF 1 (r.last.map aS.encI) pX:=(Jd.ext (aY.trans cz)).iX fun _ _=>trivial
   have Gx:∀(dx:List Int),dx.length≤64→IntKind.i64.wrap (IntKind.i64.wrap ((t.l.length:Int) - (dx.length:Int)) - (r.last.length:Int))=(t.l.length:Int)-dx.length-r.last.length:=fun dx kV=>by
    rw [wrap_i64 (n:=(t.l.length:Int) - (dx.length:Int)) (by omega) (by omega),wrap_i64 (by omega) (by omega)]
   have Mi:=C5.len
   rw [List.length_map] at Mi
   by_cases wL:t.k=50
   obtain ⟨ain,ah8⟩:=afs wL
   obtain ⟨n,aZ⟩:=Int.eq_ofNat_of_zero_le (show 0≤t.n by omega)
   obtain ⟨bu,bD,gq,Z⟩:=GZ aF 1 1 [.int .i64 8] rfl (by unfold top;omega)
   have wq:=rS.ext gq
   have g3:=rS.g
   have g4:=wq.g
   rw [aZ] at g3 g4
   simp +contextual only [g3,g4,CD.g,bD,eq_true wL,aZ,↓aw,aJ,simprocAttr]
   refine cj (aff _ 8 n (by omega) bu Z.v) ?_
   rintro Av cd ⟨v8,jE⟩
   have xi:firstM r t.k t.n=List.replicate n 8:=by unfold firstM;rw [if_pos wL,aZ];rfl
   rw [←xi] at v8
   have rT:=wq.ext jE
   have rG:=(CD.ext gq).ext jE
   have l0:=(lp.trans gq).trans jE
   have Je:=(C5.ext gq).ext jE
   have L':(firstM r t.k t.n).length≤64:=by rw [xi,List.length_replicate];omega
   rw [←aZ]
   rotate_left
   have xi:firstM r t.k t.n=r.first:=by unfold firstM;rw [if_neg wL]
   have v8:=Rb
   rw [←xi] at v8
   have rT:=rS
   have rG:=CD
   have l0:=lp
   have Je:=C5
   have L':(firstM r t.k t.n).length≤64:=by rw [xi];omega
   simp +contextual only [rT.g,rG.g,eq_false wL,↓aw,aJ,simprocAttr]
   all_goals
    have ha:=v8.len
    rw [List.length_map] at ha
    have nn:=Gx (firstM r t.k t.n) L'
    simp +contextual only [rT.g,rG.g,ai,ha,Mi,nn,↓aw,aJ,simprocAttr]
    have uX:gl r t.k t.n t.l.length=(t.l.length:Int) - (firstM r t.k t.n).length-r.last.length:=rfl
    rw [←uX]
    by_cases d1:gl r t.k t.n t.l.length<r.least
    · have cV:k_ r t.k t.n t.l.length=false:=by unfold k_;rw [decide_eq_false (by omega)];rfl
      simp +contextual only [eq_true d1,cV,Bool.and_false,Bool.false_and,rT.g,rG.g,↓aw,aJ,simprocAttr]
      exact l0
    by_cases d2:r.iN<gl r t.k t.n t.l.length
    · have cV:k_ r t.k t.n t.l.length=false:=by unfold k_;rw [decide_eq_false (show ¬gl r t.k t.n t.l.length≤r.iN by omega),Bool.and_false]
      simp +contextual only [eq_false d1,eq_true d2,cV,Bool.and_false,Bool.false_and,rT.g,rG.g,↓aw,aJ,simprocAttr]
      exact l0
    have cV:k_ r t.k t.n t.l.length=true:=by unfold k_;rw [decide_eq_true (show r.least≤_ by omega),decide_eq_true (show gl r t.k t.n t.l.length≤r.iN by omega)];rfl
    have ba:0≤gl r t.k t.n t.l.length:=by omega
    simp +contextual only [eq_false d1,eq_false d2,cV,ai,Bool.true_and,rT.g,rG.g,↓aw,aJ,simprocAttr]
    have su:=LN ba
    have Xo:=fun (i:Nat) (az:i<t.l.length)=>XU (r:=r) (k:=t.k) (n:=t.n) ba az
    have aih:gl r t.k t.n t.l.length≤t.l.length:=by unfold gl;omega
    have Gi:(t.l.length:Int)=(firstM r t.k t.n).length+gl r t.k t.n t.l.length+r.last.length:=by unfold gl;omega
    generalize qH r t.k t.n t.l.length=gs at *
    generalize gl r t.k t.n t.l.length=rest at *
    obtain ⟨p7,rfl⟩:=Int.eq_ofNat_of_zero_le ba
    generalize firstM r t.k t.n=bP at *
    refine gS (fun R g=>R 0=dp∧R 3=.ptr (ay h.next) 0∧R 5=.ptr (ay aa.next) 0∧R 8=.int .i64 p7∧R 85=cH∧R 86=.int .i64 t.l.length∧(∃Av,R 7=Av∧ch Any g 1 (bP.map aS.encI) Av)∧ch Any g 1 (r.last.map aS.encI) pX∧
     Has g h.next [.int .i64 t.k,.int .i64 t.n,.int .i64 t.a,.str t.s,cH]∧Has g aa.next [hI,.int .i64 r.rest,.int .i64 r.least,.int .i64 r.iN,pX,.int .i64 r.bG,.int .i64 r.az,.int .i64 r.s]∧Ext h g∧
     ∃i:Nat,R 87=.int .i64 i∧i≤t.l.length∧j1 ee gs t.l=j1 ee (gs.drop i) (t.l.drop i)) (fun R g=>t.l.length - (R 87).toN) ?_ ?_
    · exact ⟨by simp only [↓aw,bw,simprocAttr],by simp only [↓aw,bw,simprocAttr],by simp only [↓aw,bw,simprocAttr],by simp only [↓aw,bw,simprocAttr]<;>rfl,by simp only [↓aw,bw,simprocAttr],by simp only [↓aw,bw,simprocAttr],⟨_,by simp only [↓aw,bw,simprocAttr],v8⟩,Je,rT,rG,l0,0,by simp only [↓aw,bw,simprocAttr]<;>rfl,by omega,rfl⟩
    rintro R g ⟨bO,b6,dv,dE,rk,rl,⟨Av,fj,CP⟩,j',P,B,E,i,rm,az,bt⟩
    unfold Kb
    by_cases aP:i<t.l.length
    · have g0:((i:Int) < (t.l.length:Int))=True:=eq_true (by omega)
      obtain ⟨b,off,wl,c0,X,gY,ld,_,_,_⟩:=aL.Nn (L.ext E) (k:=.i64) aP
      have ih:=ld g (Ext.refl g)
      have eF:=gY.one
      have eR:=kF aP (by unfold top at hle;omega)
      have Y5:=rh (t:=t) (List.getElem_mem aP)
      have ha:=CP.len
      rw [List.length_map] at ha
      obtain ⟨g1,dH,bm,Z⟩:=gZ g [.int .i64 0,.int .i64 0,.int .i64 0,.str [],.b4] [.int .i64 t.l[i].k,.int .i64 t.l[i].n,.int .i64 t.l[i].a,.str t.l[i].s,wl]
      have qx:=P.ext bm
      have nK:=B.ext bm
      have mX:=Xo i aP
      have G:gs[i]? =some gs[i]:=List.getElem?_eq_getElem (by omega)
      rw [List.drop_eq_getElem_cons aP,List.drop_eq_getElem_cons (show i<gs.length by omega),j1] at bt
      rw [G] at mX
      have mX:=Option.some.inj mX
      generalize gs[i]=I8 at *
      have bY:IntKind.i64.wrap ((bP.length:Int) + (p7:Int))=((bP.length+p7:Nat):Int):=by rw [wrap_i64 (by omega) (by omega)];omega
      by_cases bH:i<bP.length
      have zx:((i:Int) < (bP.length:Int))=True:=eq_true (by omega)
      obtain ⟨b_,yf,mj,mo⟩:=(CP.ext bm).M' (k:=.i64) bH
      have d2:=mo g1 (Ext.refl g1)
      rw [dif_pos bH] at mX
      rw [←mX] at d2
      simp +contextual only [bO,b6,dv,fj,dE,rk,rl,rm,g0,c0,ih,eF.1,eF.2.1,dH,Z.g,nK.g,ha,zx,mj,d2,↓aw,aJ,simprocAttr]
      rotate_left
      rw [dif_neg bH] at mX
      have zx:((i:Int) < (bP.length:Int))=False:=eq_false (by omega)
      by_cases a2:bP.length+p7≤i
      have Df:(((bP.length+p7:Nat):Int)≤(i:Int))=True:=eq_true (by omega)
      have bK:IntKind.i64.wrap (IntKind.i64.wrap ((i:Int) - (bP.length:Int)) - (p7:Int))=((i - (bP.length+p7):Nat):Int):=by rw [wrap_i64 (n:=(i:Int) - (bP.length:Int)) (by omega) (by omega),wrap_i64 (by omega) (by omega)];omega
      obtain ⟨b_,yf,mj,mo⟩:=(j'.ext bm).M' (k:=.i64) (i:=i - (bP.length+p7)) (by omega)
      have d2:=mo g1 (Ext.refl g1)
      rw [if_neg (by omega),Int.toNat_natCast,List.getElem?_eq_getElem (by omega),Option.getD_some] at mX
      rw [←mX] at d2
      simp +contextual only [bO,b6,dv,fj,dE,rk,rl,rm,g0,c0,ih,eF.1,eF.2.1,dH,Z.g,nK.g,ha,zx,Df,bY,bK,mj,d2,↓aw,aJ,simprocAttr]
      rotate_left
      have Df:(((bP.length+p7:Nat):Int)≤(i:Int))=False:=eq_false (by omega)
      rw [if_pos (by omega)] at mX
      simp +contextual only [bO,b6,dv,fj,dE,rk,rl,rm,g0,c0,ih,eF.1,eF.2.1,dH,Z.g,nK.g,ha,zx,Df,bY,←mX,↓aw,aJ,simprocAttr]
      all_goals
       refine cj (aax t.l[i] I8 _ g1 (X.ext bm)) ?_
       rintro x g2 ⟨rfl,aY⟩
       have Jz:=Z.ext aY
       have rB:=bm.trans aY
       cases tY:A6 t.l[i].k I8 with
       | false=>
         rw [tY,Bool.false_and,Bool.false_and] at bt
         simp +contextual only [bO,b6,dv,dE,rk,rl,rm,Jz.g,↓aw,aJ,simprocAttr]
         exact ⟨by rw [bt],E.trans rB⟩
       | true=>
         simp +contextual only [bO,b6,dv,dE,rk,rl,rm,Jz.g,eF.1,eF.2.1,↓aw,aJ,simprocAttr]
         refine cj (G8 N t.l[i] (by omega) bx dp F _ g2 (M.ext (E.trans rB)) (X.ext rB)) ?_
         rintro x g3 ⟨rfl,cz⟩
         have tw:=rB.trans cz
         cases tZ:t.l[i].may ee with
         | false=>
           rw [tZ,Bool.and_false,Bool.false_and] at bt
           simp +contextual only [bO,b6,dv,dE,rk,rl,rm,↓aw,aJ,simprocAttr]
           exact ⟨by rw [bt],E.trans tw⟩
         | true=>
           rw [tY,tZ,Bool.true_and,Bool.true_and] at bt
           simp +contextual only [bO,b6,dv,fj,dE,rk,rl,rm,eR,↓aw,aJ,simprocAttr]
           exact ⟨⟨CP.ext tw,j'.ext tw,P.ext tw,(by first | exact B.ext tw | (rw [mX];exact B.ext tw)),E.trans tw,i+1,rfl,aP,bt⟩,by omega⟩
    · have g0:((i:Int) < (t.l.length:Int))=False:=eq_false (by omega)
      rw [List.drop_eq_nil_of_le (show t.l.length≤i by omega),j1] at bt
      simp +contextual only [bO,b6,dv,dE,rk,rl,rm,g0,↓aw,aJ,simprocAttr]
      exact ⟨by rw [bt],E⟩
def pf (l:List aL):Int:=if l.all (fun t=>decide (hX t.k=7)&&t.may ee) then (if l.all (fun t=>decide (t.deep≤200)) then 0 else 260) else 2
set_option maxHeartbeats 2000000 in
theorem Kr (l:List aL) (aQ:dD l≤1000000000) (v:V) (h:af) (L:ch Any h 5 (l.map aL.enc) v):bM Tryz.prog 11 [v] h fun x ab=>x=.int .i64 (pf l)∧Ext h ab:=by
 have ai:=L.len
 have hle:=L.le
 rw [List.length_map] at ai hle
 refine TK rfl (dt ?_)
 unfold DK
 simp +contextual only [↓aw,aJ,simprocAttr]
 refine cj (PK h) ?_
 rintro dp aa ⟨aN,M⟩
 simp +contextual only [ai,↓aw,aJ,simprocAttr]
 refine gS (fun r g=>r 0=v∧r 3=dp∧r 9=v∧r 10=.int .i64 l.length∧∃i:Nat,r 11=.int .i64 i∧i≤l.length∧Ext aa g∧(l.take i).all (fun t=>decide (hX t.k=7)&&t.may ee)=true) (fun r g=>l.length - (r 11).toN) ?_ ?_
 · exact ⟨by simp only [↓aw,bw,simprocAttr],by simp only [↓aw,bw,simprocAttr],by simp only [↓aw,bw,simprocAttr],by simp only [↓aw,bw,simprocAttr],0,by simp only [↓aw,bw,simprocAttr]<;>rfl,by omega,Ext.refl aa,rfl⟩
 rintro r g ⟨bO,b6,hg,vw,i,vx,az,E,dm⟩
 unfold J6
 have j':=L.ext (aN.trans E)
 by_cases aP:i<l.length
 · have g0:((i:Int) < (l.length:Int))=True:=eq_true (by omega)
   obtain ⟨b,off,wl,c0,X,gY,ld⟩:=aL.k9 j' (k:=.i64) aP
   have ih:=ld g (Ext.refl g)
   have eR:=kF aP (by unfold top at hle;omega)
   have bh:=tc (List.getElem_mem aP)
   have eF:=gY.one
   obtain ⟨g1,dH,bm,Z⟩:=gZ g [.int .i64 0,.int .i64 0,.int .i64 0,.str [],.b4] [.int .i64 l[i].k,.int .i64 l[i].n,.int .i64 l[i].a,.str l[i].s,wl]
   simp +contextual only [bO,b6,hg,vw,vx,g0,c0,ih,dH,Z.g,eF.1,eF.2.1,↓aw,aJ,simprocAttr]
   refine cj (E5 l[i].k g1) ?_
   rintro x g2 ⟨rfl,rfl⟩
   have bad:(decide (hX l[i].k=7)&&l[i].may ee)=false→pf l=2:=fun q=>by
    unfold pf
    rw [if_neg]
    intro z
    have:=List.all_eq_true.1 z _ (List.getElem_mem aP)
    rw [q] at this;cases this
   by_cases bs:hX l[i].k=7
   · simp +contextual only [bO,b6,hg,vw,vx,Z.g,eq_true bs,↓aw,aJ,simprocAttr]
     refine cj (G8 _ l[i] (Nat.le_refl _) (by omega) dp _ _ g2 (M.ext (E.trans bm)) (X.ext bm)) ?_
     rintro x g3 ⟨rfl,cz⟩
     cases bN:l[i].may ee with
     | true=>
       simp +contextual only [bO,b6,hg,vw,vx,eR,↓aw,aJ,simprocAttr]
       refine ⟨⟨i+1,rfl,aP,E.trans (bm.trans cz),?_⟩,by omega⟩
       rw [take_one aP,List.all_append,dm]
       simp [bs,bN]
     | false=>
       simp +contextual only [bO,b6,eR,↓aw,aJ,simprocAttr]
       exact ⟨by rw [bad (by rw [bN,Bool.and_false])],aN.trans (E.trans (bm.trans cz))⟩
   · simp +contextual only [bO,b6,hg,vw,vx,Z.g,eq_false bs,↓aw,aJ,simprocAttr]
     exact ⟨by rw [bad (by rw [decide_eq_false bs,Bool.false_and])],aN.trans (E.trans bm)⟩
 · have g0:((i:Int) < (l.length:Int))=False:=eq_false (by omega)
   rw [List.take_of_length_le (by omega)] at dm
   have ao:pf l=if l.all (fun t=>decide (t.deep≤200)) then 0 else 260:=by unfold pf;rw [if_pos dm]
   rw [ao]
   simp +contextual only [bO,b6,hg,vw,vx,ai,g0,↓aw,aJ,simprocAttr]
   refine gS (fun r g=>r 26=v∧r 27=.int .i64 l.length∧∃i:Nat,r 28=.int .i64 i∧i≤l.length∧Ext h g∧(l.take i).all (fun t=>decide (t.deep≤200))=true) (fun r g=>l.length - (r 28).toN) ?_ ?_
   · exact ⟨by simp only [bO,↓aw,bw,simprocAttr],by simp only [↓aw,bw,simprocAttr],0,by simp only [↓aw,bw,simprocAttr]<;>rfl,by omega,aN.trans E,rfl⟩
   clear az bO b6 hg vw vx j' E g0 aP
   rintro r g ⟨BY,BZ,i,B0,az,E,dm⟩
   unfold J7
   have j':=L.ext E
   by_cases aP:i<l.length
   · have g0:((i:Int) < (l.length:Int))=True:=eq_true (by omega)
     obtain ⟨b,off,wl,c0,X,gY,ld⟩:=aL.k9 j' (k:=.i64) aP
     have ih:=ld g (Ext.refl g)
     have eR:=kF aP (by unfold top at hle;omega)
     have bh:=tc (List.getElem_mem aP)
     have eF:=gY.one
     obtain ⟨g1,dH,bm,Z⟩:=gZ g [.int .i64 0,.int .i64 0,.int .i64 0,.str [],.b4] [.int .i64 l[i].k,.int .i64 l[i].n,.int .i64 l[i].a,.str l[i].s,wl]
     simp +contextual only [BY,BZ,B0,g0,c0,ih,dH,Z.g,eF.1,eF.2.1,↓aw,aJ,simprocAttr]
     refine cj (wQ _ l[i] (Nat.le_refl _) (by omega) _ g1 (X.ext bm)) ?_
     rintro x g2 ⟨rfl,aY⟩
     by_cases bs:(200:Int) < (l[i].deep:Int)
     · simp +contextual only [BY,BZ,B0,eq_true bs,↓aw,aJ,simprocAttr]
       refine ⟨?_,E.trans (bm.trans aY)⟩
       rw [if_neg]
       intro z
       have:=List.all_eq_true.1 z _ (List.getElem_mem aP)
       simp only [decide_eq_true_eq] at this
       omega
     · simp +contextual only [BY,BZ,B0,eR,eq_false bs,↓aw,aJ,simprocAttr]
       refine ⟨⟨i+1,rfl,aP,E.trans (bm.trans aY),?_⟩,by omega⟩
       rw [take_one aP,List.all_append,dm]
       simp;omega
   · have g0:((i:Int) < (l.length:Int))=False:=eq_false (by omega)
     rw [List.take_of_length_le (by omega)] at dm
     simp +contextual only [BY,BZ,B0,ai,g0,↓aw,aJ,simprocAttr]
     exact ⟨by rw [if_pos dm],E⟩
end Go.Proofs.YtkehcalakofigaaGreatDoor
