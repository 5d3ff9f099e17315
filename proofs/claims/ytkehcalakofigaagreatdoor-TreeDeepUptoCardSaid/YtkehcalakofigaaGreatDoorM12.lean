/- The chapter's functions, walked by the abstract machine: plain lemmas, no condition. Printed by a program from longer texts: names made short. -/
import Derived.Test.YtkehcalakofigaaGreatDoorM10
import Derived.Test.YtkehcalakofigaaGreatDoorM11
import Derived.Test.YtkehcalakofigaaGreatDoorM6
import Derived.Test.YtkehcalakofigaaGreatDoorM4
set_option linter.unusedSectionVars false
set_option linter.unusedSimpArgs false
set_option linter.unusedVariables false
namespace Go.Proofs.YtkehcalakofigaaGreatDoor
open Go aY
noncomputable def KU (n:Nat):Bool:=match nZ ctx 1000 64 [.int .u64 1,.int .u64 n] ae.empty with
 | .val (.tuple [.int .u64 a,.int .u64 b]) aq=>pI a 0&&pI b n&&Nat.beq aq.next 0
 | _=>false
set_option maxRecDepth 100000 in
theorem YR:(List.range 65).all KU=true:=by kernel_rfl
theorem YQ (n:Nat) (a7:n≤64) (h:ae):bK Tryz.prog 64 [.int .u64 1,.int .u64 n] h fun x aa=>x=.tuple [.int .u64 0,.int .u64 n]∧aa=h:=by
 have q:=List.all_eq_true.1 YR n (List.mem_range.2 (by omega))
 unfold KU at q
 split at q
 · rename_i a b aq he
   simp only [Bool.and_eq_true] at q
   obtain ⟨⟨ai,ay⟩,aK⟩:=q
   have ai:=yP ai
   have ay:=yP ay
   have aK:=Nat.eq_of_beq_eq_true aK
   have c:=SM (C:=ctx) follows c_ EY (n:=1000) (f:=64) (by rfl) (by kernel_rfl) (by kernel_rfl) ⟨_,Tryz.func64,by kernel_rfl⟩ he h
   refine ⟨_,_,c,?_,?_⟩
   · simp only [V.cA,ij,ai,ay]
   · unfold ae.app
     rw [aK];rfl
 · cases q
theorem ZI (z:Int):∀i:Nat,ef (List.replicate i (V.int .i64 z))=true:=fun i=>by
 induction i with
 | zero=>rfl
 | succ i bh=>simpa [List.replicate_succ,ef,V.one] using bh
theorem abn {i m n:Nat} {z y:V} (U:m≤i) (ad:i+m≤n):gZ (List.replicate i z++List.replicate (n-i) y) i (List.take m (List.replicate i z))=List.replicate (i+m) z++List.replicate (n - (i+m)) y:=by
 apply List.ext_getElem?
 intro q
 have hm:(List.take m (List.replicate i z)).length=m:=by rw [List.length_take,List.length_replicate];omega
 rw [abm _ _ _ (by rw [hm,List.length_append,List.length_replicate,List.length_replicate];omega),hm]
 by_cases a:q<i
 · rw [if_pos a,List.getElem?_append_left (by rw [List.length_replicate];exact a),List.getElem?_append_left (by rw [List.length_replicate];omega),List.getElem?_replicate,List.getElem?_replicate,if_pos a,if_pos (by omega)]
 · rw [if_neg a]
   by_cases b:q<i+m
   · rw [if_pos b,List.getElem?_take_of_lt (by omega),List.getElem?_replicate,if_pos (by omega),List.getElem?_append_left (by rw [List.length_replicate];omega),List.getElem?_replicate,if_pos b]
   · rw [if_neg b,List.getElem?_append_right (by rw [List.length_replicate];omega),List.getElem?_append_right (by rw [List.length_replicate];omega),List.length_replicate,List.length_replicate,List.getElem?_replicate,List.getElem?_replicate]
     by_cases c:q<n
     · rw [if_pos (by omega),if_pos (by omega)]
     · rw [if_neg (by omega),if_neg (by omega)]
set_option maxHeartbeats 2000000 in
theorem aat (v:V) (z:Int) (n:Nat) (a7:n≤64) (h:ae) (H:eW h 1 v 1 [.int .i64 z]):bK Tryz.prog 47 [v,.int .i64 n] h fun x aa=>cM Any aa 1 ((List.replicate n z).map aY.encI) x∧Ext h aa:=by
 refine PS rfl (dn ?_)
 unfold BE
 have f0:((n:Int)<0)=False:=eq_false (by omega)
 have bL:IntKind.u64.wrap (n:Int)=(n:Int):=by rw [IntKind.wrap_u64];omega
 have bH:IntKind.i64.wrap (n:Int)=(n:Int):=wrap_i64 (by omega) (by omega)
 have au:IntKind.u64.wrap 1=1:=by decide
 have f1:((9223372036854775807:Int) < (n:Int))=False:=eq_false (by omega)
 have aj:iH v=some (.int .i64 1):=H.len
 simp +contextual only [f0,aj,au,bL,↓al,aw,simprocAttr]
 refine bV (YQ n a7 h) ?_
 rintro x U ⟨rfl,rfl⟩
 obtain ⟨ad,ay,aM,g2⟩:∃H,U.new (.bk (List.replicate n (.int .i64 0)) 0 false)=H∧Ext U H∧Has H U.next (List.replicate n (.int .i64 0)):=jv U _
 have mk:=YJ (h:=U) (n:=n) (z:=.int .i64 0) (k:=.i64) (bl:=.i64) (by omega)
 rw [ay] at mk
 have hlen:(List.replicate n (V.int .i64 0)).length=n:=List.length_replicate
 have u2:=copy_eq (h:=ad) (b:=aG U.next) (off:=0) (l:=n) (c:=n) (H.ext aM) g2.g (by rw [hlen,Nat.zero_add];exact Nat.min_le_right _ _) rfl
 simp +contextual only [f0,f1,bH,mk,u2,↓al,aw,simprocAttr]
 refine hj (fun r g=>r 7=.slice (aG U.next) 0 n n∧∃i:Nat,r 8=.int .i64 i∧i≤n∧(1≤n→1≤i)∧Has g U.next (List.replicate i (V.int .i64 z)++List.replicate (n-i) (V.int .i64 0))∧Ext U g) (fun r g=>n - (r 8).toN) ?_ ?_
 · refine ⟨by simp only [↓al,dB,simprocAttr],Nat.min 1 n,by simp only [↓al,dB,simprocAttr],Nat.min_le_right _ _,fun q=>by rw [show Nat.min 1 n=1 from Nat.min_eq_left q];omega,?_,aM.set (Nat.le_refl _) _⟩
   have:=g2.put (gZ (List.replicate n (V.int .i64 0)) 0 (List.take (Nat.min 1 n) [V.int .i64 z]))
   by_cases bn:n=0
   · subst bn;exact this
   · rw [show Nat.min 1 n=1 from Nat.min_eq_left (by omega)] at this ⊢
     obtain ⟨m,rfl⟩:∃m,n=m+1:=⟨n-1,by omega⟩
     exact this
 rintro r g ⟨eT,i,fl,aC,pD,G,E⟩
 unfold G0
 by_cases aO:i<n
 · have g0:((i:Int) < (n:Int))=True:=eq_true (by omega)
   have Is:=pD (by omega)
   have S:eW g 1 (.slice (aG U.next) 0 i n) i (List.replicate i (V.int .i64 z)):=by
    refine ⟨by rw [List.length_replicate,Nat.mul_one],rfl,gL G.lt,_,.inr ⟨0,false,G.g⟩,by rw [List.length_append,List.length_replicate];omega,?_⟩
    rw [List.drop_zero,List.take_left' rfl]
   have u2:=copy_eq (h:=g) (b:=aG U.next) (off:=i) (l:=n-i) (c:=n-i) S G.g (by rw [List.length_append,List.length_replicate,List.length_replicate];have:Nat.min i (n-i)≤n-i:=Nat.min_le_right _ _;omega) (ZI z i)
   have UF:Nat.min i (n-i)≤i:=Nat.min_le_left _ _
   have kN:Nat.min i (n-i)≤n-i:=Nat.min_le_right _ _
   have adn:1≤Nat.min i (n-i):=Nat.le_min.2 ⟨Is,by omega⟩
   generalize Nat.min i (n-i)=m at *
   have fc:IntKind.i64.wrap ((i:Int) + ((m:Nat):Int))=((i+m:Nat):Int):=by rw [wrap_i64 (by omega) (by omega)];omega
   have bB:=RS (b:=aG U.next) (k:=.i64) aO
   have bX:=RR (b:=aG U.next) (k:=.i64) aC Is
   simp +contextual only [eT,fl,g0,bB,bX,u2,fc,↓al,aw,simprocAttr]
   refine ⟨⟨i+m,rfl,by omega,fun _=>by omega,?_,E.set (Nat.le_refl _) _⟩,by omega⟩
   have:=G.put (gZ (List.replicate i (V.int .i64 z)++List.replicate (n-i) (V.int .i64 0)) i (List.take m (List.replicate i (V.int .i64 z))))
   rw [abn UF (by omega)] at this ⊢
   exact this
 · have g0:((i:Int) < (n:Int))=False:=eq_false (by omega)
   have:i=n:=by omega
   subst this
   simp +contextual only [eT,fl,g0,↓al,aw,simprocAttr]
   refine ⟨eW.fb (l:=List.replicate i z) ?_ (fun b o l c e=>by cases e;exact Nat.le_refl _) (by rw [List.length_replicate];unfold top;omega),E⟩
   have aD:=G.g
   rw [Nat.sub_self,List.replicate_zero,List.append_nil] at aD
   have aC:jg (List.replicate i z)=List.replicate i (V.int .i64 z):=by unfold jg;rw [List.map_replicate]
   rw [aC,List.length_replicate]
   exact ⟨by rw [List.length_replicate,Nat.mul_one],rfl,gL G.lt,_,.inr ⟨0,false,aD⟩,by rw [List.length_replicate];omega,by rw [List.drop_zero,List.take_length]⟩
end Go.Proofs.YtkehcalakofigaaGreatDoor
namespace Go.Proofs.YtkehcalakofigaaGreatDoor
open Go aY
set_option maxHeartbeats 2000000 in
theorem abN (kO:Int) (s:List UInt8) (h:ae):bK Tryz.prog 46 [.int .i64 kO,.str s] h fun x aa=>x=.bool (ui dd kO s)∧Ext h aa:=by
 refine PO rfl (dn ?_)
 unfold BD ui
 by_cases bN:kO=1
 · simp +contextual only [eq_true bN,if_true,↓al,aw,simprocAttr]
   refine bV (FK 3 (by simp) s h) ?_
   rintro x U ⟨rfl,aF⟩
   simp +contextual only [↓al,aw,simprocAttr]
   exact aF
 by_cases a2:kO=2
 · simp +contextual only [eq_false bN,eq_true a2,if_true,if_false,↓al,aw,simprocAttr]
   refine bV (FK 4 (by simp) s h) ?_
   rintro x U ⟨rfl,aF⟩
   simp +contextual only [↓al,aw,simprocAttr]
   exact aF
 by_cases a3:kO=3
 · simp +contextual only [eq_false bN,eq_false a2,eq_true a3,if_true,if_false,↓al,aw,simprocAttr]
   refine bV (FK 5 (by simp) s h) ?_
   rintro x U ⟨rfl,aF⟩
   simp +contextual only [↓al,aw,simprocAttr]
   exact aF
 by_cases a4:kO=4
 · have aV:decide (s.length≤4096)=decide ((s.length:Int)≤4096):=decide_eq_decide.2 ⟨fun q=>by omega,fun q=>by omega⟩
   simp +contextual only [eq_false bN,eq_false a2,eq_false a3,eq_true a4,aV,if_true,if_false,↓al,aw,simprocAttr]
   exact Ext.refl _
 by_cases a5:kO=5
 · obtain ⟨U,ai,aF,Y⟩:=oE h 1 8 [.str [43],.str [45],.str [42],.str [47],.str [109,111,100],.str [61],.str [60],.str [60,61]] rfl (by unfold top;omega)
   simp +contextual only [eq_false bN,eq_false a2,eq_false a3,eq_false a4,eq_true a5,ai,if_true,if_false,↓al,aw,simprocAttr]
   refine eO (RE s opsL _ U Y.v (by decide)) ?_
   simp +contextual only [↓al,aw,simprocAttr]
   exact aF
 · simp +contextual only [eq_false bN,eq_false a2,eq_false a3,eq_false a4,eq_false a5,if_false,↓al,aw,simprocAttr]
   exact Ext.refl _
theorem gi.open {F:aN→Prop} {h:ae} {r:gi} {ab:List V} (H:cl F h r.enc ab):∃iz oG,ab=[iz,.int .i64 r.rest,.int .i64 r.least,.int .i64 r.ib,oG,.int .i64 r.bI,.int .i64 r.aC,.int .i64 r.s]∧cM F h 1 (r.first.map aY.encI) iz∧cM F h 1 (r.last.map aY.encI) oG:=by
 unfold gi.enc at H
 obtain ⟨iz,_,rfl,w3,H1⟩:=H.gD
 obtain ⟨_,rfl,cR⟩:=H1.int
 obtain ⟨_,rfl,As⟩:=cR.int
 obtain ⟨_,rfl,Au⟩:=As.int
 obtain ⟨oG,_,rfl,AM,Av⟩:=Au.gD
 obtain ⟨_,rfl,M7⟩:=Av.int
 obtain ⟨_,rfl,M8⟩:=M7.int
 obtain ⟨_,rfl,M9⟩:=M8.int
 obtain rfl:=M9.no
 exact ⟨iz,oG,rfl,w3,AM⟩
theorem YM {t:bc} (h:lK t.k=none):t.may dd=false:=by
 cases t;rw [bc.may];simp only [bc.k] at h;rw [h]
theorem YN {t:bc} {r:gi} (h:lK t.k=some r):t.may dd=(vh dd r t.k t.n t.a t.s&&ia r t.k t.n t.l.length&&ks dd (kH r t.k t.n t.l.length) t.l):=by
 cases t;rw [bc.may];simp only [bc.k] at h;rw [h];rfl
theorem aaJ {k:Int} {r:gi} (h:lK k=some r):r.first.length≤3∧r.last.length≤1∧0≤r.least∧(k=50→r.bI=0∧r.aC=64):=by
 have hm:=zS (l:=oR) h
 simp only [oR,List.mem_cons,Prod.mk.injEq,List.not_mem_nil,or_false] at hm
 rcases hm with h | h | h | h | h | h | h | h | h | h | h | h | h | h | h | h | h | h | h | h | h | h | h | h | h | h | h | h | h | h | h | h | h | h | h | h | h | h<;>
 obtain ⟨rfl,rfl⟩:=h<;>simp
theorem Tr {r:gi} {k n:Int} {len i:Nat} (a6:0≤fm r k n len) (aC:i<len):(kH r k n len)[i]? =some (if ax:i < (firstM r k n).length then (firstM r k n)[i] else if i < (firstM r k n).length + (fm r k n len).toNat then r.rest else (r.last[i - ((firstM r k n).length + (fm r k n len).toNat)]?.getD 0)):=by
 have hlen:(len:Int)=(firstM r k n).length+fm r k n len+r.last.length:=by unfold fm;omega
 unfold kH
 by_cases a:i < (firstM r k n).length
 · rw [dif_pos a,List.append_assoc,List.getElem?_append_left a,List.getElem?_eq_getElem a]
 · rw [dif_neg a]
   by_cases b:i < (firstM r k n).length + (fm r k n len).toNat
   · rw [if_pos b,List.getElem?_append_left (by rw [List.length_append,List.length_replicate];exact b),List.getElem?_append_right (by omega),List.getElem?_replicate,if_pos (by omega)]
   · rw [if_neg b,List.getElem?_append_right (by rw [List.length_append,List.length_replicate];omega),List.length_append,List.length_replicate]
     rw [List.getElem?_eq_getElem (by omega)]
     rfl
theorem Ts {r:gi} {k n:Int} {len:Nat} (a6:0≤fm r k n len):(kH r k n len).length=len:=by
 have hlen:(len:Int)=(firstM r k n).length+fm r k n len+r.last.length:=by unfold fm;omega
 unfold kH
 rw [List.length_append,List.length_append,List.length_replicate]
 omega
theorem uK (b:aN) (o:Nat):(oA 2 1).run (.ptr b o) (.int .i64 0)=some (.ptr b o):=rfl
theorem uL (b:aN) (o:Nat):(oA 2 1).run (.ptr b o) (.int .i64 1)=some (.ptr b (o+1)):=rfl
set_option maxHeartbeats 8000000 in
theorem KA:∀(N:Nat) (t:bc),t.size≤N→N≤1000000000→∀(dc:V) (F:aN→Prop) (ab:List V) (h:ae),k8 F h zT dc→cl Any h t.enc ab→bK Tryz.prog 37 [dc,.agg ab] h fun x aa=>x=.bool (t.may dd)∧Ext h aa
 | 0,t,aR,_,_,_,_,_,_,_=>by have:=tU t;omega
 | N+1,t,aR,CG,dc,F,ab,h,M,H=>by
   have sb:=H
   obtain ⟨dA,rfl,L,_⟩:=bc.open H
   have bt:N≤1000000000:=by omega
   have ol:=L.one
   have aj:=L.len
   have hle:=L.le
   rw [List.length_map] at aj hle
   have b4:=size_eq t
   have h':=zA t.l
   refine PB rfl (dn ?_)
   unfold Bz
   obtain ⟨U,ai,aF,pe⟩:=jv h [.int .i64 t.k,.int .i64 t.n,.int .i64 t.a,.str t.s,dA]
   have look:=(M.ext aF).look t.k (.agg [.cq,.int .i64 0,.int .i64 0,.int .i64 0,.cq,.int .i64 0,.int .i64 0,.int .i64 0]) true
   rw [SH] at look
   cases aH:lK t.k with
   | none=>
     rw [aH] at look
     rcases look with ⟨_,kU⟩ | ⟨_,_,a8,_⟩
     · rw [cond_true] at kU
       replace kU:jk k7.int.eq _ true U dc _=_:=kU
       rw [YM aH]
       obtain ⟨ad,ay,aM,hs⟩:=j6 U [.cq,.int .i64 0,.int .i64 0,.int .i64 0,.cq,.int .i64 0,.int .i64 0,.int .i64 0] [.cq,.int .i64 0,.int .i64 0,.int .i64 0,.cq,.int .i64 0,.int .i64 0,.int .i64 0]
       simp +contextual only [ol.1,ol.2.1,ai,ay,pe.g,kU,↓al,aw,simprocAttr]
       exact aF.trans aM
     · cases a8
   | some r=>
   rw [aH] at look
   rcases look with ⟨a8,_⟩ | ⟨ds,y,pA,Y,kU⟩
   · cases a8
   rw [cond_true] at kU
   replace kU:jk k7.int.eq _ true U dc _=_:=kU
   obtain rfl:r.enc=ds:=Option.some.inj pA
   rw [YN aH]
   obtain ⟨adU,adV,adW,aaI⟩:=aaJ aH
   obtain ⟨iz,oG,a1,FY,F6⟩:=gi.open Y
   have of:=FY.one
   have wx:=F6.one
   obtain ⟨ad,ay,aM,hs⟩:=j6 U [.cq,.int .i64 0,.int .i64 0,.int .i64 0,.cq,.int .i64 0,.int .i64 0,.int .i64 0] [iz,.int .i64 r.rest,.int .i64 r.least,.int .i64 r.ib,oG,.int .i64 r.bI,.int .i64 r.aC,.int .i64 r.s]
   have pf:=pe.ext aM
   have bM:=aF.trans aM
   unfold vh
   by_cases bB:t.n<r.bI
   · rw [decide_eq_false (show ¬r.bI≤t.n by omega)]
     simp +contextual only [ol.1,ol.2.1,ai,ay,pe.g,pf.g,hs.g,uK,uL,kU,a1,of.1,wx.1,eq_true bB,Bool.false_and,↓al,aw,simprocAttr]
     exact bM
   by_cases bX:r.aC<t.n
   · rw [decide_eq_false (show ¬t.n≤r.aC by omega)]
     simp +contextual only [ol.1,ol.2.1,ai,ay,pe.g,pf.g,hs.g,uK,uL,kU,a1,of.1,wx.1,eq_false bB,eq_true bX,Bool.false_and,Bool.and_false,↓al,aw,simprocAttr]
     exact bM
   by_cases c3:t.a<0
   · rw [decide_eq_false (show ¬0≤t.a by omega)]
     simp +contextual only [ol.1,ol.2.1,ai,ay,pe.g,pf.g,hs.g,uK,uL,kU,a1,of.1,wx.1,eq_false bB,eq_false bX,eq_true c3,Bool.false_and,Bool.and_false,↓al,aw,simprocAttr]
     exact bM
   by_cases fq:65536<t.a
   · rw [decide_eq_false (show ¬t.a≤65536 by omega)]
     simp +contextual only [ol.1,ol.2.1,ai,ay,pe.g,pf.g,hs.g,uK,uL,kU,a1,of.1,wx.1,eq_false bB,eq_false bX,eq_false c3,eq_true fq,Bool.false_and,Bool.and_false,↓al,aw,simprocAttr]
     exact bM
   rw [decide_eq_true (show r.bI≤t.n by omega),decide_eq_true (show t.n≤r.aC by omega),decide_eq_true (show 0≤t.a by omega),decide_eq_true (show t.a≤65536 by omega)]
   simp +contextual only [ol.1,ol.2.1,ai,ay,pe.g,pf.g,hs.g,uK,uL,kU,a1,of.1,wx.1,eq_false bB,eq_false bX,eq_false c3,eq_false fq,Bool.true_and,↓al,aw,simprocAttr]
   refine bV (abN r.s t.s ad) ?_
   rintro x aI ⟨rfl,cm⟩
   have uE:=pf.ext cm
   have Al:=hs.ext cm
   have ux:=bM.trans cm
   cases c5:ui dd r.s t.s with
   | false=>
     simp +contextual only [Bool.false_and,↓al,aw,simprocAttr]
     exact ux
   | true=>
   have M6:cM Any aI 1 (r.first.map aY.encI) iz:=(FY.ext (aM.trans cm)).mK fun _ _=>trivial
   have AN:cM Any aI 1 (r.last.map aY.encI) oG:=(F6.ext (aM.trans cm)).mK fun _ _=>trivial
   have DW:∀(de:List Int),de.length≤64→IntKind.i64.wrap (IntKind.i64.wrap ((t.l.length:Int) - (de.length:Int)) - (r.last.length:Int))=(t.l.length:Int)-de.length-r.last.length:=fun de kb=>by
    rw [wrap_i64 (n:=(t.l.length:Int) - (de.length:Int)) (by omega) (by omega),wrap_i64 (by omega) (by omega)]
   have I1:=AN.len
   rw [List.length_map] at I1
   by_cases uX:t.k=50
   obtain ⟨adz,adl⟩:=aaI uX
   obtain ⟨n,a7⟩:=Int.eq_ofNat_of_zero_le (show 0≤t.n by omega)
   obtain ⟨bq,bE,gH,Z⟩:=oE aI 1 1 [.int .i64 8] rfl (by unfold top;omega)
   have Gc:=uE.ext gH
   have g3:=uE.g
   have g4:=Gc.g
   rw [a7] at g3 g4
   simp +contextual only [g3,g4,Al.g,bE,eq_true uX,a7,↓al,aw,simprocAttr]
   refine bV (aat _ 8 n (by omega) bq Z.v) ?_
   rintro x_ ct ⟨uy,iV⟩
   have vi:firstM r t.k t.n=List.replicate n 8:=by unfold firstM;rw [if_pos uX,a7];rfl
   rw [←vi] at uy
   have qy:=Gc.ext iV
   have qj:=(Al.ext gH).ext iV
   have k5:=(ux.trans gH).trans iV
   have F7:=(AN.ext gH).ext iV
   have IN:(firstM r t.k t.n).length≤64:=by rw [vi,List.length_replicate];omega
   rw [←a7]
   rotate_left
   have vi:firstM r t.k t.n=r.first:=by unfold firstM;rw [if_neg uX]
   have uy:=M6
   rw [←vi] at uy
   have qy:=uE
   have qj:=Al
   have k5:=ux
   have F7:=AN
   have IN:(firstM r t.k t.n).length≤64:=by rw [vi];omega
   simp +contextual only [qy.g,qj.g,eq_false uX,↓al,aw,simprocAttr]
   all_goals
    have hP:=uy.len
    rw [List.length_map] at hP
    have kR:=DW (firstM r t.k t.n) IN
    simp +contextual only [qy.g,qj.g,aj,hP,I1,kR,↓al,aw,simprocAttr]
    have th:fm r t.k t.n t.l.length=(t.l.length:Int) - (firstM r t.k t.n).length-r.last.length:=rfl
    rw [←th]
    by_cases d1:fm r t.k t.n t.l.length<r.least
    · have cy:ia r t.k t.n t.l.length=false:=by unfold ia;rw [decide_eq_false (by omega)];rfl
      simp +contextual only [eq_true d1,cy,Bool.and_false,Bool.false_and,qy.g,qj.g,↓al,aw,simprocAttr]
      exact k5
    by_cases d2:r.ib<fm r t.k t.n t.l.length
    · have cy:ia r t.k t.n t.l.length=false:=by unfold ia;rw [decide_eq_false (show ¬fm r t.k t.n t.l.length≤r.ib by omega),Bool.and_false]
      simp +contextual only [eq_false d1,eq_true d2,cy,Bool.and_false,Bool.false_and,qy.g,qj.g,↓al,aw,simprocAttr]
      exact k5
    have cy:ia r t.k t.n t.l.length=true:=by unfold ia;rw [decide_eq_true (show r.least≤_ by omega),decide_eq_true (show fm r t.k t.n t.l.length≤r.ib by omega)];rfl
    have a6:0≤fm r t.k t.n t.l.length:=by omega
    simp +contextual only [eq_false d1,eq_false d2,cy,aj,Bool.true_and,qy.g,qj.g,↓al,aw,simprocAttr]
    have og:=Ts a6
    have S1:=fun (i:Nat) (aC:i<t.l.length)=>Tr (r:=r) (k:=t.k) (n:=t.n) a6 aC
    have adu:fm r t.k t.n t.l.length≤t.l.length:=by unfold fm;omega
    have DJ:(t.l.length:Int)=(firstM r t.k t.n).length+fm r t.k t.n t.l.length+r.last.length:=by unfold fm;omega
    generalize kH r t.k t.n t.l.length=gs at *
    generalize fm r t.k t.n t.l.length=rest at *
    obtain ⟨oQ,rfl⟩:=Int.eq_ofNat_of_zero_le a6
    generalize firstM r t.k t.n=bP at *
    refine hj (fun R g=>R 0=dc∧R 3=.ptr (aG h.next) 0∧R 5=.ptr (aG U.next) 0∧R 8=.int .i64 oQ∧R 85=dA∧R 86=.int .i64 t.l.length∧(∃x_,R 7=x_∧cM Any g 1 (bP.map aY.encI) x_)∧cM Any g 1 (r.last.map aY.encI) oG∧
     Has g h.next [.int .i64 t.k,.int .i64 t.n,.int .i64 t.a,.str t.s,dA]∧Has g U.next [iz,.int .i64 r.rest,.int .i64 r.least,.int .i64 r.ib,oG,.int .i64 r.bI,.int .i64 r.aC,.int .i64 r.s]∧Ext h g∧
     ∃i:Nat,R 87=.int .i64 i∧i≤t.l.length∧ks dd gs t.l=ks dd (gs.drop i) (t.l.drop i)) (fun R g=>t.l.length - (R 87).toN) ?_ ?_
    · exact ⟨by simp only [↓al,dB,simprocAttr],by simp only [↓al,dB,simprocAttr],by simp only [↓al,dB,simprocAttr],by simp only [↓al,dB,simprocAttr]<;>rfl,by simp only [↓al,dB,simprocAttr],by simp only [↓al,dB,simprocAttr],⟨_,by simp only [↓al,dB,simprocAttr],uy⟩,F7,qy,qj,k5,0,by simp only [↓al,dB,simprocAttr]<;>rfl,by omega,rfl⟩
    rintro R g ⟨bx,b3,cF,fl,p4,p5,⟨x_,eT,Ar⟩,ht,P,B,E,i,p6,aC,bg⟩
    unfold GY
    by_cases aO:i<t.l.length
    · have g0:((i:Int) < (t.l.length:Int))=True:=eq_true (by omega)
      obtain ⟨b,off,wl,dy,X,iw,ld,_,_,_⟩:=bc.vT (L.ext E) (k:=.i64) aO
      have eY:=ld g (Ext.refl g)
      have hn:=iw.one
      have fc:=nH aO (by unfold top at hle;omega)
      have Uz:=tT (t:=t) (List.getElem_mem aO)
      have hP:=Ar.len
      rw [List.length_map] at hP
      obtain ⟨g1,dp,bu,Z⟩:=j6 g [.int .i64 0,.int .i64 0,.int .i64 0,.str [],.cq] [.int .i64 t.l[i].k,.int .i64 t.l[i].n,.int .i64 t.l[i].a,.str t.l[i].s,wl]
      have pe:=P.ext bu
      have jW:=B.ext bu
      have l9:=S1 i aO
      have G:gs[i]? =some gs[i]:=List.getElem?_eq_getElem (by omega)
      rw [List.drop_eq_getElem_cons aO,List.drop_eq_getElem_cons (show i<gs.length by omega),ks] at bg
      rw [G] at l9
      have l9:=Option.some.inj l9
      generalize gs[i]=F0 at *
      have bL:IntKind.i64.wrap ((bP.length:Int) + (oQ:Int))=((bP.length+oQ:Nat):Int):=by rw [wrap_i64 (by omega) (by omega)];omega
      by_cases bN:i<bP.length
      have xo:((i:Int) < (bP.length:Int))=True:=eq_true (by omega)
      obtain ⟨cg,KS,ox,Ed⟩:=(Ar.ext bu).yU (k:=.i64) bN
      have d2:=Ed g1 (Ext.refl g1)
      rw [dif_pos bN] at l9
      rw [←l9] at d2
      simp +contextual only [bx,b3,cF,eT,fl,p4,p5,p6,g0,dy,eY,hn.1,hn.2.1,dp,Z.g,jW.g,hP,xo,ox,d2,↓al,aw,simprocAttr]
      rotate_left
      rw [dif_neg bN] at l9
      have xo:((i:Int) < (bP.length:Int))=False:=eq_false (by omega)
      by_cases a2:bP.length+oQ≤i
      have AV:(((bP.length+oQ:Nat):Int)≤(i:Int))=True:=eq_true (by omega)
      have bH:IntKind.i64.wrap (IntKind.i64.wrap ((i:Int) - (bP.length:Int)) - (oQ:Int))=((i - (bP.length+oQ):Nat):Int):=by rw [wrap_i64 (n:=(i:Int) - (bP.length:Int)) (by omega) (by omega),wrap_i64 (by omega) (by omega)];omega
      obtain ⟨cg,KS,ox,Ed⟩:=(ht.ext bu).yU (k:=.i64) (i:=i - (bP.length+oQ)) (by omega)
      have d2:=Ed g1 (Ext.refl g1)
      rw [if_neg (by omega),Int.toNat_natCast,List.getElem?_eq_getElem (by omega),Option.getD_some] at l9
      rw [←l9] at d2
      simp +contextual only [bx,b3,cF,eT,fl,p4,p5,p6,g0,dy,eY,hn.1,hn.2.1,dp,Z.g,jW.g,hP,xo,AV,bL,bH,ox,d2,↓al,aw,simprocAttr]
      rotate_left
      have AV:(((bP.length+oQ:Nat):Int)≤(i:Int))=False:=eq_false (by omega)
      rw [if_pos (by omega)] at l9
      simp +contextual only [bx,b3,cF,eT,fl,p4,p5,p6,g0,dy,eY,hn.1,hn.2.1,dp,Z.g,jW.g,hP,xo,AV,bL,←l9,↓al,aw,simprocAttr]
      all_goals
       refine bV (V5 t.l[i] F0 _ g1 (X.ext bu)) ?_
       rintro x g2 ⟨rfl,aM⟩
       have Gh:=Z.ext aM
       have Ah:=bu.trans aM
       cases BP:pL t.l[i].k F0 with
       | false=>
         rw [BP,Bool.false_and,Bool.false_and] at bg
         simp +contextual only [bx,b3,cF,fl,p4,p5,p6,Gh.g,↓al,aw,simprocAttr]
         exact ⟨by rw [bg],E.trans Ah⟩
       | true=>
         simp +contextual only [bx,b3,cF,fl,p4,p5,p6,Gh.g,hn.1,hn.2.1,↓al,aw,simprocAttr]
         refine bV (KA N t.l[i] (by omega) bt dc F _ g2 (M.ext (E.trans Ah)) (X.ext Ah)) ?_
         rintro x g3 ⟨rfl,cm⟩
         have r':=Ah.trans cm
         cases lZ:t.l[i].may dd with
         | false=>
           rw [lZ,Bool.and_false,Bool.false_and] at bg
           simp +contextual only [bx,b3,cF,fl,p4,p5,p6,↓al,aw,simprocAttr]
           exact ⟨by rw [bg],E.trans r'⟩
         | true=>
           rw [BP,lZ,Bool.true_and,Bool.true_and] at bg
           simp +contextual only [bx,b3,cF,eT,fl,p4,p5,p6,fc,↓al,aw,simprocAttr]
           exact ⟨⟨Ar.ext r',ht.ext r',P.ext r',(by first | exact B.ext r' | (rw [l9];exact B.ext r')),E.trans r',i+1,rfl,aO,bg⟩,by omega⟩
    · have g0:((i:Int) < (t.l.length:Int))=False:=eq_false (by omega)
      rw [List.drop_eq_nil_of_le (show t.l.length≤i by omega),ks] at bg
      simp +contextual only [bx,b3,cF,fl,p4,p5,p6,g0,↓al,aw,simprocAttr]
      exact ⟨by rw [bg],E⟩
def qH (l:List bc):Int:=if l.all (fun t=>decide (e1 t.k=7)&&t.may dd) then (if l.all (fun t=>decide (t.deep≤200)) then 0 else 260) else 2
theorem Rt (l:List bc) (aR:fa l≤1000000000):rS l=qH l:=by
 have:∀t ∈ l,t.hI dd=t.may dd:=fun t aB=>KB _ t (Nat.le_refl _) (by have:=rR aB;omega)
 unfold rS qH
 have e:l.all (fun t=>decide (e1 t.k=7)&&t.hI dd)=l.all (fun t=>decide (e1 t.k=7)&&t.may dd):=by
  rw [Bool.eq_iff_iff,List.all_eq_true,List.all_eq_true]
  exact ⟨fun q t aB=>by rw [←this t aB];exact q t aB,fun q t aB=>by rw [this t aB];exact q t aB⟩
 rw [e]
set_option maxHeartbeats 2000000 in
theorem Rs (l:List bc) (aR:fa l≤1000000000) (v:V) (h:ae) (L:cM Any h 5 (l.map bc.enc) v):bK Tryz.prog 11 [v] h fun x aa=>x=.int .i64 (qH l)∧Ext h aa:=by
 have aj:=L.len
 have hle:=L.le
 rw [List.length_map] at aj hle
 refine Pd rfl (dn ?_)
 unfold Bl
 simp +contextual only [↓al,aw,simprocAttr]
 refine bV (aaK h) ?_
 rintro dc U ⟨aF,M⟩
 simp +contextual only [aj,↓al,aw,simprocAttr]
 refine hj (fun r g=>r 0=v∧r 3=dc∧r 9=v∧r 10=.int .i64 l.length∧∃i:Nat,r 11=.int .i64 i∧i≤l.length∧Ext U g∧(l.take i).all (fun t=>decide (e1 t.k=7)&&t.may dd)=true) (fun r g=>l.length - (r 11).toN) ?_ ?_
 · exact ⟨by simp only [↓al,dB,simprocAttr],by simp only [↓al,dB,simprocAttr],by simp only [↓al,dB,simprocAttr],by simp only [↓al,dB,simprocAttr],0,by simp only [↓al,dB,simprocAttr]<;>rfl,by omega,Ext.refl U,rfl⟩
 rintro r g ⟨bx,b3,tX,tV,i,tW,aC,E,cT⟩
 unfold GR
 have ht:=L.ext (aF.trans E)
 by_cases aO:i<l.length
 · have g0:((i:Int) < (l.length:Int))=True:=eq_true (by omega)
   obtain ⟨b,off,wl,dy,X,iw,ld⟩:=bc.tx ht (k:=.i64) aO
   have eY:=ld g (Ext.refl g)
   have fc:=nH aO (by unfold top at hle;omega)
   have bn:=rR (List.getElem_mem aO)
   have hn:=iw.one
   obtain ⟨g1,dp,bu,Z⟩:=j6 g [.int .i64 0,.int .i64 0,.int .i64 0,.str [],.cq] [.int .i64 l[i].k,.int .i64 l[i].n,.int .i64 l[i].a,.str l[i].s,wl]
   simp +contextual only [bx,b3,tX,tV,tW,g0,dy,eY,dp,Z.g,hn.1,hn.2.1,↓al,aw,simprocAttr]
   refine bV (Io l[i].k g1) ?_
   rintro x g2 ⟨rfl,rfl⟩
   have bad:(decide (e1 l[i].k=7)&&l[i].may dd)=false→qH l=2:=fun q=>by
    unfold qH
    rw [if_neg]
    intro z
    have:=List.all_eq_true.1 z _ (List.getElem_mem aO)
    rw [q] at this;cases this
   by_cases bB:e1 l[i].k=7
   · simp +contextual only [bx,b3,tX,tV,tW,Z.g,eq_true bB,↓al,aw,simprocAttr]
     refine bV (KA _ l[i] (Nat.le_refl _) (by omega) dc _ _ g2 (M.ext (E.trans bu)) (X.ext bu)) ?_
     rintro x g3 ⟨rfl,cm⟩
     cases bX:l[i].may dd with
     | true=>
       simp +contextual only [bx,b3,tX,tV,tW,fc,↓al,aw,simprocAttr]
       refine ⟨⟨i+1,rfl,aO,E.trans (bu.trans cm),?_⟩,by omega⟩
       rw [take_one aO,List.all_append,cT]
       simp [bB,bX]
     | false=>
       simp +contextual only [bx,b3,fc,↓al,aw,simprocAttr]
       exact ⟨by rw [bad (by rw [bX,Bool.and_false])],aF.trans (E.trans (bu.trans cm))⟩
   · simp +contextual only [bx,b3,tX,tV,tW,Z.g,eq_false bB,↓al,aw,simprocAttr]
     exact ⟨by rw [bad (by rw [decide_eq_false bB,Bool.false_and])],aF.trans (E.trans bu)⟩
 · have g0:((i:Int) < (l.length:Int))=False:=eq_false (by omega)
   rw [List.take_of_length_le (by omega)] at cT
   have aq:qH l=if l.all (fun t=>decide (t.deep≤200)) then 0 else 260:=by unfold qH;rw [if_pos cT]
   rw [aq]
   simp +contextual only [bx,b3,tX,tV,tW,aj,g0,↓al,aw,simprocAttr]
   refine hj (fun r g=>r 26=v∧r 27=.int .i64 l.length∧∃i:Nat,r 28=.int .i64 i∧i≤l.length∧Ext h g∧(l.take i).all (fun t=>decide (t.deep≤200))=true) (fun r g=>l.length - (r 28).toN) ?_ ?_
   · exact ⟨by simp only [bx,↓al,dB,simprocAttr],by simp only [↓al,dB,simprocAttr],0,by simp only [↓al,dB,simprocAttr]<;>rfl,by omega,aF.trans E,rfl⟩
   clear aC bx b3 tX tV tW ht E g0 aO
   rintro r g ⟨zE,zF,i,zG,aC,E,cT⟩
   unfold GS
   have ht:=L.ext E
   by_cases aO:i<l.length
   · have g0:((i:Int) < (l.length:Int))=True:=eq_true (by omega)
     obtain ⟨b,off,wl,dy,X,iw,ld⟩:=bc.tx ht (k:=.i64) aO
     have eY:=ld g (Ext.refl g)
     have fc:=nH aO (by unfold top at hle;omega)
     have bn:=rR (List.getElem_mem aO)
     have hn:=iw.one
     obtain ⟨g1,dp,bu,Z⟩:=j6 g [.int .i64 0,.int .i64 0,.int .i64 0,.str [],.cq] [.int .i64 l[i].k,.int .i64 l[i].n,.int .i64 l[i].a,.str l[i].s,wl]
     simp +contextual only [zE,zF,zG,g0,dy,eY,dp,Z.g,hn.1,hn.2.1,↓al,aw,simprocAttr]
     refine bV (B9 _ l[i] (Nat.le_refl _) (by omega) _ g1 (X.ext bu)) ?_
     rintro x g2 ⟨rfl,aM⟩
     by_cases bB:(200:Int) < (l[i].deep:Int)
     · simp +contextual only [zE,zF,zG,eq_true bB,↓al,aw,simprocAttr]
       refine ⟨?_,E.trans (bu.trans aM)⟩
       rw [if_neg]
       intro z
       have:=List.all_eq_true.1 z _ (List.getElem_mem aO)
       simp only [decide_eq_true_eq] at this
       omega
     · simp +contextual only [zE,zF,zG,fc,eq_false bB,↓al,aw,simprocAttr]
       refine ⟨⟨i+1,rfl,aO,E.trans (bu.trans aM),?_⟩,by omega⟩
       rw [take_one aO,List.all_append,cT]
       simp;omega
   · have g0:((i:Int) < (l.length:Int))=False:=eq_false (by omega)
     rw [List.take_of_length_le (by omega)] at cT
     simp +contextual only [zE,zF,zG,aj,g0,↓al,aw,simprocAttr]
     exact ⟨by rw [if_pos cT],E⟩
end Go.Proofs.YtkehcalakofigaaGreatDoor
namespace Go.Proofs.YtkehcalakofigaaGreatDoor
open Go aY Go.RowKit
set_option maxRecDepth 100000 in
theorem Ob:FD ctx 100000 9 []=true:=by kernel_rfl
theorem Oa (h:ae):eh Tryz.prog 9 [] h (.bool true) h:=
 Rv (by kernel_rfl) (fun E x q=>by subst q;simp [Rel]) ⟨_,Tryz.func9,by kernel_rfl⟩ (fun w hw=>abY (C:=ctx) follows c_ hw EY (by kernel_rfl) (by kernel_rfl) Ob) h
theorem Gz (h:ae):bK Tryz.prog 9 [] h fun x aa=>x=.bool true∧aa=h:=⟨_,_,Oa h,rfl,rfl⟩
end Go.Proofs.YtkehcalakofigaaGreatDoor
