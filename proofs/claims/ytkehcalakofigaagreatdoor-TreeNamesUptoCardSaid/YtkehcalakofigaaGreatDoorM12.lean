/- The chapter's functions, walked by the abstract machine: plain lemmas, no condition. Printed by a program from longer texts: names made short. -/
import Derived.Test.YtkehcalakofigaaGreatDoorM10
import Derived.Test.YtkehcalakofigaaGreatDoorM11
set_option linter.unusedSectionVars false
set_option linter.unusedSimpArgs false
set_option linter.unusedVariables false
namespace Go.Proofs.YtkehcalakofigaaGreatDoor
open Go aS
noncomputable def PR (n:Nat):Bool:=match p3 ctx 1000 64 [.int .u64 1,.int .u64 n] af.empty with
 | .val (.tuple [.int .u64 a,.int .u64 b]) aw=>rN a 0&&rN b n&&Nat.beq aw.next 0
 | _=>false
set_option maxRecDepth 100000 in
theorem afO:(List.range 65).all PR=true:=by kernel_rfl
theorem afN (n:Nat) (aX:n≤64) (h:af):bB Tryz.prog 64 [.int .u64 1,.int .u64 n] h fun x ab=>x=.tuple [.int .u64 0,.int .u64 n]∧ab=h:=by
 have q:=List.all_eq_true.1 afO n (List.mem_range.2 (by omega))
 unfold PR at q
 split at q
 · rename_i a b aw he
   simp only [Bool.and_eq_true] at q
   obtain ⟨⟨al,aq⟩,aK⟩:=q
   have al:=B1 al
   have aq:=B1 aq
   have aK:=Nat.eq_of_beq_eq_true aK
   have c:=ZF (C:=ctx) follows cP I5 (n:=1000) (f:=64) (by rfl) (by kernel_rfl) (by kernel_rfl) ⟨_,Tryz.func64,by kernel_rfl⟩ he h
   refine ⟨_,_,c,?_,?_⟩
   · simp only [V.cQ,jx,al,aq]
   · unfold af.app
     rw [aK];rfl
 · cases q
theorem agI (z:Int):∀i:Nat,eg (List.replicate i (V.int .i64 z))=true:=fun i=>by
 induction i with
 | zero=>rfl
 | succ i bg=>simpa [List.replicate_succ,eg,V.one] using bg
theorem aiy {i m n:Nat} {z y:V} (aa:m≤i) (ae:i+m≤n):gp (List.replicate i z++List.replicate (n-i) y) i (List.take m (List.replicate i z))=List.replicate (i+m) z++List.replicate (n - (i+m)) y:=by
 apply List.ext_getElem?
 intro q
 have hm:(List.take m (List.replicate i z)).length=m:=by rw [List.length_take,List.length_replicate];omega
 rw [JB _ _ _ (by rw [hm,List.length_append,List.length_replicate,List.length_replicate];omega),hm]
 by_cases a:q<i
 · rw [if_pos a,List.getElem?_append_left (by rw [List.length_replicate];exact a),List.getElem?_append_left (by rw [List.length_replicate];omega),List.getElem?_replicate,List.getElem?_replicate,if_pos a,if_pos (by omega)]
 · rw [if_neg a]
   by_cases b:q<i+m
   · rw [if_pos b,List.getElem?_take_of_lt (by omega),List.getElem?_replicate,if_pos (by omega),List.getElem?_append_left (by rw [List.length_replicate];omega),List.getElem?_replicate,if_pos b]
   · rw [if_neg b,List.getElem?_append_right (by rw [List.length_replicate];omega),List.getElem?_append_right (by rw [List.length_replicate];omega),List.length_replicate,List.length_replicate,List.getElem?_replicate,List.getElem?_replicate]
     by_cases c:q<n
     · rw [if_pos (by omega),if_pos (by omega)]
     · rw [if_neg (by omega),if_neg (by omega)]
set_option maxHeartbeats 2000000 in
theorem ahz (v:V) (z:Int) (n:Nat) (aX:n≤64) (h:af) (H:et h 1 v 1 [.int .i64 z]):bB Tryz.prog 47 [v,.int .i64 n] h fun x ab=>bI Any ab 1 ((List.replicate n z).map aS.encI) x∧Ext h ab:=by
 refine Ws rfl (cR ?_)
 unfold Fa
 have f0:((n:Int)<0)=False:=eq_false (by omega)
 have bU:IntKind.u64.wrap (n:Int)=(n:Int):=by rw [IntKind.wrap_u64];omega
 have bQ:IntKind.i64.wrap (n:Int)=(n:Int):=wrap_i64 (by omega) (by omega)
 have az:IntKind.u64.wrap 1=1:=by decide
 have f1:((9223372036854775807:Int) < (n:Int))=False:=eq_false (by omega)
 have ak:jn v=some (.int .i64 1):=H.len
 simp +contextual only [f0,ak,az,bU,↓ah,ao,simprocAttr]
 refine bK (afN n aX h) ?_
 rintro x aa ⟨rfl,rfl⟩
 obtain ⟨ae,aq,aO,g2⟩:∃H,aa.new (.bh (List.replicate n (.int .i64 0)) 0 false)=H∧Ext aa H∧Has H aa.next (List.replicate n (.int .i64 0)):=fo aa _
 have mk:=afE (h:=aa) (n:=n) (z:=.int .i64 0) (k:=.i64) (bn:=.i64) (by omega)
 rw [aq] at mk
 have hlen:(List.replicate n (V.int .i64 0)).length=n:=List.length_replicate
 have xO:=copy_eq (h:=ae) (b:=aC aa.next) (off:=0) (l:=n) (c:=n) (H.ext aO) g2.g (by rw [hlen,Nat.zero_add];exact Nat.min_le_right _ _) rfl
 simp +contextual only [f0,f1,bQ,mk,xO,↓ah,ao,simprocAttr]
 refine fD (fun r g=>r 7=.slice (aC aa.next) 0 n n∧∃i:Nat,r 8=.int .i64 i∧i≤n∧(1≤n→1≤i)∧Has g aa.next (List.replicate i (V.int .i64 z)++List.replicate (n-i) (V.int .i64 0))∧Ext aa g) (fun r g=>n - (r 8).toN) ?_ ?_
 · refine ⟨by simp only [↓ah,bA,simprocAttr],Nat.min 1 n,by simp only [↓ah,bA,simprocAttr],Nat.min_le_right _ _,fun q=>by rw [show Nat.min 1 n=1 from Nat.min_eq_left q];omega,?_,aO.set (Nat.le_refl _) _⟩
   have:=g2.put (gp (List.replicate n (V.int .i64 0)) 0 (List.take (Nat.min 1 n) [V.int .i64 z]))
   by_cases bj:n=0
   · subst bj;exact this
   · rw [show Nat.min 1 n=1 from Nat.min_eq_left (by omega)] at this ⊢
     obtain ⟨m,rfl⟩:∃m,n=m+1:=⟨n-1,by omega⟩
     exact this
 rintro r g ⟨ft,i,d',av,tm,G,E⟩
 unfold Lt
 by_cases aN:i<n
 · have g0:((i:Int) < (n:Int))=True:=eq_true (by omega)
   have Nd:=tm (by omega)
   have S:et g 1 (.slice (aC aa.next) 0 i n) i (List.replicate i (V.int .i64 z)):=by
    refine ⟨by rw [List.length_replicate,Nat.mul_one],rfl,gz G.lt,_,.inr ⟨0,false,G.g⟩,by rw [List.length_append,List.length_replicate];omega,?_⟩
    rw [List.drop_zero,List.take_left' rfl]
   have xO:=copy_eq (h:=g) (b:=aC aa.next) (off:=i) (l:=n-i) (c:=n-i) S G.g (by rw [List.length_append,List.length_replicate,List.length_replicate];have:Nat.min i (n-i)≤n-i:=Nat.min_le_right _ _;omega) (agI z i)
   have aby:Nat.min i (n-i)≤i:=Nat.min_le_left _ _
   have ml:Nat.min i (n-i)≤n-i:=Nat.min_le_right _ _
   have akB:1≤Nat.min i (n-i):=Nat.le_min.2 ⟨Nd,by omega⟩
   generalize Nat.min i (n-i)=m at *
   have dM:IntKind.i64.wrap ((i:Int) + ((m:Nat):Int))=((i+m:Nat):Int):=by rw [wrap_i64 (by omega) (by omega)];omega
   have bz:=YJ (b:=aC aa.next) (k:=.i64) aN
   have bN:=YI (b:=aC aa.next) (k:=.i64) av Nd
   simp +contextual only [ft,d',g0,bz,bN,xO,dM,↓ah,ao,simprocAttr]
   refine ⟨⟨i+m,rfl,by omega,fun _=>by omega,?_,E.set (Nat.le_refl _) _⟩,by omega⟩
   have:=G.put (gp (List.replicate i (V.int .i64 z)++List.replicate (n-i) (V.int .i64 0)) i (List.take m (List.replicate i (V.int .i64 z))))
   rw [aiy aby (by omega)] at this ⊢
   exact this
 · have g0:((i:Int) < (n:Int))=False:=eq_false (by omega)
   have:i=n:=by omega
   subst this
   simp +contextual only [ft,d',g0,↓ah,ao,simprocAttr]
   refine ⟨et.fO (l:=List.replicate i z) ?_ (fun b o l c e=>by cases e;exact Nat.le_refl _) (by rw [List.length_replicate];unfold top;omega),E⟩
   have aH:=G.g
   rw [Nat.sub_self,List.replicate_zero,List.append_nil] at aH
   have av:kn (List.replicate i z)=List.replicate i (V.int .i64 z):=by unfold kn;rw [List.map_replicate]
   rw [av,List.length_replicate]
   exact ⟨by rw [List.length_replicate,Nat.mul_one],rfl,gz G.lt,_,.inr ⟨0,false,aH⟩,by rw [List.length_replicate];omega,by rw [List.drop_zero,List.take_length]⟩
end Go.Proofs.YtkehcalakofigaaGreatDoor
namespace Go.Proofs.YtkehcalakofigaaGreatDoor
open Go aS
set_option maxHeartbeats 2000000 in
theorem aiX (mn:Int) (s:List UInt8) (h:af):bB Tryz.prog 46 [.int .i64 mn,.str s] h fun x ab=>x=.bool (wY dr mn s)∧Ext h ab:=by
 refine Wp rfl (cR ?_)
 unfold E_ wY
 by_cases bM:mn=1
 · simp +contextual only [eq_true bM,if_true,↓ah,ao,simprocAttr]
   refine bK (JZ 3 (by simp) s h) ?_
   rintro x aa ⟨rfl,aB⟩
   simp +contextual only [↓ah,ao,simprocAttr]
   exact aB
 by_cases a2:mn=2
 · simp +contextual only [eq_false bM,eq_true a2,if_true,if_false,↓ah,ao,simprocAttr]
   refine bK (JZ 4 (by simp) s h) ?_
   rintro x aa ⟨rfl,aB⟩
   simp +contextual only [↓ah,ao,simprocAttr]
   exact aB
 by_cases a3:mn=3
 · simp +contextual only [eq_false bM,eq_false a2,eq_true a3,if_true,if_false,↓ah,ao,simprocAttr]
   refine bK (JZ 5 (by simp) s h) ?_
   rintro x aa ⟨rfl,aB⟩
   simp +contextual only [↓ah,ao,simprocAttr]
   exact aB
 by_cases a4:mn=4
 · have aY:decide (s.length≤4096)=decide ((s.length:Int)≤4096):=decide_eq_decide.2 ⟨fun q=>by omega,fun q=>by omega⟩
   simp +contextual only [eq_false bM,eq_false a2,eq_false a3,eq_true a4,aY,if_true,if_false,↓ah,ao,simprocAttr]
   exact Ext.refl _
 by_cases a5:mn=5
 · obtain ⟨aa,al,aB,Y⟩:=ns h 1 8 [.str [43],.str [45],.str [42],.str [47],.str [109,111,100],.str [61],.str [60],.str [60,61]] rfl (by unfold top;omega)
   simp +contextual only [eq_false bM,eq_false a2,eq_false a3,eq_false a4,eq_true a5,al,if_true,if_false,↓ah,ao,simprocAttr]
   refine fj (Yw s opsL _ aa Y.v (by decide)) ?_
   simp +contextual only [↓ah,ao,simprocAttr]
   exact aB
 · simp +contextual only [eq_false bM,eq_false a2,eq_false a3,eq_false a4,eq_false a5,if_false,↓ah,ao,simprocAttr]
   exact Ext.refl _
theorem gQ.open {F:aQ→Prop} {h:af} {r:gQ} {ad:List V} (H:bZ F h r.enc ad):∃jN qI,ad=[jN,.int .i64 r.rest,.int .i64 r.least,.int .i64 r.jr,qI,.int .i64 r.bm,.int .i64 r.av,.int .i64 r.s]∧bI F h 1 (r.first.map aS.encI) jN∧bI F h 1 (r.last.map aS.encI) qI:=by
 unfold gQ.enc at H
 obtain ⟨jN,_,rfl,zZ,H1⟩:=H.eC
 obtain ⟨_,rfl,cD⟩:=H1.int
 obtain ⟨_,rfl,DL⟩:=cD.int
 obtain ⟨_,rfl,DM⟩:=DL.int
 obtain ⟨qI,_,rfl,sC,DN⟩:=DM.eC
 obtain ⟨_,rfl,SO⟩:=DN.int
 obtain ⟨_,rfl,SP⟩:=SO.int
 obtain ⟨_,rfl,SQ⟩:=SP.int
 obtain rfl:=SQ.no
 exact ⟨jN,qI,rfl,zZ,sC⟩
theorem afH {t:aM} (h:lb t.k=none):t.may dr=false:=by
 cases t;rw [aM.may];simp only [aM.k] at h;rw [h]
theorem afI {t:aM} {r:gQ} (h:lb t.k=some r):t.may dr=(vB dr r t.k t.n t.a t.s&&hy r t.k t.n t.l.length&&j2 dr (lG r t.k t.n t.l.length) t.l):=by
 cases t;rw [aM.may];simp only [aM.k] at h;rw [h];rfl
theorem Q3 {k:Int} {r:gQ} (h:lb k=some r):r.first.length≤3∧r.last.length≤1∧0≤r.least∧(k=50→r.bm=0∧r.av=64):=by
 have hm:=Db (l:=qT) h
 simp only [qT,List.mem_cons,Prod.mk.injEq,List.not_mem_nil,or_false] at hm
 rcases hm with h | h | h | h | h | h | h | h | h | h | h | h | h | h | h | h | h | h | h | h | h | h | h | h | h | h | h | h | h | h | h | h | h | h | h | h | h | h<;>
 obtain ⟨rfl,rfl⟩:=h<;>simp
theorem aan {r:gQ} {k n:Int} {len i:Nat} (bb:0≤fl r k n len) (av:i<len):(lG r k n len)[i]? =some (if aA:i < (firstM r k n).length then (firstM r k n)[i] else if i < (firstM r k n).length + (fl r k n len).toNat then r.rest else (r.last[i - ((firstM r k n).length + (fl r k n len).toNat)]?.getD 0)):=by
 have hlen:(len:Int)=(firstM r k n).length+fl r k n len+r.last.length:=by unfold fl;omega
 unfold lG
 by_cases a:i < (firstM r k n).length
 · rw [dif_pos a,List.append_assoc,List.getElem?_append_left a,List.getElem?_eq_getElem a]
 · rw [dif_neg a]
   by_cases b:i < (firstM r k n).length + (fl r k n len).toNat
   · rw [if_pos b,List.getElem?_append_left (by rw [List.length_append,List.length_replicate];exact b),List.getElem?_append_right (by omega),List.getElem?_replicate,if_pos (by omega)]
   · rw [if_neg b,List.getElem?_append_right (by rw [List.length_append,List.length_replicate];omega),List.length_append,List.length_replicate]
     rw [List.getElem?_eq_getElem (by omega)]
     rfl
theorem M9 {r:gQ} {k n:Int} {len:Nat} (bb:0≤fl r k n len):(lG r k n len).length=len:=by
 have hlen:(len:Int)=(firstM r k n).length+fl r k n len+r.last.length:=by unfold fl;omega
 unfold lG
 rw [List.length_append,List.length_append,List.length_replicate]
 omega
theorem xx (b:aQ) (o:Nat):(qD 2 1).run (.ptr b o) (.int .i64 0)=some (.ptr b o):=rfl
theorem xy (b:aQ) (o:Nat):(qD 2 1).run (.ptr b o) (.int .i64 1)=some (.ptr b (o+1)):=rfl
set_option maxHeartbeats 8000000 in
theorem Pr:∀(N:Nat) (t:aM),t.size≤N→N≤1000000000→∀(dz:V) (F:aQ→Prop) (ad:List V) (h:af),mQ F h Dc dz→bZ Any h t.enc ad→bB Tryz.prog 37 [dz,.agg ad] h fun x ab=>x=.bool (t.may dr)∧Ext h ab
 | 0,t,aR,_,_,_,_,_,_,_=>by have:=mE t;omega
 | N+1,t,aR,vv,dz,F,ad,h,M,H=>by
   have hE:=H
   obtain ⟨cl,rfl,L,_⟩:=aM.open H
   have bD:N≤1000000000:=by omega
   have ol:=L.one
   have ak:=L.len
   have hle:=L.le
   rw [List.length_map] at ak hle
   have b7:=size_eq t
   have hX:=l3 t.l
   refine V3 rfl (cR ?_)
   unfold E4
   obtain ⟨aa,al,aB,rl⟩:=fo h [.int .i64 t.k,.int .i64 t.n,.int .i64 t.a,.str t.s,cl]
   have look:=(M.ext aB).look t.k (.agg [.bW,.int .i64 0,.int .i64 0,.int .i64 0,.bW,.int .i64 0,.int .i64 0,.int .i64 0]) true
   rw [Zz] at look
   cases aJ:lb t.k with
   | none=>
     rw [aJ] at look
     rcases look with ⟨_,jo⟩ | ⟨_,_,ba,_⟩
     · rw [cond_true] at jo
       replace jo:iR kE.int.eq _ true aa dz _=_:=jo
       rw [afH aJ]
       obtain ⟨ae,aq,aO,eh⟩:=ja aa [.bW,.int .i64 0,.int .i64 0,.int .i64 0,.bW,.int .i64 0,.int .i64 0,.int .i64 0] [.bW,.int .i64 0,.int .i64 0,.int .i64 0,.bW,.int .i64 0,.int .i64 0,.int .i64 0]
       simp +contextual only [ol.1,ol.2.1,al,aq,rl.g,jo,↓ah,ao,simprocAttr]
       exact aB.trans aO
     · cases ba
   | some r=>
   rw [aJ] at look
   rcases look with ⟨ba,_⟩ | ⟨ds,y,rG,Y,jo⟩
   · cases ba
   rw [cond_true] at jo
   replace jo:iR kE.int.eq _ true aa dz _=_:=jo
   obtain rfl:r.enc=ds:=Option.some.inj rG
   rw [afI aJ]
   obtain ⟨ale,alf,alg,ahQ⟩:=Q3 aJ
   obtain ⟨jN,qI,a1,Kj,Ku⟩:=gQ.open Y
   have of:=Kj.one
   have l1:=Ku.one
   obtain ⟨ae,aq,aO,eh⟩:=ja aa [.bW,.int .i64 0,.int .i64 0,.int .i64 0,.bW,.int .i64 0,.int .i64 0,.int .i64 0] [jN,.int .i64 r.rest,.int .i64 r.least,.int .i64 r.jr,qI,.int .i64 r.bm,.int .i64 r.av,.int .i64 r.s]
   have rm:=rl.ext aO
   have bV:=aB.trans aO
   unfold vB
   by_cases bz:t.n<r.bm
   · rw [decide_eq_false (show ¬r.bm≤t.n by omega)]
     simp +contextual only [ol.1,ol.2.1,al,aq,rl.g,rm.g,eh.g,xx,xy,jo,a1,of.1,l1.1,eq_true bz,Bool.false_and,↓ah,ao,simprocAttr]
     exact bV
   by_cases bN:r.av<t.n
   · rw [decide_eq_false (show ¬t.n≤r.av by omega)]
     simp +contextual only [ol.1,ol.2.1,al,aq,rl.g,rm.g,eh.g,xx,xy,jo,a1,of.1,l1.1,eq_false bz,eq_true bN,Bool.false_and,Bool.and_false,↓ah,ao,simprocAttr]
     exact bV
   by_cases c3:t.a<0
   · rw [decide_eq_false (show ¬0≤t.a by omega)]
     simp +contextual only [ol.1,ol.2.1,al,aq,rl.g,rm.g,eh.g,xx,xy,jo,a1,of.1,l1.1,eq_false bz,eq_false bN,eq_true c3,Bool.false_and,Bool.and_false,↓ah,ao,simprocAttr]
     exact bV
   by_cases gb:65536<t.a
   · rw [decide_eq_false (show ¬t.a≤65536 by omega)]
     simp +contextual only [ol.1,ol.2.1,al,aq,rl.g,rm.g,eh.g,xx,xy,jo,a1,of.1,l1.1,eq_false bz,eq_false bN,eq_false c3,eq_true gb,Bool.false_and,Bool.and_false,↓ah,ao,simprocAttr]
     exact bV
   rw [decide_eq_true (show r.bm≤t.n by omega),decide_eq_true (show t.n≤r.av by omega),decide_eq_true (show 0≤t.a by omega),decide_eq_true (show t.a≤65536 by omega)]
   simp +contextual only [ol.1,ol.2.1,al,aq,rl.g,rm.g,eh.g,xx,xy,jo,a1,of.1,l1.1,eq_false bz,eq_false bN,eq_false c3,eq_false gb,Bool.true_and,↓ah,ao,simprocAttr]
   refine bK (aiX r.s t.s ae) ?_
   rintro x aI ⟨rfl,cc⟩
   have xm:=rm.ext cc
   have w7:=eh.ext cc
   have f_:=bV.trans cc
   cases c5:wY dr r.s t.s with
   | false=>
     simp +contextual only [Bool.false_and,↓ah,ao,simprocAttr]
     exact f_
   | true=>
   have SN:bI Any aI 1 (r.first.map aS.encI) jN:=(Kj.ext (aO.trans cc)).hQ fun _ _=>trivial
   have D7:bI Any aI 1 (r.last.map aS.encI) qI:=(Ku.ext (aO.trans cc)).hQ fun _ _=>trivial
   have HM:∀(dJ:List Int),dJ.length≤64→IntKind.i64.wrap (IntKind.i64.wrap ((t.l.length:Int) - (dJ.length:Int)) - (r.last.length:Int))=(t.l.length:Int)-dJ.length-r.last.length:=fun dJ ka=>by
    rw [wrap_i64 (n:=(t.l.length:Int) - (dJ.length:Int)) (by omega) (by omega),wrap_i64 (by omega) (by omega)]
   have NJ:=D7.len
   rw [List.length_map] at NJ
   by_cases xJ:t.k=50
   obtain ⟨akT,akz⟩:=ahQ xJ
   obtain ⟨n,aX⟩:=Int.eq_ofNat_of_zero_le (show 0≤t.n by omega)
   obtain ⟨bu,bG,fy,Z⟩:=ns aI 1 1 [.int .i64 8] rfl (by unfold top;omega)
   have KC:=xm.ext fy
   have g3:=xm.g
   have g4:=KC.g
   rw [aX] at g3 g4
   simp +contextual only [g3,g4,w7.g,bG,eq_true xJ,aX,↓ah,ao,simprocAttr]
   refine bK (ahz _ 8 n (by omega) bu Z.v) ?_
   rintro Bo cf ⟨w_,ir⟩
   have ya:firstM r t.k t.n=List.replicate n 8:=by unfold firstM;rw [if_pos xJ,aX];rfl
   rw [←ya] at w_
   have sE:=KC.ext ir
   have pJ:=(w7.ext fy).ext ir
   have ga:=(f_.trans fy).trans ir
   have Kv:=(D7.ext fy).ext ir
   have Ny:(firstM r t.k t.n).length≤64:=by rw [ya,List.length_replicate];omega
   rw [←aX]
   rotate_left
   have ya:firstM r t.k t.n=r.first:=by unfold firstM;rw [if_neg xJ]
   have w_:=SN
   rw [←ya] at w_
   have sE:=xm
   have pJ:=w7
   have ga:=f_
   have Kv:=D7
   have Ny:(firstM r t.k t.n).length≤64:=by rw [ya];omega
   simp +contextual only [sE.g,pJ.g,eq_false xJ,↓ah,ao,simprocAttr]
   all_goals
    have hf:=w_.len
    rw [List.length_map] at hf
    have oe:=HM (firstM r t.k t.n) Ny
    simp +contextual only [sE.g,pJ.g,ak,hf,NJ,oe,↓ah,ao,simprocAttr]
    have vR:fl r t.k t.n t.l.length=(t.l.length:Int) - (firstM r t.k t.n).length-r.last.length:=rfl
    rw [←vR]
    by_cases d1:fl r t.k t.n t.l.length<r.least
    · have cI:hy r t.k t.n t.l.length=false:=by unfold hy;rw [decide_eq_false (by omega)];rfl
      simp +contextual only [eq_true d1,cI,Bool.and_false,Bool.false_and,sE.g,pJ.g,↓ah,ao,simprocAttr]
      exact ga
    by_cases d2:r.jr<fl r t.k t.n t.l.length
    · have cI:hy r t.k t.n t.l.length=false:=by unfold hy;rw [decide_eq_false (show ¬fl r t.k t.n t.l.length≤r.jr by omega),Bool.and_false]
      simp +contextual only [eq_false d1,eq_true d2,cI,Bool.and_false,Bool.false_and,sE.g,pJ.g,↓ah,ao,simprocAttr]
      exact ga
    have cI:hy r t.k t.n t.l.length=true:=by unfold hy;rw [decide_eq_true (show r.least≤_ by omega),decide_eq_true (show fl r t.k t.n t.l.length≤r.jr by omega)];rfl
    have bb:0≤fl r t.k t.n t.l.length:=by omega
    simp +contextual only [eq_false d1,eq_false d2,cI,ak,Bool.true_and,sE.g,pJ.g,↓ah,ao,simprocAttr]
    have qk:=M9 bb
    have ZV:=fun (i:Nat) (av:i<t.l.length)=>aan (r:=r) (k:=t.k) (n:=t.n) bb av
    have akK:fl r t.k t.n t.l.length≤t.l.length:=by unfold fl;omega
    have Hx:(t.l.length:Int)=(firstM r t.k t.n).length+fl r t.k t.n t.l.length+r.last.length:=by unfold fl;omega
    generalize lG r t.k t.n t.l.length=gs at *
    generalize fl r t.k t.n t.l.length=rest at *
    obtain ⟨qS,rfl⟩:=Int.eq_ofNat_of_zero_le bb
    generalize firstM r t.k t.n=bY at *
    refine fD (fun R g=>R 0=dz∧R 3=.ptr (aC h.next) 0∧R 5=.ptr (aC aa.next) 0∧R 8=.int .i64 qS∧R 85=cl∧R 86=.int .i64 t.l.length∧(∃Bo,R 7=Bo∧bI Any g 1 (bY.map aS.encI) Bo)∧bI Any g 1 (r.last.map aS.encI) qI∧
     Has g h.next [.int .i64 t.k,.int .i64 t.n,.int .i64 t.a,.str t.s,cl]∧Has g aa.next [jN,.int .i64 r.rest,.int .i64 r.least,.int .i64 r.jr,qI,.int .i64 r.bm,.int .i64 r.av,.int .i64 r.s]∧Ext h g∧
     ∃i:Nat,R 87=.int .i64 i∧i≤t.l.length∧j2 dr gs t.l=j2 dr (gs.drop i) (t.l.drop i)) (fun R g=>t.l.length - (R 87).toN) ?_ ?_
    · exact ⟨by simp only [↓ah,bA,simprocAttr],by simp only [↓ah,bA,simprocAttr],by simp only [↓ah,bA,simprocAttr],by simp only [↓ah,bA,simprocAttr]<;>rfl,by simp only [↓ah,bA,simprocAttr],by simp only [↓ah,bA,simprocAttr],⟨_,by simp only [↓ah,bA,simprocAttr],w_⟩,Kv,sE,pJ,ga,0,by simp only [↓ah,bA,simprocAttr]<;>rfl,by omega,rfl⟩
    rintro R g ⟨bF,bX,cu,d',sc,sd,⟨Bo,ft,DK⟩,mO,P,B,E,i,se,av,bl⟩
    unfold Lp
    by_cases aN:i<t.l.length
    · have g0:((i:Int) < (t.l.length:Int))=True:=eq_true (by omega)
      obtain ⟨b,off,wl,b_,X,gr,ld,_,_,_⟩:=aM.we (L.ext E) (k:=.i64) aN
      have h7:=ld g (Ext.refl g)
      have ej:=gr.one
      have dM:=ik aN (by unfold top at hle;omega)
      have NH:=mD (t:=t) (List.getElem_mem aN)
      have hf:=DK.len
      rw [List.length_map] at hf
      obtain ⟨g1,d_,bo,Z⟩:=ja g [.int .i64 0,.int .i64 0,.int .i64 0,.str [],.bW] [.int .i64 t.l[i].k,.int .i64 t.l[i].n,.int .i64 t.l[i].a,.str t.l[i].s,wl]
      have rl:=P.ext bo
      have oH:=B.ext bo
      have mf:=ZV i aN
      have G:gs[i]? =some gs[i]:=List.getElem?_eq_getElem (by omega)
      rw [List.drop_eq_getElem_cons aN,List.drop_eq_getElem_cons (show i<gs.length by omega),j2] at bl
      rw [G] at mf
      have mf:=Option.some.inj mf
      generalize gs[i]=Km at *
      have bU:IntKind.i64.wrap ((bY.length:Int) + (qS:Int))=((bY.length+qS:Nat):Int):=by rw [wrap_i64 (by omega) (by omega)];omega
      by_cases bM:i<bY.length
      have Az:((i:Int) < (bY.length:Int))=True:=eq_true (by omega)
      obtain ⟨cb,wC,iB,mw⟩:=(DK.ext bo).H2 (k:=.i64) bM
      have d2:=mw g1 (Ext.refl g1)
      rw [dif_pos bM] at mf
      rw [←mf] at d2
      simp +contextual only [bF,bX,cu,ft,d',sc,sd,se,g0,b_,h7,ej.1,ej.2.1,d_,Z.g,oH.g,hf,Az,iB,d2,↓ah,ao,simprocAttr]
      rotate_left
      rw [dif_neg bM] at mf
      have Az:((i:Int) < (bY.length:Int))=False:=eq_false (by omega)
      by_cases a2:bY.length+qS≤i
      have Eh:(((bY.length+qS:Nat):Int)≤(i:Int))=True:=eq_true (by omega)
      have bQ:IntKind.i64.wrap (IntKind.i64.wrap ((i:Int) - (bY.length:Int)) - (qS:Int))=((i - (bY.length+qS):Nat):Int):=by rw [wrap_i64 (n:=(i:Int) - (bY.length:Int)) (by omega) (by omega),wrap_i64 (by omega) (by omega)];omega
      obtain ⟨cb,wC,iB,mw⟩:=(mO.ext bo).H2 (k:=.i64) (i:=i - (bY.length+qS)) (by omega)
      have d2:=mw g1 (Ext.refl g1)
      rw [if_neg (by omega),Int.toNat_natCast,List.getElem?_eq_getElem (by omega),Option.getD_some] at mf
      rw [←mf] at d2
      simp +contextual only [bF,bX,cu,ft,d',sc,sd,se,g0,b_,h7,ej.1,ej.2.1,d_,Z.g,oH.g,hf,Az,Eh,bU,bQ,iB,d2,↓ah,ao,simprocAttr]
      rotate_left
      have Eh:(((bY.length+qS:Nat):Int)≤(i:Int))=False:=eq_false (by omega)
      rw [if_pos (by omega)] at mf
      simp +contextual only [bF,bX,cu,ft,d',sc,sd,se,g0,b_,h7,ej.1,ej.2.1,d_,Z.g,oH.g,hf,Az,Eh,bU,←mf,↓ah,ao,simprocAttr]
      all_goals
       refine bK (acV t.l[i] Km _ g1 (X.ext bo)) ?_
       rintro x g2 ⟨rfl,aO⟩
       have xt:=Z.ext aO
       have sr:=bo.trans aO
       cases Fq:rR t.l[i].k Km with
       | false=>
         rw [Fq,Bool.false_and,Bool.false_and] at bl
         simp +contextual only [bF,bX,cu,d',sc,sd,se,xt.g,↓ah,ao,simprocAttr]
         exact ⟨by rw [bl],E.trans sr⟩
       | true=>
         simp +contextual only [bF,bX,cu,d',sc,sd,se,xt.g,ej.1,ej.2.1,↓ah,ao,simprocAttr]
         refine bK (Pr N t.l[i] (by omega) bD dz F _ g2 (M.ext (E.trans sr)) (X.ext sr)) ?_
         rintro x g3 ⟨rfl,cc⟩
         have uy:=sr.trans cc
         cases lx:t.l[i].may dr with
         | false=>
           rw [lx,Bool.and_false,Bool.false_and] at bl
           simp +contextual only [bF,bX,cu,d',sc,sd,se,↓ah,ao,simprocAttr]
           exact ⟨by rw [bl],E.trans uy⟩
         | true=>
           rw [Fq,lx,Bool.true_and,Bool.true_and] at bl
           simp +contextual only [bF,bX,cu,ft,d',sc,sd,se,dM,↓ah,ao,simprocAttr]
           exact ⟨⟨DK.ext uy,mO.ext uy,P.ext uy,(by first | exact B.ext uy | (rw [mf];exact B.ext uy)),E.trans uy,i+1,rfl,aN,bl⟩,by omega⟩
    · have g0:((i:Int) < (t.l.length:Int))=False:=eq_false (by omega)
      rw [List.drop_eq_nil_of_le (show t.l.length≤i by omega),j2] at bl
      simp +contextual only [bF,bX,cu,d',sc,sd,se,g0,↓ah,ao,simprocAttr]
      exact ⟨by rw [bl],E⟩
end Go.Proofs.YtkehcalakofigaaGreatDoor
