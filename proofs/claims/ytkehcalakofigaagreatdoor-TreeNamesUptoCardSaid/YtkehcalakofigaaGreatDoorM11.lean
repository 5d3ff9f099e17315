/- The abstract machine and its walks (a verified interpreter of the model's code: plain definitions and lemmas, no condition). Printed by a program from longer texts: names made short. -/
import Derived.Test.YtkehcalakofigaaGreatDoorM7
import Derived.Test.YtkehcalakofigaaGreatDoorM5
set_option linter.unusedSectionVars false
set_option linter.unusedSimpArgs false
set_option linter.unusedVariables false
namespace Go.Proofs.YtkehcalakofigaaGreatDoor.aS
variable [Lay]
open Go Go.RowKit
theorem QQ (z:V):∀n,hN [z] n=List.replicate n z
 | 0=>rfl
 | n+1=>by rw [hN,QQ z n];rfl
theorem afE {h:af} {n:Nat} {z:V} {k bn:IntKind} (aX:n≤1000000):wm 1 [z] (.int k (n:Int)) (.int bn (n:Int)) h=.val (.slice (aC h.next) 0 n n) (h.new (.bh (List.replicate n z) 0 false)):=by
 unfold wm
 simp only [V.dV,nq,List.length_singleton,Int.toNat_natCast]
 rw [show (decide ((0:Int)≤(n:Int))&&(decide ((n:Int)≤(n:Int))&&decide ((n:Int)≤1000000))&&Nat.beq 1 1)=true from by
  rw [decide_eq_true (by omega),decide_eq_true (by omega),decide_eq_true (by omega)];rfl]
 rw [cond_true,QQ,Py (by rw [List.length_replicate];unfold top;omega)]
theorem il.pre {h:af} {b:aQ} {off k:Nat} {ad:List V} (H:il h b off ad):il h b off (ad.take k):=by
 obtain ⟨bM,us,a2,a3,a4⟩:=H
 refine ⟨bM,us,a2,by rw [List.length_take];omega,?_⟩
 rw [List.length_take,←a4,List.take_take]
 have:((us.drop off).take ad.length).length=ad.length:=by rw [a4]
 congr 1
 omega
theorem aiA {h:af} {v:V} {n k:Nat} {ad:List V} (H:et h 1 v n ad) (aD:k≤n):sk h 1 v k=some (ad.take k):=by
 obtain ⟨aa,ae⟩:=H
 have ak:(ad.take k).length=k * 1:=by rw [List.length_take];omega
 cases v<;>simp only at ae<;>try (exact ae.elim)
 case bW=>
  obtain rfl:k=0:=by omega
  rfl
 case slice=>exact zB ae.2.pre ak
 case dK=>exact zB ae.2.pre ak
 case fu=>
  obtain rfl:k=0:=by omega
  rfl
theorem aeX {h:af} {b:aQ} {off:Nat} {us ws:List V} (g:h.get b=.bh us 0 false) (aU:eg ws=true) (ak:off+ws.length≤us.length):lay h b off ws=some (h.set b (.bh (gp us off ws) 0 false)):=by
 unfold lay
 rw [g]
 simp only [b3.bh,b3.on]
 rw [show Nat.ble (off+ws.length) us.length=true from by rw [Nat.ble_eq];exact ak,aU]
 simp only [Bool.and_true,cond_true,Option.some.injEq]
 rw [oB us off _ ak,C1 _ us off ak]
theorem PY:∀(ad:List V) (k:Nat),eg ad=true→eg (ad.take k)=true
 | _,0,_=>by simp [eg]
 | [],k+1,_=>by simp [eg]
 | v::ad,k+1,h=>by
   simp only [eg,Bool.and_eq_true] at h
   simp only [List.take_succ_cons,eg,h.1,PY ad k h.2,Bool.and_self]
theorem copy_eq {h:af} {b:aQ} {off l c m:Nat} {s:V} {us ad:List V} (H:et h 1 s m ad) (g:h.get b=.bh us 0 false) (ak:off+Nat.min m l≤us.length) (aU:eg ad=true):
 copyV 1 (.slice b off l c) s h=.val (.int .i64 (Nat.min m l:Nat)) (h.set b (.bh (gp us off (ad.take (Nat.min m l))) 0 false)):=by
 have bs:=H.1
 have aB:my (.slice b off l c)=some l:=rfl
 have abB:Nat.min m l≤m:=Nat.min_le_left _ _
 unfold copyV
 rw [aB,O2 H]
 simp only [aiA H abB]
 rw [aeX g (PY _ _ aU) (by rw [List.length_take];omega)]
theorem YJ {b:aQ} {i n:Nat} {k:IntKind} (h:i<n):g_ 1 (.slice b 0 n n) (some (.int k (i:Int))) none none=some (.slice b i (n-i) (n-i)):=by
 simp only [g_,pB,sN,u1 (show i≤n by omega)]
 rw [show Nat.beq n i=false from by rw [←Bool.not_eq_true,Nat.beq_eq];omega]
 simp
theorem YI {b:aQ} {i n:Nat} {k:IntKind} (h:i≤n) (av:1≤i):g_ 1 (.slice b 0 n n) none (some (.int k (i:Int))) none=some (.slice b 0 i n):=by
 simp only [g_,pB,sN,u1 h]
 simp
def Bl:V→Bool
 | .bool _=>true
 | .int _ _=>true
 | .str _=>true
 | _=>false
theorem ahy {E ay:Env} {v:V} {x:Value} (h:Bl v=true) (q:Rel E v x):Rel ay v x:=by
 cases v<;>simp only [Bl] at h<;>first | (cases h;done) | simpa only [Rel] using q
theorem QO {E ay:Env}:∀{ad:List V} {xs:List Value},ad.all Bl=true→a_ E ad xs→a_ ay ad xs
 | [],xs,_,q=>by simpa only [a_] using q
 | v::ad,xs,h,q=>by
   rw [List.all_cons,Bool.and_eq_true] at h
   simp only [a_] at q ⊢
   obtain ⟨y,cm,al,aq,aK⟩:=q
   exact ⟨y,cm,al,ahy h.1 aq,QO h.2 aK⟩
theorem ZF {C:Ctx} (c1:C.P.follows .mixedOrders=true) (bD:ec C.P) (fT:nJ C) {n:Nat} {f:FuncId} {args:List V} {aw:af} {v:V} (br:args.all Bl=true) (aA:Nat.beq f c7=false) (au:C.ext f=none) (hg:∃fn,C.P.funcs[f]? =some fn∧fn.body.isSome=true)
 (he:p3 C n f args af.empty=.val v aw) (h:af):eM C.P f args h (v.cQ h.next) (h.app aw):=by
 refine ⟨fun e=>by subst e;simp at aA,.inl ⟨hg,fun az E w xs ak s=>?_⟩⟩
 obtain ⟨_,iw⟩:=FF c1 bD fT aA au he (az:=⟨w,fun _=>none⟩) (E:=fun _=>none) (w:=w) (xs:=xs) (QO br ak) (Dh w (Lay.e8 s.laid s.frame))
 refine iw.mono fun e ar aF=>?_
 obtain ⟨ay,x,rfl,_,aq,aK⟩:=aF
 exact ⟨_,x,rfl,El s,qP aK _ _ aq,Rl s aK⟩
end Go.Proofs.YtkehcalakofigaaGreatDoor.aS
