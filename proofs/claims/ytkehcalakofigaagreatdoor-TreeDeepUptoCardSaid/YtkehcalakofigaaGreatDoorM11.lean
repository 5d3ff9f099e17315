/- The abstract machine and its walks (a verified interpreter of the model's code: plain definitions and lemmas, no condition). Printed by a program from longer texts: names made short. -/
import Derived.Test.YtkehcalakofigaaGreatDoorM9
import Derived.Test.YtkehcalakofigaaGreatDoorM5
set_option linter.unusedSectionVars false
set_option linter.unusedSimpArgs false
set_option linter.unusedVariables false
namespace Go.Proofs.YtkehcalakofigaaGreatDoor.aY
variable [Lay]
open Go Go.RowKit
theorem LL (z:V):∀n,gM [z] n=List.replicate n z
 | 0=>rfl
 | n+1=>by rw [gM,LL z n];rfl
theorem YJ {h:ae} {n:Nat} {z:V} {k bl:IntKind} (a7:n≤1000000):tC 1 [z] (.int k (n:Int)) (.int bl (n:Int)) h=.val (.slice (aG h.next) 0 n n) (h.new (.bk (List.replicate n z) 0 false)):=by
 unfold tC
 simp only [V.dz,lD,List.length_singleton,Int.toNat_natCast]
 rw [show (decide ((0:Int)≤(n:Int))&&(decide ((n:Int)≤(n:Int))&&decide ((n:Int)≤1000000))&&Nat.beq 1 1)=true from by
  rw [decide_eq_true (by omega),decide_eq_true (by omega),decide_eq_true (by omega)];rfl]
 rw [cond_true,LL,KE (by rw [List.length_replicate];unfold top;omega)]
theorem hX.pre {h:ae} {b:aN} {off k:Nat} {ab:List V} (H:hX h b off ab):hX h b off (ab.take k):=by
 obtain ⟨bN,us,a2,a3,a4⟩:=H
 refine ⟨bN,us,a2,by rw [List.length_take];omega,?_⟩
 rw [List.length_take,←a4,List.take_take]
 have:((us.drop off).take ab.length).length=ab.length:=by rw [a4]
 congr 1
 omega
theorem abp {h:ae} {v:V} {n k:Nat} {ab:List V} (H:eW h 1 v n ab) (az:k≤n):qc h 1 v k=some (ab.take k):=by
 obtain ⟨U,ad⟩:=H
 have aj:(ab.take k).length=k * 1:=by rw [List.length_take];omega
 cases v<;>simp only at ad<;>try (exact ad.elim)
 case cq=>
  obtain rfl:k=0:=by omega
  rfl
 case slice=>exact wO ad.2.pre aj
 case dQ=>exact wO ad.2.pre aj
 case fA=>
  obtain rfl:k=0:=by omega
  rfl
theorem X4 {h:ae} {b:aN} {off:Nat} {us ws:List V} (g:h.get b=.bk us 0 false) (aP:ef ws=true) (aj:off+ws.length≤us.length):lay h b off ws=some (h.set b (.bk (gZ us off ws) 0 false)):=by
 unfold lay
 rw [g]
 simp only [bS.bk,bS.on]
 rw [show Nat.ble (off+ws.length) us.length=true from by rw [Nat.ble_eq];exact aj,aP]
 simp only [Bool.and_true,cond_true,Option.some.injEq]
 rw [z' us off _ aj,zD _ us off aj]
theorem KZ:∀(ab:List V) (k:Nat),ef ab=true→ef (ab.take k)=true
 | _,0,_=>by simp [ef]
 | [],k+1,_=>by simp [ef]
 | v::ab,k+1,h=>by
   simp only [ef,Bool.and_eq_true] at h
   simp only [List.take_succ_cons,ef,h.1,KZ ab k h.2,Bool.and_self]
theorem copy_eq {h:ae} {b:aN} {off l c m:Nat} {s:V} {us ab:List V} (H:eW h 1 s m ab) (g:h.get b=.bk us 0 false) (aj:off+Nat.min m l≤us.length) (aP:ef ab=true):
 copyV 1 (.slice b off l c) s h=.val (.int .i64 (Nat.min m l:Nat)) (h.set b (.bk (gZ us off (ab.take (Nat.min m l))) 0 false)):=by
 have bw:=H.1
 have aF:kT (.slice b off l c)=some l:=rfl
 have UJ:Nat.min m l≤m:=Nat.min_le_left _ _
 unfold copyV
 rw [aF,Ke H]
 simp only [abp H UJ]
 rw [X4 g (KZ _ _ aP) (by rw [List.length_take];omega)]
theorem RS {b:aN} {i n:Nat} {k:IntKind} (h:i<n):oT 1 (.slice b 0 n n) (some (.int k (i:Int))) none none=some (.slice b i (n-i) (n-i)):=by
 simp only [oT,qb,xB,GK (show i≤n by omega)]
 rw [show Nat.beq n i=false from by rw [←Bool.not_eq_true,Nat.beq_eq];omega]
 simp
theorem RR {b:aN} {i n:Nat} {k:IntKind} (h:i≤n) (aC:1≤i):oT 1 (.slice b 0 n n) none (some (.int k (i:Int))) none=some (.slice b 0 i n):=by
 simp only [oT,qb,xB,GK h]
 simp
def x8:V→Bool
 | .bool _=>true
 | .int _ _=>true
 | .str _=>true
 | _=>false
theorem aas {E ar:Env} {v:V} {x:Value} (h:x8 v=true) (q:Rel E v x):Rel ar v x:=by
 cases v<;>simp only [x8] at h<;>first | (cases h;done) | simpa only [Rel] using q
theorem LJ {E ar:Env}:∀{ab:List V} {xs:List Value},ab.all x8=true→aZ E ab xs→aZ ar ab xs
 | [],xs,_,q=>by simpa only [aZ] using q
 | v::ab,xs,h,q=>by
   rw [List.all_cons,Bool.and_eq_true] at h
   simp only [aZ] at q ⊢
   obtain ⟨y,bZ,ai,ay,aK⟩:=q
   exact ⟨y,bZ,ai,aas h.1 ay,LJ h.2 aK⟩
theorem SM {C:Ctx} (cO:C.P.follows .mixedOrders=true) (bt:dJ C.P) (fh:lT C) {n:Nat} {f:FuncId} {args:List V} {aq:ae} {v:V} (bm:args.all x8=true) (ax:Nat.beq f cJ=false) (ao:C.ext f=none) (gk:∃fn,C.P.funcs[f]? =some fn∧fn.body.isSome=true)
 (he:nZ C n f args ae.empty=.val v aq) (h:ae):eh C.P f args h (v.cA h.next) (h.app aq):=by
 refine ⟨fun e=>by subst e;simp at ax,.inl ⟨gk,fun au E w xs aj s=>?_⟩⟩
 obtain ⟨_,hx⟩:=B2 cO bt fh ax ao he (au:=⟨w,fun _=>none⟩) (E:=fun _=>none) (w:=w) (xs:=xs) (LJ bm aj) (zY w (Lay.fH s.laid s.frame))
 refine hx.mono fun e ak aE=>?_
 obtain ⟨ar,x,rfl,_,ay,aK⟩:=aE
 exact ⟨_,x,rfl,AZ s,oN aK _ _ ay,L' s aK⟩
end Go.Proofs.YtkehcalakofigaaGreatDoor.aY
