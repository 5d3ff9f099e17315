/- The abstract machine and its walks (a verified interpreter of the model's code: plain definitions and lemmas, no condition). Printed by a program from longer texts: names made short. -/
import Derived.Test.YtkehcalakofigaaGreatDoorM7
import Derived.Test.YtkehcalakofigaaGreatDoorM5
set_option linter.unusedSectionVars false
set_option linter.unusedSimpArgs false
set_option linter.unusedVariables false
namespace Go.Proofs.YtkehcalakofigaaGreatDoor.aS
variable [Lay]
open Go Go.RowKit
theorem Pz (z:V):∀n,hh [z] n=List.replicate n z
 | 0=>rfl
 | n+1=>by rw [hh,Pz z n];rfl
theorem adm {h:af} {n:Nat} {z:V} {k bl:IntKind} (aZ:n≤1000000):vg 1 [z] (.int k (n:Int)) (.int bl (n:Int)) h=.val (.slice (ay h.next) 0 n n) (h.new (.bq (List.replicate n z) 0 false)):=by
 unfold vg
 simp only [V.dJ,mr,List.length_singleton,Int.toNat_natCast]
 rw [show (decide ((0:Int)≤(n:Int))&&(decide ((n:Int)≤(n:Int))&&decide ((n:Int)≤1000000))&&Nat.beq 1 1)=true from by
  rw [decide_eq_true (by omega),decide_eq_true (by omega),decide_eq_true (by omega)];rfl]
 rw [cond_true,Pz,N7 (by rw [List.length_replicate];unfold top;omega)]
theorem iy.pre {h:af} {b:aO} {off k:Nat} {ad:List V} (H:iy h b off ad):iy h b off (ad.take k):=by
 obtain ⟨bH,us,a2,a3,a4⟩:=H
 refine ⟨bH,us,a2,by rw [List.length_take];omega,?_⟩
 rw [List.length_take,←a4,List.take_take]
 have:((us.drop off).take ad.length).length=ad.length:=by rw [a4]
 congr 1
 omega
theorem age {h:af} {v:V} {n k:Nat} {ad:List V} (H:eL h 1 v n ad) (aA:k≤n):ru h 1 v k=some (ad.take k):=by
 obtain ⟨aa,ae⟩:=H
 have ai:(ad.take k).length=k * 1:=by rw [List.length_take];omega
 cases v<;>simp only at ae<;>try (exact ae.elim)
 case b4=>
  obtain rfl:k=0:=by omega
  rfl
 case slice=>exact yH ae.2.pre ai
 case dV=>exact yH ae.2.pre ai
 case fO=>
  obtain rfl:k=0:=by omega
  rfl
theorem acD {h:af} {b:aO} {off:Nat} {us ws:List V} (g:h.get b=.bq us 0 false) (aR:ed ws=true) (ai:off+ws.length≤us.length):lay h b off ws=some (h.set b (.bq (hB us off ws) 0 false)):=by
 unfold lay
 rw [g]
 simp only [bW.bq,bW.on]
 rw [show Nat.ble (off+ws.length) us.length=true from by rw [Nat.ble_eq];exact ai,aR]
 simp only [Bool.and_true,cond_true,Option.some.injEq]
 rw [Cm us off _ ai,BW _ us off ai]
theorem Ox:∀(ad:List V) (k:Nat),ed ad=true→ed (ad.take k)=true
 | _,0,_=>by simp [ed]
 | [],k+1,_=>by simp [ed]
 | v::ad,k+1,h=>by
   simp only [ed,Bool.and_eq_true] at h
   simp only [List.take_succ_cons,ed,h.1,Ox ad k h.2,Bool.and_self]
theorem copy_eq {h:af} {b:aO} {off l c m:Nat} {s:V} {us ad:List V} (H:eL h 1 s m ad) (g:h.get b=.bq us 0 false) (ai:off+Nat.min m l≤us.length) (aR:ed ad=true):
 copyV 1 (.slice b off l c) s h=.val (.int .i64 (Nat.min m l:Nat)) (h.set b (.bq (hB us off (ad.take (Nat.min m l))) 0 false)):=by
 have bp:=H.1
 have aN:lP (.slice b off l c)=some l:=rfl
 have Zb:Nat.min m l≤m:=Nat.min_le_left _ _
 unfold copyV
 rw [aN,NC H]
 simp only [age H Zb]
 rw [acD g (Ox _ _ aR) (by rw [List.length_take];omega)]
theorem Wc {b:aO} {i n:Nat} {k:IntKind} (h:i<n):p9 1 (.slice b 0 n n) (some (.int k (i:Int))) none none=some (.slice b i (n-i) (n-i)):=by
 simp only [p9,rr,zJ,JZ (show i≤n by omega)]
 rw [show Nat.beq n i=false from by rw [←Bool.not_eq_true,Nat.beq_eq];omega]
 simp
theorem Wb {b:aO} {i n:Nat} {k:IntKind} (h:i≤n) (az:1≤i):p9 1 (.slice b 0 n n) none (some (.int k (i:Int))) none=some (.slice b 0 i n):=by
 simp only [p9,rr,zJ,JZ h]
 simp
def Ar:V→Bool
 | .bool _=>true
 | .int _ _=>true
 | .str _=>true
 | _=>false
theorem afe {E ar:Env} {v:V} {x:Value} (h:Ar v=true) (q:Rel E v x):Rel ar v x:=by
 cases v<;>simp only [Ar] at h<;>first | (cases h;done) | simpa only [Rel] using q
theorem Px {E ar:Env}:∀{ad:List V} {xs:List Value},ad.all Ar=true→a8 E ad xs→a8 ar ad xs
 | [],xs,_,q=>by simpa only [a8] using q
 | v::ad,xs,h,q=>by
   rw [List.all_cons,Bool.and_eq_true] at h
   simp only [a8] at q ⊢
   obtain ⟨y,b',aq,av,aK⟩:=q
   exact ⟨y,b',aq,afe h.1 av,Px h.2 aK⟩
theorem W' {C:Ctx} (cO:C.P.follows .mixedOrders=true) (bx:dU C.P) (fy:mN C) {n:Nat} {f:FuncId} {args:List V} {ao:af} {v:V} (bn:args.all Ar=true) (ax:Nat.beq f cR=false) (ak:C.ext f=none) (gG:∃fn,C.P.funcs[f]? =some fn∧fn.body.isSome=true)
 (he:pd C n f args af.empty=.val v ao) (h:af):eS C.P f args h (v.cF h.next) (h.app ao):=by
 refine ⟨fun e=>by subst e;simp at ax,.inl ⟨gG,fun au E w xs ai s=>?_⟩⟩
 obtain ⟨_,h0⟩:=Ep cO bx fy ax ak he (au:=⟨w,fun _=>none⟩) (E:=fun _=>none) (w:=w) (xs:=xs) (Px bn ai) (Cf w (Lay.e5 s.laid s.frame))
 refine h0.mono fun e aj aC=>?_
 obtain ⟨ar,x,rfl,_,av,aK⟩:=aC
 exact ⟨_,x,rfl,Dj s,p4 aK _ _ av,P2 s aK⟩
end Go.Proofs.YtkehcalakofigaaGreatDoor.aS
