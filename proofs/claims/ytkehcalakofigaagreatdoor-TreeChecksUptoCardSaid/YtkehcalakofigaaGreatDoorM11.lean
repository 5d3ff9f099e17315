/- The abstract machine and its walks (a verified interpreter of the model's code: plain definitions and lemmas, no condition). Printed by a program from longer texts: names made short. -/
import Derived.Test.YtkehcalakofigaaGreatDoorM9
import Derived.Test.YtkehcalakofigaaGreatDoorM5
set_option linter.unusedSectionVars false
set_option linter.unusedSimpArgs false
set_option linter.unusedVariables false
namespace Go.Proofs.YtkehcalakofigaaGreatDoor.a1
variable [Lay]
open Go Go.RowKit
theorem L3 (z:V):∀n,gV [z] n=List.replicate n z
 | 0=>rfl
 | n+1=>by rw [gV,L3 z n];rfl
theorem Zd {h:ae} {n:Nat} {z:V} {k bl:IntKind} (a7:n≤1000000):tG 1 [z] (.int k (n:Int)) (.int bl (n:Int)) h=.val (.slice (aH h.next) 0 n n) (h.new (.bk (List.replicate n z) 0 false)):=by
 unfold tG
 simp only [V.dB,lI,List.length_singleton,Int.toNat_natCast]
 rw [show (decide ((0:Int)≤(n:Int))&&(decide ((n:Int)≤(n:Int))&&decide ((n:Int)≤1000000))&&Nat.beq 1 1)=true from by
  rw [decide_eq_true (by omega),decide_eq_true (by omega),decide_eq_true (by omega)];rfl]
 rw [cond_true,L3,KW (by rw [List.length_replicate];unfold top;omega)]
theorem h2.pre {h:ae} {b:aO} {off k:Nat} {ab:List V} (H:h2 h b off ab):h2 h b off (ab.take k):=by
 obtain ⟨bK,us,a2,a3,a4⟩:=H
 refine ⟨bK,us,a2,by rw [List.length_take];omega,?_⟩
 rw [List.length_take,←a4,List.take_take]
 have:((us.drop off).take ab.length).length=ab.length:=by rw [a4]
 congr 1
 omega
theorem abY {h:ae} {v:V} {n k:Nat} {ab:List V} (H:eZ h 1 v n ab) (aA:k≤n):qi h 1 v k=some (ab.take k):=by
 obtain ⟨U,ad⟩:=H
 have ai:(ab.take k).length=k * 1:=by rw [List.length_take];omega
 cases v<;>simp only at ad<;>try (exact ad.elim)
 case cq=>
  obtain rfl:k=0:=by omega
  rfl
 case slice=>exact wS ad.2.pre ai
 case dP=>exact wS ad.2.pre ai
 case fy=>
  obtain rfl:k=0:=by omega
  rfl
theorem Yz {h:ae} {b:aO} {off:Nat} {us ws:List V} (g:h.get b=.bk us 0 false) (aP:eb ws=true) (ai:off+ws.length≤us.length):lay h b off ws=some (h.set b (.bk (hh us off ws) 0 false)):=by
 unfold lay
 rw [g]
 simp only [bV.bk,bV.on]
 rw [show Nat.ble (off+ws.length) us.length=true from by rw [Nat.ble_eq];exact ai,aP]
 simp only [Bool.and_true,cond_true,Option.some.injEq]
 rw [Ad us off _ ai,zI _ us off ai]
theorem Le:∀(ab:List V) (k:Nat),eb ab=true→eb (ab.take k)=true
 | _,0,_=>by simp [eb]
 | [],k+1,_=>by simp [eb]
 | v::ab,k+1,h=>by
   simp only [eb,Bool.and_eq_true] at h
   simp only [List.take_succ_cons,eb,h.1,Le ab k h.2,Bool.and_self]
theorem copy_eq {h:ae} {b:aO} {off l c m:Nat} {s:V} {us ab:List V} (H:eZ h 1 s m ab) (g:h.get b=.bk us 0 false) (ai:off+Nat.min m l≤us.length) (aP:eb ab=true):
 copyV 1 (.slice b off l c) s h=.val (.int .i64 (Nat.min m l:Nat)) (h.set b (.bk (hh us off (ab.take (Nat.min m l))) 0 false)):=by
 have bx:=H.1
 have aE:kZ (.slice b off l c)=some l:=rfl
 have Vi:Nat.min m l≤m:=Nat.min_le_left _ _
 unfold copyV
 rw [aE,Ky H]
 simp only [abY H Vi]
 rw [Yz g (Le _ _ aP) (by rw [List.length_take];omega)]
theorem St {b:aO} {i n:Nat} {k:IntKind} (h:i<n):oX 1 (.slice b 0 n n) (some (.int k (i:Int))) none none=some (.slice b i (n-i) (n-i)):=by
 simp only [oX,qh,xH,GY (show i≤n by omega)]
 rw [show Nat.beq n i=false from by rw [←Bool.not_eq_true,Nat.beq_eq];omega]
 simp
theorem Ss {b:aO} {i n:Nat} {k:IntKind} (h:i≤n) (aB:1≤i):oX 1 (.slice b 0 n n) none (some (.int k (i:Int))) none=some (.slice b 0 i n):=by
 simp only [oX,qh,xH,GY h]
 simp
def yc:V→Bool
 | .bool _=>true
 | .int _ _=>true
 | .str _=>true
 | _=>false
theorem aaZ {E av:Env} {v:V} {x:Value} (h:yc v=true) (q:Rel E v x):Rel av v x:=by
 cases v<;>simp only [yc] at h<;>first | (cases h;done) | simpa only [Rel] using q
theorem L1 {E av:Env}:∀{ab:List V} {xs:List Value},ab.all yc=true→aY E ab xs→aY av ab xs
 | [],xs,_,q=>by simpa only [aY] using q
 | v::ab,xs,h,q=>by
   rw [List.all_cons,Bool.and_eq_true] at h
   simp only [aY] at q ⊢
   obtain ⟨y,b2,aj,ay,aK⟩:=q
   exact ⟨y,b2,aj,aaZ h.1 ay,L1 h.2 aK⟩
theorem Tm {C:Ctx} (cR:C.P.follows .mixedOrders=true) (bw:dJ C.P) (fg:l0 C) {n:Nat} {f:FuncId} {args:List V} {ar:ae} {v:V} (bm:args.all yc=true) (ax:Nat.beq f cM=false) (ao:C.ext f=none) (gq:∃fn,C.P.funcs[f]? =some fn∧fn.body.isSome=true)
 (he:ob C n f args ae.empty=.val v ar) (h:ae):eo C.P f args h (v.cz h.next) (h.app ar):=by
 refine ⟨fun e=>by subst e;simp at ax,.inl ⟨gq,fun aw E w xs ai s=>?_⟩⟩
 obtain ⟨_,hD⟩:=B8 cR bw fg ax ao he (aw:=⟨w,fun _=>none⟩) (E:=fun _=>none) (w:=w) (xs:=xs) (L1 bm ai) (z8 w (Lay.fc s.laid s.frame))
 refine hD.mono fun e al aF=>?_
 obtain ⟨av,x,rfl,_,ay,aK⟩:=aF
 exact ⟨_,x,rfl,A2 s,oR aK _ _ ay,Mr s aK⟩
end Go.Proofs.YtkehcalakofigaaGreatDoor.a1
