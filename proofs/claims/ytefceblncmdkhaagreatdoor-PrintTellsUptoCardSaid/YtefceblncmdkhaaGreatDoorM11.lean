/- The abstract machine and its walks (a verified interpreter of the model's code: plain definitions and lemmas, no condition). Printed by a program from longer texts: names made short. -/
import Derived.Test.YtefceblncmdkhaaGreatDoorM9
import Derived.Test.YtefceblncmdkhaaGreatDoorM5
set_option linter.unusedSectionVars false
set_option linter.unusedSimpArgs false
set_option linter.unusedVariables false
set_option maxHeartbeats 64000000
noncomputable section
namespace Go.Proofs.YtefceblncmdkhaaGreatDoor.bb
section
open Go Go.RowKit
variable [Lay]
theorem T9 (z:V):∀n,jr [z] n=List.replicate n z
 | 0=>rfl
 | n+1=>by rw [jr,T9 z n];rfl
theorem ahw {h:ah} {n:Nat} {z:V} {k bu:IntKind} (aX:n<=1000000):uy 1 [z] (.int k (n:Int)) (.int bu (n:Int)) h=.val (.slice (aD h.next) 0 n n) (h.new (.a_ (List.replicate n z) 0 false)):=by unfold uy;simp only [V.e0,pE,List.length_singleton,anI];rw [show (decide ((0:Int)<=(n:Int))&&(decide ((n:Int)<=(n:Int))&&decide ((n:Int)<=1000000))&&Nat.beq 1 1)=true from by rw [aoc (by omega),aoc (by omega),aoc (by omega)];rfl];rw [anC,T9,SS (by rw [anF];unfold top;omega)]
theorem i_.pre {h:ah} {b:aU} {off k:Nat} {ai:List V} (H:i_ h b off ai):i_ h b off (ai.take k):=by
 obtain ⟨bP,us,a2,a3,a4⟩:=H;refine ⟨bP,us,a2,by rw [aod];omega,?_⟩;rw [aod,<-a4,List.take_take];have:((us.drop off).take ai.length).length=ai.length:=by rw [a4]
 congr 1;omega
theorem akw {h:ah} {v:V} {n k:Nat} {ai:List V} (H:e3 h 1 v n ai) (ay:k<=n):rZ h 1 v k=some (ai.take k):=by
 obtain ⟨J,ad⟩:=H;have aw:(ai.take k).length=k * 1:=by rw [aod];omega
 cases v<;>simp only at ad<;>try (exact ad.elim)
 case cr=>
  obtain rfl:k=0:=by omega
  rfl
 case slice=>exact xg ad.2.pre aw
 case et=>exact xg ad.2.pre aw
 case gV=>
  obtain rfl:k=0:=by omega
  rfl
theorem agH {h:ah} {b:aU} {off:Nat} {us ws:List V} (g:h.get b=.a_ us 0 false) (a1:fi ws=true) (aw:off+ws.length<=us.length):lay h b off ws=some (h.set b (.a_ (iw us off ws) 0 false)):=by unfold lay;rw [g];simp only [cn.a_,cn.on];rw [show Nat.ble (off+ws.length) us.length=true from by rw [anS];exact aw,a1];simp only [aoz,anC,ant];rw [pS us off _ aw,FE _ us off aw]
theorem Te:∀(ai:List V) (k:Nat),fi ai=true->fi (ai.take k)=true
 | _,0,_=>by simp [fi]
 | [],k+1,_=>by simp [fi]
 | v::ai,k+1,h=>by simp only [fi,anu] at h;simp only [aoL,fi,h.1,Te ai k h.2,Bool.and_self]
theorem copy_eq {h:ah} {b:aU} {off l c m:Nat} {s:V} {us ai:List V} (H:e3 h 1 s m ai) (g:h.get b=.a_ us 0 false) (aw:off+Nat.min m l<=us.length) (a1:fi ai=true):
 copyV 1 (.slice b off l c) s h=.val (.int .i64 (Nat.min m l:Nat)) (h.set b (.a_ (iw us off (ai.take (Nat.min m l))) 0 false)):=by
 have bB:=H.1;have al:oo (.slice b off l c)=some l:=rfl;have acT:Nat.min m l<=m:=Nat.min_le_left _ _;unfold copyV;rw [al,Sl H];simp only [akw H acT];rw [agH g (Te _ _ a1) (by rw [aod];omega)]
theorem ZQ {b:aU} {i n:Nat} {k:IntKind} (h:i<n):gN 1 (.slice b 0 n n) (some (.int k (i:Int))) none none=some (.slice b i (n-i) (n-i)):=by simp only [gN,rY,vu,xX (show i<=n by omega)];rw [show Nat.beq n i=false from by rw [<-aof,an6];omega];simp
theorem ZP {b:aU} {i n:Nat} {k:IntKind} (h:i<=n) (au:1<=i):gN 1 (.slice b 0 n n) none (some (.int k (i:Int))) none=some (.slice b 0 i n):=by simp only [gN,rY,vu,xX h];simp
def D8:V->Bool
 | .bool _=>true
 | .int _ _=>true
 | .str _=>true
 | _=>false
theorem ajA {E ax:Env} {v:V} {x:Value} (h:D8 v=true) (q:Rel E v x):Rel ax v x:=by cases v<;>simp only [D8] at h<;>first | (cases h;done) | simpa only [Rel] using q
theorem T7 {E ax:Env}:∀{ai:List V} {xs:List Value},ai.all D8=true->bm E ai xs->bm ax ai xs
 | [],xs,_,q=>by simpa only [bm] using q
 | v::ai,xs,h,q=>by rw [aoy,anu] at h;simp only [bm] at q ⊢;obtain ⟨y,cT,ag,av,aJ⟩:=q;exact ⟨y,cT,ag,ajA h.1 av,T7 h.2 aJ⟩
theorem aaU {C:Ctx} (dE:C.P.follows .mixedOrders=true) (aM:fa C.P) (hC:p9 C) {n:Nat} {f:FuncId} {args:List V} {ao:ah} {v:V} (bF:args.all D8=true) (aA:Nat.beq f dy=false) (ar:C.ext f=none) (ig:∃fn,C.P.funcs[f]? =some fn/\fn.body.isSome=true)
 (he:sj C n f args ah.empty=.val v ao) (h:ah):ff C.P f args h (v.df h.next) (h.app ao):=by
 refine ⟨fun e=>by subst e;simp at aA,.inl ⟨ig,fun aB E w xs aw s=>?_⟩⟩;obtain ⟨_,kv⟩:=Hx dE aM hC aA ar he (aB:=⟨w,fun _=>none⟩) (E:=fun _=>none) (w:=w) (xs:=xs) (T7 bF aw) (F7 w (Lay.gw s.laid s.frame));refine kv.mono fun e w' aq=>?_;obtain ⟨ax,x,rfl,_,av,aJ⟩:=aq;exact ⟨_,x,rfl,G4 s,s5 aJ _ _ av,UC s aJ⟩
end
end Go.Proofs.YtefceblncmdkhaaGreatDoor.bb
