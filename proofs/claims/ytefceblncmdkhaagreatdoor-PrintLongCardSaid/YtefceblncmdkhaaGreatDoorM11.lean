/- The abstract machine and its walks (a verified interpreter of the model's code: plain definitions and lemmas, no condition). Printed by a program from longer texts: names made short. -/
import Derived.Test.YtefceblncmdkhaaGreatDoorM9
import Derived.Test.YtefceblncmdkhaaGreatDoorM5
set_option linter.unusedSectionVars false
set_option linter.unusedSimpArgs false
set_option linter.unusedVariables false
set_option maxHeartbeats 64000000
noncomputable section
namespace Go.Proofs.YtefceblncmdkhaaGreatDoor.bd
section
open Go Go.RowKit
variable [Lay]
theorem TK (z:V):∀n,jh [z] n=List.replicate n z
 | 0=>rfl
 | n+1=>by rw [jh,TK z n];rfl
theorem ag5 {h:ah} {n:Nat} {z:V} {k bx:IntKind} (aX:n<=1000000):ux 1 [z] (.int k (n:Int)) (.int bx (n:Int)) h=.val (.slice (aC h.next) 0 n n) (h.new (.a_ (List.replicate n z) 0 false)):=by unfold ux;simp only [V.e1,pA,List.length_singleton,am9];rw [show (decide ((0:Int)<=(n:Int))&&(decide ((n:Int)<=(n:Int))&&decide ((n:Int)<=1000000))&&Nat.beq 1 1)=true from by rw [anG (by omega),anG (by omega),anG (by omega)];rfl];rw [am4,TK,Su (by rw [am5];unfold top;omega)]
theorem iU.pre {h:ah} {b:aU} {off k:Nat} {ai:List V} (H:iU h b off ai):iU h b off (ai.take k):=by
 obtain ⟨bR,us,a2,a3,a4⟩:=H;refine ⟨bR,us,a2,by rw [anH];omega,?_⟩;rw [anH,<-a4,List.take_take];have:((us.drop off).take ai.length).length=ai.length:=by rw [a4]
 congr 1;omega
theorem aj7 {h:ah} {v:V} {n k:Nat} {ai:List V} (H:e9 h 1 v n ai) (ay:k<=n):rX h 1 v k=some (ai.take k):=by
 obtain ⟨J,ad⟩:=H;have ax:(ai.take k).length=k * 1:=by rw [anH];omega
 cases v<;>simp only at ad<;>try (exact ad.elim)
 case cc=>
  obtain rfl:k=0:=by omega
  rfl
 case slice=>exact xc ad.2.pre ax
 case eu=>exact xc ad.2.pre ax
 case gQ=>
  obtain rfl:k=0:=by omega
  rfl
theorem agb {h:ah} {b:aU} {off:Nat} {us ws:List V} (g:h.get b=.a_ us 0 false) (a8:fq ws=true) (ax:off+ws.length<=us.length):lay h b off ws=some (h.set b (.a_ (jF us off ws) 0 false)):=by unfold lay;rw [g];simp only [cm.a_,cm.on];rw [show Nat.ble (off+ws.length) us.length=true from by rw [ann];exact ax,a8];simp only [anY,am4,amW];rw [Cw us off _ ax,Fv _ us off ax]
theorem SU:∀(ai:List V) (k:Nat),fq ai=true->fq (ai.take k)=true
 | _,0,_=>by simp [fq]
 | [],k+1,_=>by simp [fq]
 | v::ai,k+1,h=>by simp only [fq,amX] at h;simp only [aoe,fq,h.1,SU ai k h.2,Bool.and_self]
theorem copy_eq {h:ah} {b:aU} {off l c m:Nat} {s:V} {us ai:List V} (H:e9 h 1 s m ai) (g:h.get b=.a_ us 0 false) (ax:off+Nat.min m l<=us.length) (a8:fq ai=true):
 copyV 1 (.slice b off l c) s h=.val (.int .i64 (Nat.min m l:Nat)) (h.set b (.a_ (jF us off (ai.take (Nat.min m l))) 0 false)):=by
 have bB:=H.1;have an:oh (.slice b off l c)=some l:=rfl;have aci:Nat.min m l<=m:=Nat.min_le_left _ _;unfold copyV;rw [an,RZ H];simp only [aj7 H aci];rw [agb g (SU _ _ a8) (by rw [anH];omega)]
theorem Zd {b:aU} {i n:Nat} {k:IntKind} (h:i<n):gJ 1 (.slice b 0 n n) (some (.int k (i:Int))) none none=some (.slice b i (n-i) (n-i)):=by simp only [gJ,rW,vr,xR (show i<=n by omega)];rw [show Nat.beq n i=false from by rw [<-Bool.not_eq_true,anA];omega];simp
theorem Zc {b:aU} {i n:Nat} {k:IntKind} (h:i<=n) (au:1<=i):gJ 1 (.slice b 0 n n) none (some (.int k (i:Int))) none=some (.slice b 0 i n):=by simp only [gJ,rW,vr,xR h];simp
def DS:V->Bool
 | .bool _=>true
 | .int _ _=>true
 | .str _=>true
 | _=>false
theorem ai9 {E aw:Env} {v:V} {x:Value} (h:DS v=true) (q:Rel E v x):Rel aw v x:=by cases v<;>simp only [DS] at h<;>first | (cases h;done) | simpa only [Rel] using q
theorem TI {E aw:Env}:∀{ai:List V} {xs:List Value},ai.all DS=true->bm E ai xs->bm aw ai xs
 | [],xs,_,q=>by simpa only [bm] using q
 | v::ai,xs,h,q=>by rw [anX,amX] at h;simp only [bm] at q ⊢;obtain ⟨y,cS,ag,av,aI⟩:=q;exact ⟨y,cS,ag,ai9 h.1 av,TI h.2 aI⟩
theorem aal {C:Ctx} (dE:C.P.follows .mixedOrders=true) (aK:e6 C.P) (hy:p0 C) {n:Nat} {f:FuncId} {args:List V} {ao:ah} {v:V} (bF:args.all DS=true) (aA:Nat.beq f dv=false) (ar:C.ext f=none) (hM:∃fn,C.P.funcs[f]? =some fn/\fn.body.isSome=true)
 (he:sg C n f args ah.empty=.val v ao) (h:ah):ff C.P f args h (v.dd h.next) (h.app ao):=by
 refine ⟨fun e=>by subst e;simp at aA,.inl ⟨hM,fun aB E w xs ax s=>?_⟩⟩;obtain ⟨_,kr⟩:=Hk dE aK hy aA ar he (aB:=⟨w,fun _=>none⟩) (E:=fun _=>none) (w:=w) (xs:=xs) (TI bF ax) (FY w (Lay.gp s.laid s.frame));refine kr.mono fun e w' aq=>?_;obtain ⟨aw,x,rfl,_,av,aI⟩:=aq;exact ⟨_,x,rfl,GU s,s3 aI _ _ av,Ua s aI⟩
end
end Go.Proofs.YtefceblncmdkhaaGreatDoor.bd
