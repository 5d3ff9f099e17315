/- The abstract machine and its walks (a verified interpreter of the model's code: plain definitions and lemmas, no condition). Printed by a program from longer texts: names made short. -/
import Derived.Test.YtahfljfikfkpnaaGreatDoorM9
import Derived.Test.YtahfljfikfkpnaaGreatDoorM5
set_option linter.unusedSectionVars false
set_option linter.unusedSimpArgs false
set_option linter.unusedVariables false
set_option maxHeartbeats 64000000
noncomputable section
namespace Go.Proofs.YtahfljfikfkpnaaGreatDoor.bf
section
open Go Go.RowKit
variable [Lay]
theorem Wi (z:V):∀n,jR [z] n=List.replicate n z
 | 0=>rfl
 | n+1=>by rw [jR,Wi z n];rfl
theorem UX {h:ae} {n:Nat} {z:V} {k bG:IntKind} (aL:n<=1000000):vz 1 [z] (.int k (n:Int)) (.int bG (n:Int)) h=.val (.slice (aE h.next) 0 n n) (h.new (.bz (List.replicate n z) 0 false)):=by unfold vz;simp only [V.fg,qc,arT,aqq];rw [show (decide ((0:Int)<=(n:Int))&&(decide ((n:Int)<=(n:Int))&&decide ((n:Int)<=1000000))&&Nat.beq 1 1)=true from by rw [arf (by omega),arf (by omega),arf (by omega)];rfl];rw [aqo,Wi,U_ (by rw [aqK];unfold top;omega)]
theorem kK.pre {h:ae} {b:aN} {off k:Nat} {af:List V} (H:kK h b off af):kK h b off (af.take k):=by
 obtain ⟨b7,us,a2,a3,a4⟩:=H;refine ⟨b7,us,a2,by rw [ard];omega,?_⟩;rw [ard,<-a4,List.take_take];have:((us.drop off).take af.length).length=af.length:=by rw [a4]
 congr 1;omega
theorem ana {h:ae} {v:V} {n k:Nat} {af:List V} (H:fD h 1 v n af) (ar:k<=n):vZ h 1 v k=some (af.take k):=by
 obtain ⟨U,ad⟩:=H;have aD:(af.take k).length=k * 1:=by rw [ard];omega
 cases v<;>simp only at ad<;>try (exact ad.elim)
 case cn=>
  obtain rfl:k=0:=by omega
  rfl
 case slice=>exact Dl ad.2.pre aD
 case fp=>exact Dl ad.2.pre aD
 case iy=>
  obtain rfl:k=0:=by omega
  rfl
theorem aiC {h:ae} {b:aN} {off:Nat} {us ws:List V} (g:h.get b=.bz us 0 false) (aU:fs ws=true) (aD:off+ws.length<=us.length):lay h b off ws=some (h.set b (.bz (hC us off ws) 0 false)):=by unfold lay;rw [g];simp only [cz.bz,cz.on];rw [show Nat.ble (off+ws.length) us.length=true from by rw [aqE];exact aD,aU];simp only [arz,aqo,aqj];rw [ru us off _ aD,GN _ us off aD]
theorem Vv:∀(af:List V) (k:Nat),fs af=true->fs (af.take k)=true
 | _,0,_=>by simp [fs]
 | [],k+1,_=>by simp [fs]
 | v::af,k+1,h=>by simp only [fs,aqi] at h;simp only [arN,fs,h.1,Vv af k h.2,Bool.and_self]
theorem copy_eq {h:ae} {b:aN} {off l c m:Nat} {s:V} {us af:List V} (H:fD h 1 s m af) (g:h.get b=.bz us 0 false) (aD:off+Nat.min m l<=us.length) (aU:fs af=true):
 copyV 1 (.slice b off l c) s h=.val (.int .i64 (Nat.min m l:Nat)) (h.set b (.bz (hC us off (af.take (Nat.min m l))) 0 false)):=by
 have bE:=H.1;have aM:pn (.slice b off l c)=some l:=rfl;have afh:Nat.min m l<=m:=Nat.min_le_left _ _;unfold copyV;rw [aM,UH H];simp only [ana H afh];rw [aiC g (Vv _ _ aU) (by rw [ard];omega)]
theorem ab3 {b:aN} {i n:Nat} {k:IntKind} (h:i<n):ud 1 (.slice b 0 n n) (some (.int k (i:Int))) none none=some (.slice b i (n-i) (n-i)):=by simp only [ud,vY,D6,P7 (show i<=n by omega)];rw [show Nat.beq n i=false from by rw [<-Bool.not_eq_true,aqT];omega];simp
theorem ab2 {b:aN} {i n:Nat} {k:IntKind} (h:i<=n) (aG:1<=i):ud 1 (.slice b 0 n n) none (some (.int k (i:Int))) none=some (.slice b 0 i n):=by simp only [ud,vY,D6,P7 h];simp
def EK:V->Bool
 | .bool _=>true
 | .int _ _=>true
 | .str _=>true
 | _=>false
theorem amg {E aw:Env} {v:V} {x:Value} (h:EK v=true) (q:Rel E v x):Rel aw v x:=by cases v<;>simp only [EK] at h<;>first | (cases h;done) | simpa only [Rel] using q
theorem Wg {E aw:Env}:∀{af:List V} {xs:List Value},af.all EK=true->bm E af xs->bm aw af xs
 | [],xs,_,q=>by simpa only [bm] using q
 | v::af,xs,h,q=>by rw [arG,aqi] at h;simp only [bm] at q ⊢;obtain ⟨y,de,an,av,aH⟩:=q;exact ⟨y,de,an,amg h.1 av,Wg h.2 aH⟩
theorem ado {C:Ctx} (dt:C.P.follows .mixedOrders=true) (bO:eO C.P) (ha:o3 C) {n:Nat} {f:FuncId} {args:List V} {aq:ae} {v:V} (a_:args.all EK=true) (aA:Nat.beq f dx=false) (ay:C.ext f=none) (hL:∃fn,C.P.funcs[f]? =some fn/\fn.body.isSome=true)
 (he:qL C n f args ae.empty=.val v aq) (h:ae):gm C.P f args h (v.dc h.next) (h.app aq):=by
 refine ⟨fun e=>by subst e;simp at aA,.inl ⟨hL,fun al E w xs aD s=>?_⟩⟩;obtain ⟨_,kQ⟩:=Eb dt bO ha aA ay he (al:=⟨w,fun _=>none⟩) (E:=fun _=>none) (w:=w) (xs:=xs) (Wg a_ aD) (Dj w (Lay.gy s.laid s.frame));refine kQ.mono fun e w' aI=>?_;obtain ⟨aw,x,rfl,_,av,aH⟩:=aI;exact ⟨_,x,rfl,Ik s,tV aH _ _ av,WC s aH⟩
end
end Go.Proofs.YtahfljfikfkpnaaGreatDoor.bf
