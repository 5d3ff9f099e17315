/- The abstract machine and its walks (a verified interpreter of the model's code: plain definitions and lemmas, no condition). Printed by a program from longer texts: names made short. -/
import Derived.Test.YtgmhjhgoamjeeaaGreatDoorM11
import Derived.Test.YtgmhjhgoamjeeaaGreatDoorM5
set_option linter.unusedSectionVars false
set_option linter.unusedSimpArgs false
set_option linter.unusedVariables false
set_option maxHeartbeats 64000000
noncomputable section
namespace Go.Proofs.YtgmhjhgoamjeeaaGreatDoor.aX
section
open Go Go.RowKit
variable [Lay]
theorem UN (z:V):∀n,im [z] n=List.replicate n z
 | 0=>rfl
 | n+1=>by rw [im,UN z n];rfl
theorem aiO {h:ae} {n:Nat} {z:V} {k br:IntKind} (aV:n<=1000000):uC 1 [z] (.int k (n:Int)) (.int br (n:Int)) h=.val (.slice (aw h.next) 0 n n) (h.new (.bQ (List.replicate n z) 0 false)):=by unfold uC;simp only [V.ej,oZ,ark,apx];rw [show (decide ((0:Int)<=(n:Int))&&(decide ((n:Int)<=(n:Int))&&decide ((n:Int)<=1000000))&&Nat.beq 1 1)=true from by rw [aqf (by omega),aqf (by omega),aqf (by omega)];rfl];rw [apu,UN,Tu (by rw [apP];unfold top;omega)]
theorem jz.pre {h:ae} {b:aL} {off k:Nat} {ag:List V} (H:jz h b off ag):jz h b off (ag.take k):=by
 obtain ⟨bD,us,a2,a3,a4⟩:=H;refine ⟨bD,us,a2,by rw [ap4];omega,?_⟩;rw [ap4,<-a4,List.take_take];have:((us.drop off).take ag.length).length=ag.length:=by rw [a4]
 congr 1;omega
theorem al2 {h:ae} {v:V} {n k:Nat} {ag:List V} (H:fq h 1 v n ag) (aB:k<=n):uY h 1 v k=some (ag.take k):=by
 obtain ⟨aa,ad⟩:=H;have aA:(ag.take k).length=k * 1:=by rw [ap4];omega
 cases v<;>simp only at ad<;>try (exact ad.elim)
 case bg=>
  obtain rfl:k=0:=by omega
  rfl
 case slice=>exact zr ad.2.pre aA
 case eh=>exact zr ad.2.pre aA
 case gI=>
  obtain rfl:k=0:=by omega
  rfl
theorem ah2 {h:ae} {b:aL} {off:Nat} {us ws:List V} (g:h.get b=.bQ us 0 false) (aU:eY ws=true) (aA:off+ws.length<=us.length):lay h b off ws=some (h.set b (.bQ (hP us off ws) 0 false)):=by unfold lay;rw [g];simp only [b1.bQ,b1.on];rw [show Nat.ble (off+ws.length) us.length=true from by rw [apE];exact aA,aU];simp only [aqt,apu,aps];rw [Gv us off _ aA,FV _ us off aA]
theorem TV:∀(ag:List V) (k:Nat),eY ag=true->eY (ag.take k)=true
 | _,0,_=>by simp [eY]
 | [],k+1,_=>by simp [eY]
 | v::ag,k+1,h=>by simp only [eY,apq] at h;simp only [aqY,eY,h.1,TV ag k h.2,Bool.and_self]
theorem copy_eq {h:ae} {b:aL} {off l c m:Nat} {s:V} {us ag:List V} (H:fq h 1 s m ag) (g:h.get b=.bQ us 0 false) (aA:off+Nat.min m l<=us.length) (aU:eY ag=true):
 copyV 1 (.slice b off l c) s h=.val (.int .i64 (Nat.min m l:Nat)) (h.set b (.bQ (hP us off (ag.take (Nat.min m l))) 0 false)):=by
 have bs:=H.1;have aK:nX (.slice b off l c)=some l:=rfl;have ad':Nat.min m l<=m:=Nat.min_le_left _ _;unfold copyV;rw [aK,SY H];simp only [al2 H ad'];rw [ah2 g (TV _ _ aU) (by rw [ap4];omega)]
theorem aap {b:aL} {i n:Nat} {k:IntKind} (h:i<n):qq 1 (.slice b 0 n n) (some (.int k (i:Int))) none none=some (.slice b i (n-i) (n-i)):=by simp only [qq,uX,As,HM (show i<=n by omega)];rw [show Nat.beq n i=false from by rw [<-ap2,apV];omega];simp
theorem aao {b:aL} {i n:Nat} {k:IntKind} (h:i<=n) (ax:1<=i):qq 1 (.slice b 0 n n) none (some (.int k (i:Int))) none=some (.slice b 0 i n):=by simp only [qq,uX,As,HM h];simp
def D8:V->Bool
 | .bool _=>true
 | .int _ _=>true
 | .str _=>true
 | _=>false
theorem ak3 {E ar:Env} {v:V} {x:Value} (h:D8 v=true) (q:Rel E v x):Rel ar v x:=by cases v<;>simp only [D8] at h<;>first | (cases h;done) | simpa only [Rel] using q
theorem UL {E ar:Env}:∀{ag:List V} {xs:List Value},ag.all D8=true->bf E ag xs->bf ar ag xs
 | [],xs,_,q=>by simpa only [bf] using q
 | v::ag,xs,h,q=>by rw [arh,apq] at h;simp only [bf] at q ⊢;obtain ⟨y,cp,ak,al,aI⟩:=q;exact ⟨y,cp,ak,ak3 h.1 al,UL h.2 aI⟩
theorem abQ {C:Ctx} (cJ:C.P.follows .mixedOrders=true) (bE:ec C.P) (gx:pk C) {n:Nat} {f:FuncId} {args:List V} {ao:ae} {v:V} (bt:args.all D8=true) (av:Nat.beq f dr=false) (aj:C.ext f=none) (ho:∃fn,C.P.funcs[f]? =some fn/\fn.body.isSome=true)
 (he:sd C n f args ae.empty=.val v ao) (h:ae):eV C.P f args h (v.c7 h.next) (h.app ao):=by
 refine ⟨fun e=>by subst e;simp at av,.inl ⟨ho,fun ay E w xs aA s=>?_⟩⟩;obtain ⟨_,fJ⟩:=HV cJ bE gx av aj he (ay:=⟨w,fun _=>none⟩) (E:=fun _=>none) (w:=w) (xs:=xs) (UL bt aA) (Gp w (Lay.eR s.laid s.frame));refine fJ.mono fun e w' az=>?_;obtain ⟨ar,x,rfl,_,al,aI⟩:=az;exact ⟨_,x,rfl,Hu s,s' aI _ _ al,U5 s aI⟩
end
end Go.Proofs.YtgmhjhgoamjeeaaGreatDoor.aX
