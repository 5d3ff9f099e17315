/- The abstract machine and its walks (a verified interpreter of the model's code: plain definitions and lemmas, no condition). Printed by a program from longer texts: names made short. -/
import Derived.Test.YtgmhjhgoamjeeaaGreatDoorM11
import Derived.Test.YtgmhjhgoamjeeaaGreatDoorM5
set_option linter.unusedSectionVars false
set_option linter.unusedSimpArgs false
set_option linter.unusedVariables false
set_option maxHeartbeats 64000000
noncomputable section
namespace Go.Proofs.YtgmhjhgoamjeeaaGreatDoor.aZ
section
open Go Go.RowKit
variable [Lay]
theorem U2 (z:V):∀n,iH [z] n=List.replicate n z
 | 0=>rfl
 | n+1=>by rw [iH,U2 z n];rfl
theorem aiP {h:ae} {n:Nat} {z:V} {k bp:IntKind} (aV:n<=1000000):uM 1 [z] (.int k (n:Int)) (.int bp (n:Int)) h=.val (.slice (aC h.next) 0 n n) (h.new (.bT (List.replicate n z) 0 false)):=by unfold uM;simp only [V.ew,pd,ark,apy];rw [show (decide ((0:Int)<=(n:Int))&&(decide ((n:Int)<=(n:Int))&&decide ((n:Int)<=1000000))&&Nat.beq 1 1)=true from by rw [ap7 (by omega),ap7 (by omega),ap7 (by omega)];rfl];rw [apt,U2,TI (by rw [apw];unfold top;omega)]
theorem h'.pre {h:ae} {b:aO} {off k:Nat} {af:List V} (H:h' h b off af):h' h b off (af.take k):=by
 obtain ⟨bJ,us,a2,a3,a4⟩:=H;refine ⟨bJ,us,a2,by rw [apU];omega,?_⟩;rw [apU,<-a4,List.take_take];have:((us.drop off).take af.length).length=af.length:=by rw [a4]
 congr 1;omega
theorem amb {h:ae} {v:V} {n k:Nat} {af:List V} (H:e2 h 1 v n af) (aA:k<=n):u6 h 1 v k=some (af.take k):=by
 obtain ⟨U,ab⟩:=H;have ar:(af.take k).length=k * 1:=by rw [apU];omega
 cases v<;>simp only at ab<;>try (exact ab.elim)
 case bu=>
  obtain rfl:k=0:=by omega
  rfl
 case slice=>exact zx ab.2.pre ar
 case dW=>exact zx ab.2.pre ar
 case gb=>
  obtain rfl:k=0:=by omega
  rfl
theorem ahZ {h:ae} {b:aO} {off:Nat} {us ws:List V} (g:h.get b=.bT us 0 false) (aT:e5 ws=true) (ar:off+ws.length<=us.length):lay h b off ws=some (h.set b (.bT (hx us off ws) 0 false)):=by unfold lay;rw [g];simp only [b'.bT,b'.on];rw [show Nat.ble (off+ws.length) us.length=true from by rw [apF];exact ar,aT];simp only [aqn,apt,apq];rw [qF us off _ ar,FO _ us off ar]
theorem T':∀(af:List V) (k:Nat),e5 af=true->e5 (af.take k)=true
 | _,0,_=>by simp [e5]
 | [],k+1,_=>by simp [e5]
 | v::af,k+1,h=>by simp only [e5,apn] at h;simp only [aqC,e5,h.1,T' af k h.2,Bool.and_self]
theorem copy_eq {h:ae} {b:aO} {off l c m:Nat} {s:V} {us af:List V} (H:e2 h 1 s m af) (g:h.get b=.bT us 0 false) (ar:off+Nat.min m l<=us.length) (aT:e5 af=true):
 copyV 1 (.slice b off l c) s h=.val (.int .i64 (Nat.min m l:Nat)) (h.set b (.bT (hx us off (af.take (Nat.min m l))) 0 false)):=by
 have bA:=H.1;have av:n_ (.slice b off l c)=some l:=rfl;have aea:Nat.min m l<=m:=Nat.min_le_left _ _;unfold copyV;rw [av,S_ H];simp only [amb H aea];rw [ahZ g (T' _ _ aT) (by rw [apU];omega)]
theorem aaL {b:aO} {i n:Nat} {k:IntKind} (h:i<n):hP 1 (.slice b 0 n n) (some (.int k (i:Int))) none none=some (.slice b i (n-i) (n-i)):=by simp only [hP,rU,tW,vM (show i<=n by omega)];rw [show Nat.beq n i=false from by rw [<-ap1,apT];omega];simp
theorem aaK {b:aO} {i n:Nat} {k:IntKind} (h:i<=n) (ax:1<=i):hP 1 (.slice b 0 n n) none (some (.int k (i:Int))) none=some (.slice b 0 i n):=by simp only [hP,rU,tW,vM h];simp
def Eb:V->Bool
 | .bool _=>true
 | .int _ _=>true
 | .str _=>true
 | _=>false
theorem ak7 {E ay:Env} {v:V} {x:Value} (h:Eb v=true) (q:Rel E v x):Rel ay v x:=by cases v<;>simp only [Eb] at h<;>first | (cases h;done) | simpa only [Rel] using q
theorem U0 {E ay:Env}:∀{af:List V} {xs:List Value},af.all Eb=true->bg E af xs->bg ay af xs
 | [],xs,_,q=>by simpa only [bg] using q
 | v::af,xs,h,q=>by rw [aqT,apn] at h;simp only [bg] at q ⊢;obtain ⟨y,cu,aj,an,aJ⟩:=q;exact ⟨y,cu,aj,ak7 h.1 an,U0 h.2 aJ⟩
theorem abS {C:Ctx} (cJ:C.P.follows .mixedOrders=true) (bK:ep C.P) (gO:pA C) {n:Nat} {f:FuncId} {args:List V} {au:ae} {v:V} (bw:args.all Eb=true) (aB:Nat.beq f dv=false) (ao:C.ext f=none) (ig:∃fn,C.P.funcs[f]? =some fn/\fn.body.isSome=true)
 (he:sx C n f args ae.empty=.val v au) (h:ae):eZ C.P f args h (v.c7 h.next) (h.app au):=by
 refine ⟨fun e=>by subst e;simp at aB,.inl ⟨ig,fun az E w xs ar s=>?_⟩⟩;obtain ⟨_,hV⟩:=H0 cJ bK gO aB ao he (az:=⟨w,fun _=>none⟩) (E:=fun _=>none) (w:=w) (xs:=xs) (U0 bw ar) (Gi w (Lay.ec s.laid s.frame));refine hV.mono fun e w' aq=>?_;obtain ⟨ay,x,rfl,_,an,aJ⟩:=aq;exact ⟨_,x,rfl,Hw s,tg aJ _ _ an,Vv s aJ⟩
end
end Go.Proofs.YtgmhjhgoamjeeaaGreatDoor.aZ
