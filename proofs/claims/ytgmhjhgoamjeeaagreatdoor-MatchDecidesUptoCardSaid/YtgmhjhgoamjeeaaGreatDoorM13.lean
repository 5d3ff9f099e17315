/- The abstract machine and its walks (a verified interpreter of the model's code: plain definitions and lemmas, no condition). Printed by a program from longer texts: names made short. -/
import Derived.Test.YtgmhjhgoamjeeaaGreatDoorM11
import Derived.Test.YtgmhjhgoamjeeaaGreatDoorM4
set_option linter.unusedSectionVars false
set_option linter.unusedSimpArgs false
set_option linter.unusedVariables false
set_option maxHeartbeats 64000000
noncomputable section
namespace Go.Proofs.YtgmhjhgoamjeeaaGreatDoor.aX
section
open Go Go.RowKit
variable [Lay]
theorem Wa (z:V):∀n,iN [z] n=List.replicate n z
 | 0=>rfl
 | n+1=>by rw [iN,Wa z n];rfl
theorem akA {h:ae} {n:Nat} {z:V} {k br:IntKind} (aV:n<=1000000):u9 1 [z] (.int k (n:Int)) (.int br (n:Int)) h=.val (.slice (az h.next) 0 n n) (h.new (.bU (List.replicate n z) 0 false)):=by unfold u9;simp only [V.eu,pD,ato,ary];rw [show (decide ((0:Int)<=(n:Int))&&(decide ((n:Int)<=(n:Int))&&decide ((n:Int)<=1000000))&&Nat.beq 1 1)=true from by rw [asm (by omega),asm (by omega),asm (by omega)];rfl];rw [aru,Wa,UO (by rw [arP];unfold top;omega)]
theorem jS.pre {h:ae} {b:aM} {off k:Nat} {af:List V} (H:jS h b off af):jS h b off (af.take k):=by
 obtain ⟨bE,us,a2,a3,a4⟩:=H;refine ⟨bE,us,a2,by rw [ar6];omega,?_⟩;rw [ar6,<-a4,List.take_take];have:((us.drop off).take af.length).length=af.length:=by rw [a4]
 congr 1;omega
theorem anS {h:ae} {v:V} {n k:Nat} {af:List V} (H:fp h 1 v n af) (aB:k<=n):vs h 1 v k=some (af.take k):=by
 obtain ⟨aa,ad⟩:=H;have ax:(af.take k).length=k * 1:=by rw [ar6];omega
 cases v<;>simp only at ad<;>try (exact ad.elim)
 case bj=>
  obtain rfl:k=0:=by omega
  rfl
 case slice=>exact zW ad.2.pre ax
 case ew=>exact zW ad.2.pre ax
 case g'=>
  obtain rfl:k=0:=by omega
  rfl
theorem ajQ {h:ae} {b:aM} {off:Nat} {us ws:List V} (g:h.get b=.bU us 0 false) (aW:e9 ws=true) (ax:off+ws.length<=us.length):lay h b off ws=some (h.set b (.bU (h7 us off ws) 0 false)):=by unfold lay;rw [g];simp only [b6.bU,b6.on];rw [show Nat.ble (off+ws.length) us.length=true from by rw [arH];exact ax,aW];simp only [asx,aru,arq];rw [Hc us off _ ax,GB _ us off ax]
theorem Ve:∀(af:List V) (k:Nat),e9 af=true->e9 (af.take k)=true
 | _,0,_=>by simp [e9]
 | [],k+1,_=>by simp [e9]
 | v::af,k+1,h=>by simp only [e9,arp] at h;simp only [asA,e9,h.1,Ve af k h.2,Bool.and_self]
theorem copy_eq {h:ae} {b:aM} {off l c m:Nat} {s:V} {us af:List V} (H:fp h 1 s m af) (g:h.get b=.bU us 0 false) (ax:off+Nat.min m l<=us.length) (aW:e9 af=true):
 copyV 1 (.slice b off l c) s h=.val (.int .i64 (Nat.min m l:Nat)) (h.set b (.bU (h7 us off (af.take (Nat.min m l))) 0 false)):=by
 have bt:=H.1;have aJ:oJ (.slice b off l c)=some l:=rfl;have afS:Nat.min m l<=m:=Nat.min_le_left _ _;unfold copyV;rw [aJ,Ug H];simp only [anS H afS];rw [ajQ g (Ve _ _ aW) (by rw [ar6];omega)]
theorem ab4 {b:aM} {i n:Nat} {k:IntKind} (h:i<n):qR 1 (.slice b 0 n n) (some (.int k (i:Int))) none none=some (.slice b i (n-i) (n-i)):=by simp only [qR,vr,A3,IC (show i<=n by omega)];rw [show Nat.beq n i=false from by rw [<-ar4,arZ];omega];simp
theorem ab3 {b:aM} {i n:Nat} {k:IntKind} (h:i<=n) (aw:1<=i):qR 1 (.slice b 0 n n) none (some (.int k (i:Int))) none=some (.slice b 0 i n):=by simp only [qR,vr,A3,IC h];simp
def ER:V->Bool
 | .bool _=>true
 | .int _ _=>true
 | .str _=>true
 | _=>false
theorem amV {E au:Env} {v:V} {x:Value} (h:ER v=true) (q:Rel E v x):Rel au v x:=by cases v<;>simp only [ER] at h<;>first | (cases h;done) | simpa only [Rel] using q
theorem V' {E au:Env}:∀{af:List V} {xs:List Value},af.all ER=true->bh E af xs->bh au af xs
 | [],xs,_,q=>by simpa only [bh] using q
 | v::af,xs,h,q=>by rw [as_,arp] at h;simp only [bh] at q ⊢;obtain ⟨y,cx,al,ao,aK⟩:=q;exact ⟨y,cx,al,amV h.1 ao,V' h.2 aK⟩
theorem adA {C:Ctx} (cN:C.P.follows .mixedOrders=true) (bF:eg C.P) (gR:pT C) {n:Nat} {f:FuncId} {args:List V} {aq:ae} {v:V} (bs:args.all ER=true) (av:Nat.beq f dB=false) (ak:C.ext f=none) (ik:∃fn,C.P.funcs[f]? =some fn/\fn.body.isSome=true)
 (he:sE C n f args ae.empty=.val v aq) (h:ae):e4 C.P f args h (v.db h.next) (h.app aq):=by
 refine ⟨fun e=>by subst e;simp at av,.inl ⟨ik,fun aA E w xs ax s=>?_⟩⟩;obtain ⟨_,fQ⟩:=IM cN bF gR av ak he (aA:=⟨w,fun _=>none⟩) (E:=fun _=>none) (w:=w) (xs:=xs) (V' bs ax) (G8 w (Lay.e1 s.laid s.frame));refine fQ.mono fun e w' ay=>?_;obtain ⟨au,x,rfl,_,ao,aK⟩:=ay;exact ⟨_,x,rfl,Ij s,tA aK _ _ ao,Wv s aK⟩
end
end Go.Proofs.YtgmhjhgoamjeeaaGreatDoor.aX
