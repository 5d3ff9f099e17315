/- The abstract machine and its walks (a verified interpreter of the model's code: plain definitions and lemmas, no condition). Printed by a program from longer texts: names made short. -/
import Derived.Test.YtgmhjhgoamjeeaaGreatDoorM11
import Derived.Test.YtgmhjhgoamjeeaaGreatDoorM5
set_option linter.unusedSectionVars false
set_option linter.unusedSimpArgs false
set_option linter.unusedVariables false
set_option maxHeartbeats 64000000
noncomputable section
namespace Go.Proofs.YtgmhjhgoamjeeaaGreatDoor.a7
section
open Go Go.RowKit
variable [Lay]
theorem VN (z:V):∀n,ja [z] n=List.replicate n z
 | 0=>rfl
 | n+1=>by rw [ja,VN z n];rfl
theorem ajt {h:ag} {n:Nat} {z:V} {k bs:IntKind} (aW:n<=1000000):u3 1 [z] (.int k (n:Int)) (.int bs (n:Int)) h=.val (.slice (aG h.next) 0 n n) (h.new (.bU (List.replicate n z) 0 false)):=by unfold u3;simp only [V.eB,pK,ar8,aqc];rw [show (decide ((0:Int)<=(n:Int))&&(decide ((n:Int)<=(n:Int))&&decide ((n:Int)<=1000000))&&Nat.beq 1 1)=true from by rw [aqH (by omega),aqH (by omega),aqH (by omega)];rfl];rw [ap8,VN,Ur (by rw [ap9];unfold top;omega)]
theorem jR.pre {h:ag} {b:aQ} {off k:Nat} {ah:List V} (H:jR h b off ah):jR h b off (ah.take k):=by
 obtain ⟨bC,us,a2,a3,a4⟩:=H;refine ⟨bC,us,a2,by rw [aqw];omega,?_⟩;rw [aqw,<-a4,List.take_take];have:((us.drop off).take ah.length).length=ah.length:=by rw [a4]
 congr 1;omega
theorem amT {h:ag} {v:V} {n k:Nat} {ah:List V} (H:fl h 1 v n ah) (aA:k<=n):vp h 1 v k=some (ah.take k):=by
 obtain ⟨aa,ae⟩:=H;have aw:(ah.take k).length=k * 1:=by rw [aqw];omega
 cases v<;>simp only at ae<;>try (exact ae.elim)
 case bL=>
  obtain rfl:k=0:=by omega
  rfl
 case slice=>exact C7 ae.2.pre aw
 case ee=>exact C7 ae.2.pre aw
 case gB=>
  obtain rfl:k=0:=by omega
  rfl
theorem aiH {h:ag} {b:aQ} {off:Nat} {us ws:List V} (g:h.get b=.bU us 0 false) (aY:eN ws=true) (aw:off+ws.length<=us.length):lay h b off ws=some (h.set b (.bU (iw us off ws) 0 false)):=by unfold lay;rw [g];simp only [b8.bU,b8.on];rw [show Nat.ble (off+ws.length) us.length=true from by rw [aqj];exact aw,aY];simp only [aq1,ap8,ap3];rw [G0 us off _ aw,Gt _ us off aw]
theorem US:∀(ah:List V) (k:Nat),eN ah=true->eN (ah.take k)=true
 | _,0,_=>by simp [eN]
 | [],k+1,_=>by simp [eN]
 | v::ah,k+1,h=>by simp only [eN,ap2] at h;simp only [ari,eN,h.1,US ah k h.2,Bool.and_self]
theorem copy_eq {h:ag} {b:aQ} {off l c m:Nat} {s:V} {us ah:List V} (H:fl h 1 s m ah) (g:h.get b=.bU us 0 false) (aw:off+Nat.min m l<=us.length) (aY:eN ah=true):
 copyV 1 (.slice b off l c) s h=.val (.int .i64 (Nat.min m l:Nat)) (h.set b (.bU (iw us off (ah.take (Nat.min m l))) 0 false)):=by
 have bz:=H.1;have ax:oP (.slice b off l c)=some l:=rfl;have aeW:Nat.min m l<=m:=Nat.min_le_left _ _;unfold copyV;rw [ax,TW H];simp only [amT H aeW];rw [aiH g (US _ _ aY) (by rw [aqw];omega)]
theorem abv {b:aQ} {i n:Nat} {k:IntKind} (h:i<n):hr 1 (.slice b 0 n n) (some (.int k (i:Int))) none none=some (.slice b i (n-i) (n-i)):=by simp only [hr,q0,v8,uo (show i<=n by omega)];rw [show Nat.beq n i=false from by rw [<-aqF,aqE];omega];simp
theorem abu {b:aQ} {i n:Nat} {k:IntKind} (h:i<=n) (aB:1<=i):hr 1 (.slice b 0 n n) none (some (.int k (i:Int))) none=some (.slice b 0 i n):=by simp only [hr,q0,v8,uo h];simp
def EO:V->Bool
 | .bool _=>true
 | .int _ _=>true
 | .str _=>true
 | _=>false
theorem alP {E az:Env} {v:V} {x:Value} (h:EO v=true) (q:Rel E v x):Rel az v x:=by cases v<;>simp only [EO] at h<;>first | (cases h;done) | simpa only [Rel] using q
theorem VL {E az:Env}:∀{ah:List V} {xs:List Value},ah.all EO=true->bj E ah xs->bj az ah xs
 | [],xs,_,q=>by simpa only [bj] using q
 | v::ah,xs,h,q=>by rw [arz,ap2] at h;simp only [bj] at q ⊢;obtain ⟨y,cy,al,au,aJ⟩:=q;exact ⟨y,cy,al,alP h.1 au,VL h.2 aJ⟩
theorem acF {C:Ctx} (c':C.P.follows .mixedOrders=true) (bI:et C.P) (hg:p7 C) {n:Nat} {f:FuncId} {args:List V} {av:ag} {v:V} (bp:args.all EO=true) (aF:Nat.beq f dy=false) (ao:C.ext f=none) (hE:∃fn,C.P.funcs[f]? =some fn/\fn.body.isSome=true)
 (he:sN C n f args ag.empty=.val v av) (h:ag):e4 C.P f args h (v.c9 h.next) (h.app av):=by
 refine ⟨fun e=>by subst e;simp at aF,.inl ⟨hE,fun aC E w xs aw s=>?_⟩⟩;obtain ⟨_,e2⟩:=Ip c' bI hg aF ao he (aC:=⟨w,fun _=>none⟩) (E:=fun _=>none) (w:=w) (xs:=xs) (VL bp aw) (GX w (Lay.fc s.laid s.frame));refine e2.mono fun e w' ar=>?_;obtain ⟨az,x,rfl,_,au,aJ⟩:=ar;exact ⟨_,x,rfl,HW s,tA aJ _ _ au,Wd s aJ⟩
end
end Go.Proofs.YtgmhjhgoamjeeaaGreatDoor.a7
