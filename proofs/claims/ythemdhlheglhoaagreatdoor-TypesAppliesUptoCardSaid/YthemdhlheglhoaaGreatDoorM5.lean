/- The abstract machine and its walks (a verified interpreter of the model's code: plain definitions and lemmas, no condition). Printed by a program from longer texts: names made short. -/
import Derived.Test.YthemdhlheglhoaaGreatDoorM4
import Derived.Carry
import Derived.OpenShut
import Derived.ChangeSame
import Derived.Handed
import Derived.HandedShaped
import Derived.Test.YthemdhlheglhoaaGreatDoorM3
set_option linter.unusedSectionVars false
set_option linter.unusedSimpArgs false
set_option linter.unusedVariables false
namespace Go.Proofs.YthemdhlheglhoaaGreatDoor.a6
variable [Lay]
open Go Go.RowKit
section
variable {P:Program} {h:af} {n m:Nat} {t:TypeId}
theorem da.pos {ad:List V} (H:da P h n m t ad):∃k,n=k+1:=by
 cases n with
 | zero=>exact H.elim
 | succ m=>exact ⟨m,rfl⟩
theorem da.int {ad:List V} {k:IntKind} (H:da P h n m t ad) (hu:P.underlying t=some (.int k)):∃i,ad=[.int k i]∧(Lit.int k i).wf=true:=by
 obtain ⟨m,rfl⟩:=H.pos
 simpa only [da,hu] using H
theorem da.str {ad:List V} (H:da P h n m t ad) (hu:P.underlying t=some .string):∃s:List UInt8,ad=[.str s]∧s.length+1≤m:=by
 obtain ⟨_,rfl⟩:=H.pos
 simpa only [da,hu] using H
theorem da.struct {ad:List V} {b2:Array Field} (H:da P h n m t ad) (hu:P.underlying t=some (.struct b2)):∃gF,n=gF+1∧ad.length=P.cellsOf t∧∃ms:List Nat,ms.length=b2.toList.length∧ms.sum+1≤m∧
 ∀(i:Nat) (f:Field) (k:Nat),b2.toList[i]? =some f→ms[i]? =some k→1≤k∧da P h gF k f.type ((ad.drop f.offset).take (P.cellsOf f.type)):=by
 obtain ⟨gF,rfl⟩:=H.pos
 refine ⟨gF,rfl,?_⟩
 simpa only [da,hu] using H
def AW (v:V):Prop:=∀b off l c,v=.slice b off l c→l≤c
def yh (h:af) (size:Nat) (v:V) (len m:Nat) (Q:Nat→List V→Prop):Prop:=
 v.one=true∧v.cells=[v]∧v.e9=true∧kq v=some (.int .i64 len)∧AW v∧∃(us:List V) (ms:List Nat),hj h size v len us∧ms.length=len∧ms.sum+1≤m∧∀(i k:Nat),ms[i]? =some k→1≤k∧Q k ((us.drop (i * size)).take size)
theorem da.slice {ad:List V} {e:TypeId} (H:da P h n m t ad) (hu:P.underlying t=some (.slice e)) (aQ:P.cellsOf e≠0):∃gF v len,n=gF+1∧ad=[v]∧yh h (P.cellsOf e) v len m (fun k=>da P h gF k e):=by
 obtain ⟨gF,rfl⟩:=H.pos
 simp only [da,hu] at H
 obtain ⟨a_,H⟩:=H
 rcases H with rfl | ⟨b,i,j,k,rfl⟩ | q | ⟨b,len,cap,rfl,aa,ae,bo,us,bL,b0,ms,fN,fV,jY⟩
 · exact ⟨gF,_,0,rfl,rfl,rfl,rfl,rfl,rfl,(fun _ _ _ _ e=>by cases e),[],[],⟨by simp,rfl⟩,rfl,by simpa using a_,fun i k aD=>by simp at aD⟩
 · exact ⟨gF,_,0,rfl,rfl,rfl,rfl,rfl,rfl,(fun _ _ _ _ e=>by cases e),[],[],⟨by simp,rfl⟩,rfl,by simpa using a_,fun i k aD=>by simp at aD⟩
 · exact absurd q aQ
 · exact ⟨gF,_,len,rfl,rfl,rfl,rfl,rfl,rfl,(fun _ _ _ _ e=>by cases e;exact ae),us,ms,⟨b0,rfl,bo,us,bL,by omega,by simp⟩,fN,fV,jY⟩
end
end Go.Proofs.YthemdhlheglhoaaGreatDoor.a6
namespace Go.Proofs.YthemdhlheglhoaaGreatDoor.a6
variable [Lay]
open Go Go.RowKit Go.ChangeShapes Go.WideShapes
section
variable {H:Type} {enc:TypeId × Value→H} {P:Program}
theorem H7 (dW:laidOutB P=true) {W vE:World} (ah:Below W.heap.size W vE):∀{cg:List TypeId} {ad:List Value} {ds:List (DataW H)} {ba:List MemPlace},(cg.all fun t=>P.readableRec t&&decide (t<P.types.size))=true→
 DataW.TrodAll enc P W 0 (fun _=>true) true cg ad ds ba→DataW.TrodAll enc P vE 0 (fun b=>decide (b<W.heap.size)) true cg ad ds ba
 | [],[],[],_,_,h=>h
 | [],_::_,_,_,_,h=>by rename_i ds _;cases ds<;>exact h.elim
 | [],[],_::_,_,_,h=>h.elim
 | _::_,[],_,_,_,h=>by rename_i ds _;cases ds<;>exact h.elim
 | _::_,_::_,[],_,_,h=>h.elim
 | t::cg,v::ad,d::ds,ba,aG,h=>by
   have aP:=h.lt
   obtain ⟨p,q,aa,ae,rfl⟩:=h
   simp only [List.all_cons,Bool.and_eq_true,decide_eq_true_eq] at aG
   exact ⟨p,q,Below.trod dW aG.1.1 aG.1.2 aa ah (fun x al=>aP x (by simp [al])),H7 dW ah aG.2 ae,rfl⟩
theorem Oy {W:World} {base:Nat} {sp:Nat→Bool} {held:Bool}:∀{cg:List TypeId} {ad:List Value} {ds:List (DataW H)} {ba:List MemPlace},DataW.TrodAll enc P W base sp held cg ad ds ba→ds.length=cg.length
 | [],[],[],_,_=>rfl
 | [],_::_,ds,_,h=>by cases ds<;>exact h.elim
 | [],[],_::_,_,h=>h.elim
 | _::_,[],ds,_,h=>by cases ds<;>exact h.elim
 | _::_,_::_,[],_,h=>h.elim
 | t::cg,v::ad,d::ds,ba,h=>by
   obtain ⟨p,q,aa,ae,rfl⟩:=h
   simp [Oy ae]
theorem aaE (dr:sJ P=true) (dW:laidOutB P=true) {f:FuncId} {fn:Func} {s:ChangeSpec} {G7:TypeId} (eN:(fn.params.toList.all fun t=>P.readableRec t&&decide (t<P.types.size))=true) (K3:s.vars=[]) (XN:fn.resultTypes=#[G7]) (X4:P.underlying G7=some .bool)
 (E3:∀ds:List (DataW H),ds.length=fn.params.size→s.fn H (ds++[])={results:=[.lit (.bool true)],args:=ds})
 {B:Nat} (aF:∀(h:af) (xs:List V),lb P h B fn.params.toList xs→bI P f xs h fun y _=>y=.bool true)
 {W:World} {base:Nat} {args:Array Value} {ds gs:List (DataW H)} {before:List MemPlace} (ax:j_ (ds++gs)≤B) (jo:Lay.ok W) (bx:ea P) (ah:∃fn,P.funcs[f]? =some fn∧fn.body.isSome=true)
 (E7:∀(j:Nat) t v,fn.params[j]? =some t→args[j]? =some v→Value.okWide P W .any base t v) (tH:DataW.Whole enc P fn.params.toList s.vars false W args.toList ds gs before):
 Calls P f args W fun e vE=>∃v,e=.returned v∧s.post enc P fn false true false false W args v vE:=by
 have Wi:=tH
 obtain ⟨p,q,jM,Ka,rfl,nJ,lZ⟩:=tH
 rw [K3] at Ka
 obtain ⟨rfl,rfl⟩:=trodVars_none Ka
 have hlen:ds.length=fn.params.size:=by rw [Oy jM];simp
 have hw:=TO dr dW (ra:=base) (r:=.any) (fun t aA=>by
  have:=List.all_eq_true.1 eN t aA
  simp only [Bool.and_eq_true,decide_eq_true_eq] at this
  exact this.2) (fun j t v aa ae=>E7 j t v (by simpa using aa) (by simpa using ae)) jM jo bx ah (fun h xs q=>aF h xs (q.mono (by simpa using ax)))
 simp only [Array.toArray_toList] at hw
 refine hw.mono fun e vE ⟨he,H6⟩=>?_
 subst he
 refine ⟨_,rfl,ds,[],p++[],[],p,[],Wi,?_,?_,?_,H6.frame _,fun h=>by cases h⟩
 · rw [E3 ds hlen,XN]
   exact trodAll_mk1 (shut_bool X4 _)
 · rw [E3 ds hlen]
   exact H7 dW H6 eN jM
 · rw [E3 ds hlen,K3]
   rfl
end
end Go.Proofs.YthemdhlheglhoaaGreatDoor.a6
namespace Go.Proofs.YthemdhlheglhoaaGreatDoor.a6
variable [Lay]
open Go Go.RowKit
theorem adP {P:Program} {h:af} {B:Nat} {xs:List V} (aQ:lb P h B [] xs):xs=[]:=by
 match xs,aQ with
 | [],_=>rfl
theorem N2 {P:Program} {h:af} {B:Nat} {t:TypeId} {cg:List TypeId} {xs:List V} (aQ:lb P h B (t::cg) xs):∃a yk k bp n,xs=a::yk∧k+bp≤B∧lJ P h n k t a∧lb P h bp cg yk:=by
 match xs,aQ with
 | a::yk,⟨k,bp,ax,⟨n,a_⟩,aa⟩=>exact ⟨a,yk,k,bp,n,rfl,ax,a_,aa⟩
section
variable {P:Program} {h:af} {n m:Nat} {t:TypeId} {v:V}
theorem adR {b2:Array Field} (aQ:lJ P h n m t v) (hu:P.underlying t=some (.struct b2)):∃ad,v=.agg ad∧da P h n m t ad:=by
 unfold lJ at aQ
 rw [hu] at aQ
 exact aQ
theorem adQ {e:TypeId} (aQ:lJ P h n m t v) (hu:P.underlying t=some (.slice e)) {c:Nat} (aF:P.cellsOf e=c) (tI:c≠0):∃gF len,yh h c v len m (fun k=>da P h gF k e):=by
 unfold lJ at aQ
 rw [hu] at aQ
 subst aF
 obtain ⟨gF,w,len,_,aN,g⟩:=da.slice aQ hu tI
 simp only [List.cons.injEq,and_true] at aN
 subst aN
 exact ⟨gF,len,g⟩
end
end Go.Proofs.YthemdhlheglhoaaGreatDoor.a6
namespace Go.Proofs.YthemdhlheglhoaaGreatDoor.a6
variable [Lay]
open Go Go.RowKit
set_option linter.defProp false
end Go.Proofs.YthemdhlheglhoaaGreatDoor.a6
namespace Go.Proofs.YthemdhlheglhoaaGreatDoor.a6
variable [Lay]
open Go Go.RowKit
theorem Uf {P:Program} {aJ:List gU} {r:aR} {h:af} {Q:cY→aR→af→Prop} {a b:bz}:tf P (.bool true) a b aJ r h Q=bl P (.c a::aJ) .normal r h Q:=by
 rw [IU];simp
theorem Ue {P:Program} {aJ:List gU} {r:aR} {h:af} {Q:cY→aR→af→Prop} {a b:bz}:tf P (.bool false) a b aJ r h Q=bl P (.c b::aJ) .normal r h Q:=by
 rw [IU];simp
theorem H8 (a b:List UInt8):mA a b=decide (a=b):=by
 rw [re,Bool.eq_iff_iff]
 simp
theorem Ca (k:IntKind) (b:Int) (d y:Nat):bound (some (.int k b)) d y=if 0≤b∧b≤(y:Int) then some b.toNat else none:=by
 simp only [bound,V.dT,nZ]
 by_cases aa:0≤b<;>by_cases ae:b≤(y:Int)<;>simp [aa,ae]
theorem ad0 (s:List UInt8) (k:IntKind) (b:Int):kx (.str s) none (some (.int k b)) none=if 0≤b∧b≤(s.length:Int) then some (.str (s.take b.toNat)) else none:=by
 simp only [kx,Ca]
 by_cases h:0≤b∧b≤(s.length:Int)
 · simp only [h,and_self,if_true,bound,List.drop_zero,Nat.sub_zero]
 · simp only [h,if_false]
theorem ad1 (s:List UInt8) (k:IntKind) (a:Int):kx (.str s) (some (.int k a)) none none=if 0≤a∧a≤(s.length:Int) then some (.str (s.drop a.toNat)) else none:=by
 simp only [kx,Ic,Ca]
 by_cases h:0≤a∧a≤(s.length:Int)
 · simp only [h,and_self,if_true]
   rw [List.take_of_length_le (by rw [List.length_drop];omega)]
 · simp only [h,if_false]
theorem ad2 (s:List UInt8) (k bp:IntKind) (a b:Int):kx (.str s) (some (.int k a)) (some (.int bp b)) none=if 0≤a∧a≤b∧b≤(s.length:Int) then some (.str ((s.drop a.toNat).take (b.toNat-a.toNat))) else none:=by
 simp only [kx,Ca]
 by_cases h:0≤b∧b≤(s.length:Int)
 · simp only [h,and_self,if_true]
   by_cases ae:0≤a∧a≤b
   · have:0≤a∧a≤((b.toNat:Nat):Int):=by omega
     simp only [this,and_self,if_true,ae,h]
   · have aI:¬(0≤a∧a≤((b.toNat:Nat):Int)):=by omega
     have bo:¬(0≤a∧a≤b∧b≤(s.length:Int)):=by omega
     have cI:¬(0≤a∧a≤b∧True):=fun q=>ae ⟨q.1,q.2.1⟩
     rw [if_neg cI,if_neg aI]
 · have bo:¬(0≤a∧a≤b∧b≤(s.length:Int)):=by omega
   simp only [h,bo,if_false]
theorem adZ (s:List UInt8):kx (.str s) none none none=some (.str s):=by
 simp only [kx,Ic,List.drop_zero,Nat.sub_zero,List.take_length]
section
variable {P:Program}
theorem adF (a b:List UInt8):(ej.str .eql).run P (.str a) (.str b)=some (.bool (decide (a=b))):=by simp only [ej.run,pn,og,H8]
theorem adE (a b:List UInt8):(ej.str .add).run P (.str a) (.str b)=if a.length+b.length≤top then some (.str (a++b)) else none:=by
 simp only [ej.run,pn,A9]
 by_cases h:a.length+b.length≤top
 · rw [if_pos h,show Nat.ble (a.length+b.length) top=true from by rw [Nat.ble_eq];exact h]
   rfl
 · rw [if_neg h,show Nat.ble (a.length+b.length) top=false from by rw [←Bool.not_eq_true,Nat.ble_eq];exact h]
   rfl
theorem adG (s:List UInt8) (k:IntKind) (i:Int):o8.run (.str s) (.int k i)=if 0≤i∧i < (s.length:Int) then some (.int .u8 (((s[i.toNat]?).getD 0).toNat:Int)) else none:=by
 simp only [o8,V.dT,nZ]
 by_cases aa:0≤i
 · simp only [aa,decide_true,cond_true,true_and]
   by_cases ae:i < (s.length:Int)
   · rw [if_pos ae,List.getElem?_eq_getElem (by omega)]
     rfl
   · rw [if_neg ae,List.getElem?_eq_none (by omega)]
 · simp only [aa,decide_false,cond_false,false_and,if_false]
theorem adH (a b:List UInt8):(ej.str .neq).run P (.str a) (.str b)=some (.bool (!decide (a=b))):=by simp only [ej.run,pn,og,H8]
end
end Go.Proofs.YthemdhlheglhoaaGreatDoor.a6
namespace Go.Proofs.YthemdhlheglhoaaGreatDoor.a6
open Go Go.RowKit
set_option linter.defProp false
def ae4:=
 And.intro @ZE<|And.intro @YT<|And.intro @ZM<|And.intro @YU<|And.intro @ZJ<|And.intro @ZN<|And.intro @ZK<|And.intro @Y_<|And.intro @Y3<|And.intro @Y0<|And.intro @Y1<|And.intro @Zu<|And.intro @Y9<|And.intro @ZH<|And.intro @ZA<|And.intro @aap<|And.intro @ZI<|And.intro @aau<|And.intro @YY<|And.intro @ZZ<|And.intro @Zm<|And.intro @aaf<|And.intro @Zn<|And.intro @aag<|And.intro @ZF<|And.intro @aas<|And.intro @YS<|And.intro @ZW<|And.intro @ZS<|And.intro @aaz<|And.intro @Ze<|And.intro @Z_<|And.intro @Zj<|And.intro @aac<|And.intro @ZP<|And.intro @aax<|And.intro @ZO<|And.intro @aaw<|And.intro @Zb<|@Z8
def ae5:=
 And.intro @Zc<|And.intro @Z9<|And.intro @Zd<|And.intro @Z'<|And.intro @Zh<|And.intro @aaa<|And.intro @Zi<|And.intro @aab<|And.intro @Zl<|And.intro @aae<|And.intro @Zk<|And.intro @aad<|And.intro @Zt<|And.intro @aal<|And.intro @Za<|And.intro @Z7<|And.intro @Zy<|And.intro @aao<|And.intro @ZB<|And.intro @aaq<|And.intro @Y5<|And.intro @Z4<|And.intro @Zq<|And.intro @aaj<|And.intro @Zr<|And.intro @aak<|And.intro @Zo<|And.intro @aah<|And.intro @ZD<|And.intro @aar<|And.intro @YW<|And.intro @ZX<|And.intro @YX<|And.intro @ZY<|And.intro @ZQ<|And.intro @aay<|And.intro @Zx<|And.intro @aan<|And.intro @ZT<|@aaA
def ae6:=
 And.intro @Zw<|And.intro @aam<|And.intro @ZL<|And.intro @aav<|And.intro @ZG<|And.intro @aat<|And.intro @YQ<|And.intro @ZV<|And.intro @Y2<|And.intro @Z2<|And.intro @Zp<|And.intro @aai<|And.intro @Y4<|And.intro @Z3<|And.intro @Y7<|And.intro @Z6<|And.intro @Y6<|And.intro @Z5<|And.intro @Z0<|And.intro @Z1<|And.intro @Lu<|And.intro @YZ<|@Y8
def ae7:=
 And.intro @aen<|And.intro @ad5<|And.intro @Uf<|And.intro @Ue<|And.intro @yE<|And.intro @adr<|And.intro @QV<|And.intro @QU<|And.intro @acq<|And.intro @Vf<|And.intro @Ve<|And.intro @QY<|And.intro @U5<|And.intro @U4<|And.intro @acG<|And.intro @Va<|And.intro @ab3<|And.intro @ab2<|And.intro @aa0<|And.intro @aaY<|And.intro @aa1<|And.intro @aaZ<|And.intro @aa2<|And.intro @Ff<|And.intro @Fe<|And.intro @Ut<|And.intro @U7<|And.intro @U6<|And.intro @aeI<|And.intro @adJ<|And.intro @adK<|And.intro @abX<|And.intro @abY<|And.intro @acp<|And.intro @acm<|And.intro @aeV<|And.intro @aeU<|And.intro @QL<|And.intro @QM<|@QN
def ae8:=
 And.intro @QO<|And.intro @QK<|And.intro @Po<|And.intro @Pq<|And.intro @Pp<|And.intro @aeF<|And.intro @aeH<|And.intro @aeG<|And.intro @YG<|And.intro @YI<|And.intro @YH<|And.intro @YP<|And.intro @ZR<|And.intro @Zz<|And.intro @Y'<|And.intro @ZC<|And.intro @Zv<|And.intro @Zs<|And.intro @Zg<|And.intro @Zf<|And.intro @YR<|And.intro @YV<|And.intro @aeR<|And.intro @aeQ<|And.intro @abc<|And.intro @abe<|And.intro @LM<|And.intro @LN<|And.intro @z6<|And.intro @LS<|And.intro @aeh<|And.intro @aaF<|And.intro @lk<|And.intro @gO<|And.intro @c8<|And.intro @pd<|And.intro @fF<|And.intro @k2<|And.intro @abD<|@TU
def ae9:=
 And.intro @ab5<|And.intro @VL<|And.intro @TY<|And.intro @MC<|And.intro @VP<|And.intro @T7<|And.intro @MD<|And.intro @VY<|And.intro @T3<|And.intro @acb<|And.intro @VU<|And.intro @T5<|And.intro @ace<|And.intro @VW<|And.intro @T6<|And.intro @acf<|And.intro @VX<|And.intro @TW<|And.intro @ab7<|And.intro @VN<|And.intro @T8<|And.intro @acg<|And.intro @VZ<|And.intro @T4<|And.intro @acd<|And.intro @VV<|And.intro @T2<|And.intro @aca<|And.intro @VT<|And.intro @TZ<|And.intro @ab9<|And.intro @VQ<|And.intro @TV<|And.intro @ab6<|And.intro @VM<|And.intro @T1<|And.intro @ab_<|And.intro @VS<|And.intro @TX<|@ab8
def ae':=
 And.intro @VO<|And.intro @T0<|And.intro @ab'<|And.intro @VR<|And.intro @TT<|And.intro @VK<|And.intro @V0<|And.intro @aaT<|And.intro @aaU<|And.intro @aaS<|And.intro @beq_true<|And.intro @beq_false<|And.intro @Bool.not_true<|And.intro @Bool.not_false<|And.intro @Bool.true_and<|And.intro @Bool.and_true<|And.intro @Bool.false_and<|And.intro @Bool.and_false<|And.intro @Bool.not_not<|And.intro @V.bool.injEq<|And.intro @Nat.zero_add<|And.intro @Nat.add_zero<|And.intro @aeB<|And.intro @aeC<|And.intro @aeA<|And.intro @Bool.true_eq_false<|And.intro @Bool.false_eq_true<|And.intro @aeE<|And.intro @acS<|And.intro @acT<|And.intro @Qz<|And.intro @Qy<|And.intro @Qv<|And.intro @Qs<|And.intro @WN<|And.intro @WQ<|And.intro @WO<|And.intro @Qt<|And.intro @Qu<|@Qw
def ae_:=
 And.intro @Qx<|And.intro @pb<|And.intro @afc<|And.intro @me<|And.intro @afd<|And.intro @xm<|And.intro @afe<|And.intro @Mq<|And.intro @aff<|And.intro @FW<|And.intro @afg<|And.intro @abS<|And.intro @afh<|And.intro @abT<|And.intro @afi<|And.intro @abU<|And.intro @afj<|And.intro @VH<|And.intro @VE<|And.intro @VG<|And.intro @VF<|And.intro @VI<|And.intro @Bool.or_false<|And.intro @Bool.false_or<|And.intro @Bool.or_true<|And.intro @Bool.true_or<|And.intro @abK<|And.intro @abr<|And.intro @abu<|And.intro @acn<|And.intro @aco<|And.intro @P3<|And.intro @P9<|And.intro @P'<|And.intro @P_<|And.intro @Qa<|And.intro @Qb<|And.intro @Qc<|And.intro @Qd<|@Qe
def afa:=
 And.intro @P2<|And.intro @P4<|And.intro @P5<|And.intro @P6<|And.intro @P7<|And.intro @P8<|And.intro @ad0<|And.intro @ad1<|And.intro @ad2<|And.intro @adZ<|And.intro @adF<|And.intro @adH<|And.intro @adE<|@adG
end Go.Proofs.YthemdhlheglhoaaGreatDoor.a6
namespace Go.Proofs.YthemdhlheglhoaaGreatDoor.a6
variable [Lay]
open Go Go.RowKit
theorem yo {B:Nat} {h:af} {size:Nat} {s:V} {n:Nat} {us cs:List V} (b5:1≤size) (H1:ed B h size s n us) (cJ:B≤h.next) (hlen:(n+1) * size≤top) (eW:cs.length=size) (aS:fk cs=true):
 ∃v ab,lh size s (.slice (aq h.next) 0 1 1) (h.new (.bb cs 0 false))=.val v ab∧ed B ab size v (n+1) (us++cs)∧Mod s.a8 h ab∧h.next+1≤ab.next∧∀b,v.a8 b→s.a8 b∨h.next<ei b:=by
 have al:Ext h (h.new (.bb cs 0 false)):=(Ext.refl h).new _
 have bn:hj (h.new (.bb cs 0 false)) size (.slice (aq h.next) 0 1 1) 1 cs:=by
  refine ⟨by rw [eW];omega,rfl,fj (by rw [fF];omega),cs,.inr ⟨0,false,by rw [lk]⟩,by omega,by simp⟩
 obtain ⟨v,ab,au,aC,aM,bG⟩:=Qm b5 (H1.ext al) bn (by rw [fF];omega) hlen aS
 refine ⟨v,ab,au,aC,(al.mod _).trans aM,by have:=aM.next;rw [fF] at this;exact this,fun b ah=>?_⟩
 rcases bG b ah with q | q
 · exact .inl q
 · exact .inr (by rw [fF] at q;omega)
theorem OC:∀l:List UInt8,lF (gW l)=some l
 | []=>rfl
 | c::l=>by
   have bh:=OC l
   simp only [gW,lF,bh]
   simp
theorem yB:∀l:List UInt8,(gW l).length=l.length
 | []=>rfl
 | c::l=>by simp only [gW,List.length_cons,yB l]
theorem Ih:∀l m:List UInt8,gW (l++m)=gW l++gW m
 | [],m=>rfl
 | c::l,m=>by simp only [gW,List.cons_append,Ih l m]
theorem Oe {h:af} {b:aO} {us:List V} {cl:Nat} {st:Bool} {off:Nat} {l:List UInt8} (aE:h.get b=.bb us cl st) (ai:off+l.length≤us.length) (hu:(us.drop off).take l.length=gW l):qJ b off l.length h=.val (.str l) h:=by
 unfold qJ
 rw [aE]
 simp only [b1.mm,b1.bb]
 rw [show Nat.ble (off+l.length) us.length=true from by rw [Nat.ble_eq];exact ai]
 simp only [cond_true]
 rw [ze us l.length off ai,hu,OC]
theorem IW {B:Nat} {h:af} {v:V} {n:Nat} {l:List UInt8} (H:ed B h 1 v n (gW l)):pP.run v h=.val (.str l) h:=by
 have aa:=H.1
 rw [yB,Nat.mul_one] at aa
 have ae:=H.2
 cases v<;>simp only at ae<;>try (exact ae.elim)
 case b6=>
  subst ae
  rw [List.length_eq_zero_iff] at aa
  subst aa
  rfl
 case slice=>
  obtain ⟨au,aC,aM,bG,dJ,us,cl,st,e0,hY,kv⟩:=ae
  rw [yB] at kv
  simp only [pP]
  rw [au,←aa]
  exact Oe e0 (by omega) kv
 case ef=>
  obtain ⟨au,aC,aM,bG,dJ,us,st,e0,hY,kv⟩:=ae
  rw [yB] at kv hY
  simp only [pP]
  rw [au,bG,←aa]
  exact Oe e0 (by omega) (by simpa using kv)
theorem Mod.self {b:aO} {h ab:af} (e:Mod (fun q=>q=b) h ab) (k:b1):Mod (fun q=>q=b) h (ab.set b k):=e.set (fun _=>rfl) k
theorem Mod.fresh {M:aO→Prop} {h ab:af} (e:Mod M h ab) {i:Nat} (aD:h.next≤i) (k:b1):Mod M h (ab.set (aq i) k):=
 e.set (fun q=>absurd (show ei (aq i)<h.next from q) (by rw [c7];omega)) k
theorem Mod.Ou {M N:aO→Prop} {h ae aI:af} (e:Mod M h ae) (q:Mod N ae aI) (aV:∀b,N b→h.next≤ei b):Mod M h aI:=
 ⟨Nat.le_trans e.next q.next,fun b aS ah=>by
   rw [q.get b (e.bO aS) (fun k=>absurd (show ei b<h.next from aS) (by have:=aV b k;omega)),e.get b aS ah]⟩
inductive D where
 | i (k:IntKind) (n:Int)
 | b (x:Bool)
 | s (x:List UInt8)
 | l (size:Nat) (es:List (List D))
inductive bV (F:aO→Prop) (h:af):List D→List V→Prop
 | nil:bV F h [] []
 | i {k:IntKind} {n:Int} {ds:List D} {ad:List V} (t:bV F h ds ad):bV F h (.i k n::ds) (.int k n::ad)
 | b {x:Bool} {ds:List D} {ad:List V} (t:bV F h ds ad):bV F h (.b x::ds) (.bool x::ad)
 | s {x:List UInt8} {ds:List D} {ad:List V} (ah:x.length≤top) (t:bV F h ds ad):bV F h (.s x::ds) (.str x::ad)
 | l {size:Nat} {es:List (List D)} {v:V} {us:List (List V)} {ds:List D} {ad:List V} (aG:AW v) (ah:es.length≤top) (aQ:hj h size v es.length us.flatten) (hu:us.length=es.length) (bm:∀u ∈ us,u.length=size)
    (kids:∀(i:Nat) (e:List D) (u:List V),es[i]? =some e→us[i]? =some u→bV F h e u) (av:∀b,v.a8 b→F b) (t:bV F h ds ad):bV F h (.l size es::ds) (v::ad)
structure cZ (F:aO→Prop) (h:af) (size:Nat) (es:List (List D)) (v:V):Prop where
 room:AW v
 le:es.length≤top
 ex:∃us:List (List V),hj h size v es.length us.flatten∧us.length=es.length∧(∀u ∈ us,u.length=size)∧∀(i:Nat) (e:List D) (u:List V),es[i]? =some e→us[i]? =some u→bV F h e u
 we:∀b,v.a8 b→F b
section
variable {F:aO→Prop} {h ab:af} {ds:List D} {ad:List V}
theorem bV.mod {dI M:aO→Prop} (m:Mod M h ab) (cE:∀b,F b→Old h b→¬M b∧dI b) (H:bV F h ds ad):bV dI ab ds ad:=by
 induction H with
 | nil=>exact .nil
 | i t bh=>exact .i bh
 | b t bh=>exact .b bh
 | s ah t bh=>exact .s ah bh
 | l aG ah aQ hu bm kids av t qc o6=>exact .l aG ah (aQ.mod m fun b q=>(cE b (av b q) (aQ.bO q)).1) hu bm qc (fun b q=>(cE b (av b q) (aQ.bO q)).2) o6
theorem bV.ext (H:bV F h ds ad) (e:Ext h ab):bV F ab ds ad:=by
 induction H with
 | nil=>exact .nil
 | i t bh=>exact .i bh
 | b t bh=>exact .b bh
 | s ah t bh=>exact .s ah bh
 | l aG ah aQ hu bm kids av t qc o6=>exact .l aG ah (aQ.ext e) hu bm qc av o6
theorem bV.fH {dI:aO→Prop} (H:bV F h ds ad) (w:∀b,F b→dI b):bV dI h ds ad:=by
 induction H with
 | nil=>exact .nil
 | i t bh=>exact .i bh
 | b t bh=>exact .b bh
 | s ah t bh=>exact .s ah bh
 | l aG ah aQ hu bm kids av t qc o6=>exact .l aG ah aQ hu bm qc (fun b q=>w b (av b q)) o6
theorem bV.bO (H:bV F h ds ad):bV (fun b=>F b∧Old h b) h ds ad:=by
 induction H with
 | nil=>exact .nil
 | i t bh=>exact .i bh
 | b t bh=>exact .b bh
 | s ah t bh=>exact .s ah bh
 | l aG ah aQ hu bm kids av t qc o6=>exact .l aG ah aQ hu bm qc (fun b q=>⟨av b q,aQ.bO q⟩) o6
theorem bV.fk (H:bV F h ds ad):fk ad=true:=by
 induction H with
 | nil=>rfl
 | i t bh=>simpa [Go.Proofs.YthemdhlheglhoaaGreatDoor.a6.fk,V.one] using bh
 | b t bh=>simpa [Go.Proofs.YthemdhlheglhoaaGreatDoor.a6.fk,V.one] using bh
 | s ah t bh=>simpa [Go.Proofs.YthemdhlheglhoaaGreatDoor.a6.fk,V.one] using bh
 | l aG ah aQ hu bm kids av t qc o6=>simp only [Go.Proofs.YthemdhlheglhoaaGreatDoor.a6.fk,aQ.one.1,o6,Bool.and_self]
theorem bV.int {k:IntKind} {n:Int} (H:bV F h (.i k n::ds) ad):∃us,ad=.int k n::us∧bV F h ds us:=by
 cases H with
 | i t=>exact ⟨_,rfl,t⟩
theorem bV.str {x:List UInt8} (H:bV F h (.s x::ds) ad):∃us,ad=.str x::us∧x.length≤top∧bV F h ds us:=by
 cases H with
 | s ah t=>exact ⟨_,rfl,ah,t⟩
theorem bV.fx {size:Nat} {es:List (List D)} (H:bV F h (.l size es::ds) ad):∃v us,ad=v::us∧cZ F h size es v∧bV F h ds us:=by
 cases H with
 | l aG ah aQ hu bm kids av t=>exact ⟨_,_,rfl,⟨aG,ah,⟨_,aQ,hu,bm,kids⟩,av⟩,t⟩
theorem bV.no (H:bV F h [] ad):ad=[]:=by cases H;rfl
end
theorem y' {size:Nat}:∀(us:List (List V)) (i:Nat) (u:List V),(∀u ∈ us,u.length=size)→us[i]? =some u→(us.flatten.drop (i * size)).take size=u
 | [],i,u,_,h=>by simp at h
 | w::us,0,u,ai,h=>by
   simp only [List.getElem?_cons_zero,Option.some.injEq] at h
   subst h
   rw [Nat.zero_mul,List.drop_zero,List.flatten_cons,List.take_left' (ai _ (by simp))]
 | w::us,i+1,u,ai,h=>by
   rw [show (i+1) * size=size+i * size from by rw [Nat.succ_mul,Nat.add_comm],←List.drop_drop,List.flatten_cons,List.drop_left' (ai _ (by simp))]
   exact y' us i u (fun u hu=>ai u (by simp [hu])) (by simpa using h)
theorem wc {size:Nat}:∀(us:List (List V)),(∀u ∈ us,u.length=size)→us.flatten.length=us.length * size
 | [],_=>by simp
 | w::us,ai=>by rw [List.flatten_cons,List.length_append,ai w (by simp),wc us (fun u hu=>ai u (by simp [hu])),List.length_cons,Nat.succ_mul,Nat.add_comm]
section
variable {F:aO→Prop} {h ab:af} {size:Nat} {es:List (List D)} {v:V}
theorem cZ.cons {ds:List D} {ad:List V} (H:cZ F h size es v) (t:bV F h ds ad):bV F h (.l size es::ds) (v::ad):=by
 obtain ⟨us,a,b,c,d⟩:=H.ex
 exact .l H.room H.le a b c d H.we t
theorem cZ.ext (H:cZ F h size es v) (e:Ext h ab):cZ F ab size es v:=by
 obtain ⟨us,a,b,c,d⟩:=H.ex
 exact ⟨H.room,H.le,⟨us,a.ext e,b,c,fun i x u au aC=>(d i x u au aC).ext e⟩,H.we⟩
theorem cZ.mod {dI M:aO→Prop} (m:Mod M h ab) (cE:∀b,F b→Old h b→¬M b∧dI b) (H:cZ F h size es v):cZ dI ab size es v:=by
 obtain ⟨us,a,b,c,d⟩:=H.ex
 exact ⟨H.room,H.le,⟨us,a.mod m fun x q=>(cE x (H.we x q) (a.bO q)).1,b,c,fun i x u au aC=>(d i x u au aC).mod m cE⟩,fun x q=>(cE x (H.we x q) (a.bO q)).2⟩
theorem cZ.fH {dI:aO→Prop} (H:cZ F h size es v) (w:∀b,F b→dI b):cZ dI h size es v:=by
 obtain ⟨us,a,b,c,d⟩:=H.ex
 exact ⟨H.room,H.le,⟨us,a,b,c,fun i x u au aC=>(d i x u au aC).fH w⟩,fun b q=>w b (H.we b q)⟩
theorem cZ.len (H:cZ F h size es v):kq v=some (.int .i64 es.length):=by
 obtain ⟨us,a,_⟩:=H.ex
 exact a.len
theorem cZ.one (H:cZ F h size es v):v.one=true∧v.cells=[v]∧v.e9=true:=by
 obtain ⟨us,a,_⟩:=H.ex
 exact a.one
theorem cZ.nil (F:aO→Prop) (h:af) (size:Nat):cZ F h size [] .b6:=⟨fun b o l c e=>(by cases e),Nat.zero_le _,⟨[],⟨by simp,rfl⟩,rfl,fun u hu=>(by cases hu),fun i e u q=>(by simp at q)⟩,fun b q=>q.elim⟩
theorem cZ.at (H:cZ F h size es v) {k:IntKind} {i:Nat} (aD:i<es.length):
 ∃b off u,iU size v (.int k i)=some (.ptr b (off+i * size))∧bV F h es[i] u∧u.length=size∧(∀ab,Ext h ab→lu size (ab.get b) (off+i * size)=some (.agg u))∧∀ab,Ext h ab→∀j,j<size→iC (ab.get b) (off+i * size+j)=u[j]? :=by
 obtain ⟨us,aa,ae,ai,aI⟩:=H.ex
 have oV:i<us.length:=by omega
 have hu:=List.getElem?_eq_getElem oV
 obtain ⟨b,off,aN,bf⟩:=aa.cH (k:=k) aD
 have av:=y' us i _ ai hu
 have lW:=wc us ai
 have hle:i * size+size≤us.length * size:=by
  have:=Nat.mul_le_mul_right size (show i+1≤us.length by omega)
  rw [Nat.succ_mul] at this
  exact this
 have K0:us[i].length=size:=ai _ (List.getElem_mem oV)
 refine ⟨b,off,us[i],aN,aI i _ _ (List.getElem?_eq_getElem aD) hu,K0,fun ab e=>?_,fun ab e j bB=>?_⟩
 · rw [(bf.ext e).iW (i:=i * size) (n:=size) (by omega),av]
 · rw [Nat.add_assoc,(bf.ext e).iB (i:=i * size+j) (by omega)]
   have:((us.flatten.drop (i * size)).take size)[j]? =us[i][j]? :=by rw [av]
   rw [List.getElem?_take_of_lt bB,List.getElem?_drop] at this
   rw [←this,List.getElem?_eq_getElem (by omega)]
end
end Go.Proofs.YthemdhlheglhoaaGreatDoor.a6
namespace Go.Proofs.YthemdhlheglhoaaGreatDoor.a6
variable [Lay]
open Go Go.RowKit
def Any (_:aO):Prop:=True
theorem On:∀{ms:List Nat},(∀(i k:Nat),ms[i]? =some k→1≤k)→ms.length≤ms.sum
 | [],_=>Nat.le_refl _
 | m::ms,h=>by
   have a_:=h 0 m rfl
   have:=On (ms:=ms) fun i k q=>h (i+1) k (by simpa using q)
   simp only [List.length_cons,List.sum_cons]
   omega
theorem Om:∀{ms:List Nat} {i k:Nat},ms[i]? =some k→k≤ms.sum
 | [],_,_,h=>by simp at h
 | m::ms,0,k,h=>by simp only [List.getElem?_cons_zero,Option.some.injEq] at h;subst h;simp only [List.sum_cons];omega
 | m::ms,i+1,k,h=>by
   have:=Om (ms:=ms) (i:=i) (k:=k) (by simpa using h)
   simp only [List.sum_cons];omega
end Go.Proofs.YthemdhlheglhoaaGreatDoor.a6
namespace Go.Proofs.YthemdhlheglhoaaGreatDoor.a6
variable [Lay]
set_option linter.defProp false
open Go Go.RowKit
def aw:=And.intro @ae4<|And.intro @ae5 @ae6
def aeX:=And.intro @ae7<|And.intro @ae8<|And.intro @ae9<|And.intro @ae'<|And.intro @ae_ @afa
def aeY:=And.intro @Option.isSome_some.{0}<|And.intro @Option.getD_some.{0}<|And.intro @if_true.{1}<|And.intro @if_false.{1}<|And.intro @true_and<|And.intro @and_true<|And.intro @List.getElem?_cons_zero.{0}<|And.intro @List.getElem?_cons_succ.{0}<|And.intro @List.length_cons.{0}<|And.intro @List.length_nil.{0}<|
 And.intro @List.drop_zero.{0}<|And.intro @List.drop_succ_cons.{0}<|And.intro @List.take_succ_cons.{0}<|And.intro @List.take_zero.{0}<|And.intro @List.cons_append.{0}<|And.intro @List.nil_append.{0}<|And.intro @Option.some.injEq.{0}<|And.intro @exists_eq_left'.{1}<|And.intro @List.cons.injEq.{0}<|
 And.intro @Nat.succ_ne_zero<|And.intro @Yu<|And.intro @Yt<|And.intro @List.getElem?_nil.{0}<|And.intro @decide_true<|And.intro @decide_false<|And.intro @eq_self.{1}<|And.intro @not_true_eq_false<|And.intro @not_false_eq_true<|And.intro @ite_true.{1} @ite_false.{1}
def b4:=And.intro aeX (And.intro aeY (And.intro @hZ.eq_1 (And.intro @hZ.eq_2 (And.intro @aT.e3.eq_1 (And.intro @aT.e3.eq_2 (And.intro @mn.eq_1 (And.intro @mn.eq_2 (And.intro @mn.eq_3 (And.intro @over.eq_1 (And.intro @over.eq_2 (And.intro @over.eq_3 (And.intro @fk.eq_1 (@fk.eq_2)))))))))))))
def aH:=And.intro b4 (And.intro @cY.ends.eq_1 (And.intro @cY.ends.eq_2 (And.intro @cL.eq_1 (And.intro @cL.eq_2 (And.intro @cL.eq_3 (And.intro @cL.eq_4 (And.intro @oneOf.eq_1 (And.intro @oneOf.eq_2 top.eq_1))))))))
end Go.Proofs.YthemdhlheglhoaaGreatDoor.a6
namespace Go.Proofs.YthemdhlheglhoaaGreatDoor.a6
variable [Lay]
open Go Go.RowKit
structure Has (h:af) (n:Nat) (l:List V):Prop where
 lt:n<h.next
 g:h.get (aq n)=.bb l 0 false
theorem Has.ext {h ab:af} {n:Nat} {l:List V} (B:Has h n l) (e:Ext h ab):Has ab n l:=⟨Nat.lt_of_lt_of_le B.lt e.next,(e.get _ (fj B.lt)).trans B.g⟩
theorem fA (h:af) (l:List V):∃H,h.new (.bb l 0 false)=H∧Ext h H∧Has H h.next l:=⟨_,rfl,(Ext.refl h).new _,by rw [fF];omega,lk _⟩
theorem ht (h:af) (z l:List V):∃H,(h.new (.bb z 0 false)).set (aq h.next) (.bb l 0 false)=H∧Ext h H∧Has H h.next l:=
 ⟨_,rfl,((Ext.refl h).new _).set (Nat.le_refl _) _,by rw [k2,fF];omega,by rw [c8,if_pos rfl]⟩
theorem Has.set {h:af} {n m:Nat} {l:List V} (B:Has h n l) (hm:n≠m) (k:b1):Has (h.set (aq m) k) n l:=⟨by rw [k2];exact B.lt,by rw [c8,if_neg (by rw [pd];exact fun q=>hm q.symm)];exact B.g⟩
theorem Has.put {h:af} {n:Nat} {l:List V} (B:Has h n l) (dD:List V):Has (h.set (aq n) (.bb dD 0 false)) n dD:=⟨by rw [k2];exact B.lt,by rw [c8,if_pos rfl]⟩
theorem cZ.set {F:aO→Prop} {h:af} {size:Nat} {es:List (List D)} {v:V} (H:cZ F h size es v) {b:aO} (ah:¬F b) (k:b1):cZ F (h.set b k) size es v:=
 H.mod ((Mod.refl (fun x=>x=b) h).set (fun _=>rfl) k) fun x q _=>⟨fun e=>ah (e ▸ q),q⟩
theorem bV.n' {F:aO→Prop} {h:af} {ds:List D} {ad:List V} (H:bV F h ds ad):bV (Old h) h ds ad:=H.bO.fH fun _ q=>q.2
theorem cZ.n' {F:aO→Prop} {h:af} {size:Nat} {es:List (List D)} {v:V} (H:cZ F h size es v):cZ (Old h) h size es v:=by
 obtain ⟨us,a,b,c,d⟩:=H.ex
 exact ⟨H.room,H.le,⟨us,a,b,c,fun i x u au aC=>(d i x u au aC).n'⟩,fun b q=>a.bO q⟩
theorem Ao {h:af} {n:Nat} (aV:h.next≤n):¬Old h (aq n):=fun q=>by unfold Old at q;rw [c7] at q;omega
theorem jc {i n:Nat} (h:i<n) (aV:n≤4611686018427387904):IntKind.i64.wrap ((i:Int)+1)=((i+1:Nat):Int):=by rw [wrap_i64 (by omega) (by omega)];rfl
section
variable {ar:Fr} {E bX:Env} {h aF:af} {w bM:World}
end
end Go.Proofs.YthemdhlheglhoaaGreatDoor.a6
namespace Go.Proofs.YthemdhlheglhoaaGreatDoor.a6
variable [Lay]
open Go Go.RowKit
section
variable {h aF:af}
end
end Go.Proofs.YthemdhlheglhoaaGreatDoor.a6
namespace Go.Proofs.YthemdhlheglhoaaGreatDoor.a6
variable [Lay]
open Go Go.RowKit
inductive x4 (F:aO→Prop) (h:af):List (Int × List D)→List cx→Prop
 | nil:x4 F h [] []
 | cons {n:Int} {ds:List D} {y:V} {born:Nat} {c1:List (Int × List D)} {es:List cx} (a1:bV F h ds y.cells) (t:x4 F h c1 es):x4 F h ((n,ds)::c1) (⟨.int .i64 n,y,born⟩::es)
structure afy (F:aO→Prop) (h:af) (c1:List (Int × List D)) (v:V):Prop where
 ex:∃b es,v=.map b∧Old h b∧((∃clock,h.get b=.mp es clock)∨h.get b=.hU es∧(c1.map Prod.fst).Nodup)∧x4 F h c1 es∧F b
section
variable {F:aO→Prop} {h ab:af} {c1:List (Int × List D)} {es:List cx} {v:V}
theorem NN (k n:Int):jL.run (.int .i64 k) (.int .i64 n)=some (decide (k=n)):=by
 simp only [jL,V.dT,nA,cond_true,Dy]
end
section
variable {h aF:af}
end
end Go.Proofs.YthemdhlheglhoaaGreatDoor.a6
namespace Go.Proofs.YthemdhlheglhoaaGreatDoor.a6
variable [Lay]
open Go Go.RowKit
def fK (h:af) (b:aO):Prop:=h.next≤ei b
section
variable {C:Ctx} (cE:C.P.follows .mixedOrders=true) (bx:ea C.P) (gX:ox C) {n:Nat} {f:FuncId} (av:Nat.beq f c4=false) (al:C.ext f=none) (ix:∃fn,C.P.funcs[f]? =some fn∧fn.body.isSome=true)
include cE bx gX av al ix
end
end Go.Proofs.YthemdhlheglhoaaGreatDoor.a6
