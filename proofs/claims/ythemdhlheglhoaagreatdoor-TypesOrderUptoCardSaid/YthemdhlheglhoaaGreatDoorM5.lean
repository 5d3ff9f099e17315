/- The abstract machine and its walks (a verified interpreter of the model's code: plain definitions and lemmas, no condition). Printed by a program from longer texts: names made short. -/
import Derived.Test.YthemdhlheglhoaaGreatDoorM4
import Derived.Carry
import Derived.OpenShut
import Derived.ChangeSame
import Derived.Handed
import Derived.HandedShaped
import Derived.Test.YthemdhlheglhoaaGreatDoorM3
set_option linter.unusedSectionVars false
set_option linter.unusedSimpArgs false
set_option linter.unusedVariables false
namespace Go.Proofs.YthemdhlheglhoaaGreatDoor.aY
variable [Lay]
open Go Go.RowKit Go.ChangeShapes Go.WideShapes
section
variable {H:Type} {enc:TypeId × Value→H} {P:Program}
theorem Jv (eO:laidOutB P=true) {W xi:World} (ah:Below W.heap.size W xi):∀{cr:List TypeId} {ad:List Value} {ds:List (DataW H)} {a_:List MemPlace},(cr.all fun t=>P.readableRec t&&decide (t<P.types.size))=true→
 DataW.TrodAll enc P W 0 (fun _=>true) true cr ad ds a_→DataW.TrodAll enc P xi 0 (fun b=>decide (b<W.heap.size)) true cr ad ds a_
 | [],[],[],_,_,h=>h
 | [],_::_,_,_,_,h=>by rename_i ds _;cases ds<;>exact h.elim
 | [],[],_::_,_,_,h=>h.elim
 | _::_,[],_,_,_,h=>by rename_i ds _;cases ds<;>exact h.elim
 | _::_,_::_,[],_,_,h=>h.elim
 | t::cr,v::ad,d::ds,a_,aG,h=>by
   have aW:=h.lt
   obtain ⟨p,q,aa,ae,rfl⟩:=h
   simp only [List.all_cons,Bool.and_eq_true,decide_eq_true_eq] at aG
   exact ⟨p,q,Below.trod eO aG.1.1 aG.1.2 aa ah (fun x ak=>aW x (by simp [ak])),Jv eO ah aG.2 ae,rfl⟩
theorem PK {W:World} {base:Nat} {sp:Nat→Bool} {held:Bool}:∀{cr:List TypeId} {ad:List Value} {ds:List (DataW H)} {a_:List MemPlace},DataW.TrodAll enc P W base sp held cr ad ds a_→ds.length=cr.length
 | [],[],[],_,_=>rfl
 | [],_::_,ds,_,h=>by cases ds<;>exact h.elim
 | [],[],_::_,_,h=>h.elim
 | _::_,[],ds,_,h=>by cases ds<;>exact h.elim
 | _::_,_::_,[],_,h=>h.elim
 | t::cr,v::ad,d::ds,a_,h=>by
   obtain ⟨p,q,aa,ae,rfl⟩:=h
   simp [PK ae]
theorem aaH (d_:uF P=true) (eO:laidOutB P=true) {f:FuncId} {fn:Func} {s:ChangeSpec} {Ih:TypeId} (fm:(fn.params.toList.all fun t=>P.readableRec t&&decide (t<P.types.size))=true) (L9:s.vars=[]) (XY:fn.resultTypes=#[Ih]) (X':P.underlying Ih=some .bool)
 (Gf:∀ds:List (DataW H),ds.length=fn.params.size→s.fn H (ds++[])={results:=[.lit (.bool true)],args:=ds})
 {B:Nat} (aD:∀(h:af) (xs:List V),mT P h B fn.params.toList xs→b_ P f xs h fun y _=>y=.bool true)
 {W:World} {base:Nat} {args:Array Value} {ds gs:List (DataW H)} {before:List MemPlace} (ay:lF (ds++gs)≤B) (kI:Lay.ok W) (bD:eI P) (ah:∃fn,P.funcs[f]? =some fn∧fn.body.isSome=true)
 (Gj:∀(j:Nat) t v,fn.params[j]? =some t→args[j]? =some v→Value.okWide P W .any base t v) (vw:DataW.Whole enc P fn.params.toList s.vars false W args.toList ds gs before):
 Calls P f args W fun e xi=>∃v,e=.returned v∧s.post enc P fn false true false false W args v xi:=by
 have Wu:=vw
 obtain ⟨p,q,m_,Lc,rfl,pM,mw⟩:=vw
 rw [L9] at Lc
 obtain ⟨rfl,rfl⟩:=trodVars_none Lc
 have hlen:ds.length=fn.params.size:=by rw [PK m_];simp
 have hw:=T5 d_ eO (s4:=base) (r:=.any) (fun t ax=>by
  have:=List.all_eq_true.1 fm t ax
  simp only [Bool.and_eq_true,decide_eq_true_eq] at this
  exact this.2) (fun j t v aa ae=>Gj j t v (by simpa using aa) (by simpa using ae)) m_ kI bD ah (fun h xs q=>aD h xs (q.mono (by simpa using ay)))
 simp only [Array.toArray_toList] at hw
 refine hw.mono fun e xi ⟨he,Ju⟩=>?_
 subst he
 refine ⟨_,rfl,ds,[],p++[],[],p,[],Wu,?_,?_,?_,Ju.frame _,fun h=>by cases h⟩
 · rw [Gf ds hlen,XY]
   exact trodAll_mk1 (shut_bool X' _)
 · rw [Gf ds hlen]
   exact Jv eO Ju fm m_
 · rw [Gf ds hlen,L9]
   rfl
end
end Go.Proofs.YthemdhlheglhoaaGreatDoor.aY
namespace Go.Proofs.YthemdhlheglhoaaGreatDoor.aY
variable [Lay]
open Go Go.RowKit
theorem adX {P:Program} {h:af} {B:Nat} {xs:List V} (aO:mT P h B [] xs):xs=[]:=by
 match xs,aO with
 | [],_=>rfl
theorem H0 {P:Program} {h:af} {B:Nat} {t:TypeId} {cr:List TypeId} {xs:List V} (aO:mT P h B (t::cr) xs):∃a zN k bp n,xs=a::zN∧k+bp≤B∧pw P h n k t a∧mT P h bp cr zN:=by
 match xs,aO with
 | a::zN,⟨k,bp,ay,⟨n,a6⟩,aa⟩=>exact ⟨a,zN,k,bp,n,rfl,ay,a6,aa⟩
section
variable {P:Program} {h:af} {n m:Nat} {t:TypeId} {v:V}
theorem H2 {b6:Array Field} (aO:pw P h n m t v) (hu:P.underlying t=some (.struct b6)):∃ad,v=.agg ad∧dB P h n m t ad:=by
 unfold pw at aO
 rw [hu] at aO
 exact aO
end
end Go.Proofs.YthemdhlheglhoaaGreatDoor.aY
namespace Go.Proofs.YthemdhlheglhoaaGreatDoor.aY
variable [Lay]
open Go Go.RowKit
set_option linter.defProp false
end Go.Proofs.YthemdhlheglhoaaGreatDoor.aY
namespace Go.Proofs.YthemdhlheglhoaaGreatDoor.aY
variable [Lay]
open Go Go.RowKit
theorem Ux {P:Program} {aK:List hW} {r:aT} {h:af} {Q:c'→aT→af→Prop} {a b:bV}:u_ P (.bool true) a b aK r h Q=bm P (.c a::aK) .normal r h Q:=by
 rw [JZ];simp
theorem Uw {P:Program} {aK:List hW} {r:aT} {h:af} {Q:c'→aT→af→Prop} {a b:bV}:u_ P (.bool false) a b aK r h Q=bm P (.c b::aK) .normal r h Q:=by
 rw [JZ];simp
theorem Jw (a b:List UInt8):oE a b=decide (a=b):=by
 rw [s5,Bool.eq_iff_iff]
 simp
theorem DE (k:IntKind) (b:Int) (d y:Nat):bound (some (.int k b)) d y=if 0≤b∧b≤(y:Int) then some b.toNat else none:=by
 simp only [bound,V.ep,p4]
 by_cases aa:0≤b<;>by_cases ae:b≤(y:Int)<;>simp [aa,ae]
theorem ad6 (s:List UInt8) (k:IntKind) (b:Int):l2 (.str s) none (some (.int k b)) none=if 0≤b∧b≤(s.length:Int) then some (.str (s.take b.toNat)) else none:=by
 simp only [l2,DE]
 by_cases h:0≤b∧b≤(s.length:Int)
 · simp only [h,and_self,if_true,bound,List.drop_zero,Nat.sub_zero]
 · simp only [h,if_false]
theorem ad7 (s:List UInt8) (k:IntKind) (a:Int):l2 (.str s) (some (.int k a)) none none=if 0≤a∧a≤(s.length:Int) then some (.str (s.drop a.toNat)) else none:=by
 simp only [l2,JB,DE]
 by_cases h:0≤a∧a≤(s.length:Int)
 · simp only [h,and_self,if_true]
   rw [List.take_of_length_le (by rw [List.length_drop];omega)]
 · simp only [h,if_false]
theorem ad8 (s:List UInt8) (k bp:IntKind) (a b:Int):l2 (.str s) (some (.int k a)) (some (.int bp b)) none=if 0≤a∧a≤b∧b≤(s.length:Int) then some (.str ((s.drop a.toNat).take (b.toNat-a.toNat))) else none:=by
 simp only [l2,DE]
 by_cases h:0≤b∧b≤(s.length:Int)
 · simp only [h,and_self,if_true]
   by_cases ae:0≤a∧a≤b
   · have:0≤a∧a≤((b.toNat:Nat):Int):=by omega
     simp only [this,and_self,if_true,ae,h]
   · have aH:¬(0≤a∧a≤((b.toNat:Nat):Int)):=by omega
     have bf:¬(0≤a∧a≤b∧b≤(s.length:Int)):=by omega
     have cB:¬(0≤a∧a≤b∧True):=fun q=>ae ⟨q.1,q.2.1⟩
     rw [if_neg cB,if_neg aH]
 · have bf:¬(0≤a∧a≤b∧b≤(s.length:Int)):=by omega
   simp only [h,bf,if_false]
theorem ad5 (s:List UInt8):l2 (.str s) none none none=some (.str s):=by
 simp only [l2,JB,List.drop_zero,Nat.sub_zero,List.take_length]
section
variable {P:Program}
theorem adQ (a b:List UInt8):(eW.str .eql).run P (.str a) (.str b)=some (.bool (decide (a=b))):=by simp only [eW.run,ri,qc,Jw]
theorem adP (a b:List UInt8):(eW.str .add).run P (.str a) (.str b)=if a.length+b.length≤top then some (.str (a++b)) else none:=by
 simp only [eW.run,ri,Cz]
 by_cases h:a.length+b.length≤top
 · rw [if_pos h,show Nat.ble (a.length+b.length) top=true from by rw [Nat.ble_eq];exact h]
   rfl
 · rw [if_neg h,show Nat.ble (a.length+b.length) top=false from by rw [←Bool.not_eq_true,Nat.ble_eq];exact h]
   rfl
theorem adR (s:List UInt8) (k:IntKind) (i:Int):qZ.run (.str s) (.int k i)=if 0≤i∧i < (s.length:Int) then some (.int .u8 (((s[i.toNat]?).getD 0).toNat:Int)) else none:=by
 simp only [qZ,V.ep,p4]
 by_cases aa:0≤i
 · simp only [aa,decide_true,cond_true,true_and]
   by_cases ae:i < (s.length:Int)
   · rw [if_pos ae,List.getElem?_eq_getElem (by omega)]
     rfl
   · rw [if_neg ae,List.getElem?_eq_none (by omega)]
 · simp only [aa,decide_false,cond_false,false_and,if_false]
theorem adS (a b:List UInt8):(eW.str .neq).run P (.str a) (.str b)=some (.bool (!decide (a=b))):=by simp only [eW.run,ri,qc,Jw]
end
end Go.Proofs.YthemdhlheglhoaaGreatDoor.aY
namespace Go.Proofs.YthemdhlheglhoaaGreatDoor.aY
open Go Go.RowKit
set_option linter.defProp false
def afc:=
 And.intro @ZG<|And.intro @YV<|And.intro @ZO<|And.intro @YW<|And.intro @ZL<|And.intro @ZP<|And.intro @ZM<|And.intro @Zb<|And.intro @Y5<|And.intro @Y2<|And.intro @Y3<|And.intro @Zw<|And.intro @Y_<|And.intro @ZJ<|And.intro @ZC<|And.intro @aar<|And.intro @ZK<|And.intro @aaw<|And.intro @Y0<|And.intro @Z1<|And.intro @Zo<|And.intro @aah<|And.intro @Zp<|And.intro @aai<|And.intro @ZH<|And.intro @aau<|And.intro @YU<|And.intro @ZY<|And.intro @ZU<|And.intro @aaB<|And.intro @Zg<|And.intro @aab<|And.intro @Zl<|And.intro @aae<|And.intro @ZR<|And.intro @aaz<|And.intro @ZQ<|And.intro @aay<|And.intro @Zd<|@Z'
def afd:=
 And.intro @Ze<|And.intro @Z_<|And.intro @Zf<|And.intro @aaa<|And.intro @Zj<|And.intro @aac<|And.intro @Zk<|And.intro @aad<|And.intro @Zn<|And.intro @aag<|And.intro @Zm<|And.intro @aaf<|And.intro @Zv<|And.intro @aan<|And.intro @Zc<|And.intro @Z9<|And.intro @ZA<|And.intro @aaq<|And.intro @ZD<|And.intro @aas<|And.intro @Y7<|And.intro @Z6<|And.intro @Zs<|And.intro @aal<|And.intro @Zt<|And.intro @aam<|And.intro @Zq<|And.intro @aaj<|And.intro @ZF<|And.intro @aat<|And.intro @YY<|And.intro @ZZ<|And.intro @YZ<|And.intro @Z0<|And.intro @ZS<|And.intro @aaA<|And.intro @Zz<|And.intro @aap<|And.intro @ZV<|@aaC
def afe:=
 And.intro @Zy<|And.intro @aao<|And.intro @ZN<|And.intro @aax<|And.intro @ZI<|And.intro @aav<|And.intro @YS<|And.intro @ZX<|And.intro @Y4<|And.intro @Z4<|And.intro @Zr<|And.intro @aak<|And.intro @Y6<|And.intro @Z5<|And.intro @Y9<|And.intro @Z8<|And.intro @Y8<|And.intro @Z7<|And.intro @Z2<|And.intro @Z3<|And.intro @MC<|And.intro @Y1<|@Y'
def aff:=
 And.intro @aes<|And.intro @ad_<|And.intro @Ux<|And.intro @Uw<|And.intro @s8<|And.intro @adE<|And.intro @R1<|And.intro @R0<|And.intro @acy<|And.intro @Vq<|And.intro @Vp<|And.intro @R3<|And.intro @Ve<|And.intro @Vd<|And.intro @acQ<|And.intro @Vl<|And.intro @ab'<|And.intro @ab9<|And.intro @aa4<|And.intro @aa2<|And.intro @aa5<|And.intro @aa3<|And.intro @aa6<|And.intro @Mh<|And.intro @Mg<|And.intro @UJ<|And.intro @Vg<|And.intro @Vf<|And.intro @aeN<|And.intro @adU<|And.intro @adV<|And.intro @ab4<|And.intro @ab5<|And.intro @acx<|And.intro @acu<|And.intro @ae6<|And.intro @ae5<|And.intro @RS<|And.intro @RT<|@RU
def afg:=
 And.intro @RV<|And.intro @RR<|And.intro @Qp<|And.intro @Qr<|And.intro @Qq<|And.intro @aeK<|And.intro @aeM<|And.intro @aeL<|And.intro @YI<|And.intro @YK<|And.intro @YJ<|And.intro @YR<|And.intro @ZT<|And.intro @ZB<|And.intro @Za<|And.intro @ZE<|And.intro @Zx<|And.intro @Zu<|And.intro @Zi<|And.intro @Zh<|And.intro @YT<|And.intro @YX<|And.intro @aeW<|And.intro @aeV<|And.intro @abf<|And.intro @abh<|And.intro @MO<|And.intro @MP<|And.intro @yx<|And.intro @MS<|And.intro @aem<|And.intro @aaI<|And.intro @m'<|And.intro @h1<|And.intro @c0<|And.intro @q8<|And.intro @fs<|And.intro @nr<|And.intro @abI<|@T_
def afh:=
 And.intro @aca<|And.intro @VX<|And.intro @Ud<|And.intro @NI<|And.intro @V1<|And.intro @Um<|And.intro @NJ<|And.intro @V'<|And.intro @Ui<|And.intro @acj<|And.intro @V6<|And.intro @Uk<|And.intro @acm<|And.intro @V8<|And.intro @Ul<|And.intro @acn<|And.intro @V9<|And.intro @Ub<|And.intro @acd<|And.intro @VZ<|And.intro @Un<|And.intro @aco<|And.intro @V_<|And.intro @Uj<|And.intro @ack<|And.intro @V7<|And.intro @Uh<|And.intro @aci<|And.intro @V5<|And.intro @Ue<|And.intro @acf<|And.intro @V2<|And.intro @Ua<|And.intro @acb<|And.intro @VY<|And.intro @Ug<|And.intro @ach<|And.intro @V4<|And.intro @Uc<|@ace
def afi:=
 And.intro @V0<|And.intro @Uf<|And.intro @acg<|And.intro @V3<|And.intro @T'<|And.intro @VW<|And.intro @Wa<|And.intro @aaX<|And.intro @aaY<|And.intro @aaW<|And.intro @beq_true<|And.intro @beq_false<|And.intro @Bool.not_true<|And.intro @Bool.not_false<|And.intro @Bool.true_and<|And.intro @Bool.and_true<|And.intro @Bool.false_and<|And.intro @Bool.and_false<|And.intro @Bool.not_not<|And.intro @V.bool.injEq<|And.intro @Nat.zero_add<|And.intro @Nat.add_zero<|And.intro @aeG<|And.intro @aeH<|And.intro @aeF<|And.intro @Bool.true_eq_false<|And.intro @Bool.false_eq_true<|And.intro @aeJ<|And.intro @ac5<|And.intro @ac6<|And.intro @RE<|And.intro @RD<|And.intro @RA<|And.intro @Rx<|And.intro @WY<|And.intro @W0<|And.intro @WZ<|And.intro @Ry<|And.intro @Rz<|@RB
def afj:=
 And.intro @RC<|And.intro @q6<|And.intro @afm<|And.intro @o5<|And.intro @afn<|And.intro @yL<|And.intro @afo<|And.intro @Nu<|And.intro @afp<|And.intro @G_<|And.intro @afq<|And.intro @abY<|And.intro @afr<|And.intro @abZ<|And.intro @afs<|And.intro @ab0<|And.intro @aft<|And.intro @VR<|And.intro @VO<|And.intro @VQ<|And.intro @VP<|And.intro @VS<|And.intro @Bool.or_false<|And.intro @Bool.false_or<|And.intro @Bool.or_true<|And.intro @Bool.true_or<|And.intro @abP<|And.intro @abt<|And.intro @abz<|And.intro @acv<|And.intro @acw<|And.intro @Q6<|And.intro @Ra<|And.intro @Rb<|And.intro @Rc<|And.intro @Re<|And.intro @Rf<|And.intro @Rh<|And.intro @Ri<|@Rj
def afk:=
 And.intro @Q5<|And.intro @Q7<|And.intro @Q8<|And.intro @Q9<|And.intro @Q'<|And.intro @Q_<|And.intro @ad6<|And.intro @ad7<|And.intro @ad8<|And.intro @ad5<|And.intro @adQ<|And.intro @adS<|And.intro @adP<|@adR
end Go.Proofs.YthemdhlheglhoaaGreatDoor.aY
namespace Go.Proofs.YthemdhlheglhoaaGreatDoor.aY
variable [Lay]
open Go Go.RowKit
theorem zR {B:Nat} {h:af} {size:Nat} {s:V} {n:Nat} {us cs:List V} (cc:1≤size) (H1:dL B h size s n us) (c9:B≤h.next) (hlen:(n+1) * size≤top) (h4:cs.length=size) (aQ:gh cs=true):
 ∃v ab,mY size s (.slice (ai h.next) 0 1 1) (h.new (.bg cs 0 false))=.val v ab∧dL B ab size v (n+1) (us++cs)∧Mod s.bc h ab∧h.next+1≤ab.next∧∀b,v.bc b→s.bc b∨h.next<e9 b:=by
 have ak:Ext h (h.new (.bg cs 0 false)):=(Ext.refl h).new _
 have br:hJ (h.new (.bg cs 0 false)) size (.slice (ai h.next) 0 1 1) 1 cs:=by
  refine ⟨by rw [h4];omega,rfl,e3 (by rw [fs];omega),cs,.inr ⟨0,false,by rw [m']⟩,by omega,by simp⟩
 obtain ⟨v,ab,au,az,aM,bU⟩:=Rt cc (H1.ext ak) br (by rw [fs];omega) hlen aQ
 refine ⟨v,ab,au,az,(ak.mod _).trans aM,by have:=aM.next;rw [fs] at this;exact this,fun b ah=>?_⟩
 rcases bU b ah with q | q
 · exact .inl q
 · exact .inr (by rw [fs] at q;omega)
theorem PN:∀l:List UInt8,ny (h0 l)=some l
 | []=>rfl
 | c::l=>by
   have bj:=PN l
   simp only [h0,ny,bj]
   simp
theorem z':∀l:List UInt8,(h0 l).length=l.length
 | []=>rfl
 | c::l=>by simp only [h0,List.length_cons,z' l]
theorem JE:∀l m:List UInt8,h0 (l++m)=h0 l++h0 m
 | [],m=>rfl
 | c::l,m=>by simp only [h0,List.cons_append,JE l m]
theorem Po {h:af} {b:aN} {us:List V} {cP:Nat} {st:Bool} {off:Nat} {l:List UInt8} (aE:h.get b=.bg us cP st) (ao:off+l.length≤us.length) (hu:(us.drop off).take l.length=h0 l):sC b off l.length h=.val (.str l) h:=by
 unfold sC
 rw [aE]
 simp only [b4.om,b4.bg]
 rw [show Nat.ble (off+l.length) us.length=true from by rw [Nat.ble_eq];exact ao]
 simp only [cond_true]
 rw [AK us l.length off ao,hu,PN]
theorem J1 {B:Nat} {h:af} {v:V} {n:Nat} {l:List UInt8} (H:dL B h 1 v n (h0 l)):rP.run v h=.val (.str l) h:=by
 have aa:=H.1
 rw [z',Nat.mul_one] at aa
 have ae:=H.2
 cases v<;>simp only at ae<;>try (exact ae.elim)
 case cq=>
  subst ae
  rw [List.length_eq_zero_iff] at aa
  subst aa
  rfl
 case slice=>
  obtain ⟨au,az,aM,bU,ey,us,cP,st,fP,j3,o_⟩:=ae
  rw [z'] at o_
  simp only [rP]
  rw [au,←aa]
  exact Po fP (by omega) o_
 case e8=>
  obtain ⟨au,az,aM,bU,ey,us,st,fP,j3,o_⟩:=ae
  rw [z'] at o_ j3
  simp only [rP]
  rw [au,bU,←aa]
  exact Po fP (by omega) (by simpa using o_)
theorem Mod.self {b:aN} {h ab:af} (e:Mod (fun q=>q=b) h ab) (k:b4):Mod (fun q=>q=b) h (ab.set b k):=e.set (fun _=>rfl) k
theorem Mod.fresh {M:aN→Prop} {h ab:af} (e:Mod M h ab) {i:Nat} (aF:h.next≤i) (k:b4):Mod M h (ab.set (ai i) k):=
 e.set (fun q=>absurd (show e9 (ai i)<h.next from q) (by rw [c8];omega)) k
theorem Mod.PG {M N:aN→Prop} {h ae aH:af} (e:Mod M h ae) (q:Mod N ae aH) (aS:∀b,N b→h.next≤e9 b):Mod M h aH:=
 ⟨Nat.le_trans e.next q.next,fun b aQ ah=>by
   rw [q.get b (e.bY aQ) (fun k=>absurd (show e9 b<h.next from aQ) (by have:=aS b k;omega)),e.get b aQ ah]⟩
inductive D where
 | i (k:IntKind) (n:Int)
 | b (x:Bool)
 | s (x:List UInt8)
 | l (size:Nat) (es:List (List D))
inductive b5 (F:aN→Prop) (h:af):List D→List V→Prop
 | nil:b5 F h [] []
 | i {k:IntKind} {n:Int} {ds:List D} {ad:List V} (t:b5 F h ds ad):b5 F h (.i k n::ds) (.int k n::ad)
 | b {x:Bool} {ds:List D} {ad:List V} (t:b5 F h ds ad):b5 F h (.b x::ds) (.bool x::ad)
 | s {x:List UInt8} {ds:List D} {ad:List V} (ah:x.length≤top) (t:b5 F h ds ad):b5 F h (.s x::ds) (.str x::ad)
 | l {size:Nat} {es:List (List D)} {v:V} {us:List (List V)} {ds:List D} {ad:List V} (aG:y_ v) (ah:es.length≤top) (aO:hJ h size v es.length us.flatten) (hu:us.length=es.length) (bs:∀u ∈ us,u.length=size)
    (kids:∀(i:Nat) (e:List D) (u:List V),es[i]? =some e→us[i]? =some u→b5 F h e u) (ar:∀b,v.bc b→F b) (t:b5 F h ds ad):b5 F h (.l size es::ds) (v::ad)
structure eg (F:aN→Prop) (h:af) (size:Nat) (es:List (List D)) (v:V):Prop where
 room:y_ v
 le:es.length≤top
 ex:∃us:List (List V),hJ h size v es.length us.flatten∧us.length=es.length∧(∀u ∈ us,u.length=size)∧∀(i:Nat) (e:List D) (u:List V),es[i]? =some e→us[i]? =some u→b5 F h e u
 AG:∀b,v.bc b→F b
section
variable {F:aN→Prop} {h ab:af} {ds:List D} {ad:List V}
theorem b5.mod {ej M:aN→Prop} (m:Mod M h ab) (cO:∀b,F b→Old h b→¬M b∧ej b) (H:b5 F h ds ad):b5 ej ab ds ad:=by
 induction H with
 | nil=>exact .nil
 | i t bj=>exact .i bj
 | b t bj=>exact .b bj
 | s ah t bj=>exact .s ah bj
 | l aG ah aO hu bs kids ar t r_ qX=>exact .l aG ah (aO.mod m fun b q=>(cO b (ar b q) (aO.bY q)).1) hu bs r_ (fun b q=>(cO b (ar b q) (aO.bY q)).2) qX
theorem b5.ext (H:b5 F h ds ad) (e:Ext h ab):b5 F ab ds ad:=by
 induction H with
 | nil=>exact .nil
 | i t bj=>exact .i bj
 | b t bj=>exact .b bj
 | s ah t bj=>exact .s ah bj
 | l aG ah aO hu bs kids ar t r_ qX=>exact .l aG ah (aO.ext e) hu bs r_ ar qX
theorem b5.je {ej:aN→Prop} (H:b5 F h ds ad) (w:∀b,F b→ej b):b5 ej h ds ad:=by
 induction H with
 | nil=>exact .nil
 | i t bj=>exact .i bj
 | b t bj=>exact .b bj
 | s ah t bj=>exact .s ah bj
 | l aG ah aO hu bs kids ar t r_ qX=>exact .l aG ah aO hu bs r_ (fun b q=>w b (ar b q)) qX
theorem b5.bY (H:b5 F h ds ad):b5 (fun b=>F b∧Old h b) h ds ad:=by
 induction H with
 | nil=>exact .nil
 | i t bj=>exact .i bj
 | b t bj=>exact .b bj
 | s ah t bj=>exact .s ah bj
 | l aG ah aO hu bs kids ar t r_ qX=>exact .l aG ah aO hu bs r_ (fun b q=>⟨ar b q,aO.bY q⟩) qX
theorem b5.gh (H:b5 F h ds ad):gh ad=true:=by
 induction H with
 | nil=>rfl
 | i t bj=>simpa [Go.Proofs.YthemdhlheglhoaaGreatDoor.aY.gh,V.one] using bj
 | b t bj=>simpa [Go.Proofs.YthemdhlheglhoaaGreatDoor.aY.gh,V.one] using bj
 | s ah t bj=>simpa [Go.Proofs.YthemdhlheglhoaaGreatDoor.aY.gh,V.one] using bj
 | l aG ah aO hu bs kids ar t r_ qX=>simp only [Go.Proofs.YthemdhlheglhoaaGreatDoor.aY.gh,aO.one.1,qX,Bool.and_self]
theorem b5.int {k:IntKind} {n:Int} (H:b5 F h (.i k n::ds) ad):∃us,ad=.int k n::us∧b5 F h ds us:=by
 cases H with
 | i t=>exact ⟨_,rfl,t⟩
theorem b5.str {x:List UInt8} (H:b5 F h (.s x::ds) ad):∃us,ad=.str x::us∧x.length≤top∧b5 F h ds us:=by
 cases H with
 | s ah t=>exact ⟨_,rfl,ah,t⟩
theorem b5.hf {size:Nat} {es:List (List D)} (H:b5 F h (.l size es::ds) ad):∃v us,ad=v::us∧eg F h size es v∧b5 F h ds us:=by
 cases H with
 | l aG ah aO hu bs kids ar t=>exact ⟨_,_,rfl,⟨aG,ah,⟨_,aO,hu,bs,kids⟩,ar⟩,t⟩
theorem b5.no (H:b5 F h [] ad):ad=[]:=by cases H;rfl
end
theorem EV {size:Nat}:∀(us:List (List V)) (i:Nat) (u:List V),(∀u ∈ us,u.length=size)→us[i]? =some u→(us.flatten.drop (i * size)).take size=u
 | [],i,u,_,h=>by simp at h
 | w::us,0,u,ao,h=>by
   simp only [List.getElem?_cons_zero,Option.some.injEq] at h
   subst h
   rw [Nat.zero_mul,List.drop_zero,List.flatten_cons,List.take_left' (ao _ (by simp))]
 | w::us,i+1,u,ao,h=>by
   rw [show (i+1) * size=size+i * size from by rw [Nat.succ_mul,Nat.add_comm],←List.drop_drop,List.flatten_cons,List.drop_left' (ao _ (by simp))]
   exact EV us i u (fun u hu=>ao u (by simp [hu])) (by simpa using h)
theorem AB {size:Nat}:∀(us:List (List V)),(∀u ∈ us,u.length=size)→us.flatten.length=us.length * size
 | [],_=>by simp
 | w::us,ao=>by rw [List.flatten_cons,List.length_append,ao w (by simp),AB us (fun u hu=>ao u (by simp [hu])),List.length_cons,Nat.succ_mul,Nat.add_comm]
section
variable {F:aN→Prop} {h ab:af} {size:Nat} {es:List (List D)} {v:V}
theorem eg.cons {ds:List D} {ad:List V} (H:eg F h size es v) (t:b5 F h ds ad):b5 F h (.l size es::ds) (v::ad):=by
 obtain ⟨us,a,b,c,d⟩:=H.ex
 exact .l H.room H.le a b c d H.AG t
theorem eg.ext (H:eg F h size es v) (e:Ext h ab):eg F ab size es v:=by
 obtain ⟨us,a,b,c,d⟩:=H.ex
 exact ⟨H.room,H.le,⟨us,a.ext e,b,c,fun i x u au az=>(d i x u au az).ext e⟩,H.AG⟩
theorem eg.mod {ej M:aN→Prop} (m:Mod M h ab) (cO:∀b,F b→Old h b→¬M b∧ej b) (H:eg F h size es v):eg ej ab size es v:=by
 obtain ⟨us,a,b,c,d⟩:=H.ex
 exact ⟨H.room,H.le,⟨us,a.mod m fun x q=>(cO x (H.AG x q) (a.bY q)).1,b,c,fun i x u au az=>(d i x u au az).mod m cO⟩,fun x q=>(cO x (H.AG x q) (a.bY q)).2⟩
theorem eg.len (H:eg F h size es v):mD v=some (.int .i64 es.length):=by
 obtain ⟨us,a,_⟩:=H.ex
 exact a.len
theorem eg.one (H:eg F h size es v):v.one=true∧v.cells=[v]∧v.gb=true:=by
 obtain ⟨us,a,_⟩:=H.ex
 exact a.one
theorem eg.nil (F:aN→Prop) (h:af) (size:Nat):eg F h size [] .cq:=⟨fun b o l c e=>(by cases e),Nat.zero_le _,⟨[],⟨by simp,rfl⟩,rfl,fun u hu=>(by cases hu),fun i e u q=>(by simp at q)⟩,fun b q=>q.elim⟩
theorem eg.at (H:eg F h size es v) {k:IntKind} {i:Nat} (aF:i<es.length):
 ∃b off u,lU size v (.int k i)=some (.ptr b (off+i * size))∧b5 F h es[i] u∧u.length=size∧(∀ab,Ext h ab→mB size (ab.get b) (off+i * size)=some (.agg u))∧∀ab,Ext h ab→∀j,j<size→j0 (ab.get b) (off+i * size+j)=u[j]? :=by
 obtain ⟨us,aa,ae,ao,aH⟩:=H.ex
 have vG:i<us.length:=by omega
 have hu:=List.getElem?_eq_getElem vG
 obtain ⟨b,off,aP,bl⟩:=aa.fz (k:=k) aF
 have ar:=EV us i _ ao hu
 have pL:=AB us ao
 have hle:i * size+size≤us.length * size:=by
  have:=Nat.mul_le_mul_right size (show i+1≤us.length by omega)
  rw [Nat.succ_mul] at this
  exact this
 have L5:us[i].length=size:=ao _ (List.getElem_mem vG)
 refine ⟨b,off,us[i],aP,aH i _ _ (List.getElem?_eq_getElem aF) hu,L5,fun ab e=>?_,fun ab e j bK=>?_⟩
 · rw [(bl.ext e).ki (i:=i * size) (n:=size) (by omega),ar]
 · rw [Nat.add_assoc,(bl.ext e).jy (i:=i * size+j) (by omega)]
   have:((us.flatten.drop (i * size)).take size)[j]? =us[i][j]? :=by rw [ar]
   rw [List.getElem?_take_of_lt bK,List.getElem?_drop] at this
   rw [←this,List.getElem?_eq_getElem (by omega)]
end
end Go.Proofs.YthemdhlheglhoaaGreatDoor.aY
namespace Go.Proofs.YthemdhlheglhoaaGreatDoor.aY
variable [Lay]
open Go Go.RowKit
def Any (_:aN):Prop:=True
theorem PC:∀{ms:List Nat},(∀(i k:Nat),ms[i]? =some k→1≤k)→ms.length≤ms.sum
 | [],_=>Nat.le_refl _
 | m::ms,h=>by
   have a6:=h 0 m rfl
   have:=PC (ms:=ms) fun i k q=>h (i+1) k (by simpa using q)
   simp only [List.length_cons,List.sum_cons]
   omega
theorem PB:∀{ms:List Nat} {i k:Nat},ms[i]? =some k→k≤ms.sum
 | [],_,_,h=>by simp at h
 | m::ms,0,k,h=>by simp only [List.getElem?_cons_zero,Option.some.injEq] at h;subst h;simp only [List.sum_cons];omega
 | m::ms,i+1,k,h=>by
   have:=PB (ms:=ms) (i:=i) (k:=k) (by simpa using h)
   simp only [List.sum_cons];omega
end Go.Proofs.YthemdhlheglhoaaGreatDoor.aY
namespace Go.Proofs.YthemdhlheglhoaaGreatDoor.aY
variable [Lay]
set_option linter.defProp false
open Go Go.RowKit
def aA:=And.intro @afc<|And.intro @afd @afe
def ae7:=And.intro @aff<|And.intro @afg<|And.intro @afh<|And.intro @afi<|And.intro @afj @afk
def ae8:=And.intro @Option.isSome_some.{0}<|And.intro @Option.getD_some.{0}<|And.intro @if_true.{1}<|And.intro @if_false.{1}<|And.intro @true_and<|And.intro @and_true<|And.intro @List.getElem?_cons_zero.{0}<|And.intro @List.getElem?_cons_succ.{0}<|And.intro @List.length_cons.{0}<|And.intro @List.length_nil.{0}<|
 And.intro @List.drop_zero.{0}<|And.intro @List.drop_succ_cons.{0}<|And.intro @List.take_succ_cons.{0}<|And.intro @List.take_zero.{0}<|And.intro @List.cons_append.{0}<|And.intro @List.nil_append.{0}<|And.intro @Option.some.injEq.{0}<|And.intro @exists_eq_left'.{1}<|And.intro @List.cons.injEq.{0}<|
 And.intro @Nat.succ_ne_zero<|And.intro @Yv<|And.intro @Yu<|And.intro @List.getElem?_nil.{0}<|And.intro @decide_true<|And.intro @decide_false<|And.intro @eq_self.{1}<|And.intro @not_true_eq_false<|And.intro @not_false_eq_true<|And.intro @ite_true.{1} @ite_false.{1}
def cX:=And.intro ae7 (And.intro ae8 (And.intro @i_.eq_1 (And.intro @i_.eq_2 (And.intro @aR.fI.eq_1 (And.intro @aR.fI.eq_2 (And.intro @oq.eq_1 (And.intro @oq.eq_2 (And.intro @oq.eq_3 (And.intro @over.eq_1 (And.intro @over.eq_2 (And.intro @over.eq_3 (And.intro @gh.eq_1 (@gh.eq_2)))))))))))))
def aI:=And.intro cX (And.intro @c'.ends.eq_1 (And.intro @c'.ends.eq_2 (And.intro @dM.eq_1 (And.intro @dM.eq_2 (And.intro @dM.eq_3 (And.intro @dM.eq_4 (And.intro @oneOf.eq_1 (And.intro @oneOf.eq_2 top.eq_1))))))))
end Go.Proofs.YthemdhlheglhoaaGreatDoor.aY
namespace Go.Proofs.YthemdhlheglhoaaGreatDoor.aY
variable [Lay]
open Go Go.RowKit
structure Has (h:af) (n:Nat) (l:List V):Prop where
 lt:n<h.next
 g:h.get (ai n)=.bg l 0 false
theorem Has.ext {h ab:af} {n:Nat} {l:List V} (B:Has h n l) (e:Ext h ab):Has ab n l:=⟨Nat.lt_of_lt_of_le B.lt e.next,(e.get _ (e3 B.lt)).trans B.g⟩
theorem gY (h:af) (l:List V):∃H,h.new (.bg l 0 false)=H∧Ext h H∧Has H h.next l:=⟨_,rfl,(Ext.refl h).new _,by rw [fs];omega,m' _⟩
theorem gD (h:af) (z l:List V):∃H,(h.new (.bg z 0 false)).set (ai h.next) (.bg l 0 false)=H∧Ext h H∧Has H h.next l:=
 ⟨_,rfl,((Ext.refl h).new _).set (Nat.le_refl _) _,by rw [nr,fs];omega,by rw [c0,if_pos rfl]⟩
theorem Has.set {h:af} {n m:Nat} {l:List V} (B:Has h n l) (hm:n≠m) (k:b4):Has (h.set (ai m) k) n l:=⟨by rw [nr];exact B.lt,by rw [c0,if_neg (by rw [q8];exact fun q=>hm q.symm)];exact B.g⟩
theorem Has.put {h:af} {n:Nat} {l:List V} (B:Has h n l) (cE:List V):Has (h.set (ai n) (.bg cE 0 false)) n cE:=⟨by rw [nr];exact B.lt,by rw [c0,if_pos rfl]⟩
theorem b5.p8 {F:aN→Prop} {h:af} {ds:List D} {ad:List V} (H:b5 F h ds ad):b5 (Old h) h ds ad:=H.bY.je fun _ q=>q.2
theorem eg.p8 {F:aN→Prop} {h:af} {size:Nat} {es:List (List D)} {v:V} (H:eg F h size es v):eg (Old h) h size es v:=by
 obtain ⟨us,a,b,c,d⟩:=H.ex
 exact ⟨H.room,H.le,⟨us,a,b,c,fun i x u au az=>(d i x u au az).p8⟩,fun b q=>a.bY q⟩
theorem G' {h:af} {n:Nat} (aS:h.next≤n):¬Old h (ai n):=fun q=>by unfold Old at q;rw [c8] at q;omega
theorem sF {i n:Nat} (h:i<n) (aS:n≤4611686018427387904):IntKind.i64.wrap ((i:Int)+1)=((i+1:Nat):Int):=by rw [wrap_i64 (by omega) (by omega)];rfl
def encI (i:Int):List D:=[.i .i64 i]
theorem eg.YF {F:aN→Prop} {h:af} {l:List Int} {v:V} (H:eg F h 1 (l.map encI) v) {k:IntKind} {i:Nat} (aF:i<l.length):
 ∃b off,lU 1 v (.int k i)=some (.ptr b (off+i * 1))∧∀ab,Ext h ab→j0 (ab.get b) (off+i * 1)=some (.int .i64 l[i]):=by
 obtain ⟨b,off,u,aP,bl,bW,_,eu⟩:=H.at (k:=k) (i:=i) (by rw [List.length_map];exact aF)
 rw [List.getElem_map,encI] at bl
 obtain ⟨us,rfl,lG⟩:=b5.int bl
 obtain rfl:=lG.no
 exact ⟨b,off,aP,fun ab e=>by simpa using eu ab e 0 (by omega)⟩
section
variable {aq:Fr} {E b9:Env} {h aD:af} {w bP:World}
end
end Go.Proofs.YthemdhlheglhoaaGreatDoor.aY
namespace Go.Proofs.YthemdhlheglhoaaGreatDoor.aY
variable [Lay]
open Go Go.RowKit
section
variable {h aD:af}
end
end Go.Proofs.YthemdhlheglhoaaGreatDoor.aY
namespace Go.Proofs.YthemdhlheglhoaaGreatDoor.aY
variable [Lay]
open Go Go.RowKit
inductive zu (F:aN→Prop) (h:af):List (Int × List D)→List cH→Prop
 | nil:zu F h [] []
 | cons {n:Int} {ds:List D} {y:V} {born:Nat} {cQ:List (Int × List D)} {es:List cH} (aX:b5 F h ds y.cells) (t:zu F h cQ es):zu F h ((n,ds)::cQ) (⟨.int .i64 n,y,born⟩::es)
structure afI (F:aN→Prop) (h:af) (cQ:List (Int × List D)) (v:V):Prop where
 ex:∃b es,v=.map b∧Old h b∧((∃clock,h.get b=.mp es clock)∨h.get b=.iW es∧(cQ.map Prod.fst).Nodup)∧zu F h cQ es∧F b
section
variable {F:aN→Prop} {h ab:af} {cQ:List (Int × List D)} {es:List cH} {v:V}
theorem OZ (k n:Int):k1.run (.int .i64 k) (.int .i64 n)=some (decide (k=n)):=by
 simp only [k1,V.ep,pB,cond_true,EM]
end
section
variable {h aD:af}
end
end Go.Proofs.YthemdhlheglhoaaGreatDoor.aY
namespace Go.Proofs.YthemdhlheglhoaaGreatDoor.aY
variable [Lay]
open Go Go.RowKit
section
variable {C:Ctx} (cO:C.P.follows .mixedOrders=true) (bD:eI C.P) (h2:qm C) {n:Nat} {f:FuncId} (ar:Nat.beq f da=false) (ak:C.ext f=none) (jU:∃fn,C.P.funcs[f]? =some fn∧fn.body.isSome=true)
include cO bD h2 ar ak jU
end
end Go.Proofs.YthemdhlheglhoaaGreatDoor.aY
