/- The abstract machine and its walks (a verified interpreter of the model's code: plain definitions and lemmas, no condition). Printed by a program from longer texts: names made short. -/
import Derived.Test.YtahfljfikfkpnaaGreatDoorM4
import Derived.Shelf.SlIter.Sorted
import Derived.Shelf.SlIter.Nil
import Derived.StringKeys
import Derived.WideShapes
import Derived.Lib.ItoaNum
import Derived.Lib.Join
import Derived.Test.YtahfljfikfkpnaaGreatDoorM3
set_option linter.unusedSectionVars false
set_option linter.unusedSimpArgs false
set_option linter.unusedVariables false
set_option maxHeartbeats 64000000
noncomputable section
namespace Go.Proofs.YtahfljfikfkpnaaGreatDoor.bg
section
open Go Go.RowKit
variable [Lay]
end
section
open Go Go.RowKit Go.Maps Go.Sort Go.Shelf
open Go.Proofs (encStr)
variable [Lay]
def u6 (clock:Nat):Nat->List fv->Bool
 | _,[]=>true
 | cW,m::ms=>Nat.ble cW m.born&&Nat.blt m.born clock&&u6 clock (m.born+1) ms
theorem lk {aB:Fr} {E:Env} {h:ah} {w:World} (s:bE aB E h w) {b:aO} {q:kI} (bJ:(h.get b).own=true) (aI:E b=some q):q.bn<w.heap.size:=by
 have ai:=s.at aI;cases ay:h.get b with
 | dead=>rw [ay] at bJ;cases bJ
 | view n cs=>rw [ay] at bJ;cases bJ
 | cells n cs dA st=>rw [ay] at ai;obtain ⟨_,gi,c,el,cK,e,_,bM,_⟩:=ai;rw [e] at aI;cases aI;exact (ao5.1 bM).1
 | iter st pos=>rw [ay] at ai;obtain ⟨gi,e,_,_,bM⟩:=ai;rw [e] at aI;cases aI;exact (ao5.1 bM).1
 | mp es clock=>rw [ay] at ai;obtain ⟨gi,a,e,_,bM,_⟩:=ai;rw [e] at aI;cases aI;exact (ao5.1 bM).1
 | hL l=>rw [ay] at ai;obtain ⟨gi,o,e,_,bM,_⟩:=ai;rw [e] at aI;cases aI;exact (ao5.1 bM).1
 | ie=>rw [ay] at ai;obtain ⟨gi,e,_,bM⟩:=ai;rw [e] at aI;cases aI;exact (ao5.1 bM).1
 | l_ es=>rw [ay] at ai;obtain ⟨gi,a,c,l,e,_,bM,_⟩:=ai;rw [e] at aI;cases aI;exact (ao5.1 bM).1
 | lf src since seen last=>rw [ay] at ai;obtain ⟨gi,m,a,e,_,_,bM,_⟩:=ai;rw [e] at aI;cases aI;exact (ao5.1 bM).1
end
section
open Go Go.RowKit
variable [Lay]
structure anr (P:Program) (f:FuncId):Prop where
 many:∀(yN o c:Nat) (xs:List ByteArray) (sep:ByteArray) (w:World),(∀(j:Nat) x,xs[j]? =some x->w.cell? ⟨yN,o+j,none⟩=some (.string x))->yN<w.heap.size->xs.length<=140737488355328->xs.length<=c->
  (Lib.join (xs.map (·.data.toList)) sep.data.toList).length<=140737488355328->
  Calls P f #[.slice (some ⟨yN,o,none⟩) xs.length c,.string sep] w fun e w'=>e=.returned (.string ⟨(Lib.join (xs.map (·.data.toList)) sep.data.toList).toArray⟩)/\Below w.heap.size w w'
 aor:∀(a:Option Addr) (c:Nat) (sep:ByteArray) (w:World),Calls P f #[.slice a 0 c,.string sep] w fun e w'=>e=.returned (.string ⟨#[]⟩)/\w'=w
structure Vs (pre:List V) (b size:Nat) (h:ah) (da:V) (n:Nat) (us:List V):Prop where
 g:h.get (an b)=.bc (pre++[da]) 0 false
 o:dK (b+1) h size da n us
 lt:b<h.next
structure anl (pre:List V) (b size:Nat) (h:ah) (da:V) (af:ah) (JK:V) (n:Nat) (us:List V):Prop where
 w:Vs pre b size af JK n us
 m:Mod (fun q=>q=an b\/da.bn q) h af
 f:∀q,JK.bn q->da.bn q\/h.next<=dP q
section
variable {pre:List V} {b size:Nat} {h af tE:ah} {da JK aom:V} {n zU:Nat} {us aoH:List V}
end
def Ut (P:Program) (f:FuncId) (args:List V) (u:Option V) (h:ah) (fy:Option V) (af:ah):Prop:=
 (∃fn,P.funcs[f]? =some fn/\fn.body.isSome=true)/\∀(aB:Fr) E w xs m,bI E args xs->j5 E u m->bE aB E h w->
  CallsDIn (aq none) 0 P f xs.toArray m w fun e dv w'=>∃aw x,e=.returned x/\E.le aw/\j5 aw fy (settle dv)/\bE aB aw af w'
def pE (P:Program) (f:FuncId) (args:List V) (u:Option V) (h:ah) (K:Option V->ah->Prop):Prop:=∃fy af,Ut P f args u h fy af/\K fy af
def ki (P:Program):List V->Option V->ah->(Option V->ah->Prop)->Prop
 | [],u,h,K=>K u h
 | .func f args::ds,u,h,K=>pE P f args u h fun fy af=>ki P ds fy af K
 | .ptr b _::ds,u,h,K=>(match h.get b with
   | .ie=>ki P ds u (h.set b .dead) K
   | _=>False)
 | _::_,_,_,_=>False
section
variable {P:Program} {aK:Nat}
theorem Gb:∀{aj:List V} {u:Option V} {h:ah} {K:Option V->ah->Prop},ki P aj u h K->∃fy af,K fy af/\ki P aj u h fun a b=>a=fy/\b=af
 | [],u,h,K,H=>⟨u,h,H,rfl,rfl⟩
 | v::aj,u,h,K,H=>by
   cases v<;>simp only [ki] at H<;>try (exact H.elim)
   . rename_i b o;cases ay:h.get b<;>rw [ay] at H<;>simp only at H<;>try (exact H.elim)
     obtain ⟨fy,af,ao,av⟩:=Gb H;exact ⟨fy,af,ao,by simp only [ki];rw [ay];exact av⟩
   . obtain ⟨uJ,ae,mM,H⟩:=H;obtain ⟨fy,af,ao,av⟩:=Gb H;exact ⟨fy,af,ao,by simp only [ki];exact ⟨uJ,ae,mM,av⟩⟩
theorem Gc (cP:hn P) {aB:Fr} {fn:Func} {tmps:Array Value} {R:Ending->World->Prop} {fy:Option V} {af:ah}:∀(aj:List V) (ds:List Deferred) (E:Env) (u:Option V) (h:ah) (w:World) (m:FrameMode),
 ki P aj u h (fun a b=>a=fy/\b=af)->oI E aj ds->j5 E u m->bE aB E h w->(∀aw dv w',E.le aw->j5 aw fy dv->bE aB aw af w'->LeavesInM (aq none) 0 P fn tmps R [] dv w')->LeavesInM (aq none) 0 P fn tmps R ds m w
 | [],ds,E,u,h,w,m,he,a_,hu,s,c1=>by obtain ⟨rfl,rfl⟩:=he;simp only [oI] at a_;subst a_;exact c1 E m w (Env.le.refl E) hu s
 | v::aj,ds,E,u,h,w,m,he,a_,hu,s,c1=>by
   obtain ⟨d,oZ,rfl,sz,w7⟩:=a_;cases v with
   | func f args=>
     simp only [ki] at he;obtain ⟨uJ,ae,⟨⟨HV,l4,ai⟩,fL⟩,he⟩:=he;obtain ⟨aE,cap,az,aH⟩:=sz;refine ⟨hu.run,.inr ⟨fun h=>by simp at h,_,cap,f,d.args++cap,az,?_,fun _ _=>trivial,?_⟩⟩
     . rw [az];simp only [invoke];exact vT cP l4 ai _ w
     . have e:d.args++cap=(d.args.toList++cap.toList).toArray:=by apply aqq;simp
       rw [e];refine CallsDIn.mono (fL aB E w _ m aH hu s) fun e m1 b9 aI=>?_;obtain ⟨kH,x,rfl,ao,av,aC⟩:=aI;exact Gc cP aj oZ kH uJ ae b9 (settle m1) he (w7.mono ao) av aC fun bY m2 aQ ck c0 e2=>c1 bY m2 aQ (ao.trans ck) c0 e2
   | ptr b off=>
     simp only [ki] at he;cases ay:h.get b<;>rw [ay] at he<;>simp only at he<;>try (exact he.elim)
     obtain ⟨p,aG,w8⟩:=sz;have ai:=s.at aG;rw [ay] at ai;obtain ⟨p',nd,cj,bM⟩:=ai;rw [aG] at nd;cases nd;have pf:=(ao5.1 bM).1
     let b9:World:={w with heap:=w.heap.setIfInBounds p.bn (.deferred none)}
     have Jc:(Instr.takeDeferred p.bn).run P w=.ok [] b9:=by
      have gb:(getObj p.bn).run P w=.ok (.deferred (some [])) w:=by simp only [getObj,Sem.run,bM]
      have tX:(setObj p.bn (.deferred none)).run P w=.ok () b9:=by simp only [setObj,Sem.run,bM];rfl
      simp only [Instr.takeDeferred,Sem.run_bind,gb,Result.andThen_ok,tX,Sem.run_pure]
     have s1:bE aB E (h.set b .dead) b9:=s.gone (by rw [ay];rfl) aG cj (by simp [b9]) (fun j cY=>by simp only [b9,apq];rw [ao_ (fun e=>cY e.symm)]) rfl rfl rfl;refine ⟨hu.run,.inl ⟨p.bn,b9,by rw [w8],Jc,?_⟩⟩;exact Gc cP aj oZ E u _ b9 m he w7 hu s1 c1
   | _=>simp [ki] at he
theorem yW {E:Env} {fn:Func} {args:List V} {xs:List Value} (au:bI E args xs) (gr:fn.ntmps<=top) (lz:args.length<=fn.ntmps):
 iz E fn.ntmps (a6.bc args) {tmps:=xs.toArray++Array.replicate (fn.ntmps-xs.toArray.size) undef,defers:=[]}:=by
 have hlen:=au.length;have dS:xs.toArray.size<=fn.ntmps:=by simp;omega
 have b_:(a6.bc args) cC=.bad:=by rw [qY,apv (by unfold cC;unfold top at gr;omega)];rfl
 refine ⟨by simp;omega,by rw [b_];simp [pF],fun t _=>?_⟩;rw [qY];cases ay:args[t]? with
 | none=>simp [Rel]
 | some v=>
   obtain ⟨y,bm,U⟩:=au.get t v ay;simp only [aqr];have zs:t<xs.length:=(apL.1 bm).1;rw [apw,Array.getElem?_append_left (by simpa using zs)];simp only [List.getElem?_toArray,bm,aqr];exact U
theorem aaa (fE:P.follows .mixedOrders=true) (cP:hn P) {f:FuncId} {fn:Func} {c:Code} {args:List V} {u:Option V} {h:ah} {K:Option V->ah->Prop} (aE:P.funcs[f]? =some fn) (ai:fn.body=some c)
 (gr:Nat.ble fn.ntmps top=true) (lz:Nat.ble args.length fn.ntmps=true) {rc:cc} {dN:List nC} (pW:fQ P fn.ntmps c=rc) (oi:jW P fn.ntmps fn.results.toList=dN) (j_:rc.plain=true)
 (H:gy P rc (a6.bc args) h fun e r af=>e.ends/\∃aj,hz r af dN=some aj/\K u af):pE P f args u h K:=by
 subst pW oi;rw [apn] at gr lz;have bJ:Out fn.ntmps (a6.bc args):=by intro t az _;rw [qY,apv (by omega)];rfl
 have b_:(a6.bc args) cC=.bad:=by rw [qY,apv (by unfold cC;unfold top at gr;omega)];rfl
 rcases Ga gr fE cP c _ h _ bJ H with ⟨e,bq,af,⟨fF,aj,nh,ey⟩,hC,pR⟩ | ⟨x,bq,af,⟨fF,_⟩,hC,pR⟩
 case inr=>exact (fF:False).elim
 have dC:bq cC=.bad:=(hC.2 j_).trans b_;refine ⟨u,af,⟨⟨fn,aE,by rw [ai];rfl⟩,fun aB E w xs m au hu s=>?_⟩,ey⟩;have k:=yW au gr lz;refine CallsDIn.mono (callsDIn_of_wp (R:=fun e w'=>∃aw x,e=.returned x/\E.le aw/\bE aB aw af w') aE ai trivial ?_) fun fk dv w' aI=>?_
 . refine (pR none aB E _ w (.inl rfl) k s _ fun aw bF w' ao av aC=>?_).wp;obtain ⟨c_,d_⟩:=vc hC.1;have a_:bF.defers=[]:=by have:=av.defers;rw [dC] at this;exact this
   have aD:RegRel0 aw fn.ntmps c_ bF:=⟨av.size,fun t az=>by have:=congrFun d_ t;simp only [eE] at this;rw [this];exact av.cz t (nq az)⟩;obtain ⟨x,ck,c0⟩:=FM (P:=P) aD aC (wT d_ nh);cases e with
   | normal=>exact ⟨a_,x,ck,aw,x,rfl,ao,aC⟩
   | ret=>exact ⟨a_,x,ck,aw,x,rfl,ao,aC⟩
   | exit i=>exact fF.elim
 . obtain ⟨rfl,aw,x,rfl,ao,aC⟩:=aI;exact ⟨aw,x,rfl,ao,by rw [hu.settle];exact hu.mono ao,aC⟩
end
def yV (dN:List nC) (K X:V->ah->Prop) (e:eb) (r:a6) (af:ah):Prop:=
 match e with
 | .exit i=>i=lO/\(∃t y,r iu=.iface t y)/\X (r iu) af
 | _=>∃aj,hz r af dN=some aj/\K (oneOf aj) af
def vL (r:a6) (dN:List nC) (K X:V->ah->Prop) (u:Option V) (ag:ah):Prop:=
 match u with
 | none=>∃aj,hz r ag dN=some aj/\K (oneOf aj) ag
 | some v=>X v ag
def tA (P:Program) (dN:List nC) (K X:V->ah->Prop) (e:eb) (r:a6) (af:ah):Prop:=
 match e with
 | .exit i=>i=lO/\(∃t y,r iu=.iface t y)/\ki P (r cC).list (some (r iu)) af (vL r dN K X)
 | _=>ki P (r cC).list none af (vL r dN K X)
section
variable {P:Program} {aK:Nat} {dN:List nC} {K X:V->ah->Prop} {r:a6} {h:ah}
theorem aaO:yV dN K X .ret r h=∃aj,hz r h dN=some aj/\K (oneOf aj) h:=(rfl)
theorem Pe:yV dN K X .normal r h=∃aj,hz r h dN=some aj/\K (oneOf aj) h:=(rfl)
theorem K3 (r:a6) (v:V):r.set (some iu) v iu=v:=by simp only [a6.set,apd]
theorem DY {t:TypeId} {y:V}:yV dN K X (.exit lO) (r.set (some iu) (.iface t y)) h=X (.iface t y) h:=by simp only [yV,K3,aqp];exact propext ⟨fun q=>q.2,fun q=>⟨⟨_,_,rfl⟩,q⟩⟩
theorem aaN:tA P dN K X .ret r h=ki P (r cC).list none h (vL r dN K X):=(rfl)
theorem aaL:tA P dN K X .normal r h=ki P (r cC).list none h (vL r dN K X):=(rfl)
theorem aaM {t:TypeId} {y:V}:tA P dN K X (.exit lO) (r.set (some iu) (.iface t y)) h=ki P (r cC).list (some (.iface t y)) h (vL (r.set (some iu) (.iface t y)) dN K X):=by simp only [tA,K3,aqp,FX];exact propext ⟨fun q=>q.2,fun q=>⟨⟨_,_,rfl⟩,q⟩⟩
theorem aiY:vL r dN K X none h=∃aj,hz r h dN=some aj/\K (oneOf aj) h:=(rfl)
theorem ai2 {v:V}:vL r dN K X (some v) h=X v h:=(rfl)
theorem amR {u:Option V} {K:Option V->ah->Prop}:ki P [] u h K=K u h:=(rfl)
theorem amQ {f:FuncId} {args ds:List V} {u:Option V} {K:Option V->ah->Prop}:ki P (.func f args::ds) u h K=pE P f args u h fun fy af=>ki P ds fy af K:=(rfl)
theorem pE.mono {f:FuncId} {args:List V} {u:Option V} {K lU:Option V->ah->Prop} (c:pE P f args u h K) (aD:∀u af,K u af->lU u af):pE P f args u h lU:=by obtain ⟨fy,af,ao,av⟩:=c;exact ⟨fy,af,ao,aD _ _ av⟩
theorem ah5 (t:Nat):a6.bc [] t=.bad:=rfl
theorem V.ag5:V.bad.list=[]:=rfl
theorem V.ag6 (l:List V):(V.tuple l).list=l:=rfl
set_option linter.defProp false in
def eV:=And.intro @aeX<|And.intro @ah5<|And.intro @V.ag5<|And.intro @V.ag6<|And.intro @amR<|And.intro @amQ<|And.intro @aiY @ai2
set_option linter.defProp false in
def aY:=And.intro @aaO<|And.intro @Pe<|And.intro @DY<|And.intro @aaM<|And.intro @aaN<|And.intro @aaL<|And.intro @Q4<|And.intro @TA<|And.intro @Fq @ajr
theorem D9 {x:V}:∀{l:List ResultVar},hz (r.set (some iu) x) h (jW P aK l)=hz r h (jW P aK l)
 | []=>rfl
 | .tmp t::rs=>by
   simp only [jW];cases ax:(Nat.ble t top&&Nat.blt t aK) with
   | false=>simp [hz]
   | true=>
     simp only [ao7,apn] at ax;have:(r.set (some iu) x) t=r t:=by simp only [a6.set];rw [ao_ (by unfold top at ax;unfold iu;omega)]
     simp only [apc,hz,this,D9 (l:=rs)]
 | .cell a t::rs=>by
   simp only [jW];cases ax:(Nat.ble a top&&Nat.blt a aK) with
   | false=>simp [hz]
   | true=>
     simp only [ao7,apn] at ax;have:(r.set (some iu) x) a=r a:=by simp only [a6.set];rw [ao_ (by unfold top at ax;unfold iu;omega)]
     simp only [apc];cases bh P t with
     | none=>simp [hz]
     | some aS=>
       simp only;cases aS.agg with
       | true=>simp only [apc,hz,this,D9 (l:=rs)]
       | false=>
         cases Nat.beq aS.size 1 with
         | true=>simp only [apc,apg,hz,this,D9 (l:=rs)]
         | false=>simp [hz]
theorem ai1 {aK:Nat} (gr:aK<=top) {r:a6} (bJ:Out aK r):r iu=.bad:=bJ iu (by unfold top at gr;unfold iu;omega) (by decide)
theorem Rk (cP:hn P) {aB:Fr} {fn:Func} {aw:Env} {bF:Act} {w':World} {bq:a6} {af ag:ah} {nw:Option V} {m:FrameMode} (hC:Out fn.ntmps bq) (av:iz aw fn.ntmps bq bF) (hu:j5 aw nw m) (aC:bE aB aw af w')
 (rL:ki P (bq cC).list nw af fun a b=>a=none/\b=ag) {aj:List V} (nh:hz bq ag (jW P fn.ntmps fn.results.toList)=some aj) {R:Ending->World->Prop} (c1:∀bY x aQ,aw.le bY->Rel bY (oneOf aj) x->bE aB bY ag aQ->R (.returned x) aQ):
 LeavesInM (aq none) 0 P fn bF.tmps R bF.defers m w':=by
 refine Gc cP _ bF.defers aw nw af w' m rL av.defers.list hu aC fun bY m2 aQ ck c0 e2=>?_;simp only [j5] at c0;subst c0;obtain ⟨c_,d_⟩:=vc hC;have aD:RegRel0 bY fn.ntmps c_ bF:=⟨av.size,fun t az=>by have:=congrFun d_ t;simp only [eE] at this;rw [this];exact Rel.mono ck _ _ (av.cz t (nq az))⟩;obtain ⟨x,e5,fJ⟩:=FM (P:=P) aD e2 (wT d_ nh);exact ⟨x,e5,c1 bY x aQ ck fJ e2⟩
theorem Rj (cP:hn P) {aB:Fr} {fn:Func} {aw:Env} {bF:Act} {w':World} {bq:a6} {af ag:ah} {nw:Option V} {m:FrameMode} (av:iz aw fn.ntmps bq bF) (hu:j5 aw nw m) (aC:bE aB aw af w') {v:V}
 (rL:ki P (bq cC).list nw af fun a b=>a=some v/\b=ag) {R:Ending->World->Prop} (c1:∀bY x aQ,aw.le bY->Rel bY v x->bE aB bY ag aQ->R (.panicked (nU x)) aQ):
 LeavesInM (aq none) 0 P fn bF.tmps R bF.defers m w':=by
 refine Gc cP _ bF.defers aw nw af w' m rL av.defers.list hu aC fun bY m2 aQ ck c0 e2=>?_;obtain ⟨x,au,rfl⟩:=c0;exact c1 bY x aQ ck au e2
theorem OP (fE:P.follows .mixedOrders=true) (cP:hn P) {f:FuncId} {fn:Func} {c:Code} {args:List V} (aE:P.funcs[f]? =some fn) (ai:fn.body=some c)
 (gr:Nat.ble fn.ntmps top=true) (bm:Nat.beq f eA=false) (lz:Nat.ble args.length fn.ntmps=true) {rc:cc} (pW:fQ P fn.ntmps c=rc) (oi:jW P fn.ntmps fn.results.toList=dN) {Q:eb->a6->ah->Prop} (H:gy P rc (a6.bc args) h Q)
 (b':∀e r af,(rc.plain=true->r cC=.bad)->Q e r af->tA P dN K X e r af):j2 P f args h K X:=by
 subst pW oi;rw [apn] at gr lz;have bJ:Out fn.ntmps (a6.bc args):=by intro t az _;rw [qY,apv (by omega)];rfl
 have b_:(a6.bc args) cC=.bad:=by rw [qY,apv (by unfold cC;unfold top at gr;omega)];rfl
 have iP:f≠eA:=fun e=>by subst e;simp at bm
 have Es:∃fn,P.funcs[f]? =some fn/\fn.body.isSome=true:=⟨fn,aE,by rw [ai];rfl⟩;rcases Ga gr fE cP c _ h _ bJ H with ⟨e,bq,af,aI,hC,pR⟩ | ⟨x,bq,af,aI,hC,pR⟩
 . have qE:=b' e bq af (fun z=>(hC.2 z).trans b_) aI;obtain ⟨he,hw⟩:(e=.normal\/e=.ret)/\ki P (bq cC).list none af (vL bq (jW P fn.ntmps fn.results.toList) K X):=by
    cases e with
    | normal=>exact ⟨.inl rfl,qE⟩
    | ret=>exact ⟨.inr rfl,qE⟩
    | exit i=>
      obtain ⟨_,⟨t,y,aG⟩,_⟩:=qE;rw [ai1 gr hC.1] at aG;cases aG
   obtain ⟨vZ,ag,vs,rL⟩:=Gb hw;cases vZ with
   | none=>
     obtain ⟨aj,nh,ey⟩:=vs;refine .inl ⟨oneOf aj,ag,⟨iP,.inl ⟨Es,fun aB E w xs au s=>?_⟩⟩,ey⟩;refine sj.1 (callsIn_of_wp_marks (F:=aq none) (n:=0) aE ai trivial ?_);refine (pR none aB E _ w (.inl rfl) (yW au gr lz) s _ fun aw bF w' ao av aC=>?_).wp;have:LeavesInM (aq none) 0 P fn bF.tmps (fun e w'=>∃aw x,e=.returned x/\E.le aw/\Rel aw (oneOf aj) x/\bE aB aw ag w') bF.defers .returning w':=
      Rk cP hC.1 av (nw:=none) rfl aC rL nh fun bY x aQ z2 z3 z4=>⟨bY,x,rfl,ao.trans z2,z3,z4⟩
     rcases he with rfl | rfl<;>exact this
   | some v=>
     refine .inr ⟨v,ag,⟨iP,Es,fun aB E w xs au s=>?_⟩,vs⟩;refine sj.1 (callsIn_of_wp_marks (F:=aq none) (n:=0) aE ai trivial ?_);refine (pR none aB E _ w (.inl rfl) (yW au gr lz) s _ fun aw bF w' ao av aC=>?_).wp;have:LeavesInM (aq none) 0 P fn bF.tmps (fun e w'=>∃aw x,e=.panicked (nU x)/\E.le aw/\Rel aw v x/\bE aB aw ag w') bF.defers .returning w':=
      Rj cP av (nw:=none) rfl aC rL fun bY x aQ z2 z3 z4=>⟨bY,x,rfl,ao.trans z2,z3,z4⟩
     rcases he with rfl | rfl<;>exact this
 . have qE:=b' _ (bq.set (some iu) x) af (fun z=>by rw [FX];exact (hC.2 z).trans b_) aI;obtain ⟨_,⟨t,y,aG⟩,hw⟩:=qE;rw [K3] at aG hw;rw [FX] at hw;obtain ⟨vZ,ag,vs,rL⟩:=Gb hw;cases vZ with
   | none=>
     obtain ⟨aj,nh,ey⟩:=vs;rw [D9] at nh;refine .inl ⟨oneOf aj,ag,⟨iP,.inl ⟨Es,fun aB E w xs au s=>?_⟩⟩,ey⟩;refine sj.1 (callsIn_of_wp_marks (F:=aq none) (n:=0) aE ai trivial ?_);refine (pR none aB E _ w (.inl rfl) (yW au gr lz) s _ fun aw bF w' ra ao av aC bs=>?_).wp;exact Rk cP hC.1 av (nw:=some x) ⟨ra,aC,rfl⟩ bs rL nh fun bY x aQ z2 z3 z4=>⟨bY,x,rfl,ao.trans z2,z3,z4⟩
   | some v=>
     refine .inr ⟨v,ag,⟨iP,Es,fun aB E w xs au s=>?_⟩,vs⟩;refine sj.1 (callsIn_of_wp_marks (F:=aq none) (n:=0) aE ai trivial ?_);refine (pR none aB E _ w (.inl rfl) (yW au gr lz) s _ fun aw bF w' ra ao av aC bs=>?_).wp;exact Rj cP av (nw:=some x) ⟨ra,aC,rfl⟩ bs rL fun bY x aQ z2 z3 z4=>⟨bY,x,rfl,ao.trans z2,z3,z4⟩
theorem Z1 (fE:P.follows .mixedOrders=true) (cP:hn P) {f:FuncId} {fn:Func} {c:Code} {args:List V} (aE:P.funcs[f]? =some fn) (ai:fn.body=some c)
 (gr:Nat.ble fn.ntmps top=true) (bm:Nat.beq f eA=false) (lz:Nat.ble args.length fn.ntmps=true) {rc:cc} (pW:fQ P fn.ntmps c=rc) (oi:jW P fn.ntmps fn.results.toList=dN) (j_:rc.plain=true) (H:gy P rc (a6.bc args) h (yV dN K X)):j2 P f args h K X:=by
 refine OP fE cP aE ai gr bm lz pW oi H fun e r af al q=>?_;have al:=al j_;cases e with
 | normal=>simp only [tA,al,V.list,ki];exact q
 | ret=>simp only [tA,al,V.list,ki];exact q
 | exit i=>
   obtain ⟨ao,av,aC⟩:=q;refine ⟨ao,av,?_⟩;rw [al];exact aC
theorem Z2 (fE:P.follows .mixedOrders=true) (cP:hn P) {f:FuncId} {fn:Func} {c:Code} {args:List V} (aE:P.funcs[f]? =some fn) (ai:fn.body=some c)
 (gr:Nat.ble fn.ntmps top=true) (bm:Nat.beq f eA=false) (lz:Nat.ble args.length fn.ntmps=true) {rc:cc} (pW:fQ P fn.ntmps c=rc) (oi:jW P fn.ntmps fn.results.toList=dN) (H:gy P rc (a6.bc args) h (tA P dN K X)):j2 P f args h K X:=
 OP fE cP aE ai gr bm lz pW oi H fun e r af _ q=>q
theorem j2.Z0 {f:FuncId} {args:List V} (c:j2 P f args h K fun _ _=>False):dW P f args h K:=by
 rcases c with c | ⟨_,_,_,q⟩
 . exact c
 . exact q.elim
end
def C1 (s:Dw) (u:Option V) (r:a6):a6:=(r.set (some s.d) (u.getD .nilIface)).set (some s.e) ((rx s.x).aV (r.set (some s.d) (u.getD .nilIface)))
theorem Z_ {P:Program} (fE:P.follows .mixedOrders=true) (cP:hn P) {f:FuncId} {fn:Func} {c:Code} {args:List V} {u:Option V} {h:ah} {K:Option V->ah->Prop} (aE:P.funcs[f]? =some fn) (ai:fn.body=some c)
 (gr:Nat.ble fn.ntmps top=true) (lz:Nat.ble args.length fn.ntmps=true) {nt:Dw} (U:C2 c=some nt) (ih:(hr fn.ntmps (some nt.d)&&hr fn.ntmps (some nt.e))=true) {rc:cc} {dN:List nC} (pW:fQ P fn.ntmps nt.rest=rc) (oi:jW P fn.ntmps fn.results.toList=dN) (j_:rc.plain=true)
 (H:gy P rc (C1 nt u (a6.bc args)) h fun e r af=>e.ends/\∃aj,hz r af dN=some aj/\K none af):pE P f args u h K:=by
 subst pW oi;rw [apn] at gr lz;simp only [ao7] at ih;have bJ:Out fn.ntmps (a6.bc args):=by intro t az _;rw [qY,apv (by omega)];rfl
 have b_:(a6.bc args) cC=.bad:=by rw [qY,apv (by unfold cC;unfold top at gr;omega)];rfl
 have vs:Out fn.ntmps (C1 nt u (a6.bc args)):=(bJ.set ih.1 _).set ih.2 _;have eP:C1 nt u (a6.bc args) cC=.bad:=by unfold C1;rw [Ak ih.2,Ak ih.1];exact b_
 rcases Ga gr fE cP nt.rest _ h _ vs H with ⟨e,bq,af,⟨fF,aj,nh,ey⟩,hC,pR⟩ | ⟨x,bq,af,⟨fF,_⟩,hC,pR⟩
 case inr=>exact (fF:False).elim
 have dC:bq cC=.bad:=(hC.2 j_).trans eP;refine ⟨none,af,⟨⟨fn,aE,by rw [ai];rfl⟩,fun aB E w xs m au hu s=>?_⟩,ey⟩;have k:=yW au gr lz;obtain ⟨id,hW,fm,SI,rt,rfl,g1,g2,g3,g4,g5,g6⟩:=akD U;refine callsDIn_of_wpSIn aE ai trivial fun wK cs Is=>wpSIn_seq (wpSIn_region ?_)
 obtain ⟨X,di,rk,jF,dv,EF,QG⟩:∃X,Rel E (u.getD .nilIface) X/\∃rk,(match recoverD (wK::cs) with
  | some (v,ZT)=>v=X/\ZT=rk
  | none=>X=.nilIface/\rk=wK::cs)/\∃dv,rk={wK with mode:=dv}::cs/\settle dv=.returning:=by
  cases u with
  | none=>
    simp only [j5] at hu;subst hu;refine ⟨.nilIface,rfl,wK::cs,?_,.returning,?_,rfl⟩
    . simp only [recoverD,Is];exact ⟨trivial,trivial⟩
    . rw [<-Is]
  | some v=>
    obtain ⟨x,au,rfl⟩:=hu;refine ⟨x,au,{wK with mode:=.panicking [{v:=x,recovered:=true}]}::cs,?_,.panicking [{v:=x,recovered:=true}],rfl,rfl⟩;simp only [recoverD,Is];exact ⟨trivial,trivial⟩
 have dr:=k.put (Env.le.refl E) ih.1 di;have ze:∀(r:a6) (a:Act),iz E fn.ntmps r a->Rel E ((rx nt.x).aV r) (a.eval nt.x):=by
  intro r a dL;cases nt.x with
  | tmp t=>
    simp only [rx];cases ai:Nat.ble t top with
    | false=>simp [aZ.aV,Rel]
    | true=>
      simp only [apc,aZ.aV];exact dL.cz t (nq (apF ai))
  | const v=>exact uk E v
  | func f=>
    simp only [rx];cases ai:Nat.beq f eA with
    | true=>simp [aZ.aV,Rel]
    | false=>
      simp only [apg,aZ.aV,Rel];exact .inl ⟨fun e=>by subst e;simp at ai,_,rfl,by simp [bI]⟩
  | global g=>simp [rx,aZ.aV,Rel]
 have dZ:=dr.put (Env.le.refl E) ih.2 (ze _ _ dr)
 have tV:=((pR none aB E _ w (.inl rfl) dZ s (fun fk bF w'=>bodyPostS P fn wK cs (fun e dv w'=>∃aw x,e=.returned x/\E.le aw/\j5 aw none (settle dv)/\bE aB aw af w') fk bF rk w') (by
  intro aw bF w' ao av aC;have a_:bF.defers=[]:=by have:=av.defers;rw [dC] at this;exact this
  obtain ⟨c_,d_⟩:=vc hC.1;have aD:RegRel0 aw fn.ntmps c_ bF:=⟨av.size,fun t az=>by have:=congrFun d_ t;simp only [eE] at this;rw [this];exact av.cz t (nq az)⟩;obtain ⟨x,ck,c0⟩:=FM (P:=P) aD aC (wT d_ nh);cases e with
  | normal=>exact ⟨a_,dv,EF,x,ck,aw,x,rfl,ao,QG,aC⟩
  | ret=>exact ⟨a_,dv,EF,x,ck,aw,x,rfl,ao,QG,aC⟩
  | exit i=>exact fF.elim))).wp
 rw [<-g1] at tV;rw [<-g4] at tV;have QM:=wpSIn_of_wpIn (F:=aq none) rfl tV;have xp:∀y,Region.wanted hW y=true:=fun y=>by simp [Region.wanted,g3]
 have e8:∀y,Region.wanted fm y=true:=fun y=>by simp [Region.wanted,g6]
 have adN:∀(ρ:Operand->Value),(execOp ρ hW).run P w=.ok .recover w:=fun ρ=>by obtain ⟨dst,op,type,pos,after,guard⟩:=hW;simp only at g2;subst g2;rfl
 have QF:∀(ρ:Operand->Value),(execOp ρ fm).run P w=.ok (.value (ρ nt.x)) w:=fun ρ=>by obtain ⟨dst,op,type,pos,after,guard⟩:=fm;simp only at g5;subst g5;rfl
 have dS:(#[hW,fm]:Array Oper).size=2:=rfl;rw [dS];simp only [List.range_succ,List.range_zero,apx,apm,wpOpsSIn];have ek:(#[hW,fm]:Array Oper)[0]? =some hW:=rfl;have aP:(#[hW,fm]:Array Oper)[1]? =some fm:=rfl;rw [ek];simp only [xp,apd,adN];refine ⟨fun _ _=>trivial,?_⟩;cases QC:recoverD (wK::cs) with
 | none=>
   rw [QC] at jF;obtain ⟨acm,pQ⟩:=jF;subst acm pQ;simp only [aP,e8,apd,QF];exact ⟨fun _ _=>trivial,QM⟩
 | some ev=>
   obtain ⟨v,anI⟩:=ev;rw [QC] at jF;obtain ⟨rfl,rfl⟩:=jF;simp only [aP,e8,apd,QF];exact ⟨fun _ _=>trivial,QM⟩
end
end Go.Proofs.YtahfljfikfkpnaaGreatDoor.bg
