/- The abstract machine and its walks (a verified interpreter of the model's code: plain definitions and lemmas, no condition). Printed by a program from longer texts: names made short. -/
import Derived.Test.YtahfljfikfkpnaaGreatDoorM4
import Derived.Shelf.SlIter.Sorted
import Derived.Shelf.SlIter.Nil
import Derived.StringKeys
import Derived.WideShapes
import Derived.Lib.ItoaNum
import Derived.Lib.Join
import Derived.Test.YtahfljfikfkpnaaGreatDoorM3
set_option linter.unusedSectionVars false
set_option linter.unusedSimpArgs false
set_option linter.unusedVariables false
set_option maxHeartbeats 64000000
noncomputable section
namespace Go.Proofs.YtahfljfikfkpnaaGreatDoor.ba
section
open Go Go.RowKit
variable [Lay]
end
section
open Go Go.RowKit Go.Maps Go.Sort Go.Shelf
open Go.Proofs (encStr)
variable [Lay]
def u1 (clock:Nat):Nat->List fv->Bool
 | _,[]=>true
 | cX,m::ms=>Nat.ble cX m.born&&Nat.blt m.born clock&&u1 clock (m.born+1) ms
theorem lg {aA:Fr} {E:Env} {h:ah} {w:World} (s:bD aA E h w) {b:aN} {q:kB} (bG:(h.get b).own=true) (aH:E b=some q):q.bp<w.heap.size:=by
 have ai:=s.at aH;cases ay:h.get b with
 | dead=>rw [ay] at bG;cases bG
 | view n cs=>rw [ay] at bG;cases bG
 | cells n cs dw st=>rw [ay] at ai;obtain ⟨_,gg,c,el,cK,e,_,bP,_⟩:=ai;rw [e] at aH;cases aH;exact (aoD.1 bP).1
 | iter st pos=>rw [ay] at ai;obtain ⟨gg,e,_,_,bP⟩:=ai;rw [e] at aH;cases aH;exact (aoD.1 bP).1
 | mp es clock=>rw [ay] at ai;obtain ⟨gg,a,e,_,bP,_⟩:=ai;rw [e] at aH;cases aH;exact (aoD.1 bP).1
 | hH l=>rw [ay] at ai;obtain ⟨gg,o,e,_,bP,_⟩:=ai;rw [e] at aH;cases aH;exact (aoD.1 bP).1
 | h'=>rw [ay] at ai;obtain ⟨gg,e,_,bP⟩:=ai;rw [e] at aH;cases aH;exact (aoD.1 bP).1
 | l6 es=>rw [ay] at ai;obtain ⟨gg,a,c,l,e,_,bP,_⟩:=ai;rw [e] at aH;cases aH;exact (aoD.1 bP).1
 | k_ src since seen last=>rw [ay] at ai;obtain ⟨gg,m,a,e,_,_,bP,_⟩:=ai;rw [e] at aH;cases aH;exact (aoD.1 bP).1
end
section
open Go Go.RowKit
variable [Lay]
structure am0 (P:Program) (f:FuncId):Prop where
 many:∀(wv o c:Nat) (xs:List ByteArray) (sep:ByteArray) (w:World),(∀(j:Nat) x,xs[j]? =some x->w.cell? ⟨wv,o+j,none⟩=some (.string x))->wv<w.heap.size->xs.length<=140737488355328->xs.length<=c->
  (Lib.join (xs.map (·.data.toList)) sep.data.toList).length<=140737488355328->
  Calls P f #[.slice (some ⟨wv,o,none⟩) xs.length c,.string sep] w fun e w'=>e=.returned (.string ⟨(Lib.join (xs.map (·.data.toList)) sep.data.toList).toArray⟩)/\Below w.heap.size w w'
 an1:∀(a:Option Addr) (c:Nat) (sep:ByteArray) (w:World),Calls P f #[.slice a 0 c,.string sep] w fun e w'=>e=.returned (.string ⟨#[]⟩)/\w'=w
structure Vi (pre:List V) (b size:Nat) (h:ah) (dc:V) (n:Nat) (us:List V):Prop where
 g:h.get (ao b)=.bd (pre++[dc]) 0 false
 o:dA (b+1) h size dc n us
 lt:b<h.next
structure amU (pre:List V) (b size:Nat) (h:ah) (dc:V) (ae:ah) (JE:V) (n:Nat) (us:List V):Prop where
 w:Vi pre b size ae JE n us
 m:Mod (fun q=>q=ao b\/dc.bp q) h ae
 f:∀q,JE.bp q->dc.bp q\/h.next<=dP q
section
variable {pre:List V} {b size:Nat} {h ae tp:ah} {dc JE anW:V} {n mC:Nat} {us aof:List V}
end
def Uk (P:Program) (f:FuncId) (args:List V) (u:Option V) (h:ah) (fx:Option V) (ae:ah):Prop:=
 (∃fn,P.funcs[f]? =some fn/\fn.body.isSome=true)/\∀(aA:Fr) E w xs m,bH E args xs->j0 E u m->bD aA E h w->
  CallsDIn (aq none) 0 P f xs.toArray m w fun e dx w'=>∃aw x,e=.returned x/\E.le aw/\j0 aw fx (settle dx)/\bD aA aw ae w'
def pt (P:Program) (f:FuncId) (args:List V) (u:Option V) (h:ah) (K:Option V->ah->Prop):Prop:=∃fx ae,Uk P f args u h fx ae/\K fx ae
def kd (P:Program):List V->Option V->ah->(Option V->ah->Prop)->Prop
 | [],u,h,K=>K u h
 | .func f args::ds,u,h,K=>pt P f args u h fun fx ae=>kd P ds fx ae K
 | .ptr b _::ds,u,h,K=>(match h.get b with
   | .h'=>kd P ds u (h.set b .dead) K
   | _=>False)
 | _::_,_,_,_=>False
section
variable {P:Program} {aL:Nat}
theorem F9:∀{aj:List V} {u:Option V} {h:ah} {K:Option V->ah->Prop},kd P aj u h K->∃fx ae,K fx ae/\kd P aj u h fun a b=>a=fx/\b=ae
 | [],u,h,K,H=>⟨u,h,H,rfl,rfl⟩
 | v::aj,u,h,K,H=>by
   cases v<;>simp only [kd] at H<;>try (exact H.elim)
   . rename_i b o;cases ay:h.get b<;>rw [ay] at H<;>simp only at H<;>try (exact H.elim)
     obtain ⟨fx,ae,an,av⟩:=F9 H;exact ⟨fx,ae,an,by simp only [kd];rw [ay];exact av⟩
   . obtain ⟨uA,ad,mG,H⟩:=H;obtain ⟨fx,ae,an,av⟩:=F9 H;exact ⟨fx,ae,an,by simp only [kd];exact ⟨uA,ad,mG,av⟩⟩
theorem F' (cQ:hh P) {aA:Fr} {fn:Func} {tmps:Array Value} {R:Ending->World->Prop} {fx:Option V} {ae:ah}:∀(aj:List V) (ds:List Deferred) (E:Env) (u:Option V) (h:ah) (w:World) (m:FrameMode),
 kd P aj u h (fun a b=>a=fx/\b=ae)->oF E aj ds->j0 E u m->bD aA E h w->(∀aw dx w',E.le aw->j0 aw fx dx->bD aA aw ae w'->LeavesInM (aq none) 0 P fn tmps R [] dx w')->LeavesInM (aq none) 0 P fn tmps R ds m w
 | [],ds,E,u,h,w,m,he,bk,hu,s,c1=>by obtain ⟨rfl,rfl⟩:=he;simp only [oF] at bk;subst bk;exact c1 E m w (Env.le.refl E) hu s
 | v::aj,ds,E,u,h,w,m,he,bk,hu,s,c1=>by
   obtain ⟨d,oT,rfl,si,w2⟩:=bk;cases v with
   | func f args=>
     simp only [kd] at he;obtain ⟨uA,ad,⟨⟨abg,mV,ai⟩,fJ⟩,he⟩:=he;obtain ⟨aE,cap,az,aG⟩:=si;refine ⟨hu.run,.inr ⟨fun h=>by simp at h,_,cap,f,d.args++cap,az,?_,fun _ _=>trivial,?_⟩⟩
     . rw [az];simp only [invoke];exact vN cQ mV ai _ w
     . have e:d.args++cap=(d.args.toList++cap.toList).toArray:=by apply apW;simp
       rw [e];refine CallsDIn.mono (fJ aA E w _ m aG hu s) fun e m1 b9 aH=>?_;obtain ⟨kA,x,rfl,an,av,aB⟩:=aH;exact F' cQ aj oT kA uA ad b9 (settle m1) he (w2.mono an) av aB fun bY m2 aR cg cY eS=>c1 bY m2 aR (an.trans cg) cY eS
   | ptr b off=>
     simp only [kd] at he;cases ay:h.get b<;>rw [ay] at he<;>simp only at he<;>try (exact he.elim)
     obtain ⟨p,aF,w4⟩:=si;have ai:=s.at aF;rw [ay] at ai;obtain ⟨p',m_,cd,bP⟩:=ai;rw [aF] at m_;cases m_;have o9:=(aoD.1 bP).1
     let b9:World:={w with heap:=w.heap.setIfInBounds p.bp (.deferred none)}
     have I7:(Instr.takeDeferred p.bp).run P w=.ok [] b9:=by
      have f_:(getObj p.bp).run P w=.ok (.deferred (some [])) w:=by simp only [getObj,Sem.run,bP]
      have tK:(setObj p.bp (.deferred none)).run P w=.ok () b9:=by simp only [setObj,Sem.run,bP];rfl
      simp only [Instr.takeDeferred,Sem.run_bind,f_,Result.andThen_ok,tK,Sem.run_pure]
     have s1:bD aA E (h.set b .dead) b9:=s.gone (by rw [ay];rfl) aF cd (by simp [b9]) (fun j cW=>by simp only [b9,aoY];rw [aoI (fun e=>cW e.symm)]) rfl rfl rfl;refine ⟨hu.run,.inl ⟨p.bp,b9,by rw [w4],I7,?_⟩⟩;exact F' cQ aj oT E u _ b9 m he w2 hu s1 c1
   | _=>simp [kd] at he
theorem yQ {E:Env} {fn:Func} {args:List V} {xs:List Value} (au:bH E args xs) (gr:fn.ntmps<=top) (lx:args.length<=fn.ntmps):
 iw E fn.ntmps (a1.bd args) {tmps:=xs.toArray++Array.replicate (fn.ntmps-xs.toArray.size) undef,defers:=[]}:=by
 have hlen:=au.length;have dH:xs.toArray.size<=fn.ntmps:=by simp;omega
 have b_:(a1.bd args) cD=.bad:=by rw [qL,ao3 (by unfold cD;unfold top at gr;omega)];rfl
 refine ⟨by simp;omega,by rw [b_];simp [pv],fun t _=>?_⟩;rw [qL];cases ay:args[t]? with
 | none=>simp [Rel]
 | some v=>
   obtain ⟨y,bl,U⟩:=au.get t v ay;simp only [ap2];have zl:t<xs.length:=(apk.1 bl).1;rw [ao4,Array.getElem?_append_left (by simpa using zl)];simp only [List.getElem?_toArray,bl,ap2];exact U
theorem Z2 (fC:P.follows .mixedOrders=true) (cQ:hh P) {f:FuncId} {fn:Func} {c:Code} {args:List V} {u:Option V} {h:ah} {K:Option V->ah->Prop} (aE:P.funcs[f]? =some fn) (ai:fn.body=some c)
 (gr:Nat.ble fn.ntmps top=true) (lx:Nat.ble args.length fn.ntmps=true) {rc:cb} {dO:List nz} (pO:fN P fn.ntmps c=rc) (om:jR P fn.ntmps fn.results.toList=dO) (j7:rc.plain=true)
 (H:gz P rc (a1.bd args) h fun e r ae=>e.ends/\∃aj,hs r ae dO=some aj/\K u ae):pt P f args u h K:=by
 subst pO om;rw [aoT] at gr lx;have bG:Out fn.ntmps (a1.bd args):=by intro t az _;rw [qL,ao3 (by omega)];rfl
 have b_:(a1.bd args) cD=.bad:=by rw [qL,ao3 (by unfold cD;unfold top at gr;omega)];rfl
 rcases F8 gr fC cQ c _ h _ bG H with ⟨e,bq,ae,⟨fD,aj,nc,ez⟩,hy,pJ⟩ | ⟨x,bq,ae,⟨fD,_⟩,hy,pJ⟩
 case inr=>exact (fD:False).elim
 have dD:bq cD=.bad:=(hy.2 j7).trans b_;refine ⟨u,ae,⟨⟨fn,aE,by rw [ai];rfl⟩,fun aA E w xs m au hu s=>?_⟩,ez⟩;have k:=yQ au gr lx;refine CallsDIn.mono (callsDIn_of_wp (R:=fun e w'=>∃aw x,e=.returned x/\E.le aw/\bD aA aw ae w') aE ai trivial ?_) fun fi dx w' aH=>?_
 . refine (pJ none aA E _ w (.inl rfl) k s _ fun aw bF w' an av aB=>?_).wp;obtain ⟨db,eb⟩:=u9 hy.1;have bk:bF.defers=[]:=by have:=av.defers;rw [dD] at this;exact this
   have aD:RegRel0 aw fn.ntmps db bF:=⟨av.size,fun t az=>by have:=congrFun eb t;simp only [eE] at this;rw [this];exact av.cA t (nk az)⟩;obtain ⟨x,cg,cY⟩:=FK (P:=P) aD aB (wM eb nc);cases e with
   | normal=>exact ⟨bk,x,cg,aw,x,rfl,an,aB⟩
   | ret=>exact ⟨bk,x,cg,aw,x,rfl,an,aB⟩
   | exit i=>exact fD.elim
 . obtain ⟨rfl,aw,x,rfl,an,aB⟩:=aH;exact ⟨aw,x,rfl,an,by rw [hu.settle];exact hu.mono an,aB⟩
end
def yP (dO:List nz) (K X:V->ah->Prop) (e:ec) (r:a1) (ae:ah):Prop:=
 match e with
 | .exit i=>i=lK/\(∃t y,r im=.iface t y)/\X (r im) ae
 | _=>∃aj,hs r ae dO=some aj/\K (oneOf aj) ae
def vF (r:a1) (dO:List nz) (K X:V->ah->Prop) (u:Option V) (ag:ah):Prop:=
 match u with
 | none=>∃aj,hs r ag dO=some aj/\K (oneOf aj) ag
 | some v=>X v ag
def tk (P:Program) (dO:List nz) (K X:V->ah->Prop) (e:ec) (r:a1) (ae:ah):Prop:=
 match e with
 | .exit i=>i=lK/\(∃t y,r im=.iface t y)/\kd P (r cD).list (some (r im)) ae (vF r dO K X)
 | _=>kd P (r cD).list none ae (vF r dO K X)
section
variable {P:Program} {aL:Nat} {dO:List nz} {K X:V->ah->Prop} {r:a1} {h:ah}
theorem aaB:yP dO K X .ret r h=∃aj,hs r h dO=some aj/\K (oneOf aj) h:=(rfl)
theorem O3:yP dO K X .normal r h=∃aj,hs r h dO=some aj/\K (oneOf aj) h:=(rfl)
theorem KW (r:a1) (v:V):r.set (some im) v im=v:=by simp only [a1.set,aoM]
theorem DV {t:TypeId} {y:V}:yP dO K X (.exit lK) (r.set (some im) (.iface t y)) h=X (.iface t y) h:=by simp only [yP,KW,apV];exact propext ⟨fun q=>q.2,fun q=>⟨⟨_,_,rfl⟩,q⟩⟩
theorem aaA:tk P dO K X .ret r h=kd P (r cD).list none h (vF r dO K X):=(rfl)
theorem aay:tk P dO K X .normal r h=kd P (r cD).list none h (vF r dO K X):=(rfl)
theorem aaz {t:TypeId} {y:V}:tk P dO K X (.exit lK) (r.set (some im) (.iface t y)) h=kd P (r cD).list (some (.iface t y)) h (vF (r.set (some im) (.iface t y)) dO K X):=by simp only [tk,KW,apV,FT];exact propext ⟨fun q=>q.2,fun q=>⟨⟨_,_,rfl⟩,q⟩⟩
theorem aiE:vF r dO K X none h=∃aj,hs r h dO=some aj/\K (oneOf aj) h:=(rfl)
theorem aiI {v:V}:vF r dO K X (some v) h=X v h:=(rfl)
theorem amr {u:Option V} {K:Option V->ah->Prop}:kd P [] u h K=K u h:=(rfl)
theorem amq {f:FuncId} {args ds:List V} {u:Option V} {K:Option V->ah->Prop}:kd P (.func f args::ds) u h K=pt P f args u h fun fx ae=>kd P ds fx ae K:=(rfl)
theorem pt.mono {f:FuncId} {args:List V} {u:Option V} {K lS:Option V->ah->Prop} (c:pt P f args u h K) (aD:∀u ae,K u ae->lS u ae):pt P f args u h lS:=by obtain ⟨fx,ae,an,av⟩:=c;exact ⟨fx,ae,an,aD _ _ av⟩
theorem ahL (t:Nat):a1.bd [] t=.bad:=rfl
theorem V.agN:V.bad.list=[]:=rfl
theorem V.agO (l:List V):(V.tuple l).list=l:=rfl
set_option linter.defProp false in
def eT:=And.intro @aeM<|And.intro @ahL<|And.intro @V.agN<|And.intro @V.agO<|And.intro @amr<|And.intro @amq<|And.intro @aiE @aiI
set_option linter.defProp false in
def aX:=And.intro @aaB<|And.intro @O3<|And.intro @DV<|And.intro @aaz<|And.intro @aaA<|And.intro @aay<|And.intro @QV<|And.intro @Ts<|And.intro @Fo @ai9
theorem D6 {x:V}:∀{l:List ResultVar},hs (r.set (some im) x) h (jR P aL l)=hs r h (jR P aL l)
 | []=>rfl
 | .tmp t::rs=>by
   simp only [jR];cases ax:(Nat.ble t top&&Nat.blt t aL) with
   | false=>simp [hs]
   | true=>
     simp only [aoE,aoT] at ax;have:(r.set (some im) x) t=r t:=by simp only [a1.set];rw [aoI (by unfold top at ax;unfold im;omega)]
     simp only [aoJ,hs,this,D6 (l:=rs)]
 | .cell a t::rs=>by
   simp only [jR];cases ax:(Nat.ble a top&&Nat.blt a aL) with
   | false=>simp [hs]
   | true=>
     simp only [aoE,aoT] at ax;have:(r.set (some im) x) a=r a:=by simp only [a1.set];rw [aoI (by unfold top at ax;unfold im;omega)]
     simp only [aoJ];cases bf P t with
     | none=>simp [hs]
     | some aS=>
       simp only;cases aS.agg with
       | true=>simp only [aoJ,hs,this,D6 (l:=rs)]
       | false=>
         cases Nat.beq aS.size 1 with
         | true=>simp only [aoJ,aoP,hs,this,D6 (l:=rs)]
         | false=>simp [hs]
theorem aiH {aL:Nat} (gr:aL<=top) {r:a1} (bG:Out aL r):r im=.bad:=bG im (by unfold top at gr;unfold im;omega) (by decide)
theorem Q_ (cQ:hh P) {aA:Fr} {fn:Func} {aw:Env} {bF:Act} {w':World} {bq:a1} {ae ag:ah} {nt:Option V} {m:FrameMode} (hy:Out fn.ntmps bq) (av:iw aw fn.ntmps bq bF) (hu:j0 aw nt m) (aB:bD aA aw ae w')
 (rr:kd P (bq cD).list nt ae fun a b=>a=none/\b=ag) {aj:List V} (nc:hs bq ag (jR P fn.ntmps fn.results.toList)=some aj) {R:Ending->World->Prop} (c1:∀bY x aR,aw.le bY->Rel bY (oneOf aj) x->bD aA bY ag aR->R (.returned x) aR):
 LeavesInM (aq none) 0 P fn bF.tmps R bF.defers m w':=by
 refine F' cQ _ bF.defers aw nt ae w' m rr av.defers.list hu aB fun bY m2 aR cg cY eS=>?_;simp only [j0] at cY;subst cY;obtain ⟨db,eb⟩:=u9 hy;have aD:RegRel0 bY fn.ntmps db bF:=⟨av.size,fun t az=>by have:=congrFun eb t;simp only [eE] at this;rw [this];exact Rel.mono cg _ _ (av.cA t (nk az))⟩;obtain ⟨x,e1,fH⟩:=FK (P:=P) aD eS (wM eb nc);exact ⟨x,e1,c1 bY x aR cg fH eS⟩
theorem Q' (cQ:hh P) {aA:Fr} {fn:Func} {aw:Env} {bF:Act} {w':World} {bq:a1} {ae ag:ah} {nt:Option V} {m:FrameMode} (av:iw aw fn.ntmps bq bF) (hu:j0 aw nt m) (aB:bD aA aw ae w') {v:V}
 (rr:kd P (bq cD).list nt ae fun a b=>a=some v/\b=ag) {R:Ending->World->Prop} (c1:∀bY x aR,aw.le bY->Rel bY v x->bD aA bY ag aR->R (.panicked (nS x)) aR):
 LeavesInM (aq none) 0 P fn bF.tmps R bF.defers m w':=by
 refine F' cQ _ bF.defers aw nt ae w' m rr av.defers.list hu aB fun bY m2 aR cg cY eS=>?_;obtain ⟨x,au,rfl⟩:=cY;exact c1 bY x aR cg au eS
theorem OE (fC:P.follows .mixedOrders=true) (cQ:hh P) {f:FuncId} {fn:Func} {c:Code} {args:List V} (aE:P.funcs[f]? =some fn) (ai:fn.body=some c)
 (gr:Nat.ble fn.ntmps top=true) (bl:Nat.beq f eA=false) (lx:Nat.ble args.length fn.ntmps=true) {rc:cb} (pO:fN P fn.ntmps c=rc) (om:jR P fn.ntmps fn.results.toList=dO) {Q:ec->a1->ah->Prop} (H:gz P rc (a1.bd args) h Q)
 (b':∀e r ae,(rc.plain=true->r cD=.bad)->Q e r ae->tk P dO K X e r ae):jW P f args h K X:=by
 subst pO om;rw [aoT] at gr lx;have bG:Out fn.ntmps (a1.bd args):=by intro t az _;rw [qL,ao3 (by omega)];rfl
 have b_:(a1.bd args) cD=.bad:=by rw [qL,ao3 (by unfold cD;unfold top at gr;omega)];rfl
 have iL:f≠eA:=fun e=>by subst e;simp at bl
 have Eo:∃fn,P.funcs[f]? =some fn/\fn.body.isSome=true:=⟨fn,aE,by rw [ai];rfl⟩;rcases F8 gr fC cQ c _ h _ bG H with ⟨e,bq,ae,aH,hy,pJ⟩ | ⟨x,bq,ae,aH,hy,pJ⟩
 . have qs:=b' e bq ae (fun z=>(hy.2 z).trans b_) aH;obtain ⟨he,hw⟩:(e=.normal\/e=.ret)/\kd P (bq cD).list none ae (vF bq (jR P fn.ntmps fn.results.toList) K X):=by
    cases e with
    | normal=>exact ⟨.inl rfl,qs⟩
    | ret=>exact ⟨.inr rfl,qs⟩
    | exit i=>
      obtain ⟨_,⟨t,y,aF⟩,_⟩:=qs;rw [aiH gr hy.1] at aF;cases aF
   obtain ⟨vT,ag,vn,rr⟩:=F9 hw;cases vT with
   | none=>
     obtain ⟨aj,nc,ez⟩:=vn;refine .inl ⟨oneOf aj,ag,⟨iL,.inl ⟨Eo,fun aA E w xs au s=>?_⟩⟩,ez⟩;refine r7.1 (callsIn_of_wp_marks (F:=aq none) (n:=0) aE ai trivial ?_);refine (pJ none aA E _ w (.inl rfl) (yQ au gr lx) s _ fun aw bF w' an av aB=>?_).wp;have:LeavesInM (aq none) 0 P fn bF.tmps (fun e w'=>∃aw x,e=.returned x/\E.le aw/\Rel aw (oneOf aj) x/\bD aA aw ag w') bF.defers .returning w':=
      Q_ cQ hy.1 av (nt:=none) rfl aB rr nc fun bY x aR z2 z3 z4=>⟨bY,x,rfl,an.trans z2,z3,z4⟩
     rcases he with rfl | rfl<;>exact this
   | some v=>
     refine .inr ⟨v,ag,⟨iL,Eo,fun aA E w xs au s=>?_⟩,vn⟩;refine r7.1 (callsIn_of_wp_marks (F:=aq none) (n:=0) aE ai trivial ?_);refine (pJ none aA E _ w (.inl rfl) (yQ au gr lx) s _ fun aw bF w' an av aB=>?_).wp;have:LeavesInM (aq none) 0 P fn bF.tmps (fun e w'=>∃aw x,e=.panicked (nS x)/\E.le aw/\Rel aw v x/\bD aA aw ag w') bF.defers .returning w':=
      Q' cQ av (nt:=none) rfl aB rr fun bY x aR z2 z3 z4=>⟨bY,x,rfl,an.trans z2,z3,z4⟩
     rcases he with rfl | rfl<;>exact this
 . have qs:=b' _ (bq.set (some im) x) ae (fun z=>by rw [FT];exact (hy.2 z).trans b_) aH;obtain ⟨_,⟨t,y,aF⟩,hw⟩:=qs;rw [KW] at aF hw;rw [FT] at hw;obtain ⟨vT,ag,vn,rr⟩:=F9 hw;cases vT with
   | none=>
     obtain ⟨aj,nc,ez⟩:=vn;rw [D6] at nc;refine .inl ⟨oneOf aj,ag,⟨iL,.inl ⟨Eo,fun aA E w xs au s=>?_⟩⟩,ez⟩;refine r7.1 (callsIn_of_wp_marks (F:=aq none) (n:=0) aE ai trivial ?_);refine (pJ none aA E _ w (.inl rfl) (yQ au gr lx) s _ fun aw bF w' q0 an av aB bt=>?_).wp;exact Q_ cQ hy.1 av (nt:=some x) ⟨q0,aB,rfl⟩ bt rr nc fun bY x aR z2 z3 z4=>⟨bY,x,rfl,an.trans z2,z3,z4⟩
   | some v=>
     refine .inr ⟨v,ag,⟨iL,Eo,fun aA E w xs au s=>?_⟩,vn⟩;refine r7.1 (callsIn_of_wp_marks (F:=aq none) (n:=0) aE ai trivial ?_);refine (pJ none aA E _ w (.inl rfl) (yQ au gr lx) s _ fun aw bF w' q0 an av aB bt=>?_).wp;exact Q' cQ av (nt:=some x) ⟨q0,aB,rfl⟩ bt rr fun bY x aR z2 z3 z4=>⟨bY,x,rfl,an.trans z2,z3,z4⟩
theorem ZR (fC:P.follows .mixedOrders=true) (cQ:hh P) {f:FuncId} {fn:Func} {c:Code} {args:List V} (aE:P.funcs[f]? =some fn) (ai:fn.body=some c)
 (gr:Nat.ble fn.ntmps top=true) (bl:Nat.beq f eA=false) (lx:Nat.ble args.length fn.ntmps=true) {rc:cb} (pO:fN P fn.ntmps c=rc) (om:jR P fn.ntmps fn.results.toList=dO) (j7:rc.plain=true) (H:gz P rc (a1.bd args) h (yP dO K X)):jW P f args h K X:=by
 refine OE fC cQ aE ai gr bl lx pO om H fun e r ae al q=>?_;have al:=al j7;cases e with
 | normal=>simp only [tk,al,V.list,kd];exact q
 | ret=>simp only [tk,al,V.list,kd];exact q
 | exit i=>
   obtain ⟨an,av,aB⟩:=q;refine ⟨an,av,?_⟩;rw [al];exact aB
theorem ZS (fC:P.follows .mixedOrders=true) (cQ:hh P) {f:FuncId} {fn:Func} {c:Code} {args:List V} (aE:P.funcs[f]? =some fn) (ai:fn.body=some c)
 (gr:Nat.ble fn.ntmps top=true) (bl:Nat.beq f eA=false) (lx:Nat.ble args.length fn.ntmps=true) {rc:cb} (pO:fN P fn.ntmps c=rc) (om:jR P fn.ntmps fn.results.toList=dO) (H:gz P rc (a1.bd args) h (tk P dO K X)):jW P f args h K X:=
 OE fC cQ aE ai gr bl lx pO om H fun e r ae _ q=>q
theorem jW.ZQ {f:FuncId} {args:List V} (c:jW P f args h K fun _ _=>False):dY P f args h K:=by
 rcases c with c | ⟨_,_,_,q⟩
 . exact c
 . exact q.elim
end
def CV (s:Dv) (u:Option V) (r:a1):a1:=(r.set (some s.d) (u.getD .nilIface)).set (some s.e) ((rx s.x).aV (r.set (some s.d) (u.getD .nilIface)))
theorem Z1 {P:Program} (fC:P.follows .mixedOrders=true) (cQ:hh P) {f:FuncId} {fn:Func} {c:Code} {args:List V} {u:Option V} {h:ah} {K:Option V->ah->Prop} (aE:P.funcs[f]? =some fn) (ai:fn.body=some c)
 (gr:Nat.ble fn.ntmps top=true) (lx:Nat.ble args.length fn.ntmps=true) {nr:Dv} (U:CW c=some nr) (ia:(hn fn.ntmps (some nr.d)&&hn fn.ntmps (some nr.e))=true) {rc:cb} {dO:List nz} (pO:fN P fn.ntmps nr.rest=rc) (om:jR P fn.ntmps fn.results.toList=dO) (j7:rc.plain=true)
 (H:gz P rc (CV nr u (a1.bd args)) h fun e r ae=>e.ends/\∃aj,hs r ae dO=some aj/\K none ae):pt P f args u h K:=by
 subst pO om;rw [aoT] at gr lx;simp only [aoE] at ia;have bG:Out fn.ntmps (a1.bd args):=by intro t az _;rw [qL,ao3 (by omega)];rfl
 have b_:(a1.bd args) cD=.bad:=by rw [qL,ao3 (by unfold cD;unfold top at gr;omega)];rfl
 have vn:Out fn.ntmps (CV nr u (a1.bd args)):=(bG.set ia.1 _).set ia.2 _;have eO:CV nr u (a1.bd args) cD=.bad:=by unfold CV;rw [Ad ia.2,Ad ia.1];exact b_
 rcases F8 gr fC cQ nr.rest _ h _ vn H with ⟨e,bq,ae,⟨fD,aj,nc,ez⟩,hy,pJ⟩ | ⟨x,bq,ae,⟨fD,_⟩,hy,pJ⟩
 case inr=>exact (fD:False).elim
 have dD:bq cD=.bad:=(hy.2 j7).trans eO;refine ⟨none,ae,⟨⟨fn,aE,by rw [ai];rfl⟩,fun aA E w xs m au hu s=>?_⟩,ez⟩;have k:=yQ au gr lx;obtain ⟨id,gx,eR,Sw,rt,rfl,g1,g2,g3,g4,g5,g6⟩:=ake U;refine callsDIn_of_wpSIn aE ai trivial fun wD cs Ik=>wpSIn_seq (wpSIn_region ?_)
 obtain ⟨X,dp,q6,jA,dx,EC,Qw⟩:∃X,Rel E (u.getD .nilIface) X/\∃q6,(match recoverD (wD::cs) with
  | some (v,ZJ)=>v=X/\ZJ=q6
  | none=>X=.nilIface/\q6=wD::cs)/\∃dx,q6={wD with mode:=dx}::cs/\settle dx=.returning:=by
  cases u with
  | none=>
    simp only [j0] at hu;subst hu;refine ⟨.nilIface,rfl,wD::cs,?_,.returning,?_,rfl⟩
    . simp only [recoverD,Ik];exact ⟨trivial,trivial⟩
    . rw [<-Ik]
  | some v=>
    obtain ⟨x,au,rfl⟩:=hu;refine ⟨x,au,{wD with mode:=.panicking [{v:=x,recovered:=true}]}::cs,?_,.panicking [{v:=x,recovered:=true}],rfl,rfl⟩;simp only [recoverD,Ik];exact ⟨trivial,trivial⟩
 have c8:=k.put (Env.le.refl E) ia.1 dp;have y9:∀(r:a1) (a:Act),iw E fn.ntmps r a->Rel E ((rx nr.x).aV r) (a.eval nr.x):=by
  intro r a dL;cases nr.x with
  | tmp t=>
    simp only [rx];cases ai:Nat.ble t top with
    | false=>simp [aZ.aV,Rel]
    | true=>
      simp only [aoJ,aZ.aV];exact dL.cA t (nk (apd ai))
  | const v=>exact tZ E v
  | func f=>
    simp only [rx];cases ai:Nat.beq f eA with
    | true=>simp [aZ.aV,Rel]
    | false=>
      simp only [aoP,aZ.aV,Rel];exact .inl ⟨fun e=>by subst e;simp at ai,_,rfl,by simp [bH]⟩
  | global g=>simp [rx,aZ.aV,Rel]
 have dJ:=c8.put (Env.le.refl E) ia.2 (y9 _ _ c8)
 have tI:=((pJ none aA E _ w (.inl rfl) dJ s (fun fi bF w'=>bodyPostS P fn wD cs (fun e dx w'=>∃aw x,e=.returned x/\E.le aw/\j0 aw none (settle dx)/\bD aA aw ae w') fi bF q6 w') (by
  intro aw bF w' an av aB;have bk:bF.defers=[]:=by have:=av.defers;rw [dD] at this;exact this
  obtain ⟨db,eb⟩:=u9 hy.1;have aD:RegRel0 aw fn.ntmps db bF:=⟨av.size,fun t az=>by have:=congrFun eb t;simp only [eE] at this;rw [this];exact av.cA t (nk az)⟩;obtain ⟨x,cg,cY⟩:=FK (P:=P) aD aB (wM eb nc);cases e with
  | normal=>exact ⟨bk,dx,EC,x,cg,aw,x,rfl,an,Qw,aB⟩
  | ret=>exact ⟨bk,dx,EC,x,cg,aw,x,rfl,an,Qw,aB⟩
  | exit i=>exact fD.elim))).wp
 rw [<-g1] at tI;rw [<-g4] at tI;have QD:=wpSIn_of_wpIn (F:=aq none) rfl tI;have xk:∀y,Region.wanted gx y=true:=fun y=>by simp [Region.wanted,g3]
 have e4:∀y,Region.wanted eR y=true:=fun y=>by simp [Region.wanted,g6]
 have adC:∀(ρ:Operand->Value),(execOp ρ gx).run P w=.ok .recover w:=fun ρ=>by obtain ⟨dst,op,type,pos,after,guard⟩:=gx;simp only at g2;subst g2;rfl
 have Qv:∀(ρ:Operand->Value),(execOp ρ eR).run P w=.ok (.value (ρ nr.x)) w:=fun ρ=>by obtain ⟨dst,op,type,pos,after,guard⟩:=eR;simp only at g5;subst g5;rfl
 have dH:(#[gx,eR]:Array Oper).size=2:=rfl;rw [dH];simp only [List.range_succ,List.range_zero,ao5,aoW,wpOpsSIn];have ej:(#[gx,eR]:Array Oper)[0]? =some gx:=rfl;have aO:(#[gx,eR]:Array Oper)[1]? =some eR:=rfl;rw [ej];simp only [xk,aoM,adC];refine ⟨fun _ _=>trivial,?_⟩;cases Qs:recoverD (wD::cs) with
 | none=>
   rw [Qs] at jA;obtain ⟨ab_,pI⟩:=jA;subst ab_ pI;simp only [aO,e4,aoM,Qv];exact ⟨fun _ _=>trivial,QD⟩
 | some eu=>
   obtain ⟨v,anf⟩:=eu;rw [Qs] at jA;obtain ⟨rfl,rfl⟩:=jA;simp only [aO,e4,aoM,Qv];exact ⟨fun _ _=>trivial,QD⟩
end
end Go.Proofs.YtahfljfikfkpnaaGreatDoor.ba
