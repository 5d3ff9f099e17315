/- The abstract machine and its walks (a verified interpreter of the model's code: plain definitions and lemmas, no condition). Printed by a program from longer texts: names made short. -/
import Derived.Test.YtahfljfikfkpnaaGreatDoorM2
import Derived.Scope
import Derived.RangeFuncRecord
import Derived.IntWalk
set_option linter.unusedSectionVars false
set_option linter.unusedSimpArgs false
set_option linter.unusedVariables false
set_option maxHeartbeats 64000000
noncomputable section
namespace Go.Proofs.YtahfljfikfkpnaaGreatDoor.ba
section
open Go Go.RowKit
variable [Lay]
def toExit:ec->Exit
 | .normal=>.normal
 | .exit id=>.exit id
 | .ret=>.ret
def U_ (C:Ctx):Prop:=
 ∀f p args h v ae,C.ajO f=some p->p.run args h=.val v ae->(∃fn,C.P.funcs[f]? =some fn/\fn.body.isSome=true)/\∀(aA:Fr) E w xs,bH E args xs->bD aA E h w->
  Calls C.P f xs.toArray w fun e w'=>∃aw x,e=.returned x/\E.le aw/\Rel aw v x/\bD aA aw ae w'
def Uo (C:Ctx):Prop:=
 ∀f p args h v ae,C.ext f=some p->p.run args h=.val v ae->∀(aA:Fr) E w xs,bH E args xs->bD aA E h w->
  ∃aw x w',(callFunc f xs.toArray).run C.P w=.ok (.value x) w'/\E.le aw/\Rel aw v x/\bD aA aw ae w'
def U' (C:Ctx):Prop:=U_ C/\Uo C
theorem sd {P:Program} {rd:Option Nat} (m:Machine):m.fenced P (aq rd):=fenced_wide P m
def F_ (rd:Option Nat) (P:Program) (c:Code) (Q:Exit->Act->World->Prop) (a:Act) (w:World):Prop:=
 match c with
 | .loop x=>∀(b:Frame) (k:List Item) (cs:List Frame),b.roundOf=rd->∃e bF w',Q e bF w'/\ArrivesIn (Machine.fenced P (aq rd)) P (lone (b.atR a (.code x::.inLoop x::k)) cs w) b k cs e bF w'
 | c=>c.wpIn (aq rd) 0 P Q a w
theorem F_.wp {rd:Option Nat} {P:Program} {c:Code} {Q:Exit->Act->World->Prop} {a:Act} {w:World} (h:F_ rd P c Q a w):c.wpIn (aq rd) 0 P Q a w:=by
 cases c with
 | loop x=>
   intro b k cs na _ _;obtain ⟨e,bF,w',q,r⟩:=h b k cs na;exact ⟨e,bF,w',q,.of_steps (.one (sd _) stepR_loop) r⟩
 | _=>exact h
def x1 (tmps:Array Value):ResultVar->Sem Value
 | .tmp t=>pure (tmps.getD t undef)
 | .cell b t=>do loadVar t (<-asAddr (tmps.getD b undef))
theorem KG {P:Program} {aA:Fr} {E:Env} {aL:Nat} {r:c7} {h:ah} {a:Act} {w:World} (k:RegRel0 E aL r a) (s:bD aA E h w):∀{l:List ResultVar} {aj:List V},(oz P aL l).run r h=some aj->
 ∃xs,bH E aj xs/\(l.mapM (x1 a.tmps)).run P w=.ok xs w
 | [],aj,he=>by simp only [oz,aoC] at he;subst he;exact ⟨[],rfl,rfl⟩
 | .tmp t::l,aj,he=>by
   simp only [oz] at he;cases ax:(Nat.ble t top&&Nat.blt t aL) with
   | false=>rw [ax] at he;cases he
   | true=>
     rw [ax] at he;simp only [aoJ] at he;simp only [aoE,aoT] at ax;cases U:(oz P aL l).run r h with
     | none=>rw [U] at he;cases he
     | some us=>
       rw [U] at he;simp only [aoC] at he;subst he;obtain ⟨xs,ad,ag⟩:=KG k s U;refine ⟨_::xs,by simp only [bH];exact ⟨_,_,rfl,k.cA t ax.1,ad⟩,?_⟩;rw [List.mapM_cons,Sem.run_bind];simp only [x1,Sem.run_pure,Result.andThen_ok,Sem.run_bind,ag]
 | .cell b t::l,aj,he=>by
   simp only [oz] at he;cases ax:(Nat.ble b top&&Nat.blt b aL) with
   | false=>rw [ax] at he;cases he
   | true=>
     rw [ax] at he;simp only [aoJ] at he;simp only [aoE,aoT] at ax;cases bZ:(xA P t).run h (T.get .bad (ao b) r) with
     | none=>rw [bZ] at he;cases he
     | some v=>
       rw [bZ] at he;simp only at he;cases U:(oz P aL l).run r h with
       | none=>rw [U] at he;cases he
       | some us=>
         rw [U] at he;simp only [aoC] at he;subst he;obtain ⟨xs,ad,ag⟩:=KG k s U;obtain ⟨Y,_,c1,A,mr,g_⟩:=Rk (P:=P) s (k.cA b ax.1) bZ;refine ⟨Y::xs,by simp only [bH];exact ⟨_,_,rfl,c1,ad⟩,?_⟩;rw [List.mapM_cons,Sem.run_bind];simp only [x1,mr,asAddr,Sem.run_bind,Sem.run_pure,Result.andThen_ok,g_,ag]
theorem ahX {E:Env} {aj:List V} {xs:List Value} (h:bH E aj xs) (fn:Func) (a:Act) (P:Program) (w:World)
 (U:(fn.results.toList.mapM (x1 a.tmps)).run P w=.ok xs w):∃x,(results fn a.tmps).run P w=.ok x w/\Rel E (oneOf aj) x:=by
 have BV:(fn.results.mapM (x1 a.tmps)).run P w=.ok xs.toArray w:=by rw [Array.mapM_eq_mapM_toList,Sem.run_map,U];rfl
 have Il:results fn a.tmps=(do
  let aj <-fn.results.mapM (x1 a.tmps)
  pure (if h:aj.size=1 then aj[0] else .tuple aj)):=by
  unfold results
  have:(fun x=>match x with
   | ResultVar.tmp t=>(pure (a.tmps.getD t undef):Sem Value)
   | ResultVar.cell b t=>do loadVar t (<-asAddr (a.tmps.getD b undef)))=x1 a.tmps:=by
   funext x;cases x<;>rfl
  rw [<-this];rfl
 have a8:(results fn a.tmps).run P w=.ok (if h:xs.toArray.size=1 then xs.toArray[0] else .tuple xs.toArray) w:=by rw [Il,Sem.run_bind,BV];rfl
 refine ⟨_,a8,?_⟩
 match aj,h with
 | [],h=>
   simp only [bH] at h;subst h;simp only [oneOf,Rel];exact ⟨#[],rfl,rfl⟩
 | [v],h=>
   simp only [bH] at h;obtain ⟨y,en,rfl,bl,rfl⟩:=h;simpa [oneOf] using bl
 | v::u::aj,h=>
   have aG:=h.length;have d':¬xs.toArray.size=1:=by simp at aG ⊢;omega
   rw [dif_neg d'];simp only [oneOf,Rel];exact ⟨_,rfl,by simpa using h⟩
section
variable {C:Ctx}
def j0 (E:Env) (u:Option V) (m:FrameMode):Prop:=
 match u with
 | none=>m=.returning
 | some v=>∃x,Rel E v x/\m=.panicking (nS x)
theorem j0.mono {E aw:Env} (h:E.le aw) {u:Option V} {m:FrameMode} (k:j0 E u m):j0 aw u m:=by
 cases u with
 | none=>exact k
 | some v=>obtain ⟨x,ad,ag⟩:=k;exact ⟨x,Rel.mono h _ _ ad,ag⟩
theorem j0.settle {E:Env} {u:Option V} {m:FrameMode} (k:j0 E u m):settle m=m:=by
 cases u with
 | none=>simp only [j0] at k;subst k;rfl
 | some v=>obtain ⟨x,ad,rfl⟩:=k;rfl
theorem j0.run {E:Env} {u:Option V} {m:FrameMode} (k:j0 E u m):m≠.run:=by
 cases u with
 | none=>simp only [j0] at k;subst k;simp
 | some v=>obtain ⟨x,ad,rfl⟩:=k;simp
def Gl (P:Program) (n9:AA):Prop:=
 ∀f args u h fx ae,n9 f args u h=.go fx ae->(∃fn,P.funcs[f]? =some fn/\fn.body.isSome=true)/\
  ∀(aA:Fr) E w xs m,bH E args xs->j0 E u m->bD aA E h w->CallsDIn (aq none) 0 P f xs.toArray m w fun e dx w'=>∃aw x,e=.returned x/\E.le aw/\j0 aw fx (settle dx)/\bD aA aw ae w'
theorem bD.gone {aA:Fr} {E:Env} {h:ah} {w w':World} (s:bD aA E h w) {b:aN} {p:kB} (ko:(h.get b).own=true) (aF:E b=some p) (cd:aA.w.heap.size<=p.bp)
 (a7:w.heap.size<=w'.heap.size) (o8:∀j,j≠p.bp->w'.heap[j]? =w.heap[j]?) (nG:w'.os=w.os) (az:w'.tape=w.tape) (bG:w'.output=w.output):bD aA E (h.set b .dead) w':=
 s.set ko aF cd a7 o8 nG az bG (fun _ _ _ e=>by cases e) trivial
theorem Jz {P:Program} {n9:AA} (cQ:hh P) (rm:Gl P n9) {aA:Fr} {fn:Func} {tmps:Array Value} {R:Ending->World->Prop}:∀(aj:List V) (ds:List Deferred) (E:Env) (u:Option V) (h:ah) (w:World) (m:FrameMode) (fx:Option V) (ae:ah),
 rF n9 aj u h=.go fx ae->oF E aj ds->j0 E u m->bD aA E h w->(∀aw dx w',E.le aw->j0 aw fx dx->bD aA aw ae w'->LeavesInM (aq none) 0 P fn tmps R [] dx w')->LeavesInM (aq none) 0 P fn tmps R ds m w
 | [],ds,E,u,h,w,m,fx,ae,he,bk,hu,s,c1=>by simp only [rF,Dr.go.injEq] at he;obtain ⟨rfl,rfl⟩:=he;simp only [oF] at bk;subst bk;exact c1 E m w (Env.le.refl E) hu s
 | v::aj,ds,E,u,h,w,m,fx,ae,he,bk,hu,s,c1=>by
   obtain ⟨d,oT,rfl,si,w2⟩:=bk;cases v with
   | func f args=>
     simp only [rF] at he;cases ax:n9 f args u h with
     | fail=>rw [ax] at he;cases he
     | go uA ad=>
       rw [ax] at he;simp only at he;obtain ⟨aE,cap,az,aG⟩:=si;obtain ⟨⟨abg,mV,ai⟩,fJ⟩:=rm _ _ _ _ _ _ ax;refine ⟨hu.run,.inr ⟨fun h=>by simp at h,_,cap,f,d.args++cap,az,?_,fun _ _=>trivial,?_⟩⟩
       . rw [az];simp only [invoke];exact vN cQ mV ai _ w
       . have e:d.args++cap=(d.args.toList++cap.toList).toArray:=by apply apW;simp
         rw [e];refine CallsDIn.mono (fJ aA E w _ m aG hu s) fun e m1 b9 aH=>?_;obtain ⟨kA,x,rfl,an,av,aB⟩:=aH;exact Jz cQ rm aj oT kA uA ad b9 (settle m1) fx ae he (w2.mono an) av aB fun bY m2 aR cg cY eS=>c1 bY m2 aR (an.trans cg) cY eS
   | ptr b off=>
     simp only [rF] at he;cases ay:h.get b<;>rw [ay] at he<;>simp only at he<;>try (cases he;done)
     obtain ⟨p,aF,w4⟩:=si;have ai:=s.at aF;rw [ay] at ai;obtain ⟨p',m_,cd,bP⟩:=ai;rw [aF] at m_;cases m_;have o9:=(aoD.1 bP).1
     let b9:World:={w with heap:=w.heap.setIfInBounds p.bp (.deferred none)}
     have I7:(Instr.takeDeferred p.bp).run P w=.ok [] b9:=by
      have f_:(getObj p.bp).run P w=.ok (.deferred (some [])) w:=by simp only [getObj,Sem.run,bP]
      have tK:(setObj p.bp (.deferred none)).run P w=.ok () b9:=by simp only [setObj,Sem.run,bP];rfl
      simp only [Instr.takeDeferred,Sem.run_bind,f_,Result.andThen_ok,tK,Sem.run_pure]
     have s1:bD aA E (h.set b .dead) b9:=s.gone (by rw [ay];rfl) aF cd (by simp [b9]) (fun j cW=>by simp only [b9,aoY];rw [aoI (fun e=>cW e.symm)]) rfl rfl rfl;refine ⟨hu.run,.inl ⟨p.bp,b9,by rw [w4],I7,?_⟩⟩;exact Jz cQ rm aj oT E u _ b9 m fx ae he w2 hu s1 c1
   | _=>simp [rF] at he
theorem FK {P:Program} {aA:Fr} {E:Env} {fn:Func} {r:c7} {h:ah} {a:Act} {w:World} (k:RegRel0 E fn.ntmps r a) (s:bD aA E h w) {aj:List V} (bZ:(oz P fn.ntmps fn.results.toList).run r h=some aj):
 ∃x,(results fn a.tmps).run P w=.ok x w/\Rel E (oneOf aj) x:=by
 obtain ⟨en,cg,cY⟩:=KG (P:=P) k s bZ;exact ahX cg fn a P w cY
section
variable {C:Ctx}
def U9 (aA:Fr) (E:Env) (R:Ending->World->Prop):bh->Prop
 | .val v ae=>∀aw x w',E.le aw->Rel aw v x->bD aA aw ae w'->R (.returned x) w'
 | .fY v ae=>∀aw x w',E.le aw->Rel aw v x->bD aA aw ae w'->R (.panicked (nS x)) w'
 | .fail=>False
theorem aa' (cQ:hh C.P) {n9:AA} (rm:Gl C.P n9) {aA:Fr} {fn:Func} {E:Env} {r:c7} {u:Option V} {h:ah} {a:Act} {w:World} {m:FrameMode} {R:Ending->World->Prop}
 (k:kC E fn.ntmps r a) (hu:j0 E u m) (s:bD aA E h w)
 (aF:U9 aA E R (finish (oz C.P fn.ntmps fn.results.toList) r (rF n9 (T.get .bad mj r).list u h))):LeavesInM (aq none) 0 C.P fn a.tmps R a.defers m w:=by
 cases aG:rF n9 (T.get .bad mj r).list u h with
 | fail=>rw [aG] at aF;exact aF.elim
 | go fx ae=>
   rw [aG] at aF;refine Jz cQ rm _ a.defers E u h w m fx ae aG k.defers.list hu s fun aw dx w' an av aB=>?_;cases fx with
   | some v=>
     obtain ⟨x,au,rfl⟩:=av;exact aF aw x w' an au aB
   | none=>
     simp only [j0] at av;subst av;simp only [finish] at aF;cases bZ:(oz C.P fn.ntmps fn.results.toList).run r ae with
     | none=>rw [bZ] at aF;exact aF.elim
     | some aj=>
       rw [bZ] at aF;obtain ⟨x,cg,cY⟩:=FK (P:=C.P) (k.mono an).toRegRel0 aB bZ;exact ⟨x,cg,aF aw x w' an cY aB⟩
theorem ake {c:Code} {s:Dv} (h:CW c=some s):∃id gx eR args types,c=.seq (.region id #[gx,eR] false) s.rest/\gx.dst=some s.d/\gx.op=.call ⟨.builtin .recover,args,types⟩/\gx.guard=none/\eR.dst=some s.e/\eR.op=.assign s.x/\eR.guard=none:=by
 unfold CW at h
 split at h
 case h_2=>cases h
 rename_i id ops rest
 split at h
 case h_2=>cases h
 rename_i gx eR aG
 split at h
 case h_2=>cases h
 rename_i d args types e x ad ag ar aT bE bA;cases h;have ado:ops=#[gx,eR]:=by apply apW;simp [aG]
 subst ado;exact ⟨id,gx,eR,_,_,rfl,ad,ag,ar,aT,bE,bA⟩
end
end
section
variable {C:Ctx}
theorem run_getLoop {P:Program} {r:Nat} {w:World} {o:Loop} (bP:w.heap[r]? =some (.loop o)):(Instr.getLoop r).run P w=.ok o w:=by
 have:(getObj r).run P w=.ok (.loop o) w:=by simp only [getObj,Sem.run,bP]
 simp only [Instr.getLoop,Sem.run_bind,this,Result.andThen_ok,Sem.run_pure]
end
section
variable {C:Ctx}
theorem Aj {P:Program} {b:Frame} {a:Act} {k:List Item} {cs:List Frame} {w:World} {c:Code}:
 step P (lone (b.atR a (.code (.scope c)::k)) cs w)=.next (lone (b.atR a (.code c::.inScope c::k)) cs w):=
 step_lone_go (by simp [stepG,stepG.exec,Frame.atR])
theorem alf {P:Program} {b:Frame} {a:Act} {k:List Item} {cs:List Frame} {w:World} {c:Code}:
 step P (lone (b.atR a (.inScope c::k)) cs w)=.next (lone (b.atR a k) cs w):=
 step_lone_go (by simp [stepG,stepG.exec,Frame.atR])
theorem S0 {P:Program} {rd:Option Nat} {c:Code} {Q:Exit->Act->World->Prop} {a:Act} {w:World} (h:c.wpIn (aq rd) 0 P (Exit.noGoto Q) a w):(Code.scope c).wpIn (aq rd) 0 P Q a w:=by
 intro b k cs na ai U;obtain ⟨e,AW,Dd,aH,mu⟩:=h b (.inScope c::k) cs na ai U;have au:∀id,exitTo id (.inScope c::k)=exitTo id k:=fun id=>by simp [exitTo]
 cases e with
 | normal=>exact ⟨.normal,AW,Dd,aH,.head (sd _) Aj (StepsIn.trans mu (.one (sd _) alf))⟩
 | exit id=>exact ⟨.exit id,AW,Dd,aH,fun b0 aD=>.head (sd _) Aj (mu.1 b0 (by rw [au];exact aD)),fun qt aD=>let ⟨k₁,ad,ag⟩:=mu.2 qt (by rw [au];exact aD);⟨k₁,ad,.head (sd _) Aj ag⟩⟩
 | goto l=>exact aH.elim
 | ret=>exact ⟨_,AW,Dd,aH,.of_steps (.one (sd _) Aj) mu⟩
 | panic anc=>exact ⟨_,AW,Dd,aH,.of_steps (.one (sd _) Aj) mu⟩
 | outgrown=>exact ⟨_,AW,Dd,aH,.of_steps (.one (sd _) Aj) mu⟩
end
section
variable {C:Ctx}
theorem ak1 (w:World) (hw:Lay.ok w):bD ⟨w,fun _=>none⟩ (fun _=>none) ah.empty w:=by
 refine ⟨fun b _=>?_,fun _ _ h=>(by cases h),(fun b ck p p' _ _ h=>by cases h),fun _ _=>rfl,Below.refl _ _,hw,(fun _ _ _ _ _ _ h=>by cases h)⟩;have:ah.empty.get b=.dead:=by simp [ah.get,ah.empty]
 rw [this];trivial
end
inductive aZ where
 | t (n:Nat)
 | c (v:V)
abbrev a1:=Nat->V
def aZ.aV (r:a1):aZ->V
 | .t n=>r n
 | .c v=>v
def aZ.gE (r:a1):List aZ->List V
 | []=>[]
 | x::xs=>x.aV r::aZ.gE r xs
def rx:Operand->aZ
 | .tmp t=>bif Nat.ble t top then .t t else .c .bad
 | .const v=>.c (jb v)
 | .func f=>bif Nat.beq f eA then .c .bad else .c (.func f [])
 | .global _=>.c .bad
def mI:List Operand->List aZ
 | []=>[]
 | x::xs=>rx x::mI xs
def aZ.opt (r:a1):Option aZ->Option V
 | none=>none
 | some x=>some (x.aV r)
def um:Option Operand->Option aZ
 | none=>none
 | some x=>some (rx x)
inductive fp where
 | int (op:BinOp)
 | str (op:BinOp)
 | shl
 | shr
 | Bq (neg:Bool)
 | lZ (neg:Bool) (k:Nat)
 | other (op:BinOp) (t:TypeId)
def fp.run (P:Program):fp->V->V->Option V
 | .int op=>(nH op).run
 | .str op=>(uu op).run
 | .shl=>(x6 true).run
 | .shr=>(x6 false).run
 | .Bq neg=>(k1 neg sb).run
 | .lZ neg k=>(k1 neg (iH k)).run
 | .other op t=>(qj P op t).run
inductive uM where
 | int (k:IntKind)
 | bytes
 | str
 | other (s d:TypeId)
def uM.run (P:Program):uM->V->ah->bh
 | .int k=>fun x h=>x.fK .fail fun _ n=>.val (.int k (k.wrap n)) h
 | .bytes=>Bg.run
 | .str=>u2.run
 | .other s d=>(r9 P s d).run
inductive qb where
 | int | str | bool
def qb.eq:qb->fy
 | .int=>oV
 | .str=>wK
 | .bool=>sb
inductive Dq where
 | arr (n:Nat)
 | str
 | slice
 | map
inductive G where
 | bad
 | gM (x:aZ)
 | pick (c a b:aZ)
 | new (z:List V)
 | box (x:aZ)
 | build (z:List V) (bK:List (Nat × Nat × aZ))
 | td (len size:Nat) (z:List V) (bK:List (Nat × Nat × aZ))
 | kJ (x:aZ)
 | k9 (size:Nat) (x:aZ)
 | st (size:Nat) (x y:aZ)
 | qG (x:aZ)
 | bin (k:fp) (x y:aZ)
 | un (op:UnOp) (x:aZ)
 | lr (k:uM) (x:aZ)
 | fn (f:FuncId) (gK:List aZ)
 | Cz (f:FuncId) (first:List aZ)
 | yE (t:TypeId) (z:Option V) (ok:Bool) (x:aZ)
 | xn (t:TypeId) (x:aZ)
 | Cy (size:Nat) (z:List V) (l c:aZ)
 | vP (x:aZ) (cX aJ fE:Option aZ)
 | c' (size:Nat) (x:aZ) (cX aJ fE:Option aZ)
 | iI (off:Nat) (x:aZ)
 | wO (off:Nat) (x:aZ)
 | wP (off size:Nat) (x:aZ)
 | l5 (size:Nat) (x i:aZ)
 | zs (n size:Nat) (x i:aZ)
 | sx (x i:aZ)
 | lA (t:TypeId) (x i:aZ)
 | look (k:qb) (z:V) (ok:Bool) (x i:aZ)
 | uC (k:qb) (m i x:aZ)
 | Cx (x:Option aZ)
 | CY (x:aZ)
 | CF (x:aZ)
 | ext (x:aZ) (i:Nat)
 | call (f:FuncId) (args:List aZ)
 | tg (f:aZ) (args:List aZ)
 | len (k:Dq) (x:aZ)
 | app (size:Nat) (s x:aZ)
 | copy (size:Nat) (d s:aZ)
 | zL (args:List aZ)
 | fE (args:List aZ)
 | Ow (z:List V) (x:aZ)
 | DL (x:aZ)
 | Me (size:Nat) (z:List V) (s x:aZ)
 | E5 (z:V) (ok:Bool) (x i:aZ)
 | looks (k:TypeId) (z:V) (ok:Bool) (x i:aZ)
 | TF (m i x:aZ)
 | TG (k:TypeId) (m i x:aZ)
 | Rt (z:V) (m i:aZ)
 | Ru (k:TypeId) (z:V) (m i:aZ)
 | O_ (m s x:aZ)
 | SO (x:aZ)
 | RG (x:aZ)
 | O5 (x:aZ)
 | CP (neg:Bool) (x y:aZ)
 | h' (f:aZ) (args:List aZ)
 | fY (x:aZ)
abbrev cD:Nat:=17179869185
abbrev im:Nat:=17179869186
def mn (r:a1):List (Nat × Nat × aZ)->List (Nat × Nat × V)
 | []=>[]
 | (o,s,x)::bK=>(o,s,x.aV r)::mn r bK
def kE:List V->List (Nat × Nat × V)->Option (List V)
 | cells,[]=>some cells
 | cells,(off,size,v)::rest=>bif v.hO&&(Nat.beq v.cells.length size&&Nat.ble (off+v.cells.length) cells.length) then kE (tm cells off v.cells) rest else none
def Dq.run:Dq->V->ah->bh
 | .arr n=>fun _ h=>.val (.int .i64 n) h
 | .str=>fun x h=>bh.of h ((qC .string).run x)
 | .slice=>fun x h=>bh.of h ((qC (.slice 0)).run x)
 | .map=>fun x h=>Cp [x] h
def Ku (neg:Bool) (h:ah) (x y:V):Option V:=
 match nT h x y with
 | some b=>some (.bool (bif neg then !b else b))
 | none=>none
def G.run (P:Program) (g:G) (call:gB) (r:a1) (h:ah):bh:=
 match g with
 | .bad=>.fail
 | .gM x=>.val (x.aV r) h
 | .pick c a b=>match c.aV r with
   | .bool t=>.val (bif t then a.aV r else b.aV r) h
   | _=>.fail
 | .new z=>jc (.ptr (ao h.next) 0) (hY h z)
 | .box x=>bif (x.aV r).hO then jc (.ptr (ao h.next) 0) (hY h (x.aV r).cells) else .fail
 | .build z bK=>(match kE z (mn r bK) with
   | some cs=>.val (.agg cs) h
   | none=>.fail)
 | .td n _ z bK=>match kE (kP z n) (mn r bK) with
   | some cs=>(match hY h cs with
     | some ae=>.val (.slice (ao h.next) 0 n n) ae
     | none=>.fail)
   | none=>.fail
 | .kJ x=>bh.of h (pX h (x.aV r))
 | .k9 n x=>bh.of h (pW n h (x.aV r))
 | .st n x y=>jc .bad (qY n h (x.aV r) (y.aV r))
 | .qG x=>bh.of h (vC (x.aV r))
 | .bin k x y=>bh.of h (k.run P (x.aV r) (y.aV r))
 | .un op x=>bh.of h (sP op (x.aV r))
 | .lr k x=>k.run P (x.aV r) h
 | .fn f gK=>.val (.func f (aZ.gE r gK)) h
 | .Cz f first=>.val (.qE f (aZ.gE r first)) h
 | .yE t z ok x=>bh.of h (wq t z ok (x.aV r))
 | .xn t x=>.val (.iface t (x.aV r)) h
 | .Cy n z l c=>zI n z (l.aV r) (c.aV r) h
 | .vP x cX aJ m3=>bh.of h (oA (x.aV r) (aZ.opt r cX) (aZ.opt r aJ) (aZ.opt r m3))
 | .c' n x cX aJ m3=>bh.of h (match x.aV r with
   | .cL=>FV (aZ.opt r cX) (aZ.opt r aJ) (aZ.opt r m3)
   | .slice b off xz cap=>Ag n b off xz cap (aZ.opt r cX) (aZ.opt r aJ) (aZ.opt r m3)
   | .gp b off xz idx=>Af n b off xz idx (aZ.opt r cX) (aZ.opt r aJ) (aZ.opt r m3)
   | .kz b off pd idx=>FW b off pd idx (aZ.opt r cX) (aZ.opt r aJ) (aZ.opt r m3)
   | _=>none)
 | .iI off x=>bh.of h ((x.aV r).lG none fun b o=>some (.ptr b (o+off)))
 | .wO off x=>bh.of h (match x.aV r with
   | .agg cs=>cs[off]?
   | _=>none)
 | .wP off n x=>bh.of h (match x.aV r with
   | .agg cs=>some (.agg ((cs.drop off).take n))
   | _=>none)
 | .l5 n x i=>bh.of h ((xq n).run (x.aV r) (i.aV r))
 | .zs n s x i=>bh.of h ((xp n s).run (x.aV r) (i.aV r))
 | .sx x i=>bh.of h (tQ.run (x.aV r) (i.aV r))
 | .lA t x i=>bh.of h ((tP P t).run (x.aV r) (i.aV r))
 | .look k z ok x i=>bh.of h (rG k.eq z ok h (x.aV r) (i.aV r))
 | .uC k m i x=>jc .bad (qZ k.eq h (m.aV r) (i.aV r) (x.aV r))
 | .Cx x=>vy (aZ.opt r x) h
 | .CY x=>(match x.aV r with
   | .str s=>.val (.ptr (ao h.next) 0) (h.new (.iter s 0))
   | _=>.fail)
 | .CF x=>xI (x.aV r) h
 | .ext x i=>(match x.aV r with
   | .tuple aj=>bh.of h aj[i]?
   | _=>.fail)
 | .call f args=>call f (aZ.gE r args) h
 | .tg f args=>(f.aV r).xU (aZ.gE r args) fun g xs=>call g xs h
 | .len k x=>k.run (x.aV r) h
 | .app n s x=>kj n (s.aV r) (x.aV r) h
 | .copy n d s=>copyV n (d.aV r) (s.aV r) h
 | .zL args=>bh.of h (mF (fun b a=>!Int.leB a b) (aZ.gE r args))
 | .fE args=>bh.of h (mF (fun b a=>!Int.leB b a) (aZ.gE r args))
 | .Ow z x=>DN z (x.aV r) h
 | .DL x=>bh.of h (A' (x.aV r))
 | .Me n z s x=>GS n z (s.aV r) (x.aV r) h
 | .E5 z ok x i=>bh.of h (pY ⟨nT h⟩ z ok h (x.aV r) (i.aV r))
 | .looks k z ok x i=>bh.of h (bif sy P k (i.aV r) then pY (structEq P k) z ok h (x.aV r) (i.aV r) else none)
 | .TF m i x=>jc .bad (qZ ⟨nT h⟩ h (m.aV r) (i.aV r) (x.aV r))
 | .TG k m i x=>jc .bad (bif sy P k (i.aV r) then qZ (structEq P k) h (m.aV r) (i.aV r) (x.aV r) else none)
 | .Rt z m i=>HE z (m.aV r) (i.aV r) h
 | .Ru k z m i=>HF P k z (m.aV r) (i.aV r) h
 | .O_ m s x=>jc .bad (Bn h (m.aV r) (s.aV r) (x.aV r))
 | .SO x=>rangeMap (x.aV r) h
 | .RG x=>gd (x.aV r) h
 | .O5 x=>D1 (x.aV r) h
 | .CP neg x y=>bh.of h (Ku neg h (x.aV r) (y.aV r))
 | .h' f args=>(match f.aV r with
   | .func g cs=>bif Nat.beq g eA then .fail else .val (.tuple (.func g (aZ.gE r args++cs)::(r cD).list)) h
   | _=>.fail)
 | .fY x=>zY (x.aV r) h
def KE (P:Program) (op:BinOp) (t:TypeId):fp:=
 match op with
 | .shl=>.shl
 | .shr=>.shr
 | op=>match bf P t with
   | none=>.other op t
   | some aS=>match aS.bw with
     | .int _=>.int op
     | .string=>.str op
     | .bool=>(match op with
       | .eql=>.Bq false
       | .neq=>.Bq true
       | _=>.other op t)
     | .pointer _=>(match op with
       | .eql=>.lZ false 1
       | .neq=>.lZ true 1
       | _=>.other op t)
     | .slice _=>(match op with
       | .eql=>.lZ false 2
       | .neq=>.lZ true 2
       | _=>.other op t)
     | .map _ _=>(match op with
       | .eql=>.lZ false 3
       | .neq=>.lZ true 3
       | _=>.other op t)
     | .func _ _ _=>(match op with
       | .eql=>.lZ false 4
       | .neq=>.lZ true 4
       | _=>.other op t)
     | _=>.other op t
def KK (P:Program) (op:BinOp) (t:TypeId) (lit:Bool):fp:=
 bif lit then (match bf P t with
  | some aS=>match aS.bw with
    | .interface _=>match op with
      | .eql=>.lZ false 5
      | .neq=>.lZ true 5
      | _=>.lZ false 99
    | _=>.lZ false 99
  | none=>.lZ false 99) else KE P op t
def KH (P:Program) (s d:TypeId):uM:=
 match bf P s,bf P d with
 | some vO,some ql=>match ql.bw with
   | .int k=>.int k
   | .string=>match vO.bw with
     | .slice e=>match bf P e with
       | some bo=>match bo.bw with
         | .int .u8=>.str
         | _=>.other s d
       | none=>.other s d
     | _=>.other s d
   | .slice e=>match bf P e with
     | some bo=>match bo.bw with
       | .int .u8=>.bytes
       | _=>.other s d
     | none=>.other s d
   | _=>.other s d
 | _,_=>.other s d
def rM (place:Nat->Option (Nat × Nat)):List (Nat × Operand)->Option (List (Nat × Nat × aZ))
 | []=>some []
 | (i,x)::bK=>match place i with
   | none=>none
   | some (off,size)=>match rM place bK with
     | none=>none
     | some l=>some ((off,size,rx x)::l)
def KF (P:Program) (t:TypeId) (bK:List (Nat × Operand)):G:=
 match bf P t with
 | some aS=>match aS.zero with
   | some z=>match aS.bw with
     | .struct dn=>bif Ea P dn.toList then (match rM (yT P dn) bK with
       | some l=>.build z.cells l
       | none=>.bad) else .bad
     | .array _ e=>match bf P e with
       | some bo=>(match rM (fun i=>some (i * bo.size,bo.size)) bK with
         | some l=>.build z.cells l
         | none=>.bad)
       | none=>.bad
     | _=>.bad
   | none=>.bad
 | none=>.bad
def KL (P:Program) (t:TypeId) (len:Nat) (bK:List (Nat × Operand)):G:=
 match bf P t with
 | some aS=>match aS.bw with
   | .slice e=>match bf P e with
     | some bo=>match bo.zero with
       | some z=>bif Nat.ble (len * bo.size) 1000000&&Nat.beq z.cells.length bo.size then
          (match rM (fun i=>some (i * bo.size,bo.size)) bK with
          | some l=>.td len bo.size z.cells l
          | none=>.bad) else .bad
       | none=>.bad
     | none=>.bad
   | _=>.bad
 | none=>.bad
def xt:TypeDesc->Option qb
 | .int _=>some .int
 | .string=>some .str
 | .bool=>some .bool
 | _=>none
def Hr (P:Program) (t:TypeId):Option (List V):=
 match bf P t with
 | some aS=>match aS.bw with
   | .slice e=>match bf P e with
     | some bo=>match bo.zero with
       | some z=>some z.cells
       | none=>none
     | none=>none
   | _=>none
 | none=>none
theorem Zm (P:Program) (t:TypeId):Bd P t=Hr P t:=rfl
def z8 (P:Program) (c:Call):G:=
 match c.callee with
 | .value (.func f)=>bif Nat.beq f eA then .bad else .call f (mI c.args.toList)
 | .value x=>.tg (rx x) (mI c.args.toList)
 | .invoke _ _=>.bad
 | .builtin b=>match b with
   | .len=>match c.argTypes.toList,c.args.toList with
     | [t],[x]=>(match bf P t with
       | some aS=>(match aS.bw with
         | .map _ _=>.len .map (rx x)
         | .array n _=>.len (.arr n) (rx x)
         | .string=>.len .str (rx x)
         | .slice _=>.len .slice (rx x)
         | _=>.bad)
       | none=>.bad)
     | _,_=>.bad
   | .append=>match c.argTypes.toList,c.args.toList with
     | [t,u],[s,x]=>(match bf P t,bf P u with
       | some aS,some uB=>(match uB.bw with
         | .int _=>(match aS.bw with
           | .slice e=>(match bf P e with
             | none=>.bad
             | some bo=>match bo.zero with
               | none=>.bad
               | some z=>bif Nat.ble 1 bo.size&&Nat.ble bo.bytes 4096&&Nat.beq z.cells.length bo.size then .Me bo.size z.cells (rx s) (rx x) else .bad)
           | _=>.bad)
         | _=>match aS.bw with
           | .slice e=>(match bf P e with
             | none=>.bad
             | some bo=>match bo.zero with
               | none=>.bad
               | some z=>bif Nat.ble 1 bo.size&&Nat.ble bo.bytes 4096&&Nat.beq z.cells.length bo.size then .app bo.size (rx s) (rx x) else .bad)
           | _=>.bad)
       | _,_=>.bad)
     | _,_=>.bad
   | .copy=>match c.argTypes.toList,c.args.toList with
     | t::_,[d,s]=>(match bf P t with
       | some aS=>(match aS.bw with
         | .slice e=>(match bf P e with
           | some bo=>.copy bo.size (rx d) (rx s)
           | none=>.bad)
         | _=>.bad)
       | none=>.bad)
     | _,_=>.bad
   | .min=>.zL (mI c.args.toList)
   | .max=>.fE (mI c.args.toList)
   | .clear=>match c.argTypes.toList,c.args.toList with
     | [t],[x]=>(match Hr P t with
       | some z=>.Ow z (rx x)
       | none=>.bad)
     | _,_=>.bad
   | .cap=>match c.argTypes.toList,c.args.toList with
     | [t],[x]=>(match bf P t with
       | some aS=>bif Ce aS.bw then .DL (rx x) else .bad
       | none=>.bad)
     | _,_=>.bad
   | _=>.bad
def qP (P:Program) (op:Op):G:=
 match op with
 | .move x=>.gM (rx x)
 | .assign x=>.gM (rx x)
 | .pick c a b=>.pick (rx c) (rx a) (rx b)
 | .alloc t=>(match bf P t with
   | some aS=>(match aS.zero with
     | some z=>.new z.cells
     | none=>.bad)
   | none=>.bad)
 | .box _ x=>.box (rx x)
 | .build t bK=>KF P t bK.toList
 | .buildSlice t n bK=>KL P t n bK.toList
 | .load t x=>(match bf P t with
   | none=>.bad
   | some aS=>bif aS.agg then .k9 aS.size (rx x) else bif Nat.beq aS.size 1 then .kJ (rx x) else .bad)
 | .store t x y=>(match bf P t with
   | none=>.bad
   | some aS=>.st aS.size (rx x) (rx y))
 | .nilCheck x=>.qG (rx x)
 | .binOp op t x y _=>.bin (KK P op t (sB x||sB y)) (rx x) (rx y)
 | .unOp op _ x=>.un op (rx x)
 | .convert s d x=>.lr (KH P s d) (rx x)
 | .makeFunc (.func f) first gK=>bif first.isEmpty&&!Nat.beq f eA then .fn f (mI gK.toList) else bif gK.isEmpty&&!Nat.beq f eA then .Cz f (mI first.toList) else .bad
 | .makeInterface t x=>(match bf P t with
   | some aS=>bif Nat.beq (gw aS.bw) 5 then .bad else .xn t (rx x)
   | none=>.bad)
 | .makeSlice t l c=>(match bf P t with
   | some aS=>(match aS.bw with
     | .slice e=>(match bf P e with
       | some bo=>(match bo.zero with
         | some z=>bif Nat.ble bo.bytes 4096 then .Cy bo.size z.cells (rx l) (rx c) else .bad
         | none=>.bad)
       | none=>.bad)
     | _=>.bad)
   | none=>.bad)
 | .slice t x cX aJ fE=>(match bf P t with
   | none=>.bad
   | some aS=>match aS.bw with
     | .string=>.vP (rx x) (um cX) (um aJ) (um fE)
     | .slice e=>(match bf P e with
       | none=>.bad
       | some bo=>.c' bo.size (rx x) (um cX) (um aJ) (um fE))
     | _=>.bad)
 | .fieldAddr t x i=>(match se P t i with
   | none=>.bad
   | some f=>match bf P f.type with
     | none=>.bad
     | some mo=>bif Nat.beq mo.size 0 then .bad else .iI f.offset (rx x))
 | .field t x i=>(match se P t i with
   | none=>.bad
   | some f=>match bf P f.type with
     | none=>.bad
     | some aS=>bif aS.agg then .wP f.offset aS.size (rx x) else .wO f.offset (rx x))
 | .indexAddr t x i=>(match bf P t with
   | none=>.bad
   | some aS=>match aS.bw with
     | .slice e=>(match bf P e with
       | none=>.bad
       | some bo=>.l5 bo.size (rx x) (rx i))
     | .array n e=>(match bf P e with
       | none=>.bad
       | some bo=>.zs n bo.size (rx x) (rx i))
     | _=>.bad)
 | .index t x i=>(match bf P t with
   | none=>.bad
   | some aS=>match aS.bw with
     | .string=>.sx (rx x) (rx i)
     | _=>.lA t (rx x) (rx i))
 | .range t x=>(match bf P t with
   | some aS=>(match aS.bw with
     | .string=>.CY (rx x)
     | .map _ _=>.SO (rx x)
     | _=>.bad)
   | none=>.bad)
 | .next it s=>bif s then .CF (rx it) else .RG (rx it)
 | .entry it=>.O5 (rx it)
 | .lookup t x k ok=>(match bf P t with
   | some aS=>(match aS.bw with
     | .map b0 e=>(match bf P b0 with
       | some i_=>(match bf P e with
         | some bo=>(match bo.zero with
           | some z=>(match xt i_.bw with
             | some dL=>.look dL z ok (rx x) (rx k)
             | none=>bif nh i_.bw then .bad else bif kO P b0 then .E5 z ok (rx x) (rx k) else bif nW P b0 then .looks b0 z ok (rx x) (rx k) else .bad)
           | none=>.bad)
         | none=>.bad)
       | none=>.bad)
     | _=>.bad)
   | none=>.bad)
 | .mapUpdate t m k x | .insert t m k x=>(match bf P t with
   | some aS=>(match aS.bw with
     | .map b0 _=>(match bf P b0 with
       | some i_=>(match xt i_.bw with
         | some dL=>.uC dL (rx m) (rx k) (rx x)
         | none=>bif nh i_.bw then .bad else bif kO P b0 then .TF (rx m) (rx k) (rx x) else bif nW P b0 then .TG b0 (rx m) (rx k) (rx x) else .bad)
       | none=>.bad)
     | _=>.bad)
   | none=>.bad)
 | .mapEntry t m k=>(match bf P t with
   | some aS=>(match aS.bw with
     | .map b0 e=>(match bf P e with
       | some bo=>(match bo.zero with
         | some z=>bif kO P b0 then .Rt z (rx m) (rx k) else bif nW P b0 then .Ru b0 z (rx m) (rx k) else .bad
         | none=>.bad)
       | none=>.bad)
     | _=>.bad)
   | none=>.bad)
 | .entryStore _ m st x=>.O_ (rx m) (rx st) (rx x)
 | .makeMap t x=>(match bf P t with
   | some aS=>bif Nat.beq (gw aS.bw) 3 then .Cx (um x) else .bad
   | none=>.bad)
 | .extract x i=>.ext (rx x) i
 | .typeAssert x _ t ok=>(match bf P t with
   | some aS=>bif Nat.beq (gw aS.bw) 5 then .bad else .yE t aS.zero ok (rx x)
   | none=>.bad)
 | .call c=>z8 P c
 | .panic x=>.fY (rx x)
 | _=>.bad
def eE (db:c7):a1:=fun t=>T.get .bad (ao t) db
theorem fI (db:c7) (x:Operand):(de x).run db=(rx x).aV (eE db):=by
 cases x with
 | tmp t=>
   simp only [de,rx];cases Nat.ble t top<;>rfl
 | const v=>rfl
 | func f=>
   simp only [de,rx];cases Nat.beq f eA<;>rfl
 | global g=>rfl
theorem u7 (db:c7):∀xs:List Operand,(re xs).run db=aZ.gE (eE db) (mI xs)
 | []=>rfl
 | x::xs=>by simp only [re,mI,aZ.gE,fI,u7 db xs]
theorem J7 (db:c7) (x:Option Operand):(sJ x).run db=aZ.opt (eE db) (um x):=by
 cases x with
 | none=>rfl
 | some x=>simp only [sJ,um,aZ.opt,fI]
theorem Eb (db:c7) {place:Nat->Option (Nat × Nat)}:∀{bK:List (Nat × Operand)} {l:List (Nat × Nat × aZ)},rM place bK=some l->∀cells,oX place cells ((vG bK).run db)=kE cells (mn (eE db) l)
 | [],l,h,cells=>by simp only [rM,aoC] at h;subst h;rfl
 | (i,x)::bK,l,h,cells=>by
   simp only [rM] at h;cases aF:place i with
   | none=>rw [aF] at h;cases h
   | some os=>
     obtain ⟨off,size⟩:=os;rw [aF] at h;simp only at h;cases aG:rM place bK with
     | none=>rw [aG] at h;cases h
     | some eC=>
       rw [aG] at h;simp only [aoC] at h;subst h;simp only [vG,oX,aF,mn,kE,fI];cases ((rx x).aV (eE db)).hO&&(Nat.beq ((rx x).aV (eE db)).cells.length size&&Nat.ble (off + ((rx x).aV (eE db)).cells.length) cells.length) with
       | false=>rfl
       | true=>exact Eb db aG _
section
variable {P:Program}
theorem akn (op:BinOp) (t:TypeId):(KE P op t).run P=(qj P op t).run:=by
 unfold KE qj;cases op<;>first | rfl | skip
 all_goals
  cases az:bf P t with
  | none=>simp only [fp.run];unfold qj;rw [az]
  | some aS=>
    simp only;cases hu:aS.bw<;>first | rfl | (simp only [fp.run];unfold qj;rw [az];simp only [hu];done) | (simp only [fp.run];unfold q_ jk;simp only [az,hu];first | done | rfl)
theorem akq (op:BinOp) (t:TypeId) (lit:Bool):(KK P op t lit).run P=(A0 P op t lit).run:=by
 unfold KK A0;cases lit with
 | false=>simp only [aoP];exact akn op t
 | true=>
   simp only [aoJ];cases bf P t with
   | none=>rfl
   | some aS=>
     simp only;cases aS.bw<;>first | rfl | (cases op<;>rfl)
theorem akp (s d:TypeId):(KH P s d).run P=(r9 P s d).run:=by
 unfold KH
 split
 . rename_i vO ql al bk
   split
   . rename_i k hu;simp only [uM.run];unfold r9;rw [al,bk];simp only [hu]
   . rename_i hu
     split
     . rename_i e bZ
       split
       . rename_i bo he
         split
         . rename_i hw;simp only [uM.run];unfold r9;rw [al,bk];simp only [hu,bZ,he,hw]
         . rfl
       . rfl
     . rfl
   . rename_i e hu
     split
     . rename_i bo he
       split
       . rename_i hw;simp only [uM.run];unfold r9;rw [al,bk];simp only [hu,he,hw]
       . rfl
     . rfl
   . rfl
 . rfl
theorem Jt {d:TypeDesc} {dL:qb} (h:xt d=some dL):nh d=true/\nI d=dL.eq:=by cases d<;>simp only [xt] at h<;>first | (cases h;done) | (cases h;exact ⟨rfl,rfl⟩)
theorem ako {c:Call} {call:gB} {db:c7} {h ae:ah} {v:V} (he:(z8 P c).run P call (eE db) h=.val v ae):(r6 P c).run call db h=.val v ae:=by
 unfold z8 at he;unfold r6
 split at he
 . rename_i f ax;rw [ax];cases bl:Nat.beq f eA with
   | true=>rw [bl] at he;cases he
   | false=>
     rw [bl] at he;simp only [aoP,G.run] at he;simpa only [de,bl,aoP,ra,V.xU,u7,aoX] using he
 . rename_i x au ax;rw [ax];simp only [G.run] at he;simpa only [fI,u7] using he
 . cases he
 . rename_i b ax;rw [ax];simp only [u7];cases b<;>simp only at he<;>try (cases he;done)
   case len=>
    split at he
    . rename_i t x az au;cases nb:bf P t with
      | none=>rw [nb] at he;cases he
      | some aS=>
        rw [nb] at he;simp only at he;simp only [r3,az,nb,au,mI,aZ.gE];cases hu:aS.bw<;>rw [hu] at he<;>first | (cases he;done) | (simpa only [vs,aoJ,aoP,G.run,Dq.run,qC,bh.of] using he)
    . cases he
   case append=>
    split at he
    . rename_i t u s x az au
      split at he
      . rename_i aS uB nb zn;simp only [r3,az,au,mI,aZ.gE,Dy,nb,zn]
        split at he
        . rename_i k adR
          split at he
          . rename_i e df;cases fU:bf P e with
            | none=>rw [fU] at he;cases he
            | some bo=>
              rw [fU] at he;simp only at he;cases bN:bo.zero with
              | none=>rw [bN] at he;cases he
              | some z=>
                rw [bN] at he;simp only at he;cases ai:(Nat.ble 1 bo.size&&Nat.ble bo.bytes 4096&&Nat.beq z.cells.length bo.size) with
                | false=>rw [ai] at he;cases he
                | true=>
                  rw [ai] at he;simp only [aoJ,G.run] at he;simp only [adR,df,fU,bN,ai,aoJ];exact he
          . cases he
        . rename_i d'
          split at he
          . rename_i e df;cases fU:bf P e with
            | none=>rw [fU] at he;cases he
            | some bo=>
              rw [fU] at he;simp only at he;cases bN:bo.zero with
              | none=>rw [bN] at he;cases he
              | some z=>
                rw [bN] at he;simp only at he;cases ai:(Nat.ble 1 bo.size&&Nat.ble bo.bytes 4096&&Nat.beq z.cells.length bo.size) with
                | false=>rw [ai] at he;cases he
                | true=>
                  rw [ai] at he;simp only [aoJ,G.run] at he;cases I':uB.bw<;>first
                   | (exact absurd I' (d' _))
                   | (simp only [df,fU,bN,ai,aoJ];exact he)
          . cases he
      . cases he
    . cases he
   case copy=>
    split at he
    . rename_i t dE d s az au;cases nb:bf P t with
      | none=>rw [nb] at he;cases he
      | some aS=>
        rw [nb] at he;simp only at he
        split at he
        . rename_i e df;cases fU:bf P e with
          | none=>rw [fU] at he;cases he
          | some bo=>
            rw [fU] at he;simp only [G.run] at he;simp only [r3,az,au,mI,aZ.gE,DO,nb,df,fU];exact he
        . cases he
    . cases he
   case min=>exact he
   case max=>exact he
   case clear=>
    split at he
    . rename_i t x az au;cases ax:Hr P t with
      | none=>rw [ax] at he;cases he
      | some z=>
        rw [ax] at he;simp only [G.run] at he;simp only [r3,az,au,mI,aZ.gE,Zm,ax];exact he
    . cases he
   case cap=>
    split at he
    . rename_i t x az au;cases nb:bf P t with
      | none=>rw [nb] at he;cases he
      | some aS=>
        rw [nb] at he;simp only at he;cases ai:Ce aS.bw with
        | false=>rw [ai] at he;cases he
        | true=>
          rw [ai] at he;simp only [aoJ,G.run] at he;simp only [r3,az,au,mI,aZ.gE,nb,ai,aoJ];exact he
    . cases he
theorem SK {o:Oper} {call:gB} {db:c7} {h ae:ah} {v:V} (he:(qP P o.op).run P call (eE db) h=.val v ae):(hN P o).run call db h=.val v ae:=by
 obtain ⟨dst,op,type,pos,after,guard⟩:=o;cases op<;>simp only [qP] at he<;>try (cases he;done)
 all_goals simp only [hN]
 case move x=>simpa only [fI,G.run] using he
 case assign x=>simpa only [fI,G.run] using he
 case pick c a b=>
  simp only [fI,G.run] at he ⊢;generalize (rx c).aV (eE db)=q at he ⊢;cases q<;>exact he
 case alloc t=>
  cases az:bf P t with
  | none=>rw [az] at he;cases he
  | some aS=>
    rw [az] at he;simp only at he ⊢;cases bN:aS.zero with
    | none=>rw [bN] at he;cases he
    | some z=>rw [bN] at he;exact he
 case box t x=>simpa only [fI,G.run] using he
 case build t bK=>
  unfold KF at he;unfold DD;cases az:bf P t with
  | none=>rw [az] at he;cases he
  | some aS=>
    rw [az] at he;simp only at he ⊢;cases bN:aS.zero with
    | none=>rw [bN] at he;cases he
    | some z=>
      rw [bN] at he;simp only at he ⊢;cases hu:aS.bw<;>rw [hu] at he<;>simp only at he ⊢<;>try (cases he;done)
      . rename_i n e;cases fU:bf P e with
        | none=>rw [fU] at he;cases he
        | some bo=>
          rw [fU] at he;simp only at he ⊢;cases aF:rM (fun i=>some (i * bo.size,bo.size)) bK.toList with
          | none=>rw [aF] at he;cases he
          | some l=>
            rw [aF] at he;simp only [G.run] at he;rw [Eb db aF];cases aE:kE z.cells (mn (eE db) l) with
            | none=>rw [aE] at he;cases he
            | some cs=>rw [aE] at he;exact he
      . rename_i dn;cases aD:Ea P dn.toList with
        | false=>rw [aD] at he;cases he
        | true=>
          rw [aD] at he;simp only [aoJ] at he ⊢;cases aF:rM (yT P dn) bK.toList with
          | none=>rw [aF] at he;cases he
          | some l=>
            rw [aF] at he;simp only [G.run] at he;rw [Eb db aF];cases aE:kE z.cells (mn (eE db) l) with
            | none=>rw [aE] at he;cases he
            | some cs=>rw [aE] at he;exact he
 case buildSlice t n bK=>
  unfold KL at he;unfold wy;cases az:bf P t with
  | none=>rw [az] at he;cases he
  | some aS=>
    rw [az] at he;simp only at he ⊢;cases hu:aS.bw<;>rw [hu] at he<;>simp only at he ⊢<;>try (cases he;done)
    rename_i e;cases fU:bf P e with
    | none=>rw [fU] at he;cases he
    | some bo=>
      rw [fU] at he;simp only at he ⊢;cases bN:bo.zero with
      | none=>rw [bN] at he;cases he
      | some z=>
        rw [bN] at he;simp only at he ⊢;cases ai:(Nat.ble (n * bo.size) 1000000&&Nat.beq z.cells.length bo.size) with
        | false=>rw [ai] at he;cases he
        | true=>
          rw [ai] at he;simp only [aoJ] at he ⊢;cases aF:rM (fun i=>some (i * bo.size,bo.size)) bK.toList with
          | none=>rw [aF] at he;cases he
          | some l=>
            rw [aF] at he;simp only [G.run] at he;rw [Eb db aF];exact he
 case load t x=>
  unfold xA;cases az:bf P t with
  | none=>rw [az] at he;cases he
  | some aS=>
    rw [az] at he;simp only at he ⊢;cases b5:aS.agg with
    | true=>rw [b5] at he;simpa only [aoJ,fI,G.run] using he
    | false=>
      rw [b5] at he;simp only [aoP] at he ⊢;cases al:Nat.beq aS.size 1 with
      | true=>rw [al] at he;simpa only [aoJ,fI,G.run] using he
      | false=>rw [al] at he;cases he
 case store t x y=>
  unfold ur;cases az:bf P t with
  | none=>rw [az] at he;cases he
  | some aS=>rw [az] at he;simpa only [fI,G.run] using he
 case nilCheck x=>simpa only [fI,G.run] using he
 case binOp op t x y t2=>simpa only [fI,G.run,akq] using he
 case unOp op t x=>simpa only [fI,G.run] using he
 case convert s d x=>simpa only [fI,G.run,akp] using he
 case makeFunc fn first gK=>
  cases fn<;>simp only at he<;>try (cases he;done)
  simp only;cases aE:(first.isEmpty&&!Nat.beq _ eA) with
  | true=>rw [aE] at he;simpa only [aoJ,u7,G.run] using he
  | false=>
    rw [aE] at he;simp only [aoP] at he ⊢;cases oc:(gK.isEmpty&&!Nat.beq _ eA) with
    | true=>rw [oc] at he;simpa only [aoJ,u7,G.run] using he
    | false=>rw [oc] at he;cases he
 case typeAssert x vY t ok=>
  cases az:bf P t with
  | none=>rw [az] at he;cases he
  | some aS=>
    rw [az] at he;simp only at he ⊢;cases ai:Nat.beq (gw aS.bw) 5 with
    | true=>rw [ai] at he;cases he
    | false=>rw [ai] at he;simpa only [aoP,fI,G.run] using he
 case makeInterface t x=>
  cases az:bf P t with
  | none=>rw [az] at he;cases he
  | some aS=>
    rw [az] at he;simp only at he ⊢;cases ai:Nat.beq (gw aS.bw) 5 with
    | true=>rw [ai] at he;cases he
    | false=>rw [ai] at he;simpa only [aoP,fI,G.run] using he
 case makeSlice t l c=>
  unfold xC;cases az:bf P t with
  | none=>rw [az] at he;cases he
  | some aS=>
    rw [az] at he;simp only at he ⊢;cases hu:aS.bw<;>rw [hu] at he<;>simp only at he ⊢<;>try (cases he;done)
    rename_i e;cases fU:bf P e with
    | none=>rw [fU] at he;cases he
    | some bo=>
      rw [fU] at he;simp only at he ⊢;cases bN:bo.zero with
      | none=>rw [bN] at he;cases he
      | some z=>
        rw [bN] at he;simp only at he ⊢;cases ai:Nat.ble bo.bytes 4096 with
        | false=>rw [ai] at he;cases he
        | true=>rw [ai] at he;simpa only [aoJ,fI,G.run] using he
 case slice t x cX aJ m3=>
  unfold FU;cases az:bf P t with
  | none=>rw [az] at he;cases he
  | some aS=>
    rw [az] at he;simp only at he ⊢;cases hu:aS.bw<;>rw [hu] at he<;>simp only at he ⊢<;>try (cases he;done)
    . simpa only [fI,J7,G.run] using he
    . rename_i e;cases fU:bf P e with
      | none=>rw [fU] at he;cases he
      | some bo=>
        rw [fU] at he;simp only [fI,J7,G.run] at he ⊢;generalize (rx x).aV (eE db)=q at he ⊢;cases q<;>exact he
 case fieldAddr t x i=>
  unfold D9;cases aE:se P t i with
  | none=>rw [aE] at he;cases he
  | some f=>
    rw [aE] at he;simp only at he ⊢;cases az:bf P f.type with
    | none=>rw [az] at he;cases he
    | some mo=>
      rw [az] at he;simp only at he ⊢;cases ai:Nat.beq mo.size 0 with
      | true=>rw [ai] at he;cases he
      | false=>rw [ai] at he;simpa only [aoP,fI,G.run] using he
 case field t x i=>
  unfold D';cases aE:se P t i with
  | none=>rw [aE] at he;cases he
  | some f=>
    rw [aE] at he;simp only [rK] at he ⊢;cases az:bf P f.type with
    | none=>rw [az] at he;cases he
    | some mo=>
      rw [az] at he;simp only at he ⊢;cases ai:mo.agg with
      | true=>
        rw [ai] at he;simp only [aoJ,fI,G.run] at he ⊢;generalize (rx x).aV (eE db)=q at he ⊢;cases q<;>exact he
      | false=>
        rw [ai] at he;simp only [aoP,fI,G.run] at he ⊢;generalize (rx x).aV (eE db)=q at he ⊢;cases q<;>exact he
 case indexAddr t x i=>
  unfold ER;cases az:bf P t with
  | none=>rw [az] at he;cases he
  | some aS=>
    rw [az] at he;simp only at he ⊢;cases hu:aS.bw<;>rw [hu] at he<;>simp only at he ⊢<;>try (cases he;done)
    all_goals
     rename_i e;cases fU:bf P e with
     | none=>rw [fU] at he;cases he
     | some bo=>rw [fU] at he;simpa only [fI,G.run] using he
 case index t x i=>
  cases az:bf P t with
  | none=>rw [az] at he;cases he
  | some aS=>
    rw [az] at he;simp only at he;cases hu:aS.bw<;>rw [hu] at he<;>simp only [G.run] at he
    case string=>
     unfold tP;rw [az];simp only [hu];simpa only [fI] using he
    all_goals simpa only [fI] using he
 case range t x=>
  unfold FF;cases az:bf P t with
  | none=>rw [az] at he;cases he
  | some aS=>
    rw [az] at he;simp only at he ⊢;cases hu:aS.bw<;>rw [hu] at he<;>simp only at he ⊢<;>try (cases he;done)
    all_goals simp only [fI,G.run] at he ⊢
    all_goals first
     | exact he
     | (generalize (rx x).aV (eE db)=q at he ⊢
        cases q<;>exact he)
 case next it b=>
  cases b<;>simpa only [aoJ,aoP,fI,G.run] using he
 case entry it=>simpa only [fI,G.run] using he
 case mapEntry t m k=>
  unfold E8;cases az:bf P t with
  | none=>rw [az] at he;cases he
  | some aS=>
    rw [az] at he;simp only at he ⊢;cases hu:aS.bw<;>rw [hu] at he<;>simp only at he ⊢<;>try (cases he;done)
    rename_i b0 e;cases fU:bf P e with
    | none=>rw [fU] at he;cases he
    | some bo=>
      rw [fU] at he;simp only at he ⊢;cases bN:bo.zero with
      | none=>rw [bN] at he;cases he
      | some z=>
        rw [bN] at he;simp only at he ⊢;cases aF:kO P b0 with
        | true=>rw [aF] at he;simpa only [aoJ,fI,G.run] using he
        | false=>
          rw [aF] at he;simp only [aoP] at he ⊢;cases al:nW P b0 with
          | true=>rw [al] at he;simpa only [aoJ,fI,G.run] using he
          | false=>rw [al] at he;cases he
 case entryStore t m st x=>simpa only [fI,G.run] using he
 case lookup t x k ok=>
  unfold E6;cases az:bf P t with
  | none=>rw [az] at he;cases he
  | some aS=>
    rw [az] at he;simp only at he ⊢;cases hu:aS.bw<;>rw [hu] at he<;>simp only at he ⊢<;>try (cases he;done)
    rename_i b0 e;cases aD:bf P b0 with
    | none=>rw [aD] at he;cases he
    | some i_=>
      rw [aD] at he;simp only at he ⊢;cases fU:bf P e with
      | none=>rw [fU] at he;cases he
      | some bo=>
        rw [fU] at he;simp only at he ⊢;cases bN:bo.zero with
        | none=>rw [bN] at he;cases he
        | some z=>
          rw [bN] at he;simp only at he ⊢;cases l2:xt i_.bw with
          | none=>
            rw [l2] at he;simp only at he ⊢;cases aE:nh i_.bw with
            | true=>rw [aE] at he;cases he
            | false=>
              rw [aE] at he;simp only [aoP] at he ⊢;cases aF:kO P b0 with
              | true=>rw [aF] at he;simpa only [aoJ,fI,G.run] using he
              | false=>
                rw [aF] at he;simp only [aoP] at he ⊢;cases al:nW P b0 with
                | true=>rw [al] at he;simpa only [aoJ,fI,G.run] using he
                | false=>rw [al] at he;cases he
          | some dL=>
            rw [l2] at he;obtain ⟨an,av⟩:=Jt l2;simp only [an,av,aoJ];simpa only [fI,G.run] using he
 case mapUpdate t m k x=>
  unfold vU;cases az:bf P t with
  | none=>rw [az] at he;cases he
  | some aS=>
    rw [az] at he;simp only at he ⊢;cases hu:aS.bw<;>rw [hu] at he<;>simp only at he ⊢<;>try (cases he;done)
    rename_i b0 e;cases aD:bf P b0 with
    | none=>rw [aD] at he;cases he
    | some i_=>
      rw [aD] at he;simp only at he ⊢;cases l2:xt i_.bw with
      | none=>
        rw [l2] at he;simp only at he ⊢;cases aE:nh i_.bw with
        | true=>rw [aE] at he;cases he
        | false=>
          rw [aE] at he;simp only [aoP] at he ⊢;cases aF:kO P b0 with
          | true=>rw [aF] at he;simpa only [aoJ,fI,G.run] using he
          | false=>
            rw [aF] at he;simp only [aoP] at he ⊢;cases al:nW P b0 with
            | true=>rw [al] at he;simpa only [aoJ,fI,G.run] using he
            | false=>rw [al] at he;cases he
      | some dL=>
        rw [l2] at he;obtain ⟨an,av⟩:=Jt l2;simp only [an,av,aoJ];simpa only [fI,G.run] using he
 case insert t m k x=>
  unfold vU;cases az:bf P t with
  | none=>rw [az] at he;cases he
  | some aS=>
    rw [az] at he;simp only at he ⊢;cases hu:aS.bw<;>rw [hu] at he<;>simp only at he ⊢<;>try (cases he;done)
    rename_i b0 e;cases aD:bf P b0 with
    | none=>rw [aD] at he;cases he
    | some i_=>
      rw [aD] at he;simp only at he ⊢;cases l2:xt i_.bw with
      | none=>
        rw [l2] at he;simp only at he ⊢;cases aE:nh i_.bw with
        | true=>rw [aE] at he;cases he
        | false=>
          rw [aE] at he;simp only [aoP] at he ⊢;cases aF:kO P b0 with
          | true=>rw [aF] at he;simpa only [aoJ,fI,G.run] using he
          | false=>
            rw [aF] at he;simp only [aoP] at he ⊢;cases al:nW P b0 with
            | true=>rw [al] at he;simpa only [aoJ,fI,G.run] using he
            | false=>rw [al] at he;cases he
      | some dL=>
        rw [l2] at he;obtain ⟨an,av⟩:=Jt l2;simp only [an,av,aoJ];simpa only [fI,G.run] using he
 case makeMap t x=>
  unfold zH;cases az:bf P t with
  | none=>rw [az] at he;cases he
  | some aS=>
    rw [az] at he;simp only at he ⊢;cases ai:Nat.beq (gw aS.bw) 3 with
    | false=>rw [ai] at he;cases he
    | true=>rw [ai] at he;simpa only [aoJ,J7,G.run] using he
 case extract x i=>
  simp only [fI,G.run] at he ⊢;generalize (rx x).aV (eE db)=q at he ⊢;cases q<;>exact he
 case call c=>exact ako he
 case panic x=>
  simp only [G.run] at he;unfold zY at he
  split at he<;>cases he
def G.mQ:G->Bool
 | .call _ _=>true
 | .tg _ _=>true
 | .fY _=>true
 | _=>false
theorem Hn (b:Bool) (x y:G):(bif b then x else y).mQ=(bif b then x.mQ else y.mQ):=by cases b<;>rfl
theorem SI {c:Call} (ax:(z8 P c).mQ=true):∃x,c.callee=.value x:=by
 unfold z8 at ax
 split at ax
 . exact ⟨_,by assumption⟩
 . exact ⟨_,by assumption⟩
 . cases ax
 . exfalso;revert ax
   split<;>(repeat' split)<;>(try simp only [Hn])<;>simp [G.mQ]
theorem KJ {op:Op} (ax:(qP P op).mQ=true):nK op=true:=by
 cases op<;>simp only [qP] at ax<;>try (cases ax;done)
 case call c=>
  obtain ⟨x,au⟩:=SI ax;simp only [nK,au]
 case panic x=>rfl
 case makeFunc fn first gK=>
  exfalso;revert ax;cases fn<;>simp only [qP,Hn]<;>simp [G.mQ]
 all_goals
  exfalso;revert ax
  try unfold KF
  try unfold KL
  try (repeat' split)
  all_goals (try simp only [Hn])
  all_goals simp [G.mQ]
theorem SJ {o:Oper} {call:gB} {db:c7} {h ae:ah} {v:V} (ax:(qP P o.op).mQ=true) (he:(qP P o.op).run P call (eE db) h=.fY v ae):(hN P o).run call db h=.fY v ae:=by
 have hm:=KJ ax;obtain ⟨dst,op,type,pos,after,guard⟩:=o;cases op<;>simp only [nK] at hm<;>try (cases hm;done)
 case panic x=>simpa only [hN,qP,fI,G.run] using he
 case call c=>
  simp only [qP] at he ax;simp only [hN];obtain ⟨x,au⟩:=SI ax;unfold z8 at he;unfold r6
  split at he
  . rename_i f Ij;rw [Ij];cases bl:Nat.beq f eA with
    | true=>rw [bl] at he;cases he
    | false=>
      rw [bl] at he;simp only [aoP,G.run] at he;simpa only [de,bl,aoP,ra,V.xU,u7,aoX] using he
  . rename_i y bl Ij;rw [Ij];simp only [G.run] at he;simpa only [fI,u7] using he
  . cases he
  . rename_i b ai;rw [au] at ai;cases ai
end
end
section
open Go Go.RowKit
variable [Lay]
def e5 (P:Program) (f:FuncId) (args:List V) (h:ah) (v:V) (ae:ah):Prop:=
 f≠eA/\(((∃fn,P.funcs[f]? =some fn/\fn.body.isSome=true)/\∀(aA:Fr) E w xs,bH E args xs->bD aA E h w->
  Calls P f xs.toArray w fun e w'=>∃aw x,e=.returned x/\E.le aw/\Rel aw v x/\bD aA aw ae w')\/
 ∀(aA:Fr) E w xs,bH E args xs->bD aA E h w->∃aw x w',(callFunc f xs.toArray).run P w=.ok (.value x) w'/\E.le aw/\Rel aw v x/\bD aA aw ae w')
def L' (P:Program) (args:List V) (b:aN) (h:ah) (v:V) (ae:ah):Prop:=
 ∀(aA:Fr) E w xs p,bH E args xs->bD aA E h w->E b=some p->
  ∃f tmps assign body,(Instr.yield p.bp xs.toArray).run P w=.ok (.round p.bp f tmps assign body) w/\
   RoundIn (aq none) 0 P p.bp f tmps assign body w fun e w'=>∃aw x,e=.returned x/\E.le aw/\Rel aw v x/\bD aA aw ae w'
theorem e5.calls {P:Program} (cQ:hh P) {f:FuncId} {args:List V} {h ae:ah} {v:V} (H:e5 P f args h v ae) (ai:∃fn,P.funcs[f]? =some fn/\fn.body.isSome=true) (aA:Fr) (E:Env) (w:World) (xs:List Value) (au:bH E args xs) (s:bD aA E h w):
 Calls P f xs.toArray w fun e w'=>∃aw x,e=.returned x/\E.le aw/\Rel aw v x/\bD aA aw ae w':=by
 rcases H.2 with ⟨_,H⟩ | H
 . exact H aA E w xs au s
 . obtain ⟨aw,x,w',U,_⟩:=H aA E w xs au s;obtain ⟨fn,ad,ag⟩:=ai;rw [vN cQ ad ag] at U;cases U
def dY (P:Program) (f:FuncId) (args:List V) (h:ah) (K:V->ah->Prop):Prop:=∃v ae,e5 P f args h v ae/\K v ae
def Vl (P:Program) (args:List V) (b:aN) (h:ah) (K:V->ah->Prop):Prop:=∃v ae,L' P args b h v ae/\K v ae
def L_ (P:Program) (xs:List V) (h:ah) (K:V->ah->Prop):Prop:=∃en b,xs=en++[.ptr b 0]/\Vl P en b h K
def L0 (P:Program) (f:FuncId) (args:List V) (h:ah) (v:V) (ae:ah):Prop:=
 f≠eA/\(∃fn,P.funcs[f]? =some fn/\fn.body.isSome=true)/\∀(aA:Fr) E w xs,bH E args xs->bD aA E h w->
  Calls P f xs.toArray w fun e w'=>∃aw x,e=.panicked (nS x)/\E.le aw/\Rel aw v x/\bD aA aw ae w'
def jW (P:Program) (f:FuncId) (args:List V) (h:ah) (K X:V->ah->Prop):Prop:=dY P f args h K\/∃v ae,L0 P f args h v ae/\X v ae
def LC (P:Program) (g:FuncId) (xs:List V) (h:ah) (K X:V->ah->Prop):Prop:=if g=eA then L_ P xs h K else jW P g xs h K X
abbrev lK:Nat:=4294967297
def V.target (v:V) (args:List V):Option (FuncId × List V):=
 match v with
 | .func g cs=>some (g,args++cs)
 | .qE g cs=>some (g,cs++args)
 | _=>none
theorem J2 {v:V} {args xs:List V} {g:FuncId} (h:v.target args=some (g,xs)) (F:FuncId->List V->bh):v.xU args F=F g xs:=by
 cases v<;>simp only [V.target] at h<;>try (cases h;done)
 all_goals (simp only [aoC,apy] at h;obtain ⟨rfl,rfl⟩:=h;rfl)
theorem dY.mono {P:Program} {f:FuncId} {args:List V} {h:ah} {K lS:V->ah->Prop} (c:dY P f args h K) (aD:∀v ae,K v ae->lS v ae):dY P f args h lS:=by obtain ⟨v,ae,an,av⟩:=c;exact ⟨v,ae,an,aD v ae av⟩
theorem jW.mono {P:Program} {f:FuncId} {args:List V} {h:ah} {K lS X GN:V->ah->Prop} (c:jW P f args h K X) (aD:∀v ae,K v ae->lS v ae) (au:∀v ae,X v ae->GN v ae):jW P f args h lS GN:=by
 rcases c with c | ⟨v,ae,an,av⟩
 . exact .inl (c.mono aD)
 . exact .inr ⟨v,ae,an,au v ae av⟩
def jN:gB:=fun _ _ _=>.fail
theorem tY (P:Program):iq P jN/\iC P jN:=
 ⟨⟨fun _ f args h v ae _ he=>by simp [jN] at he,fun _ f args h v ae _ he=>by simp [jN] at he,fun _ args b h v ae he=>by simp [jN] at he,fun args h v ae he=>by simp [jN] at he⟩,fun f args h v ae he=>by simp [jN] at he⟩
open Classical in
def pe (f:FuncId) (args:List V) (h:ah) (v:V) (ae:ah):gB:=
 fun f1 cN ad=>if f1=f/\cN=args/\ad=h then .val v ae else .fail
theorem R0 {P:Program} {f:FuncId} {args:List V} {h ae:ah} {v:V} (H:e5 P f args h v ae):iq P (pe f args h v ae)/\iC P (pe f args h v ae):=by
 refine ⟨⟨fun aA f1 cN ad v1 km _ he=>?_,fun aA f1 cN ad v1 km _ he=>?_,fun aA cN b ad v1 km he=>?_,fun cN ad v1 km he=>?_⟩,fun f1 cN ad v1 km he=>?_⟩
 . unfold pe at he
   split at he
   . rename_i ax;obtain ⟨rfl,rfl,rfl⟩:=ax;simp only [bh.val.injEq] at he;obtain ⟨rfl,rfl⟩:=he;intro E w xs au s;rcases H.2 with H | H
     . exact .inl ⟨H.1,H.2 aA E w xs au s⟩
     . exact .inr (H aA E w xs au s)
   . cases he
 . unfold pe at he
   split at he<;>cases he
 . unfold pe at he
   split at he
   . rename_i ax;exact absurd ax.1.symm H.1
   . cases he
 . unfold pe at he
   split at he<;>cases he
 . trivial
open Classical in
def vE (f:FuncId) (args:List V) (h:ah) (v:V) (ae:ah):gB:=
 fun f1 cN ad=>if f1=f/\cN=args/\ad=h then .fY v ae else .fail
theorem RY {P:Program} {f:FuncId} {args:List V} {h ae:ah} {v:V} (H:L0 P f args h v ae):iq P (vE f args h v ae)/\iC P (vE f args h v ae):=by
 refine ⟨⟨fun aA f1 cN ad v1 km _ he=>?_,fun aA f1 cN ad v1 km _ he=>?_,fun aA cN b ad v1 km he=>?_,fun cN ad v1 km he=>?_⟩,fun f1 cN ad v1 km he=>?_⟩
 . unfold vE at he
   split at he<;>cases he
 . unfold vE at he
   split at he
   . rename_i ax;obtain ⟨rfl,rfl,rfl⟩:=ax;simp only [bh.fY.injEq] at he;obtain ⟨rfl,rfl⟩:=he;exact fun E w xs au s=>⟨H.2.1,H.2.2 aA E w xs au s⟩
   . cases he
 . unfold vE at he
   split at he<;>cases he
 . unfold vE at he
   split at he
   . rename_i ax;exact absurd ax.1.symm H.1
   . cases he
 . trivial
theorem RZ {f:FuncId} {args:List V} {h ae:ah} {v:V}:vE f args h v ae f args h=.fY v ae:=by unfold vE;rw [aoN ⟨rfl,rfl,rfl⟩]
theorem ak9 {xs en:List V} {x y:V} (h:xs++[x]=en++[y]):xs=en/\x=y:=by have:=List.append_inj' h rfl;exact ⟨this.1,by simpa using this.2⟩
theorem aiB {P:Program} {args:List V} {b:aN} {h ae:ah} {v:V} (H:L' P args b h v ae):iq P (pe eA (args++[.ptr b 0]) h v ae)/\iC P (pe eA (args++[.ptr b 0]) h v ae):=by
 refine ⟨⟨fun aA f1 cN ad v1 km d' he=>?_,fun aA f1 cN ad v1 km _ he=>?_,fun aA cN bT ad v1 km he=>?_,fun cN ad v1 km he=>?_⟩,fun f1 cN ad v1 km he=>?_⟩
 . unfold pe at he
   split at he
   . rename_i ax;exact absurd ax.1 d'
   . cases he
 . unfold pe at he
   split at he<;>cases he
 . unfold pe at he
   split at he
   . rename_i ax;obtain ⟨_,ax,rfl⟩:=ax;obtain ⟨rfl,ai⟩:=ak9 ax;simp only [V.ptr.injEq,and_true] at ai;subst ai;simp only [bh.val.injEq] at he;obtain ⟨rfl,rfl⟩:=he;exact fun E w xs p au s aF=>H aA E w xs p au s aF
   . cases he
 . unfold pe at he
   split at he<;>cases he
 . trivial
theorem J8 {f:FuncId} {args:List V} {h ae:ah} {v:V}:pe f args h v ae f args h=.val v ae:=by unfold pe;rw [aoN ⟨rfl,rfl,rfl⟩]
def a1.set (r:a1) (d:Option Nat) (v:V):a1:=
 match d with
 | none=>r
 | some d=>fun t=>if t=d then v else r t
def a1.trim (r:a1):List Nat->a1
 | [],_=>.bad
 | u::us,t=>if t=u then r t else a1.trim r us t
def a1.bd:List V->a1
 | [],_=>.bad
 | v::aj,t=>if t=0 then v else a1.bd aj (t-1)
def C8 (r:a1):List Nat->c7
 | []=>.e
 | t::dE=>T.put .bad (r t) (ao t) (C8 r dE)
theorem Tt (r:a1):∀dE:List Nat,eE (C8 r dE)=a1.trim r dE
 | []=>by funext t;simp [eE,C8,a1.trim]
 | u::dE=>by
   funext t;have cc:=congrFun (Tt r dE) t;simp only [eE] at cc;simp only [eE,C8,a1.trim,T.mT];by_cases h:t=u
   . subst h;simp
   . rw [aoI (fun e=>h (nR e).symm),aoI h];exact cc
theorem uw (db:c7):∀dE:List Nat,eE (gW db dE)=a1.trim (eE db) dE
 | []=>by funext t;simp [eE,gW,a1.trim]
 | u::dE=>by
   funext t;have cc:=congrFun (uw db dE) t;simp only [eE] at cc;simp only [eE,gW,a1.trim,T.mT];by_cases h:t=u
   . subst h;simp
   . rw [aoI (fun e=>h (nR e).symm),aoI h];exact cc
theorem Ld {r:a1}:∀{dE:List Nat} {t:Nat},t ∈ dE->a1.trim r dE t=r t
 | [],t,h=>by simp at h
 | u::dE,t,h=>by
   simp only [a1.trim];by_cases hu:t=u
   . rw [aoN hu]
   . rw [aoI hu];simp only [ao7] at h;exact Ld (h.resolve_left hu)
theorem Tu {r:a1}:∀{dE:List Nat} {t:Nat},t ∉ dE->a1.trim r dE t=.bad
 | [],t,_=>rfl
 | u::dE,t,h=>by simp only [ao7,not_or] at h;simp only [a1.trim];rw [aoI h.1];exact Tu h.2
theorem Kv (d:Option Nat) (db:c7) (v:V):eE ((kx d).run db v)=(eE db).set d v:=by
 cases d with
 | none=>rfl
 | some d=>
   funext t;simp only [eE,kx,a1.set,T.mT];by_cases h:t=d
   . subst h;simp
   . rw [aoI (fun e=>h (nR e).symm),aoI h]
def Out (aL:Nat) (r:a1):Prop:=∀t,aL<=t->t≠cD->r t=.bad
theorem u9 {aL:Nat} {r:a1} (bG:Out aL r):∃db,eE db=r:=by
 refine ⟨C8 r (cD::List.range aL),?_⟩;rw [Tt];funext t;by_cases h:t<aL
 . exact Ld (apr _ (ap_.2 h))
 . by_cases ag:t=cD
   . exact Ld (by rw [ag];exact apE)
   . rw [Tu (by simp only [ao7,ap_,not_or];exact ⟨ag,h⟩),bG t (by omega) ag]
theorem Out.set {aL:Nat} {r:a1} (bG:Out aL r) {d:Option Nat} (bk:hn aL d=true) (v:V):Out aL (r.set d v):=by
 intro t az al;cases d with
 | none=>exact bG t az al
 | some d=>
   simp only [hn,aoE,ape] at bk;simp only [a1.set];rw [aoI (by omega)];exact bG t az al
theorem Ad {aL:Nat} {r:a1} {d:Option Nat} (bk:hn aL d=true) (v:V):r.set d v cD=r cD:=by
 cases d with
 | none=>rfl
 | some d=>
   simp only [hn,aoE,ape,aoT] at bk;simp only [a1.set];rw [aoI (by have:=bk.2;unfold top at this;unfold cD;omega)]
theorem FT (r:a1) (v:V):r.set (some im) v cD=r cD:=by simp only [a1.set];rw [aoI (by decide)]
structure iw (E:Env) (aL:Nat) (r:a1) (a:Act):Prop where
 size:a.tmps.size=aL
 defers:pv E (r cD) a.defers
 cA:∀t,t≠cD->Rel E (r t) (a.tmps.getD t undef)
theorem nk {t:Nat} (h:t<=top):t≠cD:=by unfold top at h;unfold cD;omega
theorem iw.mono {E aw:Env} (h:E.le aw) {aL:Nat} {r:a1} {a:Act} (k:iw E aL r a):iw aw aL r a:=
 ⟨k.size,k.defers.mono h,fun t az=>Rel.mono h _ _ (k.cA t az)⟩
theorem iw.put {E aw:Env} (h:E.le aw) {aL:Nat} {r:a1} {a:Act} (k:iw E aL r a) {d:Option Nat} (bk:hn aL d=true) {v:V} {x:Value} (au:Rel aw v x):iw aw aL (r.set d v) (a.put d x):=by
 cases d with
 | none=>exact k.mono h
 | some d=>
   have al:=Ad (r:=r) bk v;simp only [hn,aoE,ape] at bk;refine ⟨by simp [Act.put,k.size],by rw [al];exact k.defers.mono h,fun t gu=>?_⟩;simp only [a1.set,Act.put];rw [ao4,aoY];by_cases az:t=d
   . subst az;rw [aoN rfl,aoN rfl,aoN (by rw [k.size];exact bk.1)];exact au
   . rw [aoI az,aoI (fun e=>az e.symm),<-Array.getD_eq_getD_getElem?];exact Rel.mono h _ _ (k.cA t gu)
def G.wp (P:Program) (g:G) (r:a1) (h:ah) (K X:V->ah->Prop):Prop:=
 match g with
 | .call f args=>jW P f (aZ.gE r args) h K X
 | .tg f args=>∃g xs,(f.aV r).target (aZ.gE r args)=some (g,xs)/\LC P g xs h K X
 | .fY x=>∃t v,x.aV r=.iface t v/\X (.iface t v) h
 | g=>∃v ae,g.run P jN r h=.val v ae/\K v ae
theorem G.yi {P:Program} {g:G} {r:a1} {h:ah} {K X:V->ah->Prop} (H:g.wp P r h K X):
 (∃call v ae,((iq P call/\iC P call)/\(g.mQ=false->call=jN))/\g.run P call r h=.val v ae/\K v ae)\/(∃call v ae,(iq P call/\iC P call)/\g.mQ=true/\g.run P call r h=.fY v ae/\X v ae):=by
 cases g
 case call f args=>
  rcases H with ⟨v,ae,an,av⟩ | ⟨v,ae,an,av⟩
  . exact .inl ⟨_,v,ae,⟨R0 an,fun e=>by cases e⟩,J8,av⟩
  . exact .inr ⟨_,v,ae,RY an,rfl,RZ,av⟩
 case tg f args=>
  obtain ⟨g,xs,aE,H⟩:=H;unfold LC at H
  split at H
  rotate_left
  . rcases H with ⟨v,ae,an,av⟩ | ⟨v,ae,an,av⟩
    . refine .inl ⟨_,v,ae,⟨R0 an,fun e=>by cases e⟩,?_,av⟩;simp only [G.run];rw [J2 aE];exact J8
    . refine .inr ⟨_,v,ae,RY an,rfl,?_,av⟩;simp only [G.run];rw [J2 aE];exact RZ
  . rename_i ay;subst ay;obtain ⟨en,b,rfl,v,ae,an,av⟩:=H;refine .inl ⟨_,v,ae,⟨aiB an,fun e=>by cases e⟩,?_,av⟩;simp only [G.run];rw [J2 aE];exact J8
 case fY x=>
  obtain ⟨t,v,an,av⟩:=H;exact .inr ⟨jN,_,h,tY P,rfl,by simp only [G.run,an,zY],av⟩
 all_goals
  obtain ⟨v,ae,an,av⟩:=H;exact .inl ⟨jN,v,ae,⟨tY P,fun _=>rfl⟩,an,av⟩
structure cI where
 dst:Option Nat
 g:G
 HX:Option (Nat × Bool)
 rs:List Nat
def cI.bad:cI:=⟨none,.bad,none,[]⟩
def gate (v:V) (want:Bool) (A B:Prop):Prop:=
 match v with
 | .bool b=>(b=want->A)/\(b=!want->B)
 | .tuple _=>B
 | _=>False
def cI.wp (P:Program) (o:cI) (r:a1) (h:ah) (K:a1->V->ah->Prop) (X:V->ah->Prop):Prop:=
 match o.HX with
 | none=>o.g.wp P (r.trim o.rs) h (fun v ae=>K (r.set o.dst v) v ae) X
 | some (d,want)=>gate (r.trim o.rs d) want (o.g.wp P (r.trim o.rs) h (fun v ae=>K (r.set o.dst v) v ae) X) (K (r.set o.dst (.tuple [])) (.tuple []) h)
def mc (P:Program) (aL:Nat) (all:Array Oper) (o:Oper):cI:=
 bif hn aL o.dst&&kc (c9 all o) then
  match o.guard with
  | none=>⟨o.dst,qP P o.op,none,c9 all o⟩
  | some (j,want)=>match all[j]? with
    | some g=>match g.dst with
      | some d=>bif Nat.blt d aL&&Nat.ble d top then ⟨o.dst,qP P o.op,some (d,want),c9 all o⟩ else cI.bad
      | none=>cI.bad
    | none=>cI.bad
 else cI.bad
def lL (P:Program) (aL:Nat) (all:Array Oper):List Oper->List cI
 | []=>[]
 | o::os=>mc P aL all o::lL P aL all os
theorem x2 (P:Program) (aL:Nat) (all:Array Oper):∀l:List Oper,lL P aL all l=l.map (mc P aL all)
 | []=>rfl
 | o::os=>by simp [lL,x2 P aL all os]
def aZ.isNil:aZ->Bool
 | .c .qI=>true
 | _=>false
def ui (P:Program) (aL:Nat) (all:Array Oper) (o:Oper):cI:=
 match o.op,o.guard with
 | .binOp op t x y _,none=>match z1 P op t with
   | some neg=>bif !((rx x).isNil||(rx y).isNil)&&(hn aL o.dst&&kc (c9 all o)) then ⟨o.dst,.CP neg (rx x) (rx y),none,c9 all o⟩ else mc P aL all o
   | none=>mc P aL all o
 | .defer c,none=>match c.callee with
   | .value f=>bif o.dst.isNone&&kc (c9 all o) then ⟨some cD,.h' (rx f) (mI c.args.toList),none,cD::c9 all o⟩ else cI.bad
   | _=>cI.bad
 | _,_=>mc P aL all o
def cI.Fe (o:cI):Bool:=
 match o.g with
 | .h' _ _=>false
 | _=>true
def vM (P:Program) (aL:Nat) (all:Array Oper):List Oper->List cI
 | []=>[]
 | o::os=>ui P aL all o::vM P aL all os
theorem cI.AX {P:Program} {r:a1} {h:ah} {K:a1->V->ah->Prop} {X:V->ah->Prop}:¬cI.bad.wp P r h K X:=by rintro ⟨v,ae,q,_⟩;cases q
theorem cI.yi {P:Program} {aL:Nat} {all:Array Oper} {o:Oper} {r:a1} {h:ah} {K:a1->V->ah->Prop} {X:V->ah->Prop} (H:(mc P aL all o).wp P r h K X):
 (∃call v ae,((iq P call/\iC P call)/\((mc P aL all o).g.mQ=false->call=jN))/\hn aL o.dst=true/\K (r.set o.dst v) v ae/\∀db,eE db=r->(et P aL all o).run call db h=.val v ae)\/
 (∃call v ae,(iq P call/\iC P call)/\nK o.op=true/\X v ae/\∀db,eE db=r->(et P aL all o).run call db h=.fY v ae):=by
 unfold mc at H ⊢;cases ax:(hn aL o.dst&&kc (c9 all o)) with
 | false=>rw [ax] at H;exact absurd H cI.AX
 | true=>
   have bk:hn aL o.dst=true:=by simp only [aoE] at ax;exact ax.1
   rw [ax] at H;simp only [aoJ] at H ⊢;cases ay:o.guard with
   | none=>
     rw [ay] at H;rcases G.yi H with ⟨call,v,ae,an,av,aB⟩ | ⟨call,v,ae,an,mG,av,aB⟩
     . refine .inl ⟨call,v,ae,an,bk,aB,fun db eb=>?_⟩;unfold et;rw [ax];simp only [aoJ,ay,lu];refine SK ?_;rw [uw,eb];exact av
     . refine .inr ⟨call,v,ae,an,KJ mG,aB,fun db eb=>?_⟩;unfold et;rw [ax];simp only [aoJ,ay,lu];refine SJ mG ?_;rw [uw,eb];exact av
   | some tS=>
     obtain ⟨j,want⟩:=tS;rw [ay] at H;simp only at H ⊢;cases cW:all[j]? with
     | none=>rw [cW] at H;exact absurd H cI.AX
     | some g=>
       rw [cW] at H;simp only at H ⊢;cases o4:g.dst with
       | none=>rw [o4] at H;exact absurd H cI.AX
       | some d=>
         rw [o4] at H;simp only at H ⊢;cases ai:(Nat.blt d aL&&Nat.ble d top) with
         | false=>rw [ai] at H;exact absurd H cI.AX
         | true=>
           rw [ai] at H;simp only [aoJ,cI.wp] at H;simp only [aoJ];have key:et P aL all o=⟨lu (some (rb (ao d),want)) (hN P o) (c9 all o)⟩:=by unfold et;rw [ax];simp only [aoJ,ay,cW,o4,ai]
           have y9:∀db,eE db=r->(rb (ao d)).run (gW db (c9 all o))=r.trim (c9 all o) d:=by intro db eb;rw [<-eb,<-uw];rfl
           cases bZ:r.trim (c9 all o) d<;>rw [bZ] at H<;>simp only [gate] at H
           case bool b=>
            by_cases PY:b=want
            . have PX:(bif want then b else !b)=true:=by subst PY;cases b<;>rfl
              rcases G.yi (H.1 PY) with ⟨call,v,ae,an,av,aB⟩ | ⟨call,v,ae,an,mG,av,aB⟩
              . refine .inl ⟨call,v,ae,an,bk,aB,fun db eb=>?_⟩;rw [key];simp only [lu,y9 db eb,bZ];rw [PX];simp only [aoJ];refine SK ?_;rw [uw,eb];exact av
              . refine .inr ⟨call,v,ae,an,KJ mG,aB,fun db eb=>?_⟩;rw [key];simp only [lu,y9 db eb,bZ];rw [PX];simp only [aoJ];refine SJ mG ?_;rw [uw,eb];exact av
            . have Ep:b=!want:=by cases b<;>cases want<;>simp_all
              refine .inl ⟨jN,.tuple [],h,⟨tY P,fun _=>rfl⟩,bk,H.2 Ep,fun db eb=>?_⟩;rw [key];simp only [lu,y9 db eb,bZ];rw [show (bif want then b else !b)=false from by subst Ep;cases want<;>rfl];rfl
           case tuple aj=>
            refine .inl ⟨jN,.tuple [],h,⟨tY P,fun _=>rfl⟩,bk,H,fun db eb=>?_⟩;rw [key];simp only [lu,y9 db eb,bZ]
def uH (P:Program):List cI->a1->ah->(a1->ah->Prop)->(a1->V->ah->Prop)->Prop
 | [],r,h,K,_=>K r h
 | o::os,r,h,K,X=>o.wp P r h (fun bq _ ae=>uH P os bq ae K X) (X r)
structure fZ where
 r:a1
 h:ah
 v:V
def lQ (P:Program):List cI->a1->ah->(List fZ->a1->ah->Prop)->(List fZ->a1->ah->V->ah->Prop)->Prop
 | [],r,h,K,_=>K [] r h
 | o::os,r,h,K,X=>o.wp P r h (fun bq v ae=>lQ P os bq ae (fun es fL aE=>K (⟨r,h,v⟩::es) fL aE) (fun es cJ ad x ag=>X (⟨r,h,v⟩::es) cJ ad x ag)) (fun x ae=>X [] r h x ae)
def vf (es:List fZ) (aE:ah) (i:Nat):ah:=
 match es[i]? with
 | some e=>e.h
 | none=>aE
def s_ (P:Program) (o:Option cI) (e:Option fZ) (es:List fZ) (aE:ah):List Nat->Prop
 | []=>True
 | s::eF=>(match o,e with
   | some o,some e=>o.wp P e.r (vf es aE s) (fun _ ea _=>ea=e.v) (fun _ _=>False)
   | _,none=>True
   | none,some _=>False)/\s_ P o e es aE eF
def nB (P:Program) (ops:List cI) (es:List fZ) (aE:ah):List (Nat × List Nat)->Prop
 | []=>True
 | (p,eF)::rest=>s_ P ops[p]? es[p]? es aE eF/\nB P ops es aE rest
inductive cb where
 | bad
 | skip
 | cA (ops:List cI)
 | draw (ops:List cI) (asks:List (Nat × List Nat)) (kb wl:List Nat)
 | DS (ops:List cI) (asks:List (Nat × List Nat))
 | seq (a b:cb)
 | cond (c:aZ) (a b:cb)
 | block (id:Nat) (b:cb)
 | loop (b:cb)
 | exit (id:Nat)
 | ret
 | range (f:aZ) (bK:List Nat) (aL:Nat) (a b:cb)
def r1 (P:Program) (ops:List Oper) (fW aK hd:List Nat):Nat->List Oper->List (Nat × List Nat)
 | _,[]=>[]
 | i,o::os=>bif looks o.op&&!ib P o.op then
    (posOf aK i,hd.filter (vB P fW ops aK i ((fW[i]?).getD 0)))::r1 P ops fW aK hd (i+1) os
   else r1 P ops fW aK hd (i+1) os
def CN (ops:Array Oper) (order aK:List Nat):Nat->List Oper->List Nat
 | _,[]=>[]
 | i,o::os=>bif nK o.op&&CM ops order aK i then i::CN ops order aK (i+1) os else CN ops order aK (i+1) os
def xo (n:Nat):List Nat->Bool
 | []=>false
 | m::ms=>bif Nat.beq m n then true else xo n ms
theorem Ki {ops:Array Oper} {order aK:List Nat} {n:Nat}:∀{l:List Oper} {i:Nat},xo n (CN ops order aK i l)=true->CM ops order aK n=true
 | [],i,h=>by cases h
 | o::os,i,h=>by
   unfold CN at h;cases ax:(nK o.op&&CM ops order aK i) with
   | false=>rw [ax] at h;exact Ki h
   | true=>
     rw [ax] at h;simp only [aoJ,xo] at h;cases ai:Nat.beq i n with
     | false=>rw [ai] at h;exact Ki h
     | true=>
       rw [ao8] at ai;subst ai;simp only [aoE] at ax;exact ax.2
def ti:List Oper->List Nat
 | []=>[]
 | o::os=>match o.dst with
   | some d=>bif Nat.ble d top then d::ti os else ti os
   | none=>ti os
def cb.Rv (ops:List cI) (asks:List (Nat × List Nat)) (kb wl:List Nat):cb:=
 match kb with
 | []=>.draw ops asks [] []
 | p::bK=>.draw ops asks (p::bK) wl
def KI (P:Program) (aL:Nat) (ops:Array Oper) (order aK:List Nat):cb:=
 bif vI ops.size order aK&&DR P ops aK then
  cb.Rv (lL P aL ops (jQ ops order)) (bif s8 P ops.toList then r1 P ops.toList (gk [] ops.toList) aK (jC P aK 0 ops.toList) 0 ops.toList else []) (CN ops order aK 0 (jQ ops order)) (ti ops.toList)
 else bif vI ops.size order aK&&(Al P ops order aK&&(lL P aL ops (jQ ops order)).all fun o=>!o.g.mQ) then
  .DS (lL P aL ops (jQ ops order)) (r1 P ops.toList (gk [] ops.toList) aK (jC P aK 0 ops.toList) 0 ops.toList)
 else .bad
def vQ (ops:List cI) (es:List fZ) (p:Nat):V:=
 match ops[p]? with
 | some o=>(match es[p]? with
   | some e=>(match o.g with
     | .st _ x _=>x.aV (e.r.trim o.rs)
     | _=>.bad)
   | none=>.bad)
 | none=>.bad
def Mc (x y:V):Prop:=
 match x with
 | .ptr b _=>(match y with
   | .ptr c _=>b≠c
   | _=>False)
 | _=>False
def Dz (P:Program) (ops:List cI) (es:List fZ) (aE:ah) (asks:List (Nat × List Nat)):Prop:=
 Mc (vQ ops es (ops.length-3+1)) (vQ ops es (ops.length-3+2))/\nB P ops (es.take (ops.length-3)) (vf es aE (ops.length-3)) asks
def a1.sR (r:a1):List Nat->a1
 | []=>r
 | d::ds=>(a1.sR r ds).set (some d) .bad
def Bw (es:List fZ) (r:a1):a1:=
 match es with
 | []=>r
 | e::_=>e.r
def fN (P:Program) (aL:Nat):Code->cb
 | .skip=>.skip
 | .label _=>.skip
 | .region _ ops draw=>bif draw then KI P aL ops (R2 P ops) (Sh (R2 P ops) 0 ops.toList) else .cA (vM P aL ops ops.toList)
 | .seq a b=>.seq (fN P aL a) (fN P aL b)
 | .cond c a b=>.cond (rx c) (fN P aL a) (fN P aL b)
 | .block id b=>bif Nat.beq id lK then .bad else .block id (fN P aL b)
 | .loop b=>.loop (fN P aL b)
 | .exit id=>.exit id
 | .ret=>.ret
 | .scope b=>fN P aL b
 | .rangeFunc f bK a b=>bif Ks aL bK.toList&&(noMark a&&noMark b) then .range (rx f) bK.toList aL (fN P aL a) (fN P aL b) else .bad
 | _=>.bad
structure UQ (P:Program) (l:Ds) (aL:Nat) (r:a1) (bK:List Nat) (Sw akd:cb):Prop where
 aI:l.aL=aL
 U:eE l.r=r
 aF:l.bK=bK
 b5:fN P aL l.assign=Sw
 ai:fN P aL l.body=akd
 yW:Ks aL bK=true
 anZ:noMark l.assign=true
 an0:noMark l.body=true
 out:Out aL r
def ec.andThen:ec->Prop->Prop->Prop
 | .normal,A,_=>A
 | _,_,B=>B
def ec.leave (id:Nat):ec->ec
 | .exit i=>if i=id then .normal else .exit i
 | e=>e
def gz (P:Program):cb->a1->ah->(ec->a1->ah->Prop)->Prop
 | .bad,_,_,_=>False
 | .skip,r,h,Q=>Q .normal r h
 | .cA ops,r,h,Q=>uH P ops r h (Q .normal) fun bq x ae=>Q (.exit lK) (bq.set (some im) x) ae
 | .draw ops asks kb wl,r,h,Q=>lQ P ops r h (fun es fL aE=>nB P ops es aE asks/\Q .normal fL aE) fun es cJ ad x ag=>(xo es.length kb=true/\nB P ops es ad asks)/\Q (.exit lK) ((a1.sR (Bw es cJ) wl).set (some im) x) ag
 | .DS ops asks,r,h,Q=>lQ P ops r h (fun es fL aE=>Dz P ops es aE asks/\Q .normal fL aE) fun _ _ _ _ _=>False
 | .seq a b,r,h,Q=>gz P a r h fun e bq ae=>e.andThen (gz P b bq ae Q) (Q e bq ae)
 | .cond c a b,r,h,Q=>match c.aV r with
   | .bool t=>(t=true->gz P a r h Q)/\(t=false->gz P b r h Q)
   | _=>False
 | .block id b,r,h,Q=>gz P b r h fun e bq ae=>Q (e.leave id) bq ae
 | .loop b,r,h,Q=>∃(I:a1->ah->Prop) (μ:a1->ah->Nat),I r h/\∀r h,I r h->gz P b r h fun e bq ae=>e.andThen (I bq ae/\μ bq ae<μ r h) (Q e bq ae)
 | .exit id,r,h,Q=>Q (.exit id) r h
 | .ret,r,h,Q=>Q .ret r h
 | .range f bK aL a b,r,h,Q=>∃g cs,f.aV r=.func g cs/\g≠eA/\(∃fn,P.funcs[g]? =some fn/\fn.body.isSome=true)/\∀l,UQ P l aL r bK a b->l.st=0->l.kv=none->
    dY P g (.func eA [.ptr (ao (h.next+1)) 0]::cs) ((h.new .h').new (.hH l)) fun _ ae=>
     ∃eC,ae.get (ao (h.next+1))=.hH eC/\eC.st≠1/\Q (eC.kv.getD .normal) (r.set (some cD) (.tuple (.ptr (ao h.next) 0::(r cD).list))) (ae.set (ao (h.next+1)) .dead)
def cb.plain:cb->Bool
 | .seq a b=>a.plain&&b.plain
 | .cond _ a b=>a.plain&&b.plain
 | .block _ b=>b.plain
 | .loop b=>b.plain
 | .range _ _ _ _ _=>false
 | .cA ops=>ops.all cI.Fe
 | _=>true
def Ui (P:Program) (aL:Nat) (c:Code) (r:a1) (h:ah) (e:ec) (bq:a1) (ae:ah):Prop:=
 ∀(rd:Option Nat) (aA:Fr) E a w,(rd=none\/noMark c=true)->iw E aL r a->bD aA E h w->∀Q:Exit->Act->World->Prop,
  (∀aw bF w',E.le aw->iw aw aL bq bF->bD aA aw ae w'->Q (toExit e) bF w')->F_ rd P c Q a w
def Uh (P:Program) (aL:Nat) (c:Code) (r:a1) (h:ah) (x:V) (bq:a1) (ae:ah):Prop:=
 ∀(rd:Option Nat) (aA:Fr) E a w,(rd=none\/noMark c=true)->iw E aL r a->bD aA E h w->∀Q:Exit->Act->World->Prop,
  (∀aw bF w' y,E.le aw->iw aw aL bq bF->Rel aw x y->bD aA aw ae w'->Q (.panic (nS y)) bF w')->F_ rd P c Q a w
def Ay (P:Program) (aL:Nat) (c:Code) (pl:Bool) (r:a1) (h:ah) (Q:ec->a1->ah->Prop):Prop:=
 (∃e bq ae,Q e bq ae/\(Out aL bq/\(pl=true->bq cD=r cD))/\Ui P aL c r h e bq ae)\/
 (∃x bq ae,Q (.exit lK) (bq.set (some im) x) ae/\(Out aL bq/\(pl=true->bq cD=r cD))/\Uh P aL c r h x bq ae)
section
variable {P:Program} {aL:Nat}
theorem akr (P:Program) (aL:Nat) (all:Array Oper) (o:Oper):ui P aL all o=mc P aL all o\/(∃op t x y u neg,o.op=.binOp op t x y u/\o.guard=none/\z1 P op t=some neg/\hn aL o.dst=true/\kc (c9 all o)=true/\ui P aL all o=⟨o.dst,.CP neg (rx x) (rx y),none,c9 all o⟩)\/
 (∃f args types,o.op=.defer ⟨.value f,args,types⟩/\o.guard=none/\o.dst=none/\kc (c9 all o)=true/\ui P aL all o=⟨some cD,.h' (rx f) (mI args.toList),none,cD::c9 all o⟩)\/ui P aL all o=cI.bad:=by
 obtain ⟨dst,op,type,pos,after,guard⟩:=o;cases op<;>try (exact .inl rfl)
 . rename_i op t x y u;cases guard with
   | some g=>exact .inl rfl
   | none=>
     simp only [ui];cases aF:z1 P op t with
     | none=>exact .inl rfl
     | some neg=>
       simp only;cases ax:(!((rx x).isNil||(rx y).isNil)&&(hn aL dst&&kc (c9 all ⟨dst,.binOp op t x y u,type,pos,after,none⟩))) with
       | false=>exact .inl rfl
       | true=>
         simp only [aoE] at ax;exact .inr (.inl ⟨op,t,x,y,u,neg,by first | rfl | trivial,by first | rfl | trivial,aF,by first | exact ax.2.1 | trivial,by first | exact ax.2.2 | trivial,by first | rfl | trivial⟩)
 . rename_i c;cases guard with
   | some g=>exact .inl rfl
   | none=>
     obtain ⟨callee,args,types⟩:=c;cases callee with
     | value f=>
       simp only [ui];cases ax:(dst.isNone&&kc (c9 all ⟨dst,.defer ⟨.value f,args,types⟩,type,pos,after,none⟩)) with
       | false=>exact .inr (.inr (.inr rfl))
       | true=>
         simp only [aoE,Option.isNone_iff_eq_none] at ax;exact .inr (.inr (.inl ⟨f,args,types,by first | rfl | trivial,by first | rfl | trivial,by first | exact ax.1 | trivial,by first | exact ax.2 | trivial,by first | rfl | trivial⟩))
     | _=>exact .inr (.inr (.inr rfl))
theorem cI.amp (cQ:hh P) {all:Array Oper} {o:Oper} {i:Nat} (aJ:all[i]? =some o) {r:a1} {h:ah} {K:a1->V->ah->Prop} {X:V->ah->Prop} (bG:Out aL r) (H:(ui P aL all o).wp P r h K X):
 (∃bq v ae,K bq v ae/\Out aL bq/\((ui P aL all o).Fe=true->bq cD=r cD)/\∀(rd:Option Nat) (aA:Fr) E a w,(rd=none\/Fc o=true)->iw E aL r a->bD aA E h w->∀(Q:Exit->Act->World->Prop) (C:Act->World->Prop),
   (∀aw bF w',E.le aw->iw aw aL bq bF->bD aA aw ae w'->C bF w')->wpOpIn (aq rd) 0 P all Q i C a w)\/
 (∃x ae,X x ae/\∀(rd:Option Nat) (aA:Fr) E a w,iw E aL r a->bD aA E h w->∀(Q:Exit->Act->World->Prop) (C:Act->World->Prop),
   (∀aw bF w' y,E.le aw->iw aw aL r bF->Rel aw x y->bD aA aw ae w'->Q (.panic (nS y)) bF w')->wpOpIn (aq rd) 0 P all Q i C a w):=by
 obtain ⟨db,eb⟩:=u9 bG;rcases akr P aL all o with e | ⟨op,t,x,y,u,neg,aO,bs,cT,cO,e7,e3⟩ | ⟨f,args,types,aO,bs,cO,e7,e3⟩ | e
 . rw [e] at H;rcases cI.yi H with ⟨call,v,ad,⟨ax,_⟩,bk,H1,eQ⟩ | ⟨call,v,ad,ax,hm,H1,eQ⟩
   . refine .inl ⟨_,v,ad,H1,bG.set bk v,fun _=>Ad bk v,fun rd aA E a w _ k s Q C BC=>?_⟩;refine r_ cQ ax.1 ax.2 aJ (eQ db eb) k.size (fun t az=>?_) s fun aw x w' an av aB=>BC aw _ w' an (k.put an bk av) aB;have:=congrFun eb t;simp only [eE] at this;rw [this];exact k.cA t (nk (apd (ao9.1 (nD (eQ db eb)).2 t az)))
   . refine .inr ⟨v,ad,H1,fun rd aA E a w k s Q C b'=>?_⟩;refine OR cQ ax.1 ax.2 aJ (eQ db eb) hm k.size (fun t az=>?_) s fun aw x w' an av aB=>b' aw _ w' _ an (k.mono an) av aB;have:=congrFun eb t;simp only [eE] at this;rw [this];exact k.cA t (nk (apd (ao9.1 (HA (eQ db eb)).2 t az)))
 . rw [e3] at H;simp only [cI.wp,G.wp,G.run] at H;obtain ⟨v,ae,bZ,ez⟩:=H;unfold Ku at bZ;cases aH:nT h ((rx x).aV (r.trim (c9 all o))) ((rx y).aV (r.trim (c9 all o))) with
   | none=>rw [aH] at bZ;cases bZ
   | some b=>
     rw [aH] at bZ;simp only [bh.of,bh.val.injEq] at bZ;obtain ⟨rfl,rfl⟩:=bZ;refine .inl ⟨_,_,h,ez,bG.set cO _,fun _=>Ad cO _,fun rd aA E a w _ k s Q C BC=>?_⟩
     have hQ:RegRel0 E aL (gW db (c9 all o)) a:=⟨k.size,fun t az=>by
      rw [F4 e7 az];by_cases hm:t ∈ c9 all o
      . rw [aoN hm];have:=congrFun eb t;simp only [eE] at this;rw [this];exact k.cA t (nk az)
      . rw [aoI hm];simp [Rel]⟩
     have ex:∀z:Operand,(de z).run (gW db (c9 all o))=(rx z).aV (r.trim (c9 all o)):=fun z=>by rw [fI,uw,eb]
     rw [<-ex,<-ex] at aH;obtain ⟨dst,aic,type,pos,after,guard⟩:=o;subst aO bs;obtain ⟨Z,hv,c1⟩:=ajQ (P:=P) (lh:=x) (lj:=y) s cT aH (e8 hQ x) (e8 hQ y);simp only [wpOpIn,aJ,Region.wanted,aoM];exact h5 rfl (eo.plain s hv c1) fun aw v w' an av aB=>BC aw _ w' an (k.put an cO av) aB
 . rw [e3] at H;simp only [cI.wp,G.wp,G.run] at H;obtain ⟨v,ae,bZ,ez⟩:=H;have tJ:∀t ∈ c9 all o,t≠cD:=fun t az=>nk (apd (ao9.1 e7 t az));have QA:∀z:Operand,(rx z).aV (r.trim (cD::c9 all o))=(de z).run (gW db (c9 all o)):=fun z=>by
    rw [fI,uw,eb];cases z with
    | tmp t=>
      simp only [rx];cases ai:Nat.ble t top with
      | false=>rfl
      | true=>
        simp only [aoJ,aZ.aV,a1.trim];rw [aoI (nk (apd ai))]
    | const v=>rfl
    | func f=>simp only [rx];cases Nat.beq f eA<;>rfl
    | global g=>rfl
   have adM:∀l:List Operand,aZ.gE (r.trim (cD::c9 all o)) (mI l)=(re l).run (gW db (c9 all o)):=fun l=>by
    induction l with
    | nil=>rfl
    | cons z l cc=>simp only [mI,aZ.gE,QA,cc];rfl
   have I6:r.trim (cD::c9 all o) cD=r cD:=by simp [a1.trim]
   rw [QA,adM,I6] at bZ;cases sk:(de f).run (gW db (c9 all o))<;>rw [sk] at bZ<;>simp only at bZ<;>try (cases bZ;done)
   rename_i g cs;cases bl:Nat.beq g eA with
   | true=>rw [bl] at bZ;cases bZ
   | false=>
     rw [bl] at bZ;simp only [aoP,bh.val.injEq] at bZ;obtain ⟨rfl,rfl⟩:=bZ;have P7:g≠eA:=fun e=>by rw [e] at bl;exact absurd bl (by decide)
     refine .inl ⟨_,_,h,ez,fun t ad ag=>by simp only [a1.set];rw [aoI ag];exact bG t ad ag,fun z=>by (rw [e3] at z;cases z),fun rd aA E a w U k s Q C BC=>?_⟩;obtain ⟨dst,aic,type,pos,after,guard⟩:=o;subst aO bs cO;rcases U with rfl | U
     case inr=>cases U
     have hQ:RegRel0 E aL (gW db (c9 all ⟨none,.defer ⟨.value f,args,types⟩,type,pos,after,none⟩)) a:=⟨k.size,fun t az=>by
      rw [F4 e7 az];by_cases hm:t ∈ c9 all ⟨none,.defer ⟨.value f,args,types⟩,type,pos,after,none⟩
      . rw [aoN hm];have:=congrFun eb t;simp only [eE] at this;rw [this];exact k.cA t (nk az)
      . rw [aoI hm];simp [Rel]⟩
     have aE:=e8 hQ f;rw [sk] at aE;simp only [Rel] at aE;rcases aE with ⟨_,gK,dp,aG⟩ | ⟨ay,_⟩
     case inr=>exact absurd ay P7
     simp only [wpOpIn,aJ,Region.wanted,aoM];refine ⟨fun _ _=>trivial,?_⟩;have hex:((Oper.mk none (.defer ⟨.value f,args,types⟩) type pos after none).semAt (aq none).round a.eval).run P w=.ok (.defer {target:=.fn (.func g) gK,args:=#[]++args.map a.eval}) w:=by simp only [Oper.semAt_none,execOp,resolve,dp,Deferred.ofValue,pure_bind];rfl
     rw [hex];refine BC E _ w (Env.le.refl E) ?_ s;refine ⟨by simpa [Act.put] using k.size,?_,fun t az=>?_⟩
     . simp only [a1.set,aoM,pv,oF];refine ⟨_,_,rfl,⟨P7,gK,rfl,?_⟩,k.defers.list⟩;have:=(sc hQ args.toList).append aG;simpa using this
     . simp only [a1.set];rw [aoI az];exact k.cA t az
 . rw [e] at H;exact absurd H cI.AX
theorem TP (cQ:hh P) {all:Array Oper}:∀(l:List Oper) (i:Nat),(∀j,l[j]? =all[i+j]?)->∀(r:a1) (h:ah) (K:a1->ah->Prop) (X:a1->V->ah->Prop),Out aL r->uH P (vM P aL all l) r h K X->
 (∃bq ae,K bq ae/\(Out aL bq/\((vM P aL all l).all cI.Fe=true->bq cD=r cD))/\∀(rd:Option Nat) (aA:Fr) E a w,(rd=none\/∀o ∈ l,Fc o=true)->iw E aL r a->bD aA E h w->∀Q:Exit->Act->World->Prop,
   (∀aw bF w',E.le aw->iw aw aL bq bF->bD aA aw ae w'->Q .normal bF w')->wpOpsIn (aq rd) 0 P all Q (List.range' i l.length) a w)\/
 (∃x bq ae,X bq x ae/\(Out aL bq/\((vM P aL all l).all cI.Fe=true->bq cD=r cD))/\∀(rd:Option Nat) (aA:Fr) E a w,(rd=none\/∀o ∈ l,Fc o=true)->iw E aL r a->bD aA E h w->∀Q:Exit->Act->World->Prop,
   (∀aw bF w' y,E.le aw->iw aw aL bq bF->Rel aw x y->bD aA aw ae w'->Q (.panic (nS y)) bF w')->wpOpsIn (aq rd) 0 P all Q (List.range' i l.length) a w)
 | [],i,_,r,h,K,X,bG,H=>by refine .inl ⟨r,h,H,⟨bG,fun _=>rfl⟩,fun rd aA E a w _ k s Q b'=>?_⟩;simp only [aoS,List.range'_zero,wpOpsIn];exact b' E a w (Env.le.refl E) k s
 | o::os,i,aG,r,h,K,X,bG,H=>by
   have aJ:all[i]? =some o:=by have:=aG 0;simpa using this.symm
   simp only [vM,uH] at H;rcases cI.amp cQ aJ bG H with ⟨cJ,v,ad,H1,sr,dD,eQ⟩ | ⟨x,ad,H1,eQ⟩
   . have rest:=TP cQ os (i+1) (fun j=>by
      have:=aG (j+1);simp only [apq] at this;rw [this];congr 1;omega) _ ad K X sr H1
     rcases rest with ⟨bc,ag,an,av,aB⟩ | ⟨x,bc,ag,an,av,aB⟩
     . refine .inl ⟨bc,ag,an,⟨av.1,fun z=>by simp only [vM,aqg,aoE] at z;exact (av.2 z.2).trans (dD z.1)⟩,fun rd aA E a w U k s Q b'=>?_⟩;rw [aoH,List.range'_succ,wpOpsIn_cons];refine eQ rd aA E a w (U.imp id fun z=>z o apE) k s _ _ fun aw bF w' cg cY eS=>?_;exact aB rd aA aw bF w' (U.imp id fun z dV jm=>z dV (apr _ jm)) cY eS Q fun bY a2 aR c0 z2 z3=>b' bY a2 aR (cg.trans c0) z2 z3
     . refine .inr ⟨x,bc,ag,an,⟨av.1,fun z=>by simp only [vM,aqg,aoE] at z;exact (av.2 z.2).trans (dD z.1)⟩,fun rd aA E a w U k s Q b'=>?_⟩;rw [aoH,List.range'_succ,wpOpsIn_cons];refine eQ rd aA E a w (U.imp id fun z=>z o apE) k s _ _ fun aw bF w' cg cY eS=>?_;exact aB rd aA aw bF w' (U.imp id fun z dV jm=>z dV (apr _ jm)) cY eS Q fun bY a2 aR y c0 z2 z3=>b' bY a2 aR y (cg.trans c0) z2 z3
   . refine .inr ⟨x,r,ad,H1,⟨bG,fun _=>rfl⟩,fun rd aA E a w U k s Q b'=>?_⟩;rw [aoH,List.range'_succ,wpOpsIn_cons];exact eQ rd aA E a w k s _ _ b'
def toF (e:ir):fZ:=⟨eE e.r,e.h,e.v⟩
theorem Ip (es:List ir) (aE:ah) (i:Nat):vf (es.map toF) aE i=dM es aE i:=by unfold vf dM;rw [apg];cases es[i]? <;>rfl
theorem Lp {all:Array Oper}:∀(l:List Oper) (hM:c7) (h:ah) (K:List fZ->a1->ah->Prop) (X:List fZ->a1->ah->V->ah->Prop),lQ P (lL P aL all l) (eE hM) h K X->Out aL (eE hM)->
 (∃es ix aE,K (es.map toF) (eE ix) aE/\(Out aL (eE ix)/\eE ix cD=eE hM cD)/\es.length=l.length/\dM es aE 0=h/\fF es ix 0=hM/\
   ∀j o,l[j]? =some o->∃e call,es[j]? =some e/\((iq P call/\iC P call)/\((mc P aL all o).g.mQ=false->call=jN))/\(et P aL all o).run call e.r e.h=.val e.v (dM es aE (j+1))/\fF es ix (j+1)=(kx o.dst).run e.r e.v)\/
 (∃es ix aE x ag,X (es.map toF) (eE ix) aE x ag/\dM es aE 0=h/\fF es ix 0=hM/\
   (∀j o,j<es.length->l[j]? =some o->∃e call,es[j]? =some e/\((iq P call/\iC P call)/\((mc P aL all o).g.mQ=false->call=jN))/\(et P aL all o).run call e.r e.h=.val e.v (dM es aE (j+1))/\fF es ix (j+1)=(kx o.dst).run e.r e.v)/\
   ∃o call,l[es.length]? =some o/\nK o.op=true/\(iq P call/\iC P call)/\(et P aL all o).run call ix aE=.fY x ag)
 | [],hM,h,K,X,H,bG=>.inl ⟨[],hM,h,H,⟨bG,rfl⟩,rfl,rfl,rfl,fun j o cW=>by simp at cW⟩
 | o::os,hM,h,K,X,H,bG=>by
   simp only [lL,lQ] at H;rcases cI.yi H with ⟨call,v,ad,ax,bk,H1,eQ⟩ | ⟨call,v,ad,ax,hm,H1,eQ⟩
   . rw [<-Kv] at H1;rcases Lp os _ ad _ _ H1 (by rw [Kv];exact bG.set bk v) with ⟨es,ix,aE,an,av,aB,bt,ca,cx⟩ | ⟨es,ix,aE,x,ag,an,bt,ca,cx,dq⟩
     . refine .inl ⟨⟨hM,h,v⟩::es,ix,aE,an,⟨av.1,av.2.trans (by rw [Kv];exact Ad bk v)⟩,by simp [aB],by simp [dM],by simp [fF],fun j dV cW=>?_⟩;cases j with
       | zero=>
         simp only [aoR,aoC] at cW;subst cW;exact ⟨⟨hM,h,v⟩,call,rfl,ax,by rw [Es,bt];exact eQ hM rfl,by rw [FJ,ca]⟩
       | succ j=>
         obtain ⟨e,c,cg,cY,eS,iP⟩:=cx j dV (by simpa using cW);exact ⟨e,c,by simpa using cg,cY,by rw [Es];exact eS,by rw [FJ];exact iP⟩
     . obtain ⟨gx,cf,c0,z2,z3,z4⟩:=dq;refine .inr ⟨⟨hM,h,v⟩::es,ix,aE,x,ag,an,by simp [dM],by simp [fF],fun j dV aG cW=>?_,gx,cf,by simpa using c0,z2,z3,z4⟩;cases j with
       | zero=>
         simp only [aoR,aoC] at cW;subst cW;exact ⟨⟨hM,h,v⟩,call,rfl,ax,by rw [Es,bt];exact eQ hM rfl,by rw [FJ,ca]⟩
       | succ j=>
         obtain ⟨e,c,cg,cY,eS,iP⟩:=cx j dV (by simpa using aG) (by simpa using cW);exact ⟨e,c,by simpa using cg,cY,by rw [Es];exact eS,by rw [FJ];exact iP⟩
   . exact .inr ⟨[],hM,h,v,ad,H1,rfl,rfl,fun j dV aG cW=>by simp at aG,o,call,rfl,hm,ax,eQ hM rfl⟩
theorem GU {o:Option cI} {e:fZ} {es:List fZ} {aE:ah}:∀{eF:List Nat},s_ P o (some e) es aE eF->∀s ∈ eF,∃dV,o=some dV/\dV.wp P e.r (vf es aE s) (fun _ ea _=>ea=e.v) (fun _ _=>False)
 | [],_,s,h=>by simp at h
 | jS::eF,H,s,hm=>by
   simp only [s_] at H;simp only [ao7] at hm;rcases hm with rfl | hm
   . cases o with
     | none=>exact H.1.elim
     | some o=>exact ⟨o,rfl,H.1⟩
   . exact GU H.2 s hm
theorem GX {ops:List Oper} {fW aK hd:List Nat} {gs:List cI} {es:List fZ} {aE:ah}:∀{l:List Oper} {i:Nat},nB P gs es aE (r1 P ops fW aK hd i l)->∀j o,l[j]? =some o->looks o.op=true->ib P o.op=false->
 s_ P gs[posOf aK (i+j)]? es[posOf aK (i+j)]? es aE (hd.filter (vB P fW ops aK (i+j) ((fW[i+j]?).getD 0)))
 | [],i,_,j,o,h,_,_=>by simp at h
 | dV::os,i,H,j,o,h,ad,ag=>by
   simp only [r1] at H;cases j with
   | zero=>
     simp only [aoR,aoC] at h;subst h;rw [ad,ag] at H;simp only [Bool.not_false,apG,aoJ,nB] at H;exact H.1
   | succ j=>
     have ki:nB P gs es aE (r1 P ops fW aK hd (i+1) os):=by
      cases ax:(looks dV.op&&!ib P dV.op) with
      | true=>rw [ax] at H;simp only [aoJ,nB] at H;exact H.2
      | false=>rw [ax] at H;exact H
     have:=GX ki j o (by simpa using h) ad ag;rw [show i+1+j=i + (j+1) from by omega] at this;exact this
theorem Ll {aL:Nat} {r:a1} (bG:Out aL r):∀ds:List Nat,Out aL (a1.sR r ds)
 | []=>bG
 | d::ds=>fun t ad ag=>by
   simp only [a1.sR,a1.set]
   split
   . rfl
   . exact Ll bG ds t ad ag
theorem Db {r:a1}:∀l:List Oper,a1.sR r (ti l) cD=r cD
 | []=>rfl
 | o::os=>by
   simp only [ti];cases o.dst with
   | none=>exact Db os
   | some d=>
     cases ai:Nat.ble d top with
     | false=>simp only [ai,aoP];exact Db os
     | true=>
       simp only [ai,aoJ,a1.sR,a1.set];rw [aoI (fun e=>by rw [aoT] at ai;exact nk ai e.symm)];exact Db os
theorem F7 {hM:c7} {t:Nat} (az:t<=top):∀l:List Oper,T.get .bad (ao t) (oW hM l)=a1.sR (eE hM) (ti l) t
 | []=>rfl
 | o::os=>by
   simp only [oW,ti];cases o.dst with
   | none=>exact F7 az os
   | some d=>
     cases ai:Nat.ble d top with
     | false=>simp only [ai,aoP];exact F7 az os
     | true=>
       simp only [ai,aoJ,a1.sR,a1.set,T.mT];by_cases e:t=d
       . subst e;simp
       . rw [aoI (fun q=>e (nR q).symm),aoI e];exact F7 az os
theorem OX {rd:Option Nat} (fC:P.follows .mixedOrders=true) (cQ:hh P) {id:Nat} {ops:Array Oper} {order aK hd:List Nat} {aA:Fr} {E:Env} {h:ah} {w:World} {a:Act} {calls:Nat->gB} {es:List ir} {hM ix:c7} {bP:ah} {N:Nat}
 (o0:∀i,iq P (calls i)/\iC P (calls i)) (C:Cert P aL ops calls es hM h ix bP hd order aK N ops.size false) (aD:RegRel0 E aL hM a) (s:bD aA E h w) {Q:Exit->Act->World->Prop}
 (b':N=ops.size->∀aw bF w',E.le aw->RegRel0 aw aL ix bF->bF.defers=a.defers->bD aA aw bP w'->Q .normal bF w')
 (wU:∀aw bF w' x v ae,E.le aw->N<ops.size->ops.size<=ops.size->(∃i0 l8,ops[i0]? =some l8/\posOf aK i0=N/\(et P aL ops l8).run (calls i0) ix bP=.fY v ae)->RegRel0 aw aL (oW hM ops.toList) bF->bF.defers=a.defers->Rel aw v x->bD aA aw ae w'->Q (.panic (nS x)) bF w'):
 (Code.region id ops true).wpIn (aq rd) 0 P Q a w:=by
 have e9:∀k,¬(Array.replicate ops.size false).getD k false=true:=by
  intro k;rw [wQ,Array.getElem?_replicate]
  split<;>simp
 have mW:Holds aA aA es bP aK (mh ops es bP aK (Array.replicate ops.size false) 0):=
  ⟨rfl,fun _ _=>rfl,fun k aD=>(by obtain ⟨_,_,_,_,aM⟩:=aD;omega),fun k b0 aD=>(by obtain ⟨_,_,_,_,aM⟩:=aD;omega)⟩
 obtain ⟨jS,eX,g1,g2,g3,g4,g5,g6⟩:=C.advance N 0 (by omega) (fun k o _ _ _=>e9 k) aA mW (E:=E) (w:={w with drawn:=w.drawn}) (by rw [C.aM];exact s.same rfl rfl rfl rfl);refine TN fC (OW cQ (fun i=>(o0 i).1) (fun i=>(o0 i).2) C (jX:=E) (D:=a.defers) b' wU (fun h=>absurd h (Nat.lt_irrefl _)) ops.size _ a _ ?_ ?_)
 . exact aoF List.countP_le_length (by simp)
 . refine ⟨by simp,aD.size,rfl,fun b0 aD=>absurd aD (e9 b0),fun b0 o e aD=>absurd aD (e9 b0),E,jS,eX,Env.le.refl E,g1,g3,fun b0 o ad ag=>⟨fun h=>absurd h (e9 b0),fun h=>by have:=g4 b0 o ad ag (aoQ _);omega⟩,
    fun b0 o _ _ h=>absurd h (e9 b0),g5,?_,fun t az=>.inr ⟨fun b0 o aD=>absurd aD (e9 b0),aD.cA t az⟩⟩
   exact g6.same rfl rfl rfl rfl
theorem alc {ops:Array Oper} {order:List Nat} {es:List ir} {p:Nat} {b:aN} {off:Nat} (h:vQ (lL P aL ops (jQ ops order)) (es.map toF) p=.ptr b off) (zd:∀p i:Nat,order[p]? =some i->i<ops.size):Ak ops order es p=some b\/∃i o e,order[p]? =some i/\ops[i]? =some o/\es[p]? =some e/\rS o=none:=by
 unfold vQ at h;rw [x2,apg] at h;cases aJ:order[p]? with
 | none=>
   have:(jQ ops order)[p]? =none:=ao3 (by rw [zU];exact List.getElem?_eq_none_iff.1 aJ);rw [this] at h;cases h
 | some i=>
   have BL:=zd p i aJ;have dG:ops[i]? =some ops[i]:=ao1 BL;rw [qN aJ dG] at h;simp only [apu,apg] at h;cases he:es[p]? with
   | none=>rw [he] at h;cases h
   | some e=>
     rw [he] at h;simp only [apu] at h;cases al:rS ops[i] with
     | none=>exact .inr ⟨i,_,e,rfl,dG,rfl,al⟩
     | some x=>
       left;obtain ⟨t,y,bG,bk,ay⟩:=FZ al;unfold Ak;simp only [aJ,dG,he,al]
       have U:(mc P aL ops ops[i]).g=(match bf P t with
        | none=>.bad
        | some aS=>.st aS.size (rx x) (rx y))\/(mc P aL ops ops[i]).g=.bad:=by
        unfold mc;cases (hn aL ops[i].dst&&kc (c9 ops ops[i])) with
        | false=>exact .inr rfl
        | true=>left;simp only [aoJ,ay,bG,qP]<;>rfl
       have adB:(mc P aL ops ops[i]).g≠.bad->(mc P aL ops ops[i]).rs=c9 ops ops[i]:=by
        unfold mc;cases (hn aL ops[i].dst&&kc (c9 ops ops[i])) with
        | false=>intro h;exact absurd rfl h
        | true=>intro _;simp only [aoJ,ay]
       rcases U with U | U
       . cases az:bf P t with
         | none=>rw [az] at U;simp only at U;rw [U] at h;cases h
         | some aS=>
           rw [az] at U;simp only at U;rw [U] at h;simp only [toF] at h;rw [adB (by rw [U];intro q;cases q),<-uw,<-fI] at h;rw [h]
       . rw [U] at h;cases h
theorem aao (gr:aL<=top) (fC:P.follows .mixedOrders=true) (cQ:hh P) {id:Nat} {ops:Array Oper} {order aK:List Nat} {r:a1} {h:ah} {Q:ec->a1->ah->Prop} (ss:vI ops.size order aK=true) (ia:Al P ops order aK=true)
 (ED:((lL P aL ops (jQ ops order)).all fun o=>!o.g.mQ)=true) (bG:Out aL r)
 (H:gz P (.DS (lL P aL ops (jQ ops order)) (r1 P ops.toList (gk [] ops.toList) aK (jC P aK 0 ops.toList) 0 ops.toList)) r h Q):Ay P aL (.region id ops true) true r h Q:=by
 simp only [gz] at H;obtain ⟨sr,jd,mE⟩:=Ko ss;obtain ⟨ar,B6⟩:=Tj ia;have acI:(lL P aL ops (jQ ops order)).length=ops.size:=by rw [x2,ao6,zU,sr]
 obtain ⟨hM,rj⟩:=u9 bG;rw [<-rj] at H bG;rcases Lp _ hM h _ _ H bG with ⟨es,ix,bP,⟨⟨wW,ob⟩,b'⟩,⟨hy,EJ⟩,an,av,aB,bt⟩ | ⟨_,_,_,_,_,dp,_⟩
 case inr=>exact dp.elim
 rw [acI] at wW ob;have hlen:es.length=ops.size:=by rw [an,zU,sr]
 have aiC:∀p i,order[p]? =some i->i<ops.size:=fun p i aJ=>by
  have aF:p<ops.size:=by have:=(apk.1 aJ).1;omega
  obtain ⟨j,vt,tR⟩:=mE p aF;have:=(jd j vt).2;rw [tR,aJ] at this;cases this;exact vt
 have step:∀j o,(jQ ops order)[j]? =some o->∃e,es[j]? =some e/\(et P aL ops o).run jN e.r e.h=.val e.v (dM es bP (j+1))/\fF es ix (j+1)=(kx o.dst).run e.r e.v:=by
  intro j o cW;obtain ⟨e,call,cg,⟨_,cY⟩,eS,iP⟩:=bt j o cW;have so:mc P aL ops o ∈ lL P aL ops (jQ ops order):=by rw [x2];exact aqm.2 ⟨o,apJ cW,rfl⟩
  have:=ao9.1 ED _ so;rw [cY (by simpa using this)] at eS;exact ⟨e,cg,eS,iP⟩
 have eJ:∀p b off,ops.size-3<p->p<ops.size->vQ (lL P aL ops (jQ ops order)) (es.map toF) p=.ptr b off->Ak ops order es p=some b:=by
  intro p b off ad ag h;rcases alc h aiC with h | ⟨i,o,e,e1,fH,y3,y4⟩
  . exact h
  . obtain ⟨j,vt,tR⟩:=mE p ag;have cW:=(jd j vt).2;rw [tR,e1] at cW;cases cW;obtain ⟨ei,c0,_,_,z4⟩:=B6 i o fH;obtain ⟨nd,iN,xu⟩:=mE (ops.size-3) (by omega);have aG:=(jd nd iN).2;rw [xu] at aG;obtain ⟨_,_,z5,_⟩:=Tk aG (ao1 iN) (z4 (by omega));obtain ⟨x,au⟩:=z5 (by omega);rw [au] at y4;cases y4
 have En:AT ops order es (ops.size-3+1)=true:=by
  unfold Mc at wW;cases b5:vQ (lL P aL ops (jQ ops order)) (es.map toF) (ops.size-3+1)<;>rw [b5] at wW<;>simp only at wW;rename_i b off;cases ai:vQ (lL P aL ops (jQ ops order)) (es.map toF) (ops.size-3+2)<;>rw [ai] at wW<;>simp only at wW;rename_i c pd;unfold AT;rw [eJ _ _ _ (by omega) (by omega) b5,eJ _ _ _ (by omega) (by omega) ai];simp only;cases aH:aN.kk b c with
  | false=>rfl
  | true=>exact absurd (aN.q9 aH) wW
 have ac3:(es.map toF).take (ops.size-3)=(es.take (ops.size-3)).map toF:=by rw [List.map_take]
 rw [ac3,Ip] at ob;refine .inl ⟨.normal,_,bP,b',⟨hy,fun _=>by rw [<-rj];exact EJ⟩,fun rd aA E a w U k s gJ wV=>?_⟩
 have aD:kC E aL hM a:=⟨⟨k.size,fun t az=>by
  have:=congrFun rj t;simp only [eE] at this;rw [this];exact k.cA t (nk az)⟩,by
  have:=congrFun rj cD;simp only [eE] at this;show pv E (T.get .bad mj hM) a.defers;rw [show T.get .bad mj hM=r cD from this];exact k.defers⟩
 refine aly fC cQ (tY P).1 (tY P).2 ss ia hlen av aB step En (fun j o ad ag ar e g1 s al hm=>?_) (fun aw bF w' c0 z2 z3=>?_) aD s
 . have cW:=(aoD.1 ad).1;have:=GX ob j o (by simpa using ad) ag ar;rw [aph,apg,g1] at this;simp only [apu] at this;obtain ⟨dV,c0,z3⟩:=GU this s (List.mem_filter.2 ⟨al,hm⟩);rw [x2,apg,qN (jd j cW).2 ad] at c0;simp only [apu,aoC] at c0;subst c0;rw [Ip] at z3;rcases cI.yi z3 with ⟨c,v,ae,⟨_,e1⟩,_,y3,y4⟩ | ⟨c,v,ae,_,_,y3,_⟩
   . have so:mc P aL ops o ∈ lL P aL ops (jQ ops order):=by
      rw [x2];exact aqm.2 ⟨o,apJ (qN (jd j cW).2 ad),rfl⟩
     have ada:=ao9.1 ED _ so;have Df:=y4 e.r rfl;rw [show v=e.v from y3,e1 (by simpa using ada)] at Df;exact ⟨ae,Df⟩
   . exact y3.elim
 . refine wV aw bF w' c0 ⟨z2.size,z2.defers,fun t gu=>?_⟩ z3;by_cases az:t<=top
   . exact z2.cA t az
   . have dH:=z2.size;have:eE ix t=.bad:=hy t (by omega) gu;rw [this];simp [Rel]
theorem aar (gr:aL<=top) (fC:P.follows .mixedOrders=true) (cQ:hh P) {id:Nat} {ops:Array Oper} {order aK:List Nat} {r:a1} {h:ah} {Q:ec->a1->ah->Prop} (bG:Out aL r)
 (H:gz P (KI P aL ops order aK) r h Q):Ay P aL (.region id ops true) true r h Q:=by
 unfold KI at H;cases aE:(vI ops.size order aK&&DR P ops aK) with
 | false=>
   rw [aE] at H;simp only [aoP] at H;cases ay:(vI ops.size order aK&&(Al P ops order aK&&(lL P aL ops (jQ ops order)).all fun o=>!o.g.mQ)) with
   | false=>rw [ay] at H;exact H.elim
   | true=>
     rw [ay] at H;simp only [aoJ] at H;simp only [aoE] at ay;exact aao gr fC cQ ay.1 ay.2.1 ay.2.2 bG H
 | true=>
   rw [aE] at H;simp only [aoJ] at H;obtain ⟨kb,wl,IY,H⟩:∃kb wl,(∀n,xo n kb=true->CM ops order aK n=true/\wl=ti ops.toList)/\gz P (.draw (lL P aL ops (jQ ops order)) (bif s8 P ops.toList then r1 P ops.toList (gk [] ops.toList) aK (jC P aK 0 ops.toList) 0 ops.toList else []) kb wl) r h Q:=by
    unfold cb.Rv at H
    split at H
    . exact ⟨[],[],fun n aI=>(by cases aI),H⟩
    . rename_i p bK he;exact ⟨p::bK,_,fun n aI=>⟨Ki (by rw [he];exact aI),rfl⟩,H⟩
   simp only [gz] at H;simp only [aoE] at aE;obtain ⟨ss,ia⟩:=aE;obtain ⟨sr,jd,mE⟩:=Ko ss;obtain ⟨hM,rj⟩:=u9 bG;rw [<-rj] at H bG;have K0:∀j o,ops[j]? =some o->gj P o=true->posOf aK j ∈ jC P aK 0 ops.toList:=fun j o ad ag=>by simpa using E1 (aK:=aK) (i:=0) (j:=j) (l:=ops.toList) (by simpa using ad) ag
   have ale:ops.size ∈ jC P aK 0 ops.toList:=by simpa using Re (P:=P) (aK:=aK) (l:=ops.toList) (i:=0)
   have Tb:∀N M,∀s ∈ jC P aK 0 ops.toList,(s=ops.size\/(s=N/\M=N))\/∃k o,ops[k]? =some o/\gj P o=true/\s=posOf aK k:=fun N M s al=>by
    rcases E2 al with h | ⟨j,o,ad,ag,ar⟩
    . exact .inl (.inl (by simpa using h))
    . exact .inr ⟨j,o,by simpa using ad,ag,by simpa using ar⟩
   have P5:∀i o,ops[i]? =some o->∃ei,(gk [] ops.toList)[i]? =some ei/\sI i o=true/\(posOf aK i<ops.size->
    ∀k ok,ops[k]? =some ok->posOf aK k<ops.size->∃mk,(gk [] ops.toList)[k]? =some mk/\ue i ei (c9 ops o) o.dst k mk ok (Nat.blt (posOf aK k) (posOf aK i))=true/\(ib P o.op=true->gj P ok=true->posOf aK k<posOf aK i->hD ei k=true\/(false=true/\zt o=true/\zt ok=true))):=by
    intro i o aJ;obtain ⟨ei,g1,g2,g3⟩:=aan ia i o aJ
    exact ⟨ei,g1,g2,fun _ k ok aD _=>by
     obtain ⟨mk,e1,fH,y3⟩:=g3 k ok aD
     exact ⟨mk,e1,fH,fun a b c=>.inl (y3 a b c)⟩⟩
   have PU:∀(es:List ir) (bP:ah),nB P (lL P aL ops (jQ ops order)) (es.map toF) bP (r1 P ops.toList (gk [] ops.toList) aK (jC P aK 0 ops.toList) 0 ops.toList)->∀j o,ops[j]? =some o->looks o.op=true->ib P o.op=false->∀e,es[posOf aK j]? =some e->
    ∀s ∈ jC P aK 0 ops.toList,vB P (gk [] ops.toList) ops.toList aK j (((gk [] ops.toList)[j]?).getD 0) s=true->∃c ae,(iq P c/\iC P c)/\(et P aL ops o).run c e.r (dM es bP s)=.val e.v ae:=by
    intro es bP ob j o w8 hx Ir e cg s al hm;have cW:=(aoD.1 w8).1;have:=GX ob j o (by simpa using w8) hx Ir;rw [aph,apg,cg] at this;simp only [apu] at this;obtain ⟨dV,c0,z3⟩:=GU this s (List.mem_filter.2 ⟨al,hm⟩);rw [x2,apg,qN (jd j cW).2 w8] at c0;simp only [apu,aoC] at c0;subst c0;rw [Ip] at z3;rcases cI.yi z3 with ⟨c,v,ae,⟨e1,_⟩,_,y3,y4⟩ | ⟨c,v,ae,_,_,y3,_⟩
    . have Df:=y4 e.r rfl;rw [show v=e.v from y3] at Df;exact ⟨c,ae,e1,Df⟩
    . exact y3.elim
   have JS:s8 P ops.toList=false->∀(j:Nat) (o:Oper),ops[j]? =some o->ib P o.op=false:=by
    have none:∀(l:List Oper),s8 P l=false->∀(j:Nat) (o:Oper),l[j]? =some o->ib P o.op=false:=by
     intro l
     induction l with
     | nil=>intro _ j o h;simp at h
     | cons x l cc=>
       intro h j o bG;simp only [s8,Bool.or_eq_false_iff] at h;cases j with
       | zero=>simp only [aoR,aoC] at bG;subst bG;exact h.1
       | succ j=>exact cc h.2 j o (by simpa using bG)
    exact fun h j o bG=>none _ h j o (by simpa using bG)
   have SG:∀{E:Env} {a:Act},iw E aL r a->RegRel0 E aL hM a:=fun k=>⟨k.size,fun t az=>by have:=congrFun rj t;simp only [eE] at this;rw [this];exact k.cA t (nk az)⟩;rcases Lp _ hM h _ _ H bG with ⟨es,ix,bP,⟨ob,b'⟩,⟨hy,EJ⟩,an,av,aB,bt⟩ | ⟨es,ix,bP,x,ag,⟨⟨hP,ob⟩,dp⟩,av,aB,bt,l8,qk,ca,cx,dq,dy⟩
   . refine .inl ⟨.normal,_,bP,b',⟨hy,fun _=>by rw [<-rj];exact EJ⟩,fun rd aA E a w U k s gJ wV=>?_⟩;have step:∀i:Nat,∃call,(iq P call/\iC P call)/\∀o,ops[i]? =some o->∃e,es[posOf aK i]? =some e/\(et P aL ops o).run call e.r e.h=.val e.v (dM es bP (posOf aK i+1))/\fF es ix (posOf aK i+1)=(kx o.dst).run e.r e.v:=by
      intro i;cases aJ:ops[i]? with
      | none=>exact ⟨jN,tY P,fun o h=>by cases h⟩
      | some o=>
        obtain ⟨e,call,cg,⟨cY,_⟩,eS,iP⟩:=bt _ o (qN (jd i (aoD.1 aJ).1).2 aJ);exact ⟨call,cY,fun dV jm=>by cases jm;exact ⟨e,cg,eS,iP⟩⟩
     obtain ⟨calls,o0⟩:=Classical.axiomOfChoice step;have BE:∀j o,ops[j]? =some o->looks o.op=true->ib P o.op=false->∃e,es[posOf aK j]? =some e/\∀s ∈ jC P aK 0 ops.toList,
      vB P (gk [] ops.toList) ops.toList aK j (((gk [] ops.toList)[j]?).getD 0) s=true->∃c ae,(iq P c/\iC P c)/\(et P aL ops o).run c e.r (dM es bP s)=.val e.v ae:=by
      intro j o w8 hx Ir;have cW:=(aoD.1 w8).1;obtain ⟨e,cg,cY,eS⟩:=(o0 j).2 o w8;refine ⟨e,cg,fun s al hm=>?_⟩;cases aG:s8 P ops.toList with
      | true=>
        rw [aG] at ob;exact PU es bP ob j o w8 hx Ir e cg s al hm
      | false=>
        have l4:s=ops.size:=by
         rcases E2 al with h | ⟨QS,dV,ad,ag,ar⟩
         . simpa using h
         . have:=JS aG QS dV (by simpa using ad);unfold gj at ag;rw [this] at ag;cases ag
        have flat:∀d,d<=ops.size->dM es bP d=dM es bP 0:=by
         intro d
         induction d with
         | zero=>intro _;rfl
         | succ d cc=>
           intro bk;obtain ⟨i,IB,tw⟩:=mE d (by omega);have dG:ops[i]? =some ops[i]:=ao1 IB;obtain ⟨anh,b9,aR,_⟩:=(o0 i).2 ops[i] dG;rw [tw] at b9 aR;have d':ib P ops[i].op=false:=JS aG i _ dG;rw [(Bi d' aR).1,<-cc (by omega)];simp [dM,b9]
        have anL:=(jd j cW).1;have:e.h=dM es bP s:=by rw [l4,flat ops.size (aoz _),<-flat (posOf aK j) (by omega)];simp [dM,cg]
        rw [<-this];exact ⟨_,_,(o0 j).1,cY⟩
     have hlen:es.length=ops.size:=by rw [an,zU,sr]
     have C:Cert P aL ops calls es hM h ix bP (jC P aK 0 ops.toList) order aK ops.size ops.size false:=
      ⟨hlen,aoz _,aoz _,jd,mE,av,aB,fun i o dG _=>(o0 i).2 o dG,P5,ale,K0,Tb _ _,
        fun j o ad ag ar _=>BE j o ad ag ar,fun h=>absurd h (Nat.lt_irrefl _),fun h=>absurd h (Nat.lt_irrefl _)⟩
     have I6:eE ix cD=r cD:=by rw [<-rj];exact EJ
     refine OX fC cQ (fun i=>(o0 i).1) C (SG k) s (fun _ aw bF w' c0 z2 Lt z3=>?_) (fun _ _ _ _ _ _ _ h=>absurd h (Nat.lt_irrefl _));refine wV aw bF w' c0 ⟨z2.size,by rw [I6,Lt];exact k.defers.mono c0,fun t gu=>?_⟩ z3;by_cases az:t<=top
     . exact z2.cA t az
     . have dH:=z2.size;rw [hy t (by omega) gu];simp [Rel]
   . rw [ao6] at hP;obtain ⟨B0,rfl⟩:=IY _ hP;have a7:es.length<ops.size:=by
      have:=(apk.1 ca).1;rw [zU,sr] at this;exact this
     obtain ⟨i0,IA,mx⟩:=mE es.length a7;have dG:ops[i0]? =some ops[i0]:=ao1 IA;have zd:=(jd i0 IA).2;rw [mx] at zd;have adi:l8=ops[i0]:=by have:=qN zd dG;rw [ca] at this;cases this;rfl
     subst adi;unfold CM at B0;rw [zd] at B0;simp only at B0;obtain ⟨m0,Qc,_⟩:=uL B0 i0 ops[i0] (by simp);have QG:∀k ok,ops[k]? =some ok->∃mk,(gk [] ops.toList)[k]? =some mk/\(es.length<posOf aK k->hD mk i0=true)/\(jo ok=true->posOf aK k<es.length->hD m0 k=true):=by
      intro k ok aD;obtain ⟨mk,c0,z2⟩:=uL B0 k ok (by simpa using aD);simp only [aph,aoE] at z2;refine ⟨mk,c0,fun ay=>?_,fun b5 aG=>?_⟩
      . have:=z2.1;rw [show Nat.blt es.length (posOf aK k)=true from by rw [ape];exact ay] at this;exact this
      . have:=z2.2;rw [b5,show Nat.blt (posOf aK k) es.length=true from by rw [ape];exact aG,Qc] at this;exact this
     have BI:gj P ops[i0]=true:=by obtain ⟨cf,c6⟩:=JJ (P:=P) cx;unfold gj;rw [cf,c6];rfl
     have aG:s8 P ops.toList=true:=by
      cases aG:s8 P ops.toList with
      | true=>rfl
      | false=>
        have:=JS aG i0 _ dG;rw [(JJ (P:=P) cx).1] at this;cases this
     rw [aG] at ob;simp only [aoJ] at ob;have vJ:∀i,i<ops.size->posOf aK i=es.length->i=i0:=fun i ad ag=>by have:=(jd i ad).2;rw [ag,zd] at this;cases this;rfl
     have step:∀i:Nat,∃call,(iq P call/\iC P call)/\(∀o,ops[i]? =some o->posOf aK i<es.length->∃e,es[posOf aK i]? =some e/\(et P aL ops o).run call e.r e.h=.val e.v (dM es bP (posOf aK i+1))/\fF es ix (posOf aK i+1)=(kx o.dst).run e.r e.v)/\
      (∀o,ops[i]? =some o->posOf aK i=es.length->(et P aL ops o).run call ix bP=.fY x ag):=by
      intro i;cases aJ:ops[i]? with
      | none=>exact ⟨jN,tY P,fun o h=>(by cases h),fun o h=>(by cases h)⟩
      | some o=>
        have BL:=(aoD.1 aJ).1;by_cases IG:posOf aK i<es.length
        . obtain ⟨e,call,cg,⟨cY,_⟩,eS,iP⟩:=bt _ o IG (qN (jd i BL).2 aJ);exact ⟨call,cY,fun dV jm _=>by cases jm;exact ⟨e,cg,eS,iP⟩,fun dV _ h=>by omega⟩
        . by_cases P2:posOf aK i=es.length
          . have:=vJ i BL P2;subst this;refine ⟨qk,dq,fun dV _ h=>absurd h IG,fun dV jm _=>?_⟩;cases jm;rw [dG] at aJ;cases aJ;exact dy
          . exact ⟨jN,tY P,fun dV _ h=>absurd h IG,fun dV _ h=>absurd h P2⟩
     obtain ⟨calls,o0⟩:=Classical.axiomOfChoice step;have acE:Bw (es.map toF) (eE ix)=eE hM:=by rw [<-aB];cases es<;>simp [Bw,fF,toF]
     rw [acE] at dp;refine .inr ⟨x,_,ag,dp,⟨Ll bG _,fun _=>by rw [Db,rj]⟩,fun rd aA E a w U k s gJ wV=>?_⟩;have C:Cert P aL ops calls es hM h ix bP (jC P aK 0 ops.toList) order aK es.length ops.size false:=
      ⟨rfl,apB a7,apB a7,jd,mE,av,aB,fun i o dG h=>(o0 i).2.1 o dG h,P5,by rw [<-mx];exact K0 i0 _ dG BI,K0,Tb _ _,
        fun j o ad ag ar aT=>by obtain ⟨e,cg,_⟩:=(o0 j).2.1 o ad aT;exact ⟨e,cg,fun s al hm=>PU es bP ob j o ad ag ar e cg s al hm⟩,
        fun h=>absurd h (Nat.lt_irrefl _),fun _ _=>⟨i0,_,m0,dG,mx,cx,Qc,fun k ok mk aD ay IQ=>by
         obtain ⟨mk',c0,z2,_⟩:=QG k ok aD;rw [IQ] at c0;cases c0;exact z2 ay,fun k ok aD b5 aG=>by
         obtain ⟨mk',c0,_,z3⟩:=QG k ok aD;exact z3 b5 aG,x,ag,(o0 i0).2.2 _ dG mx⟩⟩
     refine OX fC cQ (fun i=>(o0 i).1) C (SG k) s (fun h=>absurd h (by omega)) (fun aw bF w' y v ae c0 _ _ z3 z4 Lt z5 ke=>?_);obtain ⟨i1,gx,e1,fH,y3⟩:=z3;rw [(o0 i1).2.2 gx e1 fH] at y3;cases y3;refine wV aw bF w' y c0 ⟨z4.size,by rw [Db,rj,Lt];exact k.defers.mono c0,fun t gu=>?_⟩ z5 ke;by_cases az:t<=top
     . have:=z4.cA t az;rw [F7 az] at this;exact this
     . have dH:=z4.size;rw [Ll bG _ t (by omega) gu];simp [Rel]
theorem aaT {rd:Option Nat} {e:ec} {Q:Exit->Act->World->Prop} {a:Act} {w:World} (h:Q (toExit e) a w):(Pa e).wpIn (aq rd) 0 P Q a w:=by
 cases e with
 | normal=>exact wpIn_skip h
 | exit id=>exact wpIn_exit h
 | ret=>exact wpIn_ret h
theorem akc (gr:aL<=top) (fC:P.follows .mixedOrders=true) (cQ:hh P) {f:Operand} {bK:Array Tmp} {x y:Code} {r:a1} {h:ah} {Q:ec->a1->ah->Prop} (bG:Out aL r)
 (H:gz P (fN P aL (.rangeFunc f bK x y)) r h Q):Ay P aL (.rangeFunc f bK x y) (fN P aL (.rangeFunc f bK x y)).plain r h Q:=by
 simp only [fN] at H ⊢;cases ia:(Ks aL bK.toList&&(noMark x&&noMark y)) with
 | false=>rw [ia] at H;exact H.elim
 | true=>
   rw [ia] at H;simp only [aoJ,gz] at H ⊢;simp only [aoE] at ia;obtain ⟨g,cs,bZ,ay,mv,H⟩:=H;obtain ⟨db,eb⟩:=u9 bG;obtain ⟨v,ae,fJ,eC,aO,bs,b'⟩:=H ⟨0,none,ao h.next,aL,db,bK.toList,x,y⟩ ⟨rfl,eb,rfl,rfl,rfl,ia.1,ia.2.1,ia.2.2,bG⟩ rfl rfl;refine .inl ⟨_,_,_,b',⟨fun t ad ag=>by simp only [a1.set];rw [aoI ag];exact bG t ad ag,fun z=>by cases z⟩,fun rd aA E a w U k s gJ wV=>?_⟩;have adv:rd=none:=U.resolve_right (by simp [noMark]);subst adv;have aE:Rel E (.func g cs) (a.eval f):=by
    rw [<-bZ];cases f with
    | tmp t=>
      simp only [rx];cases ai:Nat.ble t top with
      | false=>simp [aZ.aV,Rel]
      | true=>
        simp only [aoJ,aZ.aV];exact k.cA t (nk (apd ai))
    | const v=>exact tZ E v
    | func f=>
      simp only [rx];cases ai:Nat.beq f eA with
      | true=>simp [aZ.aV,Rel]
      | false=>
        simp only [aoP,aZ.aV,Rel];exact .inl ⟨fun e=>by subst e;simp at ai,_,rfl,by simp [bH]⟩
    | global g=>simp [rx,aZ.aV,Rel]
   simp only [Rel] at aE;rcases aE with ⟨_,gK,dp,aG⟩ | ⟨acG,_⟩
   case inr=>exact absurd acG ay
   refine (wpIn_rangeFunc fun fn _=>?_:(Code.rangeFunc f bK x y).wpIn (aq none) 0 P gJ a w);have f0:=s.fresh h.next (aoz _)
   obtain ⟨kA,H7⟩:∃kA,kA=E.put (ao h.next) ⟨w.heap.size,0,0⟩:=⟨_,rfl⟩;obtain ⟨b9,xk⟩:∃b9:World,b9={w with heap:=w.heap.push (.deferred (some []))}:=⟨_,rfl⟩;have Qm:kA (ao h.next)=some ⟨w.heap.size,0,0⟩:=by rw [H7];unfold Env.put;rw [aoN rfl]
   have s1:bD aA kA (h.new .h') b9:=by rw [H7,xk];refine s.alloc 0 ⟨⟨w.heap.size,0,0⟩,by unfold Env.put;rw [aoN rfl],s.frame.size,by simp⟩
   have Cn:E.le kA:=by rw [H7];exact Env.pS f0
   have B8:b9.heap.size=w.heap.size+1:=by rw [xk];simp
   obtain ⟨o,jm⟩:∃o:Loop,o={state:=.ready,pending:=none,fn,tmps:=a.tmps,params:=bK,assign:=x,body:=y,defers:=w.heap.size}:=⟨_,rfl⟩;obtain ⟨bY,Ei⟩:∃bY,bY=kA.put (ao (h.next+1)) ⟨b9.heap.size,0,0⟩:=⟨_,rfl⟩;obtain ⟨aR,e4⟩:∃aR:World,aR={b9 with heap:=b9.heap.push (.loop o)}:=⟨_,rfl⟩;have f1:kA (ao (h.next+1))=none:=s1.fresh (h.next+1) (aoz _);have xv:kA.le bY:=by rw [Ei];exact Env.pS f1
   have Qn:bY (ao (h.next+1))=some ⟨b9.heap.size,0,0⟩:=by rw [Ei];unfold Env.put;rw [aoN rfl]
   have hH:AG bY ⟨0,none,ao h.next,aL,db,bK.toList,x,y⟩ o:=by subst jm;refine ⟨rfl,rfl,rfl,rfl,rfl,k.size,fun t az=>?_,_,xv _ _ Qm,rfl⟩;have:=congrFun eb t;simp only [eE] at this;simp only [this];exact Rel.mono (Cn.trans xv) _ _ (k.cA t (nk az))
   have s2:bD aA bY ((h.new .h').new (.hH ⟨0,none,ao h.next,aL,db,bK.toList,x,y⟩)) aR:=by rw [Ei,e4];refine s1.alloc 0 ⟨⟨b9.heap.size,0,0⟩,o,by show kA.put (ao (h.next+1)) _ (ao (h.next+1))=_;unfold Env.put;rw [aoN rfl],by show aA.w.heap.size<=b9.heap.size;rw [B8];have:=s.frame.size;omega,by simp,?_⟩;have:=hH;rw [Ei] at this;exact this
   obtain ⟨pV,BS⟩:∃pV,pV=b9.heap.size:=⟨_,rfl⟩;have bl:Rel bY (.func eA [.ptr (ao (h.next+1)) 0]) (.func (.yield pV) #[] #[]):=by simp only [Rel];exact .inr ⟨trivial,_,_,rfl,Qn,by rw [BS]⟩
   have tr:bH bY (.func eA [.ptr (ao (h.next+1)) 0]::cs) (.func (.yield pV) #[] #[]::gK.toList):=by simp only [bH];exact ⟨_,_,rfl,bl,bH.mono (Cn.trans xv) _ _ aG⟩
   have ax:Calls P g (Value.func (Fn.yield pV) #[] #[]::gK.toList).toArray aR (rangePost (aq none) 0 P pV gJ {a with defers:=[{target:=.collected w.heap.size,args:=#[]}]++a.defers}):=(fJ.calls cQ mv aA bY aR _ tr s2).mono fun e w' aH=>by
    obtain ⟨aw,aov,rfl,an,_,aB⟩:=aH;simp only [rangePost];have j7:=an _ _ Qn;have ai:=aB.at j7;rw [aO] at ai;obtain ⟨p',dV,m_,cd,bP,ac2⟩:=ai;rw [j7] at m_;cases m_;obtain ⟨t1,t2,t3,t4,t5,t6,t7,t8⟩:=ac2;simp only at bP;rw [<-BS] at bP;have sq:(dV.state == LoopState.busy)=false:=by
     rw [t1]
     match tC:eC.st with
     | 0=>rfl
     | 1=>exact absurd tC bs
     | n+2=>rfl
    have o9:=(aoD.1 bP).1
    let gn:World:={w' with heap:=w'.heap.setIfInBounds pV (.loop {dV with state:=.exhausted})}
    have fD:(Instr.endLoop pV).run P w'=.ok dV.pending gn:=by
     have tK:(setObj pV (.loop {dV with state:=.exhausted})).run P w'=.ok () gn:=by simp only [setObj,Sem.run,bP];rfl
     simp only [Instr.endLoop,Sem.run_bind,run_getLoop bP,Result.andThen_ok,sq,aoA,aoK,tK,Sem.run_pure]
    have KT:bD aA aw (ae.set (ao (h.next+1)) .dead) gn:=by refine aB.gone (p:=⟨b9.heap.size,0,0⟩) (by rw [aO];rfl) j7 cd (by simp [gn]) (fun j cW=>?_) rfl rfl rfl;simp only at cW;simp only [gn,aoY];rw [aoI (fun e=>cW (by rw [<-e,BS]))]
    have fl:iw aw aL (r.set (some cD) (.tuple (.ptr (ao h.next) 0::(r cD).list))) {a with defers:=[{target:=.collected w.heap.size,args:=#[]}]++a.defers}:=by
     refine ⟨k.size,?_,fun t az=>?_⟩
     . simp only [a1.set,aoM,pv,oF,aoW,ao5];exact ⟨_,_,rfl,⟨_,an _ _ (xv _ _ Qm),rfl⟩,(k.defers.mono (Cn.trans (xv.trans an))).list⟩
     . simp only [a1.set];rw [aoI az];exact Rel.mono (Cn.trans (xv.trans an)) _ _ (k.cA t az)
    refine ⟨dV.pending,gn,fD,?_⟩;rw [t2];have fin:=wV aw _ gn (Cn.trans (xv.trans an)) fl KT;cases oj:eC.kv with
    | none=>rw [oj] at fin;exact fin
    | some e=>rw [oj] at fin;exact aaT fin
   obtain ⟨anr,acJ,mv⟩:=mv;refine ⟨pV,[{target:=.collected w.heap.size,args:=#[]}],aR,{target:=.fn (.func g) gK,args:=#[]++#[.func (.yield pV) #[] #[]]},aR,g,_,aR,?_,?_,fun _ _=>trivial,?_,fun h=>by simp at h,r7.2 ax⟩
   . subst jm e4 xk;have he:=run_enterLoop_outer (P:=P) (w:=w) fn a.tmps bK x y;rw [World.alloc,World.alloc] at he;simp only [Array.size_push] at BS ⊢;rw [BS];exact he
   . simp only [resolve,dp,Deferred.ofValue,Sem.run_pure];simp [Act.eval]
   . simp only [invoke];have e:(#[]++#[Value.func (.yield pV) #[] #[]]:Array Value)++gK=(Value.func (.yield pV) #[] #[]::gK.toList).toArray:=by apply apW;simp
     rw [e];exact vN cQ acJ mv _ aR
theorem F8 (gr:aL<=top) (fC:P.follows .mixedOrders=true) (cQ:hh P):∀(c:Code) (r:a1) (h:ah) (Q:ec->a1->ah->Prop),Out aL r->gz P (fN P aL c) r h Q->Ay P aL c (fN P aL c).plain r h Q:=by
 intro c
 induction c with
 | skip=>
   intro r h Q bG H;exact .inl ⟨.normal,r,h,H,⟨bG,fun _=>rfl⟩,fun rd aA E a w U k s gJ b'=>wpIn_skip (b' E a w (Env.le.refl E) k s)⟩
 | label l=>
   intro r h Q bG H;exact .inl ⟨.normal,r,h,H,⟨bG,fun _=>rfl⟩,fun rd aA E a w U k s gJ b'=>wpIn_label (b' E a w (Env.le.refl E) k s)⟩
 | exit id=>
   intro r h Q bG H;exact .inl ⟨.exit id,r,h,H,⟨bG,fun _=>rfl⟩,fun rd aA E a w U k s gJ b'=>wpIn_exit (b' E a w (Env.le.refl E) k s)⟩
 | ret=>
   intro r h Q bG H;exact .inl ⟨.ret,r,h,H,⟨bG,fun _=>rfl⟩,fun rd aA E a w U k s gJ b'=>wpIn_ret (b' E a w (Env.le.refl E) k s)⟩
 | region id ops draw=>
   intro r h Q bG H;cases draw with
   | true=>
     simp only [fN,aoJ] at H;rcases aar gr fC cQ (id:=id) bG H with ⟨e,bq,ae,an,av,aB⟩ | ⟨x,bq,ae,an,av,aB⟩
     . exact .inl ⟨e,bq,ae,an,⟨av.1,fun _=>av.2 rfl⟩,aB⟩
     . exact .inr ⟨x,bq,ae,an,⟨av.1,fun _=>av.2 rfl⟩,aB⟩
   | false=>
     simp only [fN,aoP,gz] at H;rcases TP cQ ops.toList 0 (fun j=>by simp) r h _ _ bG H with ⟨bq,ae,an,av,aB⟩ | ⟨x,bq,ae,an,av,aB⟩
     . refine .inl ⟨.normal,bq,ae,an,⟨av.1,fun z=>av.2 (by simpa only [fN,aoP,cb.plain] using z)⟩,fun rd aA E a w U k s gJ b'=>?_⟩;refine wpIn_region ?_;have:=aB rd aA E a w (U.imp (fun y=>y) fun z=>by simpa only [noMark,ao9] using z) k s gJ b';rw [List.range_eq_range'];simpa using this
     . refine .inr ⟨x,bq,ae,an,⟨av.1,fun z=>av.2 (by simpa only [fN,aoP,cb.plain] using z)⟩,fun rd aA E a w U k s gJ b'=>?_⟩;refine wpIn_region ?_;have:=aB rd aA E a w (U.imp (fun y=>y) fun z=>by simpa only [noMark,ao9] using z) k s gJ b';rw [List.range_eq_range'];simpa using this
 | seq x y Jm Jn=>
   intro r h Q bG H;simp only [fN,gz] at H;have j4:∀{rd:Option Nat},(rd=none\/noMark (.seq x y)=true)->rd=none\/noMark x=true:=fun U=>U.imp (fun h=>h) fun h=>by simp only [noMark,aoE] at h;exact h.1
   have fb:∀{rd:Option Nat},(rd=none\/noMark (.seq x y)=true)->rd=none\/noMark y=true:=fun U=>U.imp (fun h=>h) fun h=>by simp only [noMark,aoE] at h;exact h.2
   have j6:(fN P aL (.seq x y)).plain=true->(fN P aL x).plain=true:=fun z=>by simp only [fN,cb.plain,aoE] at z;exact z.1
   have h1:(fN P aL (.seq x y)).plain=true->(fN P aL y).plain=true:=fun z=>by simp only [fN,cb.plain,aoE] at z;exact z.2
   rcases Jm r h _ bG H with ⟨e,cJ,ad,an,av,aB⟩ | ⟨v,cJ,ad,an,av,aB⟩
   . cases e with
     | normal=>
       rcases Jn cJ ad Q av.1 an with ⟨e,bc,ag,cg,cY,eS⟩ | ⟨v,bc,ag,cg,cY,eS⟩
       . refine .inl ⟨e,bc,ag,cg,⟨cY.1,fun z=>(cY.2 (h1 z)).trans (av.2 (j6 z))⟩,fun rd aA E a w U k s gJ b'=>?_⟩;refine wpIn_seq (aB rd aA E a w (j4 U) k s _ fun aw bF w' c0 z2 z3=>?_).wp;exact (eS rd aA aw bF w' (fb U) z2 z3 gJ fun bY a2 aR e1 fH y3=>b' bY a2 aR (c0.trans e1) fH y3).wp
       . refine .inr ⟨v,bc,ag,cg,⟨cY.1,fun z=>(cY.2 (h1 z)).trans (av.2 (j6 z))⟩,fun rd aA E a w U k s gJ b'=>?_⟩;refine wpIn_seq (aB rd aA E a w (j4 U) k s _ fun aw bF w' c0 z2 z3=>?_).wp;exact (eS rd aA aw bF w' (fb U) z2 z3 gJ fun bY a2 aR u e1 fH y3 y4=>b' bY a2 aR u (c0.trans e1) fH y3 y4).wp
     | exit i=>
       refine .inl ⟨.exit i,cJ,ad,an,⟨av.1,fun z=>av.2 (j6 z)⟩,fun rd aA E a w U k s gJ b'=>?_⟩;refine wpIn_seq (aB rd aA E a w (j4 U) k s _ fun aw bF w' c0 z2 z3=>?_).wp;exact b' aw bF w' c0 z2 z3
     | ret=>
       refine .inl ⟨.ret,cJ,ad,an,⟨av.1,fun z=>av.2 (j6 z)⟩,fun rd aA E a w U k s gJ b'=>?_⟩;refine wpIn_seq (aB rd aA E a w (j4 U) k s _ fun aw bF w' c0 z2 z3=>?_).wp;exact b' aw bF w' c0 z2 z3
   . refine .inr ⟨v,cJ,ad,an,⟨av.1,fun z=>av.2 (j6 z)⟩,fun rd aA E a w U k s gJ b'=>?_⟩;refine wpIn_seq (aB rd aA E a w (j4 U) k s _ fun aw bF w' u c0 z2 z3 z4=>?_).wp;exact b' aw bF w' u c0 z2 z3 z4
 | cond c x y Jm Jn=>
   intro r h Q bG H;simp only [fN,gz] at H;cases bZ:(rx c).aV r<;>rw [bZ] at H<;>simp only at H<;>try (exact H.elim)
   rename_i t;have ax:∀E a,iw E aL r a->a.eval c=.bool t:=by
    intro E a k;cases c with
    | tmp d=>
      simp only [rx] at bZ;cases ai:Nat.ble d top with
      | false=>rw [ai] at bZ;simp [aZ.aV] at bZ
      | true=>
        rw [ai] at bZ;simp only [aoJ,aZ.aV] at bZ;have:=k.cA d (nk (apd ai));rw [bZ] at this;simp only [Rel] at this;exact this
    | const v=>
      simp only [rx,aZ.aV] at bZ;have:=tZ E v;rw [bZ] at this;simp only [Rel] at this;exact this
    | func f=>
      simp only [rx] at bZ;cases ai:Nat.beq f eA<;>rw [ai] at bZ<;>simp [aZ.aV] at bZ
    | global g=>simp [rx,aZ.aV] at bZ
   have j4:∀{rd:Option Nat},(rd=none\/noMark (.cond c x y)=true)->rd=none\/noMark x=true:=fun U=>U.imp (fun h=>h) fun h=>by simp only [noMark,aoE] at h;exact h.1
   have fb:∀{rd:Option Nat},(rd=none\/noMark (.cond c x y)=true)->rd=none\/noMark y=true:=fun U=>U.imp (fun h=>h) fun h=>by simp only [noMark,aoE] at h;exact h.2
   cases t with
   | true=>
     rcases Jm r h Q bG (H.1 rfl) with ⟨e,cJ,ad,an,av,aB⟩ | ⟨e,cJ,ad,an,av,aB⟩
     . exact .inl ⟨e,cJ,ad,an,⟨av.1,fun z=>by simp only [fN,cb.plain,aoE] at z;exact av.2 z.1⟩,fun rd aA E a w U k s gJ b'=>wpIn_cond_true (ax E a k) (aB rd aA E a w (j4 U) k s gJ b').wp⟩
     . exact .inr ⟨e,cJ,ad,an,⟨av.1,fun z=>by simp only [fN,cb.plain,aoE] at z;exact av.2 z.1⟩,fun rd aA E a w U k s gJ b'=>wpIn_cond_true (ax E a k) (aB rd aA E a w (j4 U) k s gJ b').wp⟩
   | false=>
     rcases Jn r h Q bG (H.2 rfl) with ⟨e,cJ,ad,an,av,aB⟩ | ⟨e,cJ,ad,an,av,aB⟩
     . exact .inl ⟨e,cJ,ad,an,⟨av.1,fun z=>by simp only [fN,cb.plain,aoE] at z;exact av.2 z.2⟩,fun rd aA E a w U k s gJ b'=>wpIn_cond_false (ax E a k) (aB rd aA E a w (fb U) k s gJ b').wp⟩
     . exact .inr ⟨e,cJ,ad,an,⟨av.1,fun z=>by simp only [fN,cb.plain,aoE] at z;exact av.2 z.2⟩,fun rd aA E a w U k s gJ b'=>wpIn_cond_false (ax E a k) (aB rd aA E a w (fb U) k s gJ b').wp⟩
 | block id x cc=>
   intro r h Q bG H;simp only [fN] at H ⊢;cases hid:Nat.beq id lK with
   | true=>rw [hid] at H;exact H.elim
   | false=>
     rw [hid] at H;simp only [aoP,gz] at H ⊢;have d':lK≠id:=fun e=>by rw [<-e] at hid;simp at hid
     rcases cc r h _ bG H with ⟨e,cJ,ad,an,av,aB⟩ | ⟨v,cJ,ad,an,av,aB⟩
     . refine .inl ⟨e.leave id,cJ,ad,an,av,fun rd aA E a w U k s gJ b'=>?_⟩;refine wpIn_block (aB rd aA E a w (U.imp (fun h=>h) fun h=>h) k s _ fun aw bF w' c0 z2 z3=>?_).wp;cases e with
       | normal=>exact b' aw bF w' c0 z2 z3
       | ret=>exact b' aw bF w' c0 z2 z3
       | exit i=>
         have:=b' aw bF w' c0 z2 z3;simp only [toExit,Exit.inBlock];simp only [ec.leave] at this;by_cases aJ:i=id
         . rw [aoN aJ] at this ⊢;exact this
         . rw [aoI aJ] at this ⊢;exact this
     . simp only [ec.leave] at an;rw [aoI d'] at an;refine .inr ⟨v,cJ,ad,an,av,fun rd aA E a w U k s gJ b'=>?_⟩;refine wpIn_block (aB rd aA E a w (U.imp (fun h=>h) fun h=>h) k s _ fun aw bF w' u c0 z2 z3 z4=>?_).wp;exact b' aw bF w' u c0 z2 z3 z4
 | loop x cc=>
   intro r h Q bG H;simp only [fN,gz] at H;obtain ⟨I,μ,wS,ady⟩:=H;have key:∀n r h,μ r h=n->I r h->Out aL r->Ay P aL (.loop x) (fN P aL (.loop x)).plain r h Q:=by
    intro n
    induction n using Nat.strongRecOn with
    | _ n aea=>
      intro r h aI wS bG;rcases cc r h _ bG (ady r h wS) with ⟨e,cJ,ad,an,av,aB⟩ | ⟨v,cJ,ad,an,av,aB⟩
      . have body:∀(rd:Option Nat) (aA:Fr) E a w,(rd=none\/noMark x=true)->iw E aL r a->bD aA E h w->∀(b:Frame) (dL:List Item) (cs:List Frame),b.roundOf=rd->∃bF w' aw,E.le aw/\iw aw aL cJ bF/\bD aA aw ad w'/\ArrivesIn (Machine.fenced P (aq rd)) P (lone (b.atR a (.code x::.inLoop x::dL)) cs w) b (.inLoop x::dL) cs (toExit e) bF w':=by
         intro rd aA E a w U k s b dL cs na;have:=(aB rd aA E a w U k s (fun fi bF w'=>fi=toExit e/\∃aw,E.le aw/\iw aw aL cJ bF/\bD aA aw ad w') (fun aw bF w' an av aB=>⟨rfl,aw,an,av,aB⟩)).wp b (.inLoop x::dL) cs na trivial (SP _);obtain ⟨bs,a2,aR,⟨rfl,bY,c0,z2,z3⟩,mu⟩:=this;exact ⟨a2,aR,bY,c0,z2,z3,mu⟩
        cases e with
        | normal=>
          obtain ⟨ab0,a7⟩:=an;rcases aea (μ cJ ad) (aI ▸ a7) cJ ad rfl ab0 av.1 with ⟨bs,bc,ag,cg,cY,eS⟩ | ⟨v,bc,ag,cg,cY,eS⟩
          . refine .inl ⟨bs,bc,ag,cg,⟨cY.1,fun z=>(cY.2 z).trans (av.2 z)⟩,fun rd aA E a w U k s gJ b' b dL cs na=>?_⟩;obtain ⟨a2,aR,bY,c0,z2,z3,mu⟩:=body rd aA E a w (U.imp (fun h=>h) fun h=>h) k s b dL cs na;obtain ⟨cT,a3,eH,e1,fH⟩:=eS rd aA bY a2 aR U z2 z3 gJ (fun jY a4 gn t1 t2 t3=>b' jY a4 gn (c0.trans t1) t2 t3) b dL cs na;exact ⟨cT,a3,eH,e1,.of_steps (StepsIn.trans mu (.one (sd _) stepR_inLoop)) fH⟩
          . refine .inr ⟨v,bc,ag,cg,⟨cY.1,fun z=>(cY.2 z).trans (av.2 z)⟩,fun rd aA E a w U k s gJ b' b dL cs na=>?_⟩;obtain ⟨a2,aR,bY,c0,z2,z3,mu⟩:=body rd aA E a w (U.imp (fun h=>h) fun h=>h) k s b dL cs na;obtain ⟨cT,a3,eH,e1,fH⟩:=eS rd aA bY a2 aR U z2 z3 gJ (fun jY a4 gn u t1 t2 t3 t4=>b' jY a4 gn u (c0.trans t1) t2 t3 t4) b dL cs na;exact ⟨cT,a3,eH,e1,.of_steps (StepsIn.trans mu (.one (sd _) stepR_inLoop)) fH⟩
        | exit i=>
          refine .inl ⟨.exit i,cJ,ad,an,av,fun rd aA E a w U k s gJ b' b dL cs na=>?_⟩;obtain ⟨a2,aR,bY,c0,z2,z3,mu⟩:=body rd aA E a w (U.imp (fun h=>h) fun h=>h) k s b dL cs na;exact ⟨.exit i,a2,aR,b' bY a2 aR c0 z2 z3,.pass (x:=.inLoop x) rfl (fun _ _=>.inl (by simp)) mu⟩
        | ret=>
          refine .inl ⟨.ret,cJ,ad,an,av,fun rd aA E a w U k s gJ b' b dL cs na=>?_⟩;obtain ⟨a2,aR,bY,c0,z2,z3,mu⟩:=body rd aA E a w (U.imp (fun h=>h) fun h=>h) k s b dL cs na;exact ⟨.ret,a2,aR,b' bY a2 aR c0 z2 z3,.pass (x:=.inLoop x) rfl (fun _ _=>.inl (by simp)) mu⟩
      . refine .inr ⟨v,cJ,ad,an,av,fun rd aA E a w U k s gJ b' b dL cs na=>?_⟩;have body:=(aB rd aA E a w (U.imp (fun h=>h) fun h=>h) k s (fun fi bF w'=>∃y,fi=.panic y/\gJ fi bF w') (fun aw bF w' u c0 z2 z3 z4=>⟨_,rfl,b' aw bF w' u c0 z2 z3 z4⟩)).wp b (.inLoop x::dL) cs na trivial (SP _);obtain ⟨bs,a2,aR,⟨y,rfl,q⟩,mu⟩:=body;exact ⟨_,a2,aR,q,.pass (x:=.inLoop x) rfl (fun _ _=>.inl (by simp)) mu⟩
   exact key _ r h rfl wS bG
 | scope x cc=>
   intro r h Q bG H;rcases cc r h Q bG H with ⟨e,cJ,ad,an,av,aB⟩ | ⟨v,cJ,ad,an,av,aB⟩
   . refine .inl ⟨e,cJ,ad,an,av,fun rd aA E a w U k s gJ b'=>?_⟩;refine S0 (aB rd aA E a w (U.imp (fun h=>h) fun h=>h) k s _ fun aw bF w' c0 z2 z3=>?_).wp;have:=b' aw bF w' c0 z2 z3;cases e<;>exact this
   . refine .inr ⟨v,cJ,ad,an,av,fun rd aA E a w U k s gJ b'=>?_⟩;refine S0 (aB rd aA E a w (U.imp (fun h=>h) fun h=>h) k s _ fun aw bF w' u c0 z2 z3 z4=>?_).wp;exact b' aw bF w' u c0 z2 z3 z4
 | rangeFunc f bK x y _ _=>intro r h Q bG H;exact akc gr fC cQ bG H
 | goto l=>intro r h Q bG H;exact H.elim
 | refuse aoh=>intro r h Q bG H;exact H.elim
inductive nz where
 | t (n:Nat)
 | cf (n:Nat)
 | eB (n size:Nat)
 | bad
def jR (P:Program) (aL:Nat):List ResultVar->List nz
 | []=>[]
 | .tmp t::rs=>(bif Nat.ble t top&&Nat.blt t aL then .t t else .bad)::jR P aL rs
 | .cell a t::rs=>(bif Nat.ble a top&&Nat.blt a aL then (match bf P t with
   | none=>.bad
   | some aS=>bif aS.agg then .eB a aS.size else bif Nat.beq aS.size 1 then .cf a else .bad) else .bad)::jR P aL rs
def hs (r:a1) (h:ah):List nz->Option (List V)
 | []=>some []
 | x::xs=>match (match x with
   | .t n=>some (r n)
   | .cf n=>pX h (r n)
   | .eB n size=>pW size h (r n)
   | .bad=>none) with
   | none=>none
   | some v=>match hs r h xs with
     | none=>none
     | some aj=>some (v::aj)
theorem wM {r:a1} {h:ah} {db:c7} (eb:eE db=r):∀{l:List ResultVar} {aj:List V},hs r h (jR P aL l)=some aj->(oz P aL l).run db h=some aj
 | [],aj,he=>by simpa [hs,jR,oz] using he
 | .tmp t::rs,aj,he=>by
   simp only [jR,hs] at he;unfold oz;cases ax:(Nat.ble t top&&Nat.blt t aL) with
   | false=>rw [ax] at he;simp at he
   | true=>
     rw [ax] at he;simp only [aoJ] at he ⊢;cases U:hs r h (jR P aL rs) with
     | none=>rw [U] at he;cases he
     | some yc=>
       rw [U] at he;rw [wM eb U];have:=congrFun eb t;simp only [eE] at this;rw [this];exact he
 | .cell a t::rs,aj,he=>by
   simp only [jR,hs] at he;unfold oz;cases ax:(Nat.ble a top&&Nat.blt a aL) with
   | false=>rw [ax] at he;simp at he
   | true=>
     rw [ax] at he;simp only [aoJ] at he ⊢;have Qr:=congrFun eb a;simp only [eE] at Qr;rw [Qr];unfold xA;cases az:bf P t with
     | none=>rw [az] at he;simp at he
     | some aS=>
       rw [az] at he;simp only at he ⊢;cases PS:aS.agg with
       | true=>
         rw [PS] at he;simp only [aoJ] at he ⊢;cases aG:pW aS.size h (r a) with
         | none=>rw [aG] at he;cases he
         | some v=>
           rw [aG] at he;simp only at he ⊢;cases U:hs r h (jR P aL rs) with
           | none=>rw [U] at he;cases he
           | some yc=>rw [U] at he;rw [wM eb U];exact he
       | false=>
         rw [PS] at he;simp only [aoP] at he ⊢;cases al:Nat.beq aS.size 1 with
         | false=>rw [al] at he;simp at he
         | true=>
           rw [al] at he;simp only [aoJ] at he ⊢;cases aG:pX h (r a) with
           | none=>rw [aG] at he;cases he
           | some v=>
             rw [aG] at he;simp only at he ⊢;cases U:hs r h (jR P aL rs) with
             | none=>rw [U] at he;cases he
             | some yc=>rw [U] at he;rw [wM eb U];exact he
theorem qL:∀(l:List V) (t:Nat),a1.bd l t=(l[t]?).getD .bad
 | [],t=>by simp [a1.bd]
 | v::aj,t=>by
   simp only [a1.bd];cases t with
   | zero=>simp
   | succ t=>simp [qL aj t]
def ec.ends:ec->Prop
 | .exit _=>False
 | _=>True
def Co:List V->ah->Option ah
 | [],h=>some h
 | .ptr b _::ds,h=>(match h.get b with
   | .h'=>Co ds (h.set b .dead)
   | _=>none)
 | _::_,_=>none
theorem Q9 {n9:AA}:∀{ds:List V} {h ag:ah},Co ds h=some ag->rF n9 ds none h=.go none ag
 | [],h,ag,e=>by simp only [Co,aoC] at e;subst e;rfl
 | d::ds,h,ag,e=>by
   cases d<;>simp only [Co] at e<;>try (cases e;done)
   rename_i b o;simp only [rF];cases ay:h.get b<;>rw [ay] at e<;>simp only at e<;>try (cases e;done)
   exact Q9 e
theorem ZT (fC:P.follows .mixedOrders=true) (cQ:hh P) {f:FuncId} {fn:Func} {c:Code} {args:List V} {h:ah} {K:V->ah->Prop} (aE:P.funcs[f]? =some fn) (ai:fn.body=some c)
 (gr:Nat.ble fn.ntmps top=true) (bl:Nat.beq f eA=false) (lx:Nat.ble args.length fn.ntmps=true) {rc:cb} {dO:List nz} (pO:fN P fn.ntmps c=rc) (om:jR P fn.ntmps fn.results.toList=dO) {Q:ec->a1->ah->Prop} (H:gz P rc (a1.bd args) h Q)
 (b':∀e r ae,(rc.plain=true->r cD=.bad)->Q e r ae->e.ends/\∃ag,Co (r cD).list ae=some ag/\∃aj,hs r ag dO=some aj/\K (oneOf aj) ag):dY P f args h K:=by
 subst pO om;rw [aoT] at gr lx;have bG:Out fn.ntmps (a1.bd args):=by intro t az _;rw [qL,ao3 (by omega)];rfl
 have b_:(a1.bd args) cD=.bad:=by rw [qL,ao3 (by unfold cD;unfold top at gr;omega)];rfl
 rcases F8 gr fC cQ c _ h _ bG H with ⟨e,bq,ae,aH,hy,pJ⟩ | ⟨x,bq,ae,aH,hy,_⟩
 case inr=>exact ((b' _ (bq.set (some im) x) _ (fun z=>by rw [FT];exact (hy.2 z).trans b_) aH).1:False).elim
 obtain ⟨fD,ag,rr,aj,nc,ez⟩:=b' e bq ae (fun z=>(hy.2 z).trans b_) aH;have iL:f≠eA:=fun e=>by subst e;simp at bl
 refine ⟨oneOf aj,ag,⟨iL,.inl ⟨⟨fn,aE,by rw [ai];rfl⟩,fun aA E w xs au s=>?_⟩⟩,ez⟩;have hlen:=au.length;have dH:xs.toArray.size<=fn.ntmps:=by simp;omega
 refine r7.1 (callsIn_of_wp_marks (F:=aq none) (n:=0) aE ai trivial ?_);have k:iw E fn.ntmps (a1.bd args) {tmps:=xs.toArray++Array.replicate (fn.ntmps-xs.toArray.size) undef,defers:=[]}:=by
  refine ⟨by simp;omega,by rw [b_];simp [pv],fun t _=>?_⟩;rw [qL];cases ay:args[t]? with
  | none=>simp [Rel]
  | some v=>
    obtain ⟨y,bl,U⟩:=au.get t v ay;simp only [ap2];have zl:t<xs.length:=(apk.1 bl).1;rw [ao4,Array.getElem?_append_left (by simpa using zl)];simp only [List.getElem?_toArray,bl,ap2];exact U
 have rm:Gl P (fun _ _ _ _=>.fail):=fun f args u h fx ae he=>by cases he
 have fin:∀aw bF w',E.le aw->iw aw fn.ntmps bq bF->bD aA aw ae w'->LeavesInM (aq none) 0 P fn bF.tmps (fun e w'=>∃aw x,e=.returned x/\E.le aw/\Rel aw (oneOf aj) x/\bD aA aw ag w') bF.defers .returning w':=by
  intro aw bF w' an av aB;obtain ⟨db,eb⟩:=u9 hy.1;have bk:T.get .bad mj db=bq cD:=by have:=congrFun eb cD;simp only [eE] at this;exact this
  have aD:kC aw fn.ntmps db bF:=⟨⟨av.size,fun t az=>by
   have:=congrFun eb t;simp only [eE] at this;rw [this]
   exact av.cA t (nk az)⟩,by rw [bk];exact av.defers⟩
  refine aa' (C:=⟨P,fun _=>none,fun _=>none⟩) (u:=none) cQ rm aD rfl aB ?_;rw [bk,Q9 rr];simp only [finish];rw [wM eb nc];exact fun bY x aR cg cY eS=>⟨bY,x,rfl,an.trans cg,cY,eS⟩
 refine (pJ none aA E _ w (.inl rfl) k s _ fun aw bF w' an av aB=>?_).wp;have:=fin aw bF w' an av aB;cases e with
 | normal=>exact this
 | ret=>exact this
 | exit i=>exact fD.elim
theorem ZU (fC:P.follows .mixedOrders=true) (cQ:hh P) {f:FuncId} {fn:Func} {c:Code} {args:List V} {h:ah} {K:V->ah->Prop} (aE:P.funcs[f]? =some fn) (ai:fn.body=some c)
 (gr:Nat.ble fn.ntmps top=true) (bl:Nat.beq f eA=false) (lx:Nat.ble args.length fn.ntmps=true) {rc:cb} {dO:List nz} (pO:fN P fn.ntmps c=rc) (om:jR P fn.ntmps fn.results.toList=dO) (j7:rc.plain=true)
 (H:gz P rc (a1.bd args) h fun e r ae=>e.ends/\∃aj,hs r ae dO=some aj/\K (oneOf aj) ae):dY P f args h K:=by
 refine ZT fC cQ aE ai gr bl lx pO om H fun e r ae al ⟨ad,aj,ag,ar⟩=>⟨ad,ae,?_,aj,ag,ar⟩;rw [al j7];rfl
end
end
section
open Go Go.RowKit
variable [Lay]
theorem lJ (i j:Nat):(ao i=ao j)=(i=j):=by apply propext;exact ⟨nR,fun h=>by rw [h]⟩
theorem ajZ (aj:List V):∀(i off:Nat) (x:V) (t:T V),i<off->T.put .bad x (ao i) (hJ t off aj)=hJ (T.put .bad x (ao i) t) off aj:=by
 induction aj with
 | nil=>intro i off x t _;rfl
 | cons v aj cc=>
   intro i off x t h;simp only [hJ];rw [cc i (off+1) x _ (by omega),T.put_comm _ _ _ _ _ _ (fun e=>by rw [lJ] at e;omega)]
def jU (aj:List V) (off:Nat) (ws:List V):List V:=aj.take off++ws++aj.drop (off+ws.length)
theorem Ss:∀(aj:List V) (base i:Nat) (x:V) (t:T V),i<aj.length->T.put .bad x (ao (base+i)) (hJ t base aj)=hJ t base (aj.set i x)
 | [],_,i,_,_,h=>by simp at h
 | v::aj,base,i,x,t,h=>by
   cases i with
   | zero=>
     simp only [hJ,apO,List.set];rw [ajZ aj base (base+1) x _ (by omega),T.ajY]
   | succ i=>
     simp only [hJ,List.set];have:=Ss aj (base+1) i x (T.put .bad v (ao base) t) (by simpa using h);rw [show base + (i+1)=base+1+i from by omega];exact this
theorem S3 (aj:List V) (off:Nat) (w:V) (ws:List V) (h:off<aj.length):jU (aj.set off w) (off+1) ws=jU aj off (w::ws):=by
 unfold jU;have ad:(aj.set off w).take (off+1)=aj.take off++[w]:=by rw [List.take_succ_eq_append_getElem (by simpa using h)];simp [List.take_set_of_le]
 have ag:(aj.set off w).drop (off+1+ws.length)=aj.drop (off + (w::ws).length):=by rw [List.drop_set_of_lt (by omega)];congr 1;simp;omega
 rw [ad,ag];simp
theorem rQ (aj:List V) (off:Nat) (ws:List V) (h:off+ws.length<=aj.length):(jU aj off ws).length=aj.length:=by unfold jU;simp;omega
theorem Kw:∀(ws aj:List V) (off:Nat),off+ws.length<=aj.length->hJ (hJ .e 0 aj) off ws=hJ .e 0 (jU aj off ws)
 | [],aj,off,h=>by simp [hJ,jU]
 | w::ws,aj,off,h=>by simp only [aoH] at h;simp only [hJ];have ad:=Ss aj 0 off w .e (by omega);rw [aph] at ad;rw [ad,Kw ws (aj.set off w) (off+1) (by simp;omega),S3 aj off w ws (by omega)]
theorem HY (aj:List V):∀(off i:Nat) (t:T V),T.get .bad (ao (off+i)) (hJ t off aj)=if i<aj.length then (aj[i]?).getD .bad else T.get .bad (ao (off+i)) t:=by
 induction aj with
 | nil=>intro off i t;simp [hJ]
 | cons v aj cc=>
   intro off i t;simp only [hJ];cases i with
   | zero=>
     have:∀(ws:List V) (o:Nat) (s:T V),off<o->T.get .bad (ao off) (hJ s o ws)=T.get .bad (ao off) s:=by
      intro ws
      induction ws with
      | nil=>intro o s _;rfl
      | cons w ws aeb=>
        intro o s bG;simp only [hJ];rw [aeb (o+1) _ (by omega),T.mT,aoI (fun e=>by rw [lJ] at e;omega)]
     rw [apO,this aj (off+1) _ (by omega),T.mT];simp
   | succ i=>
     have:=cc (off+1) i (T.put .bad v (ao off) t);rw [show off+1+i=off + (i+1) from by omega] at this;rw [this,T.mT];have d':¬ao off=ao (off + (i+1)):=fun e=>by rw [lJ] at e;omega
     rw [aoI d'];simp
theorem Ed (aj:List V):∀(n i:Nat),i+n<=aj.length->mU (hJ .e 0 aj) i n=(aj.drop i).take n
 | 0,i,h=>by simp [mU]
 | n+1,i,h=>by simp only [mU];have ad:=HY aj 0 i .e;rw [aph] at ad;rw [ad,aoN (by omega),Ed aj n (i+1) (by omega)];have bk:aj.drop i=aj[i]::aj.drop (i+1):=apa (by omega);rw [bk,apT];simp [aoB (by omega:i<aj.length)]
def c_.bd (aj:List V) (dw:Nat) (st:Bool):c_:=.cells aj.length (hJ .e 0 aj) dw st
def c_.ro (aj:List V):c_:=.view aj.length (hJ .e 0 aj)
def mi (h:ah) (b:aN) (aj:List V):Prop:=h.get b=.ro aj\/∃dw st,h.get b=.bd aj dw st
def Own (h:ah) (b:aN) (aj:List V) (dw:Nat) (st:Bool):Prop:=h.get b=.bd aj dw st
theorem mi.qU {α:Type} {h:ah} {b:aN} {aj:List V} (H:mi h b aj) (d:α) (f:Nat->T V->α):(h.get b).qU d f=f aj.length (hJ .e 0 aj):=by rcases H with H | ⟨_,_,H⟩<;>rw [H]<;>rfl
theorem Own.lay {h:ah} {b:aN} {aj:List V} {dw:Nat} {st:Bool} (H:Own h b aj dw st) {off:Nat} {ws:List V} (bG:off+ws.length<=aj.length) (ad:gV ws=true):
 lay h b off ws=some (h.set b (.bd (jU aj off ws) dw st)):=by
 unfold ba.lay;rw [show h.get b=.cells aj.length (hJ .e 0 aj) dw st from H];simp only [c_.on];rw [show Nat.ble (off+ws.length) aj.length=true from by rw [aoT];exact bG,ad];simp only [apG,aoJ,aoC,c_.bd];rw [rQ aj off ws bG,Kw ws aj off bG]
theorem Own.store {h:ah} {b:aN} {aj:List V} {dw:Nat} {st:Bool} (H:Own h b aj dw st) {off n:Nat} {y:V} (aI:y.cells.length=n) (bG:off+n<=aj.length) (ad:gV y.cells=true):
 qY n h (.ptr b off) y=some (h.set b (.bd (jU aj off y.cells) dw st)):=by
 simp only [qY,V.lG];rw [show Nat.beq y.cells.length n=true from by rw [ao8];exact aI];simp only [aoJ];exact H.lay (by rw [aI];exact bG) ad
theorem aho {h:ah} {aj:List V} (aG:aj.length<=top):hY h aj=some (h.new (.bd aj 0 false)):=by unfold hY;rw [show Nat.ble aj.length top=true from by rw [aoT];exact aG];rfl
theorem zO {h:ah} {aj:List V} {dw:Nat} {st:Bool} (aG:aj.length<=top) (he:1<=dw):nm h aj dw st=some (h.new (.bd aj dw st)):=by unfold nm;rw [show Nat.ble aj.length top=true from by rw [aoT];exact aG,show Nat.ble 1 dw=true from by rw [aoT];exact he];rfl
theorem ig (h:ah) (k:c_):(h.new k).next=h.next+1:=rfl
theorem iO (h:ah) (b:aN) (k:c_):(h.set b k).next=h.next:=rfl
section
variable {P:Program} {r:a1} {h:ah}
theorem akQ (r:a1) (d:Nat) (v:V) (t:Nat):a1.set r (some d) v t=if t=d then v else r t:=(rfl)
theorem akR (r:a1) (v:V):a1.set r none v=r:=(rfl)
theorem alL (r:a1) (u:Nat) (us:List Nat) (t:Nat):a1.trim r (u::us) t=if t=u then r t else a1.trim r us t:=(rfl)
theorem ahK (v:V) (aj:List V):a1.bd (v::aj) 0=v:=(rfl)
theorem ahM (v:V) (aj:List V) (t:Nat):a1.bd (v::aj) (t+1)=a1.bd aj t:=by simp [a1.bd]
theorem aaS (r:a1) (n:Nat):aZ.aV r (.t n)=r n:=(rfl)
theorem aaR (r:a1) (v:V):aZ.aV r (.c v)=v:=(rfl)
theorem RL {d:Option Nat} {g:G} {rs:List Nat} {K:a1->V->ah->Prop} {X:V->ah->Prop}:cI.wp P ⟨d,g,none,rs⟩ r h K X=g.wp P (r.trim rs) h (fun v ae=>K (r.set d v) v ae) X:=(rfl)
theorem RI {d:Option Nat} {g:G} {j:Nat} {want:Bool} {rs:List Nat} {K:a1->V->ah->Prop} {X:V->ah->Prop}:cI.wp P ⟨d,g,some (j,want),rs⟩ r h K X=
 gate (r.trim rs j) want (g.wp P (r.trim rs) h (fun v ae=>K (r.set d v) v ae) X) (K (r.set d (.tuple [])) (.tuple []) h):=(rfl)
variable {K X:V->ah->Prop}
theorem q' (k:IntKind):tl k k=true:=by cases k<;>rfl
theorem sA (a b:Int):Int.leB a b=decide (a<=b):=qB a b
theorem Bo (a b:Int):Int.kk a b=decide (a=b):=by rw [q9];rfl
variable (k:IntKind) (a b:Int)
theorem aes:(fp.int .add).run P (.int k a) (.int k b)=some (.int k (k.wrap (a+b))):=by simp [fp.run,nH,qx,V.fK,q']
theorem afw:(fp.int .sub).run P (.int k a) (.int k b)=some (.int k (k.wrap (a-b))):=by simp [fp.run,nH,qx,V.fK,q']
theorem aff:(fp.int .mul).run P (.int k a) (.int k b)=some (.int k (k.wrap (a * b))):=by simp [fp.run,nH,qx,V.fK,q']
theorem Jr (ai:b≠0):(fp.int .rem).run P (.int k a) (.int k b)=some (.int k (a.tmod b)):=by simp [fp.run,nH,Cd,V.fK,q',Bo,ai]
theorem aeQ:(fp.int .eql).run P (.int k a) (.int k b)=some (.bool (decide (a=b))):=by simp [fp.run,nH,o_,V.fK,q',Bo]
theorem afi:(fp.int .neq).run P (.int k a) (.int k b)=some (.bool (!decide (a=b))):=by simp [fp.run,nH,o_,V.fK,q',Bo]
theorem afb:(fp.int .lss).run P (.int k a) (.int k b)=some (.bool (decide (a<b))):=by simp [fp.run,nH,o_,V.fK,q',sA];rw [aps];simp
theorem ae':(fp.int .leq).run P (.int k a) (.int k b)=some (.bool (decide (a<=b))):=by simp [fp.run,nH,o_,V.fK,q',sA]
theorem aeY:(fp.int .gtr).run P (.int k a) (.int k b)=some (.bool (decide (b<a))):=by simp [fp.run,nH,o_,V.fK,q',sA];rw [aps];simp
theorem aeX:(fp.int .geq).run P (.int k a) (.int k b)=some (.bool (decide (b<=a))):=by simp [fp.run,nH,o_,V.fK,q',sA]
theorem aev (x y:Bool):(fp.Bq false).run P (.bool x) (.bool y)=some (.bool (x == y)):=by simp [fp.run,k1,Bp,sb]
theorem aez (x y:Bool):(fp.Bq true).run P (.bool x) (.bool y)=some (.bool (!(x == y))):=by simp [fp.run,k1,Bp,sb]
theorem al_ (x:Bool):sP .not (.bool x)=some (.bool (!x)):=(rfl)
theorem al':sP .neg (.int k a)=some (.int k (k.wrap (0-a))):=(rfl)
theorem wrap_i64 {n:Int} (ad:-9223372036854775808<=n) (ag:n<=9223372036854775807):IntKind.i64.wrap n=n:=by exact Go.IntWalk.i64_in n ⟨ad,ag⟩
end
section
variable {P:Program} {r:a1} {h:ah} {Q:ec->a1->ah->Prop}
theorem YR {ops:List cI}:gz P (.cA ops) r h Q=uH P ops r h (Q .normal) fun bq x ae=>Q (.exit lK) (bq.set (some im) x) ae:=(rfl)
theorem YS {a b:cb}:gz P (.seq a b) r h Q=gz P a r h fun e bq ae=>e.andThen (gz P b bq ae Q) (Q e bq ae):=(rfl)
theorem alE {A B:Prop}:ec.andThen .normal A B=A:=(rfl)
theorem alF {A B:Prop}:ec.andThen .ret A B=B:=(rfl)
theorem alD {A B:Prop} {i:Nat}:ec.andThen (.exit i) A B=B:=(rfl)
theorem agx {id:Nat}:ec.leave id .normal=.normal:=(rfl)
theorem agy {id:Nat}:ec.leave id .ret=.ret:=(rfl)
theorem agw {id i:Nat}:ec.leave id (.exit i)=if i=id then .normal else .exit i:=(rfl)
end
def yh {α:Type} (o:Option α) (k:α->Prop):Prop:=
 match o with
 | some v=>k v
 | none=>False
@[congr] theorem aoi {α:Type} {o dV:Option α} {k:α->Prop} (h:o=dV):yh o k=yh dV k:=by rw [h]
def V.opt (c:Bool) (v:V):V:=bif c then v else .tuple []
theorem aiz (v:V):V.opt true v=v:=(rfl)
theorem aiw (v:V):V.opt false v=.tuple []:=(rfl)
@[congr] theorem an8 {c eV:Bool} {v ea:V} (h:c=eV) (bZ:eV=true->v=ea):V.opt c v=V.opt eV ea:=by
 subst h;cases c with
 | true=>rw [bZ rfl]
 | false=>rfl
def V.bif (t:Bool) (a b:V):V:=bif t then a else b
theorem amg (a b:V):V.bif true a b=a:=(rfl)
theorem amf (a b:V):V.bif false a b=b:=(rfl)
theorem Wj (t a b:Bool):V.bif t (.bool a) (.bool b)=.bool (bif t then a else b):=by cases t<;>rfl
theorem Wk (t:Bool) (k:IntKind) (a b:Int):V.bif t (.int k a) (.int k b)=.int k (if t=true then a else b):=by cases t<;>rfl
theorem Wm (t x:Bool):(bif t then true else x)=(t||x):=by cases t<;>rfl
theorem Wi (t x:Bool):(bif t then x else false)=(t&&x):=by cases t<;>rfl
@[congr] theorem am' {t jV:Bool} {a bF b ck:V} (h:t=jV) (b5:jV=true->a=bF) (ai:jV=false->b=ck):V.bif t a b=V.bif jV bF ck:=by
 subst h;cases t with
 | true=>rw [V.bif,V.bif,b5 rfl];rfl
 | false=>rw [V.bif,V.bif,ai rfl];rfl
def gR (c:Bool) (A:Prop):Prop:=c=true->A
@[congr] theorem amY {c eV:Bool} {A jw:Prop} (h:c=eV) (b5:eV=true->A=jw):gR c A=gR eV jw:=by subst h;exact propext ⟨fun q e=>(b5 e) ▸ q e,fun q e=>(b5 e) ▸ q e⟩
theorem Uy (c:Bool):gR c True=True:=propext ⟨fun _=>trivial,fun _ _=>trivial⟩
theorem UA (A:Prop):gR true A=A:=propext ⟨fun q=>q rfl,fun q _=>q⟩
theorem Uz (A:Prop):gR false A=True:=propext ⟨fun _=>trivial,fun _ e=>by cases e⟩
def took (v:V) (want:Bool):Bool:=
 match v with
 | .bool b=>b == want
 | _=>false
theorem alI (b w:Bool):took (.bool b) w=(b == w):=(rfl)
theorem alK (aj:List V) (w:Bool):took (.tuple aj) w=false:=(rfl)
theorem alJ (c:Bool) (v:V) (w:Bool):took (.opt c v) w=(c&&took v w):=by cases c<;>rfl
def hz (v:V):Prop:=
 match v with
 | .bool _=>True
 | .tuple _=>True
 | _=>False
theorem aem (b:Bool):hz (.bool b)=True:=(rfl)
theorem aeo (aj:List V):hz (.tuple aj)=True:=(rfl)
theorem aen (c b:Bool):hz (.opt c (.bool b))=True:=by cases c<;>rfl
def G.qy:G->Bool
 | .gM _ | .pick .. | .build .. | .kJ _ | .k9 .. | .qG _ | .bin .. | .un .. | .fn .. | .Cz .. | .yE .. | .xn .. | .vP .. | .c' .. | .iI .. | .wO .. | .wP .. | .l5 .. | .zs .. | .sx .. | .lA .. | .look .. | .ext .. | .zL _ | .fE _ | .DL _ | .E5 .. | .looks .. | .CP .. | .h' .. =>true
 | .lr (.int _) _=>true
 | .len .map _=>false
 | .len _ _=>true
 | _=>false
def V.t' {α:Type} (v:V) (d:α) (f:List V->α):α:=
 match v with
 | .agg cs=>f cs
 | _=>d
def V.CH {α:Type} (v:V) (d:α) (f:List V->α):α:=
 match v with
 | .tuple cs=>f cs
 | _=>d
def CR (c a b:V):Option V:=
 match c with
 | .bool t=>some (V.bif t a b)
 | _=>none
theorem ajE (t:Bool) (a b:V):CR (.bool t) a b=some (V.bif t a b):=(rfl)
def C2 (n:Nat) (x:V) (cX aJ m3:Option V):Option V:=
 match x with
 | .cL=>FV cX aJ m3
 | .slice b off xz cap=>Ag n b off xz cap cX aJ m3
 | .gp b off xz idx=>Af n b off xz idx cX aJ m3
 | .kz b off pd idx=>FW b off pd idx cX aJ m3
 | _=>none
def wE (f:V) (xs:List V) (s:V):Option V:=
 match f with
 | .func g cs=>bif Nat.beq g eA then none else some (.tuple (.func g (xs++cs)::s.list))
 | _=>none
theorem OO {g:FuncId} {cs xs:List V} {s:V} (ay:Nat.beq g eA=false):wE (.func g cs) xs s=some (.tuple (.func g (xs++cs)::s.list)):=by simp only [wE,ay,aoP]
def G.nU (P:Program) (g:G) (r:a1) (h:ah):Option V:=
 match g with
 | .gM x=>some (x.aV r)
 | .pick c a b=>CR (c.aV r) (a.aV r) (b.aV r)
 | .build z bK=>(match kE z (mn r bK) with
   | some cs=>some (.agg cs)
   | none=>none)
 | .kJ x=>pX h (x.aV r)
 | .k9 n x=>pW n h (x.aV r)
 | .qG x=>vC (x.aV r)
 | .bin k x y=>k.run P (x.aV r) (y.aV r)
 | .un op x=>sP op (x.aV r)
 | .lr (.int k) x=>(x.aV r).fK none fun _ n=>some (.int k (k.wrap n))
 | .fn f gK=>some (.func f (aZ.gE r gK))
 | .Cz f first=>some (.qE f (aZ.gE r first))
 | .yE t z ok x=>wq t z ok (x.aV r)
 | .xn t x=>some (.iface t (x.aV r))
 | .vP x cX aJ m3=>oA (x.aV r) (aZ.opt r cX) (aZ.opt r aJ) (aZ.opt r m3)
 | .c' n x cX aJ m3=>C2 n (x.aV r) (aZ.opt r cX) (aZ.opt r aJ) (aZ.opt r m3)
 | .iI off x=>(x.aV r).lG none fun b o=>some (.ptr b (o+off))
 | .wO off x=>(x.aV r).t' none fun cs=>cs[off]?
 | .wP off n x=>(x.aV r).t' none fun cs=>some (.agg ((cs.drop off).take n))
 | .l5 n x i=>(xq n).run (x.aV r) (i.aV r)
 | .zs n s x i=>(xp n s).run (x.aV r) (i.aV r)
 | .sx x i=>tQ.run (x.aV r) (i.aV r)
 | .lA t x i=>(tP P t).run (x.aV r) (i.aV r)
 | .look k z ok x i=>rG k.eq z ok h (x.aV r) (i.aV r)
 | .ext x i=>(x.aV r).CH none fun aj=>aj[i]?
 | .len (.arr n) _=>some (.int .i64 n)
 | .len .str x=>(qC .string).run (x.aV r)
 | .len .slice x=>(qC (.slice 0)).run (x.aV r)
 | .zL args=>mF (fun b a=>!Int.leB a b) (aZ.gE r args)
 | .fE args=>mF (fun b a=>!Int.leB b a) (aZ.gE r args)
 | .DL x=>A' (x.aV r)
 | .E5 z ok x i=>pY ⟨nT h⟩ z ok h (x.aV r) (i.aV r)
 | .looks k z ok x i=>bif sy P k (i.aV r) then pY (structEq P k) z ok h (x.aV r) (i.aV r) else none
 | .CP neg x y=>Ku neg h (x.aV r) (y.aV r)
 | .h' f args=>wE (f.aV r) (aZ.gE r args) (r cD)
 | _=>none
section
variable {P:Program} {r:a1} {h:ah}
theorem pure_run {g:G} (aF:g.qy=true) (call:gB):g.run P call r h=bh.of h (g.nU P r h):=by
 cases g<;>simp only [G.qy] at aF<;>try (cases aF;done)
 all_goals simp only [G.run,G.nU]
 case gM x=>rfl
 case pick c a b=>
  generalize c.aV r=q;cases q<;>rfl
 case build z bK=>
  generalize kE z (mn r bK)=q;cases q<;>rfl
 case lr k x=>
  cases k<;>simp only at aF<;>try (cases aF;done)
  simp only [uM.run];generalize x.aV r=q;cases q<;>rfl
 case fn f gK=>rfl
 case Cz f first=>rfl
 case xn t x=>rfl
 case c' n x cX aJ m3=>
  unfold C2;generalize x.aV r=q;cases q<;>rfl
 case wO off x=>
  generalize x.aV r=q;cases q<;>rfl
 case wP off n x=>
  generalize x.aV r=q;cases q<;>rfl
 case ext x i=>
  generalize x.aV r=q;cases q<;>rfl
 case len k x=>
  cases k<;>simp only at aF<;>first | rfl | (cases aF;done)
 case h' f args=>
  unfold wE;generalize f.aV r=q;cases q<;>try rfl
  rename_i g cs;simp only;cases Nat.beq g eA<;>rfl
theorem Pz {g:G} (aF:g.qy=true) {K X:V->ah->Prop}:g.wp P r h K X=yh (g.nU P r h) fun v=>K v h:=by
 have e:g.wp P r h K X=∃v ae,g.run P jN r h=.val v ae/\K v ae:=by cases g<;>first | rfl | (simp [G.qy] at aF;done)
 rw [e,pure_run aF];apply propext;cases bZ:g.nU P r h with
 | none=>exact ⟨fun ⟨v,ae,q,_⟩=>(by cases q),fun q=>q.elim⟩
 | some v=>
   constructor
   . rintro ⟨v1,ad,q,k⟩;simp only [bh.of,bh.val.injEq] at q;obtain ⟨rfl,rfl⟩:=q;exact k
   . intro k;exact ⟨v,h,rfl,k⟩
theorem RM {d:Option Nat} {g:G} {rs:List Nat} {K:a1->V->ah->Prop} {X:V->ah->Prop} (aF:g.qy=true):cI.wp P ⟨d,g,none,rs⟩ r h K X=yh (g.nU P (r.trim rs) h) fun v=>K (r.set d v) v h:=by rw [RL,Pz aF]
theorem RJ {d:Option Nat} {g:G} {j:Nat} {want:Bool} {rs:List Nat} {K:a1->V->ah->Prop} {X:V->ah->Prop} (aF:g.qy=true):cI.wp P ⟨d,g,some (j,want),rs⟩ r h K X=
 (hz (r.trim rs j)/\gR (took (r.trim rs j) want) ((g.nU P (r.trim rs) h).isSome=true)/\
   K (r.set d (V.opt (took (r.trim rs j) want) ((g.nU P (r.trim rs) h).getD .bad))) (V.opt (took (r.trim rs j) want) ((g.nU P (r.trim rs) h).getD .bad)) h):=by
 rw [RI,Pz aF];generalize r.trim rs j=q;generalize g.nU P (r.trim rs) h=o;apply propext;cases q<;>simp only [gate,hz,took,aqn,apV]
 case bool b=>
  cases b<;>cases want<;>cases o<;>simp [yh,gR,V.opt]
 case tuple aj=>simp [gR,V.opt]
@[congr] theorem aom {os:List cI} {r bq:a1} {h ae:ah} {K:a1->ah->Prop} {X:a1->V->ah->Prop} (aO:r=bq) (bs:h=ae):uH P os r h K X=uH P os bq ae K X:=by rw [aO,bs]
@[congr] theorem aok {os:List cI} {r bq:a1} {h ae:ah} {K:List fZ->a1->ah->Prop} {X:List fZ->a1->ah->V->ah->Prop} (aO:r=bq) (bs:h=ae):lQ P os r h K X=lQ P os bq ae K X:=by rw [aO,bs]
@[congr] theorem amW {o:cI} {r bq:a1} {h ae:ah} {K:a1->V->ah->Prop} {X:V->ah->Prop} (aO:r=bq) (bs:h=ae):o.wp P r h K X=o.wp P bq ae K X:=by rw [aO,bs]
@[congr] theorem amX {g:G} {r bq:a1} {h ae:ah} {K X:V->ah->Prop} (aO:r=bq) (bs:h=ae):g.wp P r h K X=g.wp P bq ae K X:=by rw [aO,bs]
@[congr] theorem aoj {c:cb} {r bq:a1} {h ae:ah} {Q:ec->a1->ah->Prop} (aO:r=bq) (bs:h=ae):gz P c r h Q=gz P c bq ae Q:=by rw [aO,bs]
@[congr] theorem amS {f:FuncId} {a bF:List V} {h ae:ah} {K:V->ah->Prop} (aO:a=bF) (bs:h=ae):dY P f a h K=dY P f bF ae K:=by rw [aO,bs]
def gv (k:c_) (off:Nat):Option V:=k.qU none fun n cs=>bif Nat.blt off n then some (T.get .bad (ao off) cs) else none
def rE (n:Nat) (k:c_) (off:Nat):Option V:=k.qU none fun m cs=>bif Nat.ble (off+n) m then some (.agg (mU cs off n)) else none
theorem agP (b:aN) (off:Nat):pX h (.ptr b off)=gv (h.get b) off:=(rfl)
theorem agQ (n:Nat) (b:aN) (off:Nat):pW n h (.ptr b off)=rE n (h.get b) off:=(rfl)
theorem Q4 {aj:List V} {off:Nat}:(bif Nat.blt off aj.length then some (T.get .bad (ao off) (hJ .e 0 aj)) else none)=aj[off]? :=by
 have:=HY aj 0 off .e;rw [aph] at this;rw [this];by_cases bG:off<aj.length
 . rw [show Nat.blt off aj.length=true from by rw [ape];exact bG,aoN bG];simp [aoB bG]
 . rw [show Nat.blt off aj.length=false from by rw [<-Bool.not_eq_true,ape];exact bG];rw [ao3 (by omega)];rfl
theorem zE (aj:List V) (dw:Nat) (st:Bool) (off:Nat):gv (.bd aj dw st) off=aj[off]? :=Q4
theorem Q3 (aj:List V) (off:Nat):gv (.ro aj) off=aj[off]? :=Q4
theorem Q8 {aj:List V} {off n:Nat}:(bif Nat.ble (off+n) aj.length then some (V.agg (mU (hJ .e 0 aj) off n)) else none)=if off+n<=aj.length then some (.agg ((aj.drop off).take n)) else none:=by
 by_cases bG:off+n<=aj.length
 . rw [show Nat.ble (off+n) aj.length=true from by rw [aoT];exact bG,aoN bG,Ed aj n off bG];rfl
 . rw [show Nat.ble (off+n) aj.length=false from by rw [<-Bool.not_eq_true,aoT];exact bG,aoI bG];rfl
theorem Q6 (n:Nat) (aj:List V) (dw:Nat) (st:Bool) (off:Nat):rE n (.bd aj dw st) off=if off+n<=aj.length then some (.agg ((aj.drop off).take n)) else none:=Q8
theorem Q7 (n:Nat) (aj:List V) (off:Nat):rE n (.ro aj) off=if off+n<=aj.length then some (.agg ((aj.drop off).take n)) else none:=Q8
theorem mi.kJ {b:aN} {aj:List V} (H:mi h b aj) (off:Nat):gv (h.get b) off=aj[off]? :=by
 rcases H with H | ⟨_,_,H⟩<;>rw [H]
 . exact Q3 aj off
 . exact zE aj _ _ off
theorem mi.k9 {b:aN} {aj:List V} (H:mi h b aj) (n off:Nat):rE n (h.get b) off=if off+n<=aj.length then some (.agg ((aj.drop off).take n)) else none:=by
 rcases H with H | ⟨_,_,H⟩<;>rw [H]
 . exact Q7 n aj off
 . exact Q6 n aj _ _ off
def over:List V->List V->List V
 | aj,[]=>aj
 | [],_::_=>[]
 | _::aj,w::ws=>w::over aj ws
def qW:List V->Nat->List V->List V
 | aj,0,ws=>over aj ws
 | [],_+1,_=>[]
 | v::aj,n+1,ws=>v::qW aj n ws
theorem R3:∀(aj ws:List V),ws.length<=aj.length->over aj ws=ws++aj.drop ws.length
 | aj,[],_=>by cases aj<;>rfl
 | [],_::_,h=>by simp at h
 | v::aj,w::ws,h=>by simp only [over,aoW,aoH,aqd];rw [R3 aj ws (by simpa using h)]
theorem FY:∀(aj:List V) (off:Nat) (ws:List V),off+ws.length<=aj.length->qW aj off ws=jU aj off ws
 | aj,0,ws,h=>by cases aj<;>simp only [qW,jU,List.take_zero,ao5,aph]<;>exact R3 _ ws (by omega)
 | [],n+1,ws,h=>by simp at h
 | v::aj,n+1,ws,h=>by simp only [aoH] at h;simp only [qW,jU];rw [FY aj n ws (by omega)];simp only [jU,apT,aoW];rw [show n+1+ws.length=n+ws.length+1 from by omega,aqd]
theorem ak_ (aj:List V) (off:Nat) (ws:List V) (h:off+ws.length<=aj.length):(qW aj off ws).length=aj.length:=by rw [FY aj off ws h,rQ aj off ws h]
def Cl (n:Nat) (h:ah) (b:aN) (off:Nat) (y:V) (k:c_):Option ah:=
 bif Nat.beq y.cells.length n then k.on none fun m cs dw st=>
  bif Nat.ble (off+y.cells.length) m&&gV y.cells then some (h.set b (.cells m (hJ cs off y.cells) dw st)) else none else none
theorem alh (n:Nat) (b:aN) (off:Nat) (y:V):qY n h (.ptr b off) y=Cl n h b off y (h.get b):=(rfl)
theorem agm {n:Nat} {b:aN} {off:Nat} {y:V} {aj:List V} {dw:Nat} {st:Bool} (ad:y.cells.length=n) (ag:gV y.cells=true) (ar:off+n<=aj.length):
 Cl n h b off y (.bd aj dw st)=some (h.set b (.bd (qW aj off y.cells) dw st)):=by
 unfold Cl;rw [show Nat.beq y.cells.length n=true from by rw [ao8];exact ad];simp only [aoJ,c_.bd,c_.on];rw [show Nat.ble (off+y.cells.length) aj.length=true from by rw [aoT,ad];exact ar,ag];simp only [apG,aoJ,aoC];rw [ak_ aj off _ (by rw [ad];exact ar),FY aj off _ (by rw [ad];exact ar),Kw _ aj off (by rw [ad];exact ar)]
theorem sf (k:c_):(h.new k).get (ao h.next)=k:=by rw [ah.k2,aoN rfl]
theorem k2 (b:aN) (k:c_):(h.new k).get b=if ao h.next=b then k else h.get b:=ah.k2 h b k
theorem ey (b ck:aN) (k:c_):(h.set b k).get ck=if b=ck then k else h.get ck:=ah.ey h b ck k
def Old (h:ah) (b:aN):Prop:=dP b<h.next
theorem J1 {b:aN} {i:Nat} (ai:Old h b) (aJ:h.next<=i):(ao i=b)=False:=by
 apply propext;constructor
 . intro e;unfold Old at ai;rw [<-e,dh] at ai;omega
 . exact False.elim
theorem RO {k:c_}:Old (h.new k) (ao h.next):=by unfold Old;rw [dh];exact Nat.lt_succ_self _
def D7 (off:Nat) (x:V):Option V:=x.lG none fun b o=>some (.ptr b (o+off))
theorem aa0 (off:Nat) (b:aN) (o:Nat):D7 off (.ptr b o)=some (.ptr b (o+off)):=(rfl)
theorem ahV {α:Type} (aj:List V) (d:α) (f:List V->α):V.CH (.tuple aj) d f=f aj:=(rfl)
theorem ahU {α:Type} (aj:List V) (d:α) (f:List V->α):V.t' (.agg aj) d f=f aj:=(rfl)
def k' (x:V):Option V:=(qC (.slice 0)).run x
theorem agF (b:aN) (off n c:Nat):k' (.slice b off n c)=some (.int .i64 n):=(rfl)
theorem agD (b:aN) (off n c:Nat):k' (.gp b off n c)=some (.int .i64 n):=(rfl)
theorem agG (b:aN) (off n c:Nat):k' (.kz b off n c)=some (.int .i64 0):=(rfl)
theorem agE:k' .cL=some (.int .i64 0):=(rfl)
def E0 (x:V):Option V:=(qC .string).run x
theorem agH (s:List UInt8):E0 (.str s)=some (.int .i64 s.length):=(rfl)
def j9 (n:Nat) (x i:V):Option V:=(xq n).run x i
theorem Jl (n:Nat) (b:aN) (off len cap:Nat) (k:IntKind) (i:Int):j9 n (.slice b off len cap) (.int k i)=if 0<=i/\i<len then some (.ptr b (off+i.toNat * n)) else none:=by simp only [j9,xq,V.fK,vr,sA];by_cases ad:0<=i<;>by_cases ag:(len:Int)<=i<;>simp [ad,ag]<;>omega
theorem Jk (n:Nat) (b:aN) (off len cap:Nat) (k:IntKind) (i:Int):j9 n (.gp b off len cap) (.int k i)=if 0<=i/\i<len then some (.ptr b (off+i.toNat * n)) else none:=by simp only [j9,xq,V.fK,vr,sA];by_cases ad:0<=i<;>by_cases ag:(len:Int)<=i<;>simp [ad,ag]<;>omega
def DP (k:IntKind) (x:V):Option V:=x.fK none fun _ n=>some (.int k (k.wrap n))
theorem ZV (k b0:IntKind) (n:Int):DP k (.int b0 n)=some (.int k (k.wrap n)):=(rfl)
end
structure iD where
 all:List cI
 asks:List (Nat × List Nat)
 es:List fZ
 kb:List Nat
 wl:List Nat
 Ao:Bool
def jE (D:Option iD) (r:a1) (h:ah) (v:V):Option iD:=
 match D with
 | none=>none
 | some d=>some ⟨d.all,d.asks,d.es++[⟨r,h,v⟩],d.kb,d.wl,d.Ao⟩
inductive iv where
 | os (D:Option iD) (os:List cI)
 | c (b:cb)
 | bp (id:Nat)
section
variable (P:Program)
def ta (D:Option iD) (es:List fZ) (aE:ah):Prop:=
 match D with
 | none=>True
 | some d=>bif d.Ao then Dz P d.all (d.es++es) aE d.asks else nB P d.all (d.es++es) aE d.asks
def uf (D:Option iD) (es:List fZ) (h:ah):Prop:=
 match D with
 | none=>True
 | some d=>bif d.Ao then False else (xo (d.es++es).length d.kb=true/\nB P d.all (d.es++es) h d.asks)
def vW (D:Option iD) (es:List fZ) (r:a1):a1:=
 match D with
 | none=>r
 | some d=>a1.sR (Bw (d.es++es) r) d.wl
def bL:List iv->ec->a1->ah->(ec->a1->ah->Prop)->Prop
 | [],e,r,h,Q=>Q e r h
 | .os D os::aQ,e,r,h,Q=>match e with
   | .normal=>lQ P os r h (fun es bq ae=>ta P D es ae/\bL aQ .normal bq ae Q) fun es cJ ad x ag=>uf P D es ad/\bL aQ (.exit lK) ((vW D es cJ).set (some im) x) ag Q
   | e=>bL aQ e r h Q
 | .c b::aQ,e,r,h,Q=>match e with
   | .normal=>gz P b r h fun e bq ae=>bL aQ e bq ae Q
   | e=>bL aQ e r h Q
 | .bp id::aQ,e,r,h,Q=>bL aQ (e.leave id) r h Q
def eG (o:Option V) (d:Option Nat) (D:Option iD) (os:List cI) (aQ:List iv) (r:a1) (h:ah) (Q:ec->a1->ah->Prop):Prop:=
 yh o fun v=>bL P (.os (jE D r h v) os::aQ) .normal (r.set d v) h Q
def lO (o:bh) (d:Option Nat) (D:Option iD) (os:List cI) (aQ:List iv) (r:a1) (aM:ah) (Q:ec->a1->ah->Prop):Prop:=
 match o with
 | .val v h=>bL P (.os (jE D r aM v) os::aQ) .normal (r.set d v) h Q
 | _=>False
def h0 (v:V) (want:Bool) (d:Option Nat) (g:G) (rs:List Nat) (D:Option iD) (os:List cI) (aQ:List iv) (r:a1) (h:ah) (Q:ec->a1->ah->Prop):Prop:=
 gate v want (bL P (.os D (⟨d,g,none,rs⟩::os)::aQ) .normal r h Q) (bL P (.os (jE D r h (.tuple [])) os::aQ) .normal (r.set d (.tuple [])) h Q)
def yL (v:V) (a b:cb) (aQ:List iv) (r:a1) (h:ah) (Q:ec->a1->ah->Prop):Prop:=
 match v with
 | .bool t=>(t=true->bL P (.c a::aQ) .normal r h Q)/\(t=false->bL P (.c b::aQ) .normal r h Q)
 | _=>False
def rJ (D:Option iD) (aQ:List iv) (r:a1) (h:ah) (x:V) (ae:ah) (Q:ec->a1->ah->Prop):Prop:=
 uf P D [] h/\bL P aQ (.exit lK) ((vW D [] r).set (some im) x) ae Q
def La (v:V) (D:Option iD) (aQ:List iv) (r:a1) (h:ah) (Q:ec->a1->ah->Prop):Prop:=
 ∃t y,v=.iface t y/\rJ P D aQ r h (.iface t y) h Q
def q5 (f:FuncId) (args:List V) (d:Option Nat) (D:Option iD) (os:List cI) (aQ:List iv) (r:a1) (h:ah) (Q:ec->a1->ah->Prop):Prop:=
 jW P f args h (fun v ae=>bL P (.os (jE D r h v) os::aQ) .normal (r.set d v) ae Q) fun x ae=>rJ P D aQ r h x ae Q
def Lr (xs:List V) (d:Option Nat) (D:Option iD) (os:List cI) (aQ:List iv) (r:a1) (h:ah) (Q:ec->a1->ah->Prop):Prop:=
 L_ P xs h fun v ae=>bL P (.os (jE D r h v) os::aQ) .normal (r.set d v) ae Q
def Hm (g:FuncId) (xs:List V) (d:Option Nat) (D:Option iD) (os:List cI) (aQ:List iv) (r:a1) (h:ah) (Q:ec->a1->ah->Prop):Prop:=
 if g=4294967296 then Lr P xs d D os aQ r h Q else q5 P g xs d D os aQ r h Q
def yJ (f:V) (args:List V) (d:Option Nat) (D:Option iD) (os:List cI) (aQ:List iv) (r:a1) (h:ah) (Q:ec->a1->ah->Prop):Prop:=
 ∃g xs,f.target args=some (g,xs)/\Hm P g xs d D os aQ r h Q
def zG (b:cb) (aQ:List iv) (r:a1) (h:ah) (Q:ec->a1->ah->Prop):Prop:=gz P (.loop b) r h fun e bq ae=>bL P aQ e bq ae Q
end
section
variable {P:Program} {r:a1} {h:ah} {Q:ec->a1->ah->Prop} {aQ:List iv} {os:List cI} {D:Option iD}
theorem ajV (r:a1) (h:ah) (v:V):jE none r h v=none:=(rfl)
theorem ajW (all:List cI) (asks:List (Nat × List Nat)) (es:List fZ) (kb wl:List Nat) (Ao:Bool) (r:a1) (h:ah) (v:V):jE (some ⟨all,asks,es,kb,wl,Ao⟩) r h v=some ⟨all,asks,es++[⟨r,h,v⟩],kb,wl,Ao⟩:=(rfl)
theorem cm {c:cb} (H:bL P [.c c] .normal r h Q):gz P c r h Q:=H
theorem EW {e:ec}:bL P [] e r h Q=Q e r h:=(rfl)
theorem aex {e:ec} {id:Nat}:bL P (.bp id::aQ) e r h Q=bL P aQ (e.leave id) r h Q:=(rfl)
theorem afr {a b:cb}:bL P (.c (.seq a b)::aQ) .normal r h Q=bL P (.c a::.c b::aQ) .normal r h Q:=by simp only [bL];rw [YS];congr 1;funext e bq ae;cases e<;>rfl
theorem aey {id:Nat} {b:cb}:bL P (.c (.block id b)::aQ) .normal r h Q=bL P (.c b::.bp id::aQ) .normal r h Q:=(rfl)
theorem TO:∀(os:List cI) (r:a1) (h:ah) (K:a1->ah->Prop) (X:a1->V->ah->Prop),lQ P os r h (fun _ r h=>K r h) (fun _ r _ x h=>X r x h)=uH P os r h K X
 | [],_,_,_,_=>rfl
 | o::os,r,h,K,X=>by simp only [lQ,uH];congr 1;funext bq v ae;exact TO os bq ae K X
theorem afo {ops:List cI}:bL P (.c (.cA ops)::aQ) .normal r h Q=bL P (.os none ops::aQ) .normal r h Q:=by simp only [bL,ta,uf,vW,apV];rw [TO (X:=fun bq x ae=>bL P aQ (.exit lK) (bq.set (some im) x) ae Q),YR]
theorem afs:bL P (.c .skip::aQ) .normal r h Q=bL P aQ .normal r h Q:=(rfl)
theorem afp:bL P (.c .ret::aQ) .normal r h Q=bL P aQ .ret r h Q:=(rfl)
theorem aeR {i:Nat}:bL P (.c (.exit i)::aQ) .normal r h Q=bL P aQ (.exit i) r h Q:=(rfl)
theorem aeH {b:cb}:bL P (.c b::aQ) .ret r h Q=bL P aQ .ret r h Q:=(rfl)
theorem aeE {b:cb} {i:Nat}:bL P (.c b::aQ) (.exit i) r h Q=bL P aQ (.exit i) r h Q:=(rfl)
theorem aeF {c:aZ} {a b:cb}:bL P (.c (.cond c a b)::aQ) .normal r h Q=yL P (c.aV r) a b aQ r h Q:=by simp only [bL,gz];cases c.aV r<;>rfl
theorem afa {b:cb}:bL P (.c (.loop b)::aQ) .normal r h Q=zG P b aQ r h Q:=(rfl)
theorem aeO {ops:List cI} {asks:List (Nat × List Nat)} {kb wl:List Nat}:bL P (.c (.draw ops asks kb wl)::aQ) .normal r h Q=bL P (.os (some ⟨ops,asks,[],kb,wl,false⟩) ops::aQ) .normal r h Q:=(rfl)
theorem aeP {ops:List cI} {asks:List (Nat × List Nat)}:bL P (.c (.DS ops asks)::aQ) .normal r h Q=bL P (.os (some ⟨ops,asks,[],[],[],true⟩) ops::aQ) .normal r h Q:=by simp only [bL,gz,ta,uf,aoJ,ao5,aqn]
theorem afm:bL P (.os none []::aQ) .normal r h Q=bL P aQ .normal r h Q:=by simp only [bL,lQ,ta,apV]
theorem aeN {all:List cI} {asks:List (Nat × List Nat)} {es:List fZ} {kb wl:List Nat}:bL P (.os (some ⟨all,asks,es,kb,wl,false⟩) []::aQ) .normal r h Q=(nB P all es h asks/\bL P aQ .normal r h Q):=by simp only [bL,lQ,ta,aoX,aoP]
theorem afx {all:List cI} {asks:List (Nat × List Nat)} {es:List fZ} {kb wl:List Nat}:bL P (.os (some ⟨all,asks,es,kb,wl,true⟩) []::aQ) .normal r h Q=(Dz P all es h asks/\bL P aQ .normal r h Q):=by simp only [bL,lQ,ta,aoX,aoJ]
theorem wo (D:Option iD) (r:a1) (h:ah) (v:V) (es:List fZ) (aE:ah):ta P (jE D r h v) es aE=ta P D (⟨r,h,v⟩::es) aE:=by
 cases D with
 | none=>rfl
 | some d=>simp only [jE,ta,api,aoW,ao5]
theorem xX (D:Option iD) (r:a1) (h:ah) (v:V) (es:List fZ) (aE:ah):uf P (jE D r h v) es aE=uf P D (⟨r,h,v⟩::es) aE:=by
 cases D with
 | none=>rfl
 | some d=>simp only [jE,uf,api,aoW,ao5]
theorem yg (D:Option iD) (r:a1) (h:ah) (v:V) (es:List fZ) (bq:a1):vW (jE D r h v) es bq=vW D (⟨r,h,v⟩::es) bq:=by
 cases D with
 | none=>rfl
 | some d=>simp only [jE,vW,api,aoW,ao5]
theorem iM {d:Option Nat} {g:G} {rs:List Nat} (aF:g.qy=true):bL P (.os D (⟨d,g,none,rs⟩::os)::aQ) .normal r h Q=eG P (g.nU P (r.trim rs) h) d D os aQ r h Q:=by simp only [bL,lQ,eG];rw [RM aF];simp only [wo,xX,yg]
theorem jq {d:Option Nat} {g:G} {j:Nat} {want:Bool} {rs:List Nat} (aF:g.qy=true):bL P (.os D (⟨d,g,some (j,want),rs⟩::os)::aQ) .normal r h Q=
 (hz (r.trim rs j)/\gR (took (r.trim rs j) want) ((g.nU P (r.trim rs) h).isSome=true)/\
   eG P (some (V.opt (took (r.trim rs j) want) ((g.nU P (r.trim rs) h).getD .bad))) d D os aQ r h Q):=by
 simp only [bL,lQ,eG,yh];rw [RJ aF];simp only [wo,xX,yg]
def G.QQ:G->Bool
 | .call .. | .tg .. | .fY .. =>true
 | _=>false
theorem ot {d:Option Nat} {g:G} {rs:List Nat} (aF:g.qy=false) (ax:g.QQ=false):bL P (.os D (⟨d,g,none,rs⟩::os)::aQ) .normal r h Q=lO P (g.run P jN (r.trim rs) h) d D os aQ r h Q:=by
 simp only [bL,lQ];rw [RL];have e:∀K X:V->ah->Prop,g.wp P (r.trim rs) h K X=∃v ae,g.run P jN (r.trim rs) h=.val v ae/\K v ae:=by intro K X;cases g<;>first | rfl | (simp [G.QQ] at ax;done)
 rw [e];unfold lO;simp only [bL,wo,xX,yg];cases g.run P jN (r.trim rs) h with
 | fail=>exact propext ⟨fun ⟨v,ae,q,_⟩=>(by cases q),fun q=>q.elim⟩
 | fY v1 ad=>exact propext ⟨fun ⟨v,ae,q,_⟩=>(by cases q),fun q=>q.elim⟩
 | val v1 ad=>
   apply propext;constructor
   . rintro ⟨v,ae,q,k⟩;simp only [bh.val.injEq] at q;obtain ⟨rfl,rfl⟩:=q;exact k
   . intro k;exact ⟨_,_,rfl,k⟩
theorem nf {d:Option Nat} {g:G} {j:Nat} {want:Bool} {rs:List Nat} (aF:g.qy=false):bL P (.os D (⟨d,g,some (j,want),rs⟩::os)::aQ) .normal r h Q=h0 P (r.trim rs j) want d g rs D os aQ r h Q:=by simp only [h0,bL,lQ,wo,xX,yg];rw [RI];rfl
theorem QU {d:Option Nat} {f:FuncId} {args:List aZ} {rs:List Nat}:bL P (.os D (⟨d,.call f args,none,rs⟩::os)::aQ) .normal r h Q=q5 P f (aZ.gE (r.trim rs) args) d D os aQ r h Q:=by simp only [q5,rJ,bL,lQ,wo,xX,yg];rfl
theorem aeD {d:Option Nat} {f:aZ} {args:List aZ} {rs:List Nat}:bL P (.os D (⟨d,.tg f args,none,rs⟩::os)::aQ) .normal r h Q=yJ P (f.aV (r.trim rs)) (aZ.gE (r.trim rs) args) d D os aQ r h Q:=by simp only [yJ,Hm,Lr,q5,rJ,bL,lQ,wo,xX,yg];rfl
theorem QV {d:Option Nat} {x:aZ} {rs:List Nat}:bL P (.os D (⟨d,.fY x,none,rs⟩::os)::aQ) .normal r h Q=La P (x.aV (r.trim rs)) D aQ r h Q:=by simp only [La,rJ,bL,lQ,wo,xX,yg];rfl
theorem Ts {t:TypeId} {y:V}:La P (.iface t y) D aQ r h Q=rJ P D aQ r h (.iface t y) h Q:=by
 apply propext;constructor
 . rintro ⟨jV,q0,e,k⟩;cases e;exact k
 . exact fun k=>⟨t,y,rfl,k⟩
theorem Fo {x:V} {ae:ah}:rJ P none aQ r h x ae Q=bL P aQ (.exit lK) (r.set (some im) x) ae Q:=by simp only [rJ,uf,vW,apV]
theorem ai9 {all:List cI} {asks:List (Nat × List Nat)} {es:List fZ} {kb wl:List Nat} {x:V} {ae:ah}:rJ P (some ⟨all,asks,es,kb,wl,false⟩) aQ r h x ae Q=
 ((xo es.length kb=true/\nB P all es h asks)/\bL P aQ (.exit lK) (((a1.sR (Bw es r) wl)).set (some im) x) ae Q):=by simp only [rJ,uf,vW,aoX,aoP]
theorem YV {f:V} {g:FuncId} {xs args:List V} {d:Option Nat} (aE:f.target args=some (g,xs)):yJ P f args d D os aQ r h Q=Hm P g xs d D os aQ r h Q:=by
 apply propext;constructor
 . rintro ⟨mq,aou,q,k⟩;rw [aE] at q;simp only [aoC,apy] at q;obtain ⟨rfl,rfl⟩:=q;exact k
 . intro k;exact ⟨_,_,aE,k⟩
theorem YU {g:FuncId} {cs args:List V} {d:Option Nat}:yJ P (.func g cs) args d D os aQ r h Q=if g=4294967296 then Lr P (args++cs) d D os aQ r h Q else q5 P g (args++cs) d D os aQ r h Q:=YV rfl
@[congr] theorem an' {o dV:Option V} {d:Option Nat} (e:o=dV):eG P o d D os aQ r h Q=eG P dV d D os aQ r h Q:=by rw [e]
@[congr] theorem an9 {o dV:bh} {d:Option Nat} (e:o=dV):lO P o d D os aQ r h Q=lO P dV d D os aQ r h Q:=by rw [e]
@[congr] theorem ane {v ea:V} {a b:cb} (e:v=ea):yL P v a b aQ r h Q=yL P ea a b aQ r h Q:=by rw [e]
@[congr] theorem anm {v ea:V} {want:Bool} {d:Option Nat} {g:G} {rs:List Nat} (e:v=ea):h0 P v want d g rs D os aQ r h Q=h0 P ea want d g rs D os aQ r h Q:=by rw [e]
@[congr] theorem anb {f HJ:V} {args AV:List V} {d:Option Nat} (aO:f=HJ) (bs:args=AV):yJ P f args d D os aQ r h Q=yJ P HJ AV d D os aQ r h Q:=by rw [aO,bs]
@[congr] theorem ana {f:FuncId} {args AV:List V} {d:Option Nat} (bs:args=AV):q5 P f args d D os aQ r h Q=q5 P f AV d D os aQ r h Q:=by rw [bs]
@[congr] theorem aol {e fi:ec} {bq:a1} {ae:ah} (ej:e=fi) (aO:r=bq) (bs:h=ae):bL P aQ e r h Q=bL P aQ fi bq ae Q:=by rw [ej,aO,bs]
@[congr] theorem anV {b:cb} {bq:a1} {ae:ah} (aO:r=bq) (bs:h=ae):zG P b aQ r h Q=zG P b aQ bq ae Q:=by rw [aO,bs]
theorem als {v:V} {d:Option Nat}:eG P (some v) d D os aQ r h Q=bL P (.os (jE D r h v) os::aQ) .normal (r.set d v) h Q:=(rfl)
theorem ak' {v:V} {ae:ah} {d:Option Nat}:lO P (.val v ae) d D os aQ r h Q=bL P (.os (jE D r h v) os::aQ) .normal (r.set d v) ae Q:=(rfl)
theorem Oy {t:Bool} {a b:cb}:yL P (.bool t) a b aQ r h Q=((t=true->bL P (.c a::aQ) .normal r h Q)/\(t=false->bL P (.c b::aQ) .normal r h Q)):=(rfl)
theorem PB {b:Bool} {d:Option Nat} {g:G} {rs:List Nat}:h0 P (.bool b) true d g rs D os aQ r h Q=((b=true->bL P (.os D (⟨d,g,none,rs⟩::os)::aQ) .normal r h Q)/\(b=false->bL P (.os (jE D r h (.tuple [])) os::aQ) .normal (r.set d (.tuple [])) h Q)):=(rfl)
theorem PA {b:Bool} {d:Option Nat} {g:G} {rs:List Nat}:h0 P (.bool b) false d g rs D os aQ r h Q=((b=false->bL P (.os D (⟨d,g,none,rs⟩::os)::aQ) .normal r h Q)/\(b=true->bL P (.os (jE D r h (.tuple [])) os::aQ) .normal (r.set d (.tuple [])) h Q)):=(rfl)
theorem abu {aj:List V} {want:Bool} {d:Option Nat} {g:G} {rs:List Nat}:h0 P (.tuple aj) want d g rs D os aQ r h Q=bL P (.os (jE D r h (.tuple [])) os::aQ) .normal (r.set d (.tuple [])) h Q:=(rfl)
theorem abn {c b:Bool} {want:Bool} {d:Option Nat} {f:FuncId} {args:List aZ} {rs:List Nat} (v:V)
 (bZ:(c&&(b == want))=true->e5 P f (aZ.gE (r.trim rs) args) h v h)
 (H:bL P (.os (jE D r h (V.opt (c&&(b == want)) v)) os::aQ) .normal (r.set d (V.opt (c&&(b == want)) v)) h Q):h0 P (V.opt c (.bool b)) want d (.call f args) rs D os aQ r h Q:=by
 unfold h0;rw [QU];cases c with
 | false=>exact H
 | true=>
   simp only [V.opt,aoJ,ap1] at bZ H ⊢;cases b<;>cases want<;>simp only [gate]
   . exact ⟨fun _=>.inl ⟨v,h,bZ rfl,H⟩,fun e=>by cases e⟩
   . exact ⟨fun e=>(by cases e),fun _=>H⟩
   . exact ⟨fun e=>(by cases e),fun _=>H⟩
   . exact ⟨fun _=>.inl ⟨v,h,bZ rfl,H⟩,fun e=>by cases e⟩
def vD (v:V) (o:Option ah):bh:=jc v o
theorem aiA (v:V) (ae:ah):vD v (some ae)=.val v ae:=(rfl)
def Mt (b:Bool) (o:bh):bh:=bif b then o else .fail
theorem Wz (o:bh):Mt true o=o:=(rfl)
def DC (n:Nat) (h:ah) (o:Option (List V)):bh:=
 match o with
 | some cs=>vD (.slice (ao h.next) 0 n n) (hY h cs)
 | none=>.fail
theorem WA (n:Nat) (cs:List V):DC n h (some cs)=vD (.slice (ao h.next) 0 n n) (hY h cs):=(rfl)
theorem akz {n size:Nat} {z:List V} {bK:List (Nat × Nat × aZ)}:(G.td n size z bK).run P jN r h=DC n h (kE (kP z n) (mn r bK)):=by
 simp only [G.run];cases kE (kP z n) (mn r bK) with
 | none=>rfl
 | some cs=>
   simp only [DC,vD,jc];cases hY h cs<;>rfl
theorem aa6 (cells:List V):kE cells []=some cells:=(rfl)
theorem aa4 {cells:List V} {off size:Nat} {v:V} {rest:List (Nat × Nat × V)} (ad:v.hO=true) (ag:v.cells.length=size) (ar:off+size<=cells.length):
 kE cells ((off,size,v)::rest)=kE (qW cells off v.cells) rest:=by
 simp only [kE];rw [ad,show Nat.beq v.cells.length size=true from by rw [ao8];exact ag,show Nat.ble (off+v.cells.length) cells.length=true from by rw [aoT,ag];exact ar];simp only [apG,aoJ];congr 1;have iI:∀(ws cs:List V) (o:Nat),o+ws.length<=cs.length->tm cs o ws=jU cs o ws:=by
  intro ws
  induction ws with
  | nil=>intro cs o _;simp [tm,jU]
  | cons w ws cc=>
    intro cs o bG;simp only [aoH] at bG;simp only [tm];rw [cc (cs.set o w) (o+1) (by simp;omega),S3 cs o w ws (by omega)]
 rw [iI _ _ _ (by rw [ag];exact ar),FY _ _ _ (by rw [ag];exact ar)]
def DE (o:Option (List V)):Option V:=
 match o with
 | some cs=>some (.agg cs)
 | none=>none
theorem WC (cs:List V):DE (some cs)=some (.agg cs):=(rfl)
theorem aaQ:mn r []=[]:=(rfl)
theorem aaP {o s:Nat} {x:aZ} {bK:List (Nat × Nat × aZ)}:mn r ((o,s,x)::bK)=(o,s,x.aV r)::mn r bK:=(rfl)
def s' (P:Program) (o:cI) (e:fZ) (H:ah):Prop:=o.wp P e.r H (fun _ ea _=>ea=e.v) (fun _ _=>False)
theorem V3 {ops:List cI} {es:List fZ} {aE:ah}:nB P ops es aE []=True:=(rfl)
theorem V2 {ops:List cI} {es:List fZ} {aE:ah} {p:Nat} {eF:List Nat} {rest:List (Nat × List Nat)}:nB P ops es aE ((p,eF)::rest)=(s_ P ops[p]? es[p]? es aE eF/\nB P ops es aE rest):=(rfl)
theorem VZ {o:Option cI} {e:Option fZ} {es:List fZ} {aE:ah}:s_ P o e es aE []=True:=(rfl)
theorem VW {o:cI} {e:fZ} {es:List fZ} {aE:ah} {s:Nat} {eF:List Nat}:s_ P (some o) (some e) es aE (s::eF)=(s' P o e (vf es aE s)/\s_ P (some o) (some e) es aE eF):=(rfl)
def Iq (o:Option fZ) (aE:ah):ah:=
 match o with
 | some e=>e.h
 | none=>aE
theorem acy (es:List fZ) (aE:ah) (s:Nat):vf es aE s=Iq es[s]? aE:=(rfl)
theorem acA (e:fZ) (aE:ah):Iq (some e) aE=e.h:=(rfl)
theorem acz (aE:ah):Iq none aE=aE:=(rfl)
theorem Mg {d:Option Nat} {g:G} {rs:List Nat} {e:fZ} {H:ah} (aF:g.qy=true):s' P ⟨d,g,none,rs⟩ e H=(g.nU P (e.r.trim rs) H=some e.v):=by
 unfold s';rw [RM aF];apply propext;cases g.nU P (e.r.trim rs) H with
 | none=>exact ⟨fun q=>q.elim,fun q=>(by cases q)⟩
 | some v=>exact ⟨fun q=>by rw [show v=e.v from q],fun q=>by cases q;rfl⟩
theorem Mf {d:Option Nat} {g:G} {j:Nat} {want:Bool} {rs:List Nat} {e:fZ} {H:ah} (aF:g.qy=true):s' P ⟨d,g,some (j,want),rs⟩ e H=
 (hz (e.r.trim rs j)/\gR (took (e.r.trim rs j) want) ((g.nU P (e.r.trim rs) H).isSome=true)/\V.opt (took (e.r.trim rs j) want) ((g.nU P (e.r.trim rs) H).getD .bad)=e.v):=by
 unfold s';rw [RJ aF]
theorem VX {d:Option Nat} {x:aZ} {rs:List Nat} {e:fZ} {H:ah}:s' P ⟨d,.kJ x,none,rs⟩ e H=(pX H (x.aV (e.r.trim rs))=some e.v):=Mg rfl
theorem VY {d:Option Nat} {n:Nat} {x:aZ} {rs:List Nat} {e:fZ} {H:ah}:s' P ⟨d,.k9 n x,none,rs⟩ e H=(pW n H (x.aV (e.r.trim rs))=some e.v):=Mg rfl
theorem V0 {d:Option Nat} {x:aZ} {j:Nat} {want:Bool} {rs:List Nat} {e:fZ} {H:ah}:s' P ⟨d,.kJ x,some (j,want),rs⟩ e H=
 (hz (e.r.trim rs j)/\gR (took (e.r.trim rs j) want) ((pX H (x.aV (e.r.trim rs))).isSome=true)/\V.opt (took (e.r.trim rs j) want) ((pX H (x.aV (e.r.trim rs))).getD .bad)=e.v):=Mf rfl
theorem V1 {d:Option Nat} {n:Nat} {x:aZ} {j:Nat} {want:Bool} {rs:List Nat} {e:fZ} {H:ah}:s' P ⟨d,.k9 n x,some (j,want),rs⟩ e H=
 (hz (e.r.trim rs j)/\gR (took (e.r.trim rs j) want) ((pW n H (x.aV (e.r.trim rs))).isSome=true)/\V.opt (took (e.r.trim rs j) want) ((pW n H (x.aV (e.r.trim rs))).getD .bad)=e.v):=Mf rfl
end
def FL (x:V) (h:ah):bh:=
 match x with
 | .str s=>.val (.ptr (ao h.next) 0) (h.new (.iter s 0))
 | _=>.fail
theorem aku (s:List UInt8) (h:ah):FL (.str s) h=.val (.ptr (ao h.next) 0) (h.new (.iter s 0)):=(rfl)
section
variable {P:Program} {r:a1} {h:ah} {Q:ec->a1->ah->Prop} {aQ:List iv} {os:List cI} {D:Option iD} {d:Option Nat} {rs:List Nat}
theorem afg {x:aZ}:bL P (.os D (⟨d,(.gM x),none,rs⟩::os)::aQ) .normal r h Q=eG P (some (x.aV (r.trim rs))) d D os aQ r h Q:=iM rfl
theorem af7 {x:aZ} {j:Nat} {want:Bool}:bL P (.os D (⟨d,(.gM x),some (j,want),rs⟩::os)::aQ) .normal r h Q=(hz (r.trim rs j)/\gR (took (r.trim rs j) want) ((some (x.aV (r.trim rs))).isSome=true)/\eG P (some (V.opt (took (r.trim rs j) want) ((some (x.aV (r.trim rs))).getD .bad))) d D os aQ r h Q):=jq rfl
theorem afn {c a b:aZ}:bL P (.os D (⟨d,(.pick c a b),none,rs⟩::os)::aQ) .normal r h Q=eG P (CR (c.aV (r.trim rs)) (a.aV (r.trim rs)) (b.aV (r.trim rs))) d D os aQ r h Q:=iM rfl
theorem aga {c a b:aZ} {j:Nat} {want:Bool}:bL P (.os D (⟨d,(.pick c a b),some (j,want),rs⟩::os)::aQ) .normal r h Q=(hz (r.trim rs j)/\gR (took (r.trim rs j) want) ((CR (c.aV (r.trim rs)) (a.aV (r.trim rs)) (b.aV (r.trim rs))).isSome=true)/\eG P (some (V.opt (took (r.trim rs j) want) ((CR (c.aV (r.trim rs)) (a.aV (r.trim rs)) (b.aV (r.trim rs))).getD .bad))) d D os aQ r h Q):=jq rfl
theorem aeC {z:List V} {bK:List (Nat × Nat × aZ)}:bL P (.os D (⟨d,(.build z bK),none,rs⟩::os)::aQ) .normal r h Q=eG P (DE (kE z (mn (r.trim rs) bK))) d D os aQ r h Q:=iM rfl
theorem afF {z:List V} {bK:List (Nat × Nat × aZ)} {j:Nat} {want:Bool}:bL P (.os D (⟨d,(.build z bK),some (j,want),rs⟩::os)::aQ) .normal r h Q=(hz (r.trim rs j)/\gR (took (r.trim rs j) want) ((DE (kE z (mn (r.trim rs) bK))).isSome=true)/\eG P (some (V.opt (took (r.trim rs j) want) ((DE (kE z (mn (r.trim rs) bK))).getD .bad))) d D os aQ r h Q):=jq rfl
theorem ae4 {x:aZ}:bL P (.os D (⟨d,(.kJ x),none,rs⟩::os)::aQ) .normal r h Q=eG P (pX h (x.aV (r.trim rs))) d D os aQ r h Q:=iM rfl
theorem afX {x:aZ} {j:Nat} {want:Bool}:bL P (.os D (⟨d,(.kJ x),some (j,want),rs⟩::os)::aQ) .normal r h Q=(hz (r.trim rs j)/\gR (took (r.trim rs j) want) ((pX h (x.aV (r.trim rs))).isSome=true)/\eG P (some (V.opt (took (r.trim rs j) want) ((pX h (x.aV (r.trim rs))).getD .bad))) d D os aQ r h Q):=jq rfl
theorem ae5 {n:Nat} {x:aZ}:bL P (.os D (⟨d,(.k9 n x),none,rs⟩::os)::aQ) .normal r h Q=eG P (pW n h (x.aV (r.trim rs))) d D os aQ r h Q:=iM rfl
theorem afY {n:Nat} {x:aZ} {j:Nat} {want:Bool}:bL P (.os D (⟨d,(.k9 n x),some (j,want),rs⟩::os)::aQ) .normal r h Q=(hz (r.trim rs j)/\gR (took (r.trim rs j) want) ((pW n h (x.aV (r.trim rs))).isSome=true)/\eG P (some (V.opt (took (r.trim rs j) want) ((pW n h (x.aV (r.trim rs))).getD .bad))) d D os aQ r h Q):=jq rfl
theorem afk {x:aZ}:bL P (.os D (⟨d,(.qG x),none,rs⟩::os)::aQ) .normal r h Q=eG P (vC (x.aV (r.trim rs))) d D os aQ r h Q:=iM rfl
theorem af' {x:aZ} {j:Nat} {want:Bool}:bL P (.os D (⟨d,(.qG x),some (j,want),rs⟩::os)::aQ) .normal r h Q=(hz (r.trim rs j)/\gR (took (r.trim rs j) want) ((vC (x.aV (r.trim rs))).isSome=true)/\eG P (some (V.opt (took (r.trim rs j) want) ((vC (x.aV (r.trim rs))).getD .bad))) d D os aQ r h Q):=jq rfl
theorem aew {k:fp} {x y:aZ}:bL P (.os D (⟨d,(.bin k x y),none,rs⟩::os)::aQ) .normal r h Q=eG P (k.run P (x.aV (r.trim rs)) (y.aV (r.trim rs))) d D os aQ r h Q:=iM rfl
theorem afC {k:fp} {x y:aZ} {j:Nat} {want:Bool}:bL P (.os D (⟨d,(.bin k x y),some (j,want),rs⟩::os)::aQ) .normal r h Q=(hz (r.trim rs j)/\gR (took (r.trim rs j) want) ((k.run P (x.aV (r.trim rs)) (y.aV (r.trim rs))).isSome=true)/\eG P (some (V.opt (took (r.trim rs j) want) ((k.run P (x.aV (r.trim rs)) (y.aV (r.trim rs))).getD .bad))) d D os aQ r h Q):=jq rfl
theorem afy {o:UnOp} {x:aZ}:bL P (.os D (⟨d,(.un o x),none,rs⟩::os)::aQ) .normal r h Q=eG P (sP o (x.aV (r.trim rs))) d D os aQ r h Q:=iM rfl
theorem agf {o:UnOp} {x:aZ} {j:Nat} {want:Bool}:bL P (.os D (⟨d,(.un o x),some (j,want),rs⟩::os)::aQ) .normal r h Q=(hz (r.trim rs j)/\gR (took (r.trim rs j) want) ((sP o (x.aV (r.trim rs))).isSome=true)/\eG P (some (V.opt (took (r.trim rs j) want) ((sP o (x.aV (r.trim rs))).getD .bad))) d D os aQ r h Q):=jq rfl
theorem aeM {f:aZ} {args:List aZ}:bL P (.os D (⟨d,(.h' f args),none,rs⟩::os)::aQ) .normal r h Q=eG P (wE (f.aV (r.trim rs)) (aZ.gE (r.trim rs) args) (r.trim rs cD)) d D os aQ r h Q:=iM rfl
theorem aeW {f:FuncId} {cs:List aZ}:bL P (.os D (⟨d,(.fn f cs),none,rs⟩::os)::aQ) .normal r h Q=eG P (some (V.func f (aZ.gE (r.trim rs) cs))) d D os aQ r h Q:=iM rfl
theorem afR {f:FuncId} {cs:List aZ} {j:Nat} {want:Bool}:bL P (.os D (⟨d,(.fn f cs),some (j,want),rs⟩::os)::aQ) .normal r h Q=(hz (r.trim rs j)/\gR (took (r.trim rs j) want) ((some (V.func f (aZ.gE (r.trim rs) cs))).isSome=true)/\eG P (some (V.opt (took (r.trim rs j) want) ((some (V.func f (aZ.gE (r.trim rs) cs))).getD .bad))) d D os aQ r h Q):=jq rfl
theorem aeu {t:TypeId} {z:Option V} {ok:Bool} {x:aZ}:bL P (.os D (⟨d,(.yE t z ok x),none,rs⟩::os)::aQ) .normal r h Q=eG P (wq t z ok (x.aV (r.trim rs))) d D os aQ r h Q:=iM rfl
theorem ae1 {t:TypeId} {x:aZ}:bL P (.os D (⟨d,(.xn t x),none,rs⟩::os)::aQ) .normal r h Q=eG P (some (V.iface t (x.aV (r.trim rs)))) d D os aQ r h Q:=iM rfl
theorem afU {t:TypeId} {x:aZ} {j:Nat} {want:Bool}:bL P (.os D (⟨d,(.xn t x),some (j,want),rs⟩::os)::aQ) .normal r h Q=(hz (r.trim rs j)/\gR (took (r.trim rs j) want) ((some (V.iface t (x.aV (r.trim rs)))).isSome=true)/\eG P (some (V.opt (took (r.trim rs j) want) ((some (V.iface t (x.aV (r.trim rs)))).getD .bad))) d D os aQ r h Q):=jq rfl
theorem afu {x:aZ} {cX aJ m3:Option aZ}:bL P (.os D (⟨d,(.vP x cX aJ m3),none,rs⟩::os)::aQ) .normal r h Q=eG P (oA (x.aV (r.trim rs)) (aZ.opt (r.trim rs) cX) (aZ.opt (r.trim rs) aJ) (aZ.opt (r.trim rs) m3)) d D os aQ r h Q:=iM rfl
theorem agd {x:aZ} {cX aJ m3:Option aZ} {j:Nat} {want:Bool}:bL P (.os D (⟨d,(.vP x cX aJ m3),some (j,want),rs⟩::os)::aQ) .normal r h Q=(hz (r.trim rs j)/\gR (took (r.trim rs j) want) ((oA (x.aV (r.trim rs)) (aZ.opt (r.trim rs) cX) (aZ.opt (r.trim rs) aJ) (aZ.opt (r.trim rs) m3)).isSome=true)/\eG P (some (V.opt (took (r.trim rs j) want) ((oA (x.aV (r.trim rs)) (aZ.opt (r.trim rs) cX) (aZ.opt (r.trim rs) aJ) (aZ.opt (r.trim rs) m3)).getD .bad))) d D os aQ r h Q):=jq rfl
theorem aft {n:Nat} {x:aZ} {cX aJ m3:Option aZ}:bL P (.os D (⟨d,(.c' n x cX aJ m3),none,rs⟩::os)::aQ) .normal r h Q=eG P (C2 n (x.aV (r.trim rs)) (aZ.opt (r.trim rs) cX) (aZ.opt (r.trim rs) aJ) (aZ.opt (r.trim rs) m3)) d D os aQ r h Q:=iM rfl
theorem agc {n:Nat} {x:aZ} {cX aJ m3:Option aZ} {j:Nat} {want:Bool}:bL P (.os D (⟨d,(.c' n x cX aJ m3),some (j,want),rs⟩::os)::aQ) .normal r h Q=(hz (r.trim rs j)/\gR (took (r.trim rs j) want) ((C2 n (x.aV (r.trim rs)) (aZ.opt (r.trim rs) cX) (aZ.opt (r.trim rs) aJ) (aZ.opt (r.trim rs) m3)).isSome=true)/\eG P (some (V.opt (took (r.trim rs j) want) ((C2 n (x.aV (r.trim rs)) (aZ.opt (r.trim rs) cX) (aZ.opt (r.trim rs) aJ) (aZ.opt (r.trim rs) m3)).getD .bad))) d D os aQ r h Q):=jq rfl
theorem aeT {o:Nat} {x:aZ}:bL P (.os D (⟨d,(.iI o x),none,rs⟩::os)::aQ) .normal r h Q=eG P (D7 o (x.aV (r.trim rs))) d D os aQ r h Q:=iM rfl
theorem afO {o:Nat} {x:aZ} {j:Nat} {want:Bool}:bL P (.os D (⟨d,(.iI o x),some (j,want),rs⟩::os)::aQ) .normal r h Q=(hz (r.trim rs j)/\gR (took (r.trim rs j) want) ((D7 o (x.aV (r.trim rs))).isSome=true)/\eG P (some (V.opt (took (r.trim rs j) want) ((D7 o (x.aV (r.trim rs))).getD .bad))) d D os aQ r h Q):=jq rfl
theorem aeU {o:Nat} {x:aZ}:bL P (.os D (⟨d,(.wO o x),none,rs⟩::os)::aQ) .normal r h Q=eG P ((x.aV (r.trim rs)).t' none fun cs=>cs[o]?) d D os aQ r h Q:=iM rfl
theorem afP {o:Nat} {x:aZ} {j:Nat} {want:Bool}:bL P (.os D (⟨d,(.wO o x),some (j,want),rs⟩::os)::aQ) .normal r h Q=(hz (r.trim rs j)/\gR (took (r.trim rs j) want) (((x.aV (r.trim rs)).t' none fun cs=>cs[o]?).isSome=true)/\eG P (some (V.opt (took (r.trim rs j) want) (((x.aV (r.trim rs)).t' none fun cs=>cs[o]?).getD .bad))) d D os aQ r h Q):=jq rfl
theorem aeV {o n:Nat} {x:aZ}:bL P (.os D (⟨d,(.wP o n x),none,rs⟩::os)::aQ) .normal r h Q=eG P ((x.aV (r.trim rs)).t' none fun cs=>some (V.agg ((cs.drop o).take n))) d D os aQ r h Q:=iM rfl
theorem afQ {o n:Nat} {x:aZ} {j:Nat} {want:Bool}:bL P (.os D (⟨d,(.wP o n x),some (j,want),rs⟩::os)::aQ) .normal r h Q=(hz (r.trim rs j)/\gR (took (r.trim rs j) want) (((x.aV (r.trim rs)).t' none fun cs=>some (V.agg ((cs.drop o).take n))).isSome=true)/\eG P (some (V.opt (took (r.trim rs j) want) (((x.aV (r.trim rs)).t' none fun cs=>some (V.agg ((cs.drop o).take n))).getD .bad))) d D os aQ r h Q):=jq rfl
theorem aeZ {n:Nat} {x i:aZ}:bL P (.os D (⟨d,(.l5 n x i),none,rs⟩::os)::aQ) .normal r h Q=eG P (j9 n (x.aV (r.trim rs)) (i.aV (r.trim rs))) d D os aQ r h Q:=iM rfl
theorem afS {n:Nat} {x i:aZ} {j:Nat} {want:Bool}:bL P (.os D (⟨d,(.l5 n x i),some (j,want),rs⟩::os)::aQ) .normal r h Q=(hz (r.trim rs j)/\gR (took (r.trim rs j) want) ((j9 n (x.aV (r.trim rs)) (i.aV (r.trim rs))).isSome=true)/\eG P (some (V.opt (took (r.trim rs j) want) ((j9 n (x.aV (r.trim rs)) (i.aV (r.trim rs))).getD .bad))) d D os aQ r h Q):=jq rfl
theorem ae0 {m n:Nat} {x i:aZ}:bL P (.os D (⟨d,(.zs m n x i),none,rs⟩::os)::aQ) .normal r h Q=eG P ((xp m n).run (x.aV (r.trim rs)) (i.aV (r.trim rs))) d D os aQ r h Q:=iM rfl
theorem afT {m n:Nat} {x i:aZ} {j:Nat} {want:Bool}:bL P (.os D (⟨d,(.zs m n x i),some (j,want),rs⟩::os)::aQ) .normal r h Q=(hz (r.trim rs j)/\gR (took (r.trim rs j) want) (((xp m n).run (x.aV (r.trim rs)) (i.aV (r.trim rs))).isSome=true)/\eG P (some (V.opt (took (r.trim rs j) want) (((xp m n).run (x.aV (r.trim rs)) (i.aV (r.trim rs))).getD .bad))) d D os aQ r h Q):=jq rfl
theorem ae3 {x i:aZ}:bL P (.os D (⟨d,(.sx x i),none,rs⟩::os)::aQ) .normal r h Q=eG P (tQ.run (x.aV (r.trim rs)) (i.aV (r.trim rs))) d D os aQ r h Q:=iM rfl
theorem afW {x i:aZ} {j:Nat} {want:Bool}:bL P (.os D (⟨d,(.sx x i),some (j,want),rs⟩::os)::aQ) .normal r h Q=(hz (r.trim rs j)/\gR (took (r.trim rs j) want) ((tQ.run (x.aV (r.trim rs)) (i.aV (r.trim rs))).isSome=true)/\eG P (some (V.opt (took (r.trim rs j) want) ((tQ.run (x.aV (r.trim rs)) (i.aV (r.trim rs))).getD .bad))) d D os aQ r h Q):=jq rfl
theorem ae2 {t:TypeId} {x i:aZ}:bL P (.os D (⟨d,(.lA t x i),none,rs⟩::os)::aQ) .normal r h Q=eG P ((tP P t).run (x.aV (r.trim rs)) (i.aV (r.trim rs))) d D os aQ r h Q:=iM rfl
theorem afV {t:TypeId} {x i:aZ} {j:Nat} {want:Bool}:bL P (.os D (⟨d,(.lA t x i),some (j,want),rs⟩::os)::aQ) .normal r h Q=(hz (r.trim rs j)/\gR (took (r.trim rs j) want) (((tP P t).run (x.aV (r.trim rs)) (i.aV (r.trim rs))).isSome=true)/\eG P (some (V.opt (took (r.trim rs j) want) (((tP P t).run (x.aV (r.trim rs)) (i.aV (r.trim rs))).getD .bad))) d D os aQ r h Q):=jq rfl
theorem ae_ {k:qb} {z:V} {ok:Bool} {x i:aZ}:bL P (.os D (⟨d,(.look k z ok x i),none,rs⟩::os)::aQ) .normal r h Q=eG P (rG k.eq z ok h (x.aV (r.trim rs)) (i.aV (r.trim rs))) d D os aQ r h Q:=iM rfl
theorem af3 {k:qb} {z:V} {ok:Bool} {x i:aZ} {j:Nat} {want:Bool}:bL P (.os D (⟨d,(.look k z ok x i),some (j,want),rs⟩::os)::aQ) .normal r h Q=(hz (r.trim rs j)/\gR (took (r.trim rs j) want) ((rG k.eq z ok h (x.aV (r.trim rs)) (i.aV (r.trim rs))).isSome=true)/\eG P (some (V.opt (took (r.trim rs j) want) ((rG k.eq z ok h (x.aV (r.trim rs)) (i.aV (r.trim rs))).getD .bad))) d D os aQ r h Q):=jq rfl
theorem aeS {x:aZ} {i:Nat}:bL P (.os D (⟨d,(.ext x i),none,rs⟩::os)::aQ) .normal r h Q=eG P ((x.aV (r.trim rs)).CH none fun aj=>aj[i]?) d D os aQ r h Q:=iM rfl
theorem afN {x:aZ} {i:Nat} {j:Nat} {want:Bool}:bL P (.os D (⟨d,(.ext x i),some (j,want),rs⟩::os)::aQ) .normal r h Q=(hz (r.trim rs j)/\gR (took (r.trim rs j) want) (((x.aV (r.trim rs)).CH none fun aj=>aj[i]?).isSome=true)/\eG P (some (V.opt (took (r.trim rs j) want) (((x.aV (r.trim rs)).CH none fun aj=>aj[i]?).getD .bad))) d D os aQ r h Q):=jq rfl
theorem afe {args:List aZ}:bL P (.os D (⟨d,(.zL args),none,rs⟩::os)::aQ) .normal r h Q=eG P (mF (fun b a=>!Int.leB a b) (aZ.gE (r.trim rs) args)) d D os aQ r h Q:=iM rfl
theorem af6 {args:List aZ} {j:Nat} {want:Bool}:bL P (.os D (⟨d,(.zL args),some (j,want),rs⟩::os)::aQ) .normal r h Q=(hz (r.trim rs j)/\gR (took (r.trim rs j) want) ((mF (fun b a=>!Int.leB a b) (aZ.gE (r.trim rs) args)).isSome=true)/\eG P (some (V.opt (took (r.trim rs j) want) ((mF (fun b a=>!Int.leB a b) (aZ.gE (r.trim rs) args)).getD .bad))) d D os aQ r h Q):=jq rfl
theorem afh {args:List aZ}:bL P (.os D (⟨d,(.fE args),none,rs⟩::os)::aQ) .normal r h Q=eG P (mF (fun b a=>!Int.leB b a) (aZ.gE (r.trim rs) args)) d D os aQ r h Q:=iM rfl
theorem af8 {args:List aZ} {j:Nat} {want:Bool}:bL P (.os D (⟨d,(.fE args),some (j,want),rs⟩::os)::aQ) .normal r h Q=(hz (r.trim rs j)/\gR (took (r.trim rs j) want) ((mF (fun b a=>!Int.leB b a) (aZ.gE (r.trim rs) args)).isSome=true)/\eG P (some (V.opt (took (r.trim rs j) want) ((mF (fun b a=>!Int.leB b a) (aZ.gE (r.trim rs) args)).getD .bad))) d D os aQ r h Q):=jq rfl
theorem aeJ {k:IntKind} {x:aZ}:bL P (.os D (⟨d,(.lr (.int k) x),none,rs⟩::os)::aQ) .normal r h Q=eG P (DP k (x.aV (r.trim rs))) d D os aQ r h Q:=iM rfl
theorem afK {k:IntKind} {x:aZ} {j:Nat} {want:Bool}:bL P (.os D (⟨d,(.lr (.int k) x),some (j,want),rs⟩::os)::aQ) .normal r h Q=(hz (r.trim rs j)/\gR (took (r.trim rs j) want) ((DP k (x.aV (r.trim rs))).isSome=true)/\eG P (some (V.opt (took (r.trim rs j) want) ((DP k (x.aV (r.trim rs))).getD .bad))) d D os aQ r h Q):=jq rfl
theorem ae8 {x:aZ}:bL P (.os D (⟨d,(.len .slice x),none,rs⟩::os)::aQ) .normal r h Q=eG P (k' (x.aV (r.trim rs))) d D os aQ r h Q:=iM rfl
theorem af1 {x:aZ} {j:Nat} {want:Bool}:bL P (.os D (⟨d,(.len .slice x),some (j,want),rs⟩::os)::aQ) .normal r h Q=(hz (r.trim rs j)/\gR (took (r.trim rs j) want) ((k' (x.aV (r.trim rs))).isSome=true)/\eG P (some (V.opt (took (r.trim rs j) want) ((k' (x.aV (r.trim rs))).getD .bad))) d D os aQ r h Q):=jq rfl
theorem ae9 {x:aZ}:bL P (.os D (⟨d,(.len .str x),none,rs⟩::os)::aQ) .normal r h Q=eG P (E0 (x.aV (r.trim rs))) d D os aQ r h Q:=iM rfl
theorem af2 {x:aZ} {j:Nat} {want:Bool}:bL P (.os D (⟨d,(.len .str x),some (j,want),rs⟩::os)::aQ) .normal r h Q=(hz (r.trim rs j)/\gR (took (r.trim rs j) want) ((E0 (x.aV (r.trim rs))).isSome=true)/\eG P (some (V.opt (took (r.trim rs j) want) ((E0 (x.aV (r.trim rs))).getD .bad))) d D os aQ r h Q):=jq rfl
theorem ae6 {n:Nat} {x:aZ}:bL P (.os D (⟨d,(.len (.arr n) x),none,rs⟩::os)::aQ) .normal r h Q=eG P (some (V.int .i64 n)) d D os aQ r h Q:=iM rfl
theorem afZ {n:Nat} {x:aZ} {j:Nat} {want:Bool}:bL P (.os D (⟨d,(.len (.arr n) x),some (j,want),rs⟩::os)::aQ) .normal r h Q=(hz (r.trim rs j)/\gR (took (r.trim rs j) want) ((some (V.int .i64 n)).isSome=true)/\eG P (some (V.opt (took (r.trim rs j) want) ((some (V.int .i64 n)).getD .bad))) d D os aQ r h Q):=jq rfl
theorem afj {z:List V}:bL P (.os D (⟨d,(.new z),none,rs⟩::os)::aQ) .normal r h Q=lO P (vD (.ptr (ao h.next) 0) (hY h z)) d D os aQ r h Q:=ot rfl rfl
theorem af9 {z:List V} {j:Nat} {want:Bool}:bL P (.os D (⟨d,(.new z),some (j,want),rs⟩::os)::aQ) .normal r h Q=h0 P (r.trim rs j) want d (.new z) rs D os aQ r h Q:=nf rfl
theorem aeA {x:aZ}:bL P (.os D (⟨d,(.box x),none,rs⟩::os)::aQ) .normal r h Q=lO P (Mt (x.aV (r.trim rs)).hO (vD (.ptr (ao h.next) 0) (hY h (x.aV (r.trim rs)).cells))) d D os aQ r h Q:=ot rfl rfl
theorem afD {x:aZ} {j:Nat} {want:Bool}:bL P (.os D (⟨d,(.box x),some (j,want),rs⟩::os)::aQ) .normal r h Q=h0 P (r.trim rs j) want d (.box x) rs D os aQ r h Q:=nf rfl
theorem aeB {n m:Nat} {z:List V} {bK:List (Nat × Nat × aZ)}:bL P (.os D (⟨d,(.td n m z bK),none,rs⟩::os)::aQ) .normal r h Q=lO P (DC n h (kE (kP z n) (mn (r.trim rs) bK))) d D os aQ r h Q:=by rw [ot rfl rfl,akz]
theorem afE {n m:Nat} {z:List V} {bK:List (Nat × Nat × aZ)} {j:Nat} {want:Bool}:bL P (.os D (⟨d,(.td n m z bK),some (j,want),rs⟩::os)::aQ) .normal r h Q=h0 P (r.trim rs j) want d (.td n m z bK) rs D os aQ r h Q:=nf rfl
theorem afv {n:Nat} {x y:aZ}:bL P (.os D (⟨d,(.st n x y),none,rs⟩::os)::aQ) .normal r h Q=lO P (vD .bad (qY n h (x.aV (r.trim rs)) (y.aV (r.trim rs)))) d D os aQ r h Q:=ot rfl rfl
theorem age {n:Nat} {x y:aZ} {j:Nat} {want:Bool}:bL P (.os D (⟨d,(.st n x y),some (j,want),rs⟩::os)::aQ) .normal r h Q=h0 P (r.trim rs j) want d (.st n x y) rs D os aQ r h Q:=nf rfl
theorem afd {n:Nat} {z:List V} {l c:aZ}:bL P (.os D (⟨d,(.Cy n z l c),none,rs⟩::os)::aQ) .normal r h Q=lO P (zI n z (l.aV (r.trim rs)) (c.aV (r.trim rs)) h) d D os aQ r h Q:=ot rfl rfl
theorem af5 {n:Nat} {z:List V} {l c:aZ} {j:Nat} {want:Bool}:bL P (.os D (⟨d,(.Cy n z l c),some (j,want),rs⟩::os)::aQ) .normal r h Q=h0 P (r.trim rs j) want d (.Cy n z l c) rs D os aQ r h Q:=nf rfl
theorem afz {k:qb} {m i x:aZ}:bL P (.os D (⟨d,(.uC k m i x),none,rs⟩::os)::aQ) .normal r h Q=lO P (vD .bad (qZ k.eq h (m.aV (r.trim rs)) (i.aV (r.trim rs)) (x.aV (r.trim rs)))) d D os aQ r h Q:=ot rfl rfl
theorem agh {k:qb} {m i x:aZ} {j:Nat} {want:Bool}:bL P (.os D (⟨d,(.uC k m i x),some (j,want),rs⟩::os)::aQ) .normal r h Q=h0 P (r.trim rs j) want d (.uC k m i x) rs D os aQ r h Q:=nf rfl
theorem afc {x:Option aZ}:bL P (.os D (⟨d,(.Cx x),none,rs⟩::os)::aQ) .normal r h Q=lO P (vy (aZ.opt (r.trim rs) x) h) d D os aQ r h Q:=ot rfl rfl
theorem af4 {x:Option aZ} {j:Nat} {want:Bool}:bL P (.os D (⟨d,(.Cx x),some (j,want),rs⟩::os)::aQ) .normal r h Q=h0 P (r.trim rs j) want d (.Cx x) rs D os aQ r h Q:=nf rfl
theorem afq {x:aZ}:bL P (.os D (⟨d,(.CY x),none,rs⟩::os)::aQ) .normal r h Q=lO P (FL (x.aV (r.trim rs)) h) d D os aQ r h Q:=(ot rfl rfl).trans (by first | rfl | (unfold FL;simp only [G.run];cases x.aV (r.trim rs)<;>rfl) | (unfold FL;cases x.aV (r.trim rs)<;>rfl))
theorem agb {x:aZ} {j:Nat} {want:Bool}:bL P (.os D (⟨d,(.CY x),some (j,want),rs⟩::os)::aQ) .normal r h Q=h0 P (r.trim rs j) want d (.CY x) rs D os aQ r h Q:=nf rfl
theorem afl {x:aZ}:bL P (.os D (⟨d,(.CF x),none,rs⟩::os)::aQ) .normal r h Q=lO P (xI (x.aV (r.trim rs)) h) d D os aQ r h Q:=ot rfl rfl
theorem af_ {x:aZ} {j:Nat} {want:Bool}:bL P (.os D (⟨d,(.CF x),some (j,want),rs⟩::os)::aQ) .normal r h Q=h0 P (r.trim rs j) want d (.CF x) rs D os aQ r h Q:=nf rfl
theorem aet {n:Nat} {s x:aZ}:bL P (.os D (⟨d,(.app n s x),none,rs⟩::os)::aQ) .normal r h Q=lO P (kj n (s.aV (r.trim rs)) (x.aV (r.trim rs)) h) d D os aQ r h Q:=ot rfl rfl
theorem afB {n:Nat} {s x:aZ} {j:Nat} {want:Bool}:bL P (.os D (⟨d,(.app n s x),some (j,want),rs⟩::os)::aQ) .normal r h Q=h0 P (r.trim rs j) want d (.app n s x) rs D os aQ r h Q:=nf rfl
theorem aeG {n:Nat} {dF s:aZ}:bL P (.os D (⟨d,(.copy n dF s),none,rs⟩::os)::aQ) .normal r h Q=lO P (copyV n (dF.aV (r.trim rs)) (s.aV (r.trim rs)) h) d D os aQ r h Q:=ot rfl rfl
theorem afI {n:Nat} {dF s:aZ} {j:Nat} {want:Bool}:bL P (.os D (⟨d,(.copy n dF s),some (j,want),rs⟩::os)::aQ) .normal r h Q=h0 P (r.trim rs j) want d (.copy n dF s) rs D os aQ r h Q:=nf rfl
theorem ae7 {x:aZ}:bL P (.os D (⟨d,(.len .map x),none,rs⟩::os)::aQ) .normal r h Q=lO P (Cp [x.aV (r.trim rs)] h) d D os aQ r h Q:=ot rfl rfl
theorem af0 {x:aZ} {j:Nat} {want:Bool}:bL P (.os D (⟨d,(.len .map x),some (j,want),rs⟩::os)::aQ) .normal r h Q=h0 P (r.trim rs j) want d (.len .map x) rs D os aQ r h Q:=nf rfl
theorem aeI {x:aZ}:bL P (.os D (⟨d,(.lr .bytes x),none,rs⟩::os)::aQ) .normal r h Q=lO P (Bg.run (x.aV (r.trim rs)) h) d D os aQ r h Q:=ot rfl rfl
theorem afJ {x:aZ} {j:Nat} {want:Bool}:bL P (.os D (⟨d,(.lr .bytes x),some (j,want),rs⟩::os)::aQ) .normal r h Q=h0 P (r.trim rs j) want d (.lr .bytes x) rs D os aQ r h Q:=nf rfl
theorem aeL {x:aZ}:bL P (.os D (⟨d,(.lr .str x),none,rs⟩::os)::aQ) .normal r h Q=lO P (u2.run (x.aV (r.trim rs)) h) d D os aQ r h Q:=ot rfl rfl
theorem afM {x:aZ} {j:Nat} {want:Bool}:bL P (.os D (⟨d,(.lr .str x),some (j,want),rs⟩::os)::aQ) .normal r h Q=h0 P (r.trim rs j) want d (.lr .str x) rs D os aQ r h Q:=nf rfl
theorem aeK {s dF:TypeId} {x:aZ}:bL P (.os D (⟨d,(.lr (.other s dF) x),none,rs⟩::os)::aQ) .normal r h Q=lO P ((r9 P s dF).run (x.aV (r.trim rs)) h) d D os aQ r h Q:=ot rfl rfl
theorem afL {s dF:TypeId} {x:aZ} {j:Nat} {want:Bool}:bL P (.os D (⟨d,(.lr (.other s dF) x),some (j,want),rs⟩::os)::aQ) .normal r h Q=h0 P (r.trim rs j) want d (.lr (.other s dF) x) rs D os aQ r h Q:=nf rfl
theorem afG {f:FuncId} {args:List aZ} {j:Nat} {want:Bool}:bL P (.os D (⟨d,(.call f args),some (j,want),rs⟩::os)::aQ) .normal r h Q=h0 P (r.trim rs j) want d (.call f args) rs D os aQ r h Q:=nf rfl
theorem afH {f:aZ} {args:List aZ} {j:Nat} {want:Bool}:bL P (.os D (⟨d,(.tg f args),some (j,want),rs⟩::os)::aQ) .normal r h Q=h0 P (r.trim rs j) want d (.tg f args) rs D os aQ r h Q:=nf rfl
end
theorem ahp (h:ah) (aj:List V):hY h aj=if aj.length<=top then some (h.new (.bd aj 0 false)) else none:=by
 by_cases aG:aj.length<=top
 . rw [aoN aG,aho aG]
 . rw [aoI aG];unfold hY;rw [show Nat.ble aj.length top=false from by rw [<-Bool.not_eq_true,aoT];exact aG];rfl
theorem agl (h:ah) (n:Nat) (b:aN) (off:Nat) (y:V) (aj:List V) (dw:Nat) (st:Bool):
 Cl n h b off y (.bd aj dw st)=if y.cells.length=n/\gV y.cells=true/\off+n<=aj.length then some (h.set b (.bd (qW aj off y.cells) dw st)) else none:=by
 by_cases ax:y.cells.length=n/\gV y.cells=true/\off+n<=aj.length
 . rw [aoN ax,agm ax.1 ax.2.1 ax.2.2]
 . rw [aoI ax];unfold Cl;by_cases ad:y.cells.length=n
   . rw [show Nat.beq y.cells.length n=true from by rw [ao8];exact ad];simp only [aoJ,c_.bd,c_.on];by_cases ag:gV y.cells=true
     . have ar:¬off+y.cells.length<=aj.length:=fun q=>ax ⟨ad,ag,by omega⟩;rw [show Nat.ble (off+y.cells.length) aj.length=false from by rw [<-Bool.not_eq_true,aoT];exact ar];rfl
     . rw [show gV y.cells=false from by simpa using ag,aqa];rfl
   . rw [show Nat.beq y.cells.length n=false from by rw [<-Bool.not_eq_true,ao8];exact ad];rfl
theorem aa5 (cells:List V) (off size:Nat) (v:V) (rest:List (Nat × Nat × V)):
 kE cells ((off,size,v)::rest)=if v.hO=true/\v.cells.length=size/\off+size<=cells.length then kE (qW cells off v.cells) rest else none:=by
 by_cases ax:v.hO=true/\v.cells.length=size/\off+size<=cells.length
 . rw [aoN ax,aa4 ax.1 ax.2.1 ax.2.2]
 . rw [aoI ax];simp only [kE];cases ai:(v.hO&&(Nat.beq v.cells.length size&&Nat.ble (off+v.cells.length) cells.length)) with
   | false=>rfl
   | true=>
     simp only [aoE,ao8,aoT] at ai;exact absurd ⟨ai.1,ai.2.1,by omega⟩ ax
theorem Y3 (b:Bool):V.cells (.bool b:V)=[.bool b]:=rfl
theorem ahY (b:Bool):V.one (.bool b:V)=true:=rfl
theorem abx (b:Bool):V.hO (.bool b:V)=true:=rfl
theorem Y7 (k:IntKind) (n:Int):V.cells (.int k n:V)=[.int k n]:=rfl
theorem RR (k:IntKind) (n:Int):V.one (.int k n:V)=true:=rfl
theorem abB (k:IntKind) (n:Int):V.hO (.int k n:V)=true:=rfl
theorem Ze (s:List UInt8):V.cells (.str s:V)=[.str s]:=rfl
theorem aia (s:List UInt8):V.one (.str s:V)=true:=rfl
theorem abK (s:List UInt8):V.hO (.str s:V)=true:=rfl
theorem Za:V.cells (.qI:V)=[.qI]:=rfl
theorem ah7:V.one (.qI:V)=true:=rfl
theorem abG:V.hO (.qI:V)=true:=rfl
theorem Zc (b:aN) (o:Nat):V.cells (.ptr b o:V)=[.ptr b o]:=rfl
theorem ah' (b:aN) (o:Nat):V.one (.ptr b o:V)=true:=rfl
theorem abI (b:aN) (o:Nat):V.hO (.ptr b o:V)=true:=rfl
theorem Zd (b:aN) (o l c:Nat):V.cells (.slice b o l c:V)=[.slice b o l c]:=rfl
theorem ah_ (b:aN) (o l c:Nat):V.one (.slice b o l c:V)=true:=rfl
theorem abJ (b:aN) (o l c:Nat):V.hO (.slice b o l c:V)=true:=rfl
theorem Y5 (b:aN) (o l c:Nat):V.cells (.gp b o l c:V)=[.gp b o l c]:=rfl
theorem ah1 (b:aN) (o l c:Nat):V.one (.gp b o l c:V)=true:=rfl
theorem abz (b:aN) (o l c:Nat):V.hO (.gp b o l c:V)=true:=rfl
theorem Zf (b:aN) (o l c:Nat):V.cells (.kz b o l c:V)=[.kz b o l c]:=rfl
theorem aib (b:aN) (o l c:Nat):V.one (.kz b o l c:V)=true:=rfl
theorem abL (b:aN) (o l c:Nat):V.hO (.kz b o l c:V)=true:=rfl
theorem Zb:V.cells (.cL:V)=[.cL]:=rfl
theorem ah8:V.one (.cL:V)=true:=rfl
theorem abH:V.hO (.cL:V)=true:=rfl
theorem Y_:V.cells (.qH:V)=[.qH]:=rfl
theorem ah6:V.one (.qH:V)=true:=rfl
theorem abF:V.hO (.qH:V)=true:=rfl
theorem Y8 (b:aN):V.cells (.map b:V)=[.map b]:=rfl
theorem ah3 (b:aN):V.one (.map b:V)=true:=rfl
theorem abC (b:aN):V.hO (.map b:V)=true:=rfl
theorem Y4 (f:FuncId) (cs:List V):V.cells (.func f cs:V)=[.func f cs]:=rfl
theorem ah0 (f:FuncId) (cs:List V):V.one (.func f cs:V)=true:=rfl
theorem aby (f:FuncId) (cs:List V):V.hO (.func f cs:V)=true:=rfl
theorem Y':V.cells (.tX:V)=[.tX]:=rfl
theorem ah5:V.one (.tX:V)=true:=rfl
theorem abE:V.hO (.tX:V)=true:=rfl
theorem Y6 (t:TypeId) (v:V):V.cells (.iface t v:V)=[.iface t v]:=rfl
theorem ah2 (t:TypeId) (v:V):V.one (.iface t v:V)=true:=rfl
theorem abA (t:TypeId) (v:V):V.hO (.iface t v:V)=true:=rfl
theorem Y9:V.cells (.nilIface:V)=[.nilIface]:=rfl
theorem ah4:V.one (.nilIface:V)=true:=rfl
theorem abD:V.hO (.nilIface:V)=true:=rfl
theorem Y2 (cs:List V):V.cells (.agg cs)=cs:=rfl
theorem abw (cs:List V):V.hO (.agg cs)=true:=rfl
theorem abM (cs:List V):V.hO (.tuple cs)=true:=rfl
theorem Vq (n:Nat):n+1+1=n+2:=rfl
theorem Vw (n:Nat):n+2+1=n+3:=rfl
theorem Vx (n:Nat):n+3+1=n+4:=rfl
theorem Vy (n:Nat):n+4+1=n+5:=rfl
theorem Vz (n:Nat):n+5+1=n+6:=rfl
theorem VA (n:Nat):n+6+1=n+7:=rfl
theorem VB (n:Nat):n+7+1=n+8:=rfl
theorem VC (n:Nat):n+8+1=n+9:=rfl
theorem VD (n:Nat):n+9+1=n+10:=rfl
theorem Vp (n:Nat):n+10+1=n+11:=rfl
theorem Vr (n:Nat):n+11+1=n+12:=rfl
theorem Vs (n:Nat):n+12+1=n+13:=rfl
theorem Vt (n:Nat):n+13+1=n+14:=rfl
theorem Vu (n:Nat):n+14+1=n+15:=rfl
theorem Vv (n:Nat):n+15+1=n+16:=rfl
theorem Fg (n:Nat):(n+1=n)=False:=aoV (by omega)
theorem amD (n:Nat):(n=n+1)=False:=aoV (by omega)
theorem sH (n:Nat):(n+2=n)=False:=aoV (by omega)
theorem amE (n:Nat):(n=n+2)=False:=aoV (by omega)
theorem xJ (n:Nat):(n+3=n)=False:=aoV (by omega)
theorem amF (n:Nat):(n=n+3)=False:=aoV (by omega)
theorem ahD (n:Nat):(n+4=n)=False:=aoV (by omega)
theorem amG (n:Nat):(n=n+4)=False:=aoV (by omega)
theorem ahE (n:Nat):(n+5=n)=False:=aoV (by omega)
theorem amH (n:Nat):(n=n+5)=False:=aoV (by omega)
theorem ahF (n:Nat):(n+6=n)=False:=aoV (by omega)
theorem amI (n:Nat):(n=n+6)=False:=aoV (by omega)
theorem ahG (n:Nat):(n+7=n)=False:=aoV (by omega)
theorem amJ (n:Nat):(n=n+7)=False:=aoV (by omega)
theorem ahH (n:Nat):(n+8=n)=False:=aoV (by omega)
theorem amK (n:Nat):(n=n+8)=False:=aoV (by omega)
theorem abt {P:Program} {r:a1} {h:ah} {Q:ec->a1->ah->Prop} {aQ:List iv} {os:List cI} {D:Option iD} {d:Option Nat} {g:G} {rs:List Nat}:h0 P (.bool true) true d g rs D os aQ r h Q=bL P (.os D (⟨d,g,none,rs⟩::os)::aQ) .normal r h Q:=by rw [PB];simp
theorem abp {P:Program} {r:a1} {h:ah} {Q:ec->a1->ah->Prop} {aQ:List iv} {os:List cI} {D:Option iD} {d:Option Nat} {g:G} {rs:List Nat}:h0 P (.bool false) false d g rs D os aQ r h Q=bL P (.os D (⟨d,g,none,rs⟩::os)::aQ) .normal r h Q:=by rw [PA];simp
theorem abr {P:Program} {r:a1} {h:ah} {Q:ec->a1->ah->Prop} {aQ:List iv} {os:List cI} {D:Option iD} {d:Option Nat} {g:G} {rs:List Nat}:h0 P (.bool true) false d g rs D os aQ r h Q=bL P (.os (jE D r h (.tuple [])) os::aQ) .normal (r.set d (.tuple [])) h Q:=by rw [PA];simp
theorem abq {P:Program} {r:a1} {h:ah} {Q:ec->a1->ah->Prop} {aQ:List iv} {os:List cI} {D:Option iD} {d:Option Nat} {g:G} {rs:List Nat}:h0 P (.bool false) true d g rs D os aQ r h Q=bL P (.os (jE D r h (.tuple [])) os::aQ) .normal (r.set d (.tuple [])) h Q:=by rw [PB];simp
theorem Wl (c:Bool) (a b:V):V.bif (!c) a (V.opt c b)=V.bif (!c) a b:=by cases c<;>rfl
theorem aed (A:Prop):(True->A)=A:=propext ⟨fun q=>q trivial,fun q _=>q⟩
theorem aec (A:Prop):(False->A)=True:=propext ⟨fun _=>trivial,fun _ q=>q.elim⟩
section
variable {P:Program}
theorem gb {b:cb} {aQ:List iv} {r:a1} {h:ah} {Q:ec->a1->ah->Prop} (I:a1->ah->Prop) (μ:a1->ah->Nat) (aM:I r h)
 (step:∀r h,I r h->bL P [.c b] .normal r h fun e bq ae=>e.andThen (I bq ae/\μ bq ae<μ r h) (bL P aQ e bq ae Q)):zG P b aQ r h Q:=
 ⟨I,μ,aM,step⟩
theorem abo {b want:Bool} {d:Option Nat} {f:FuncId} {args:List aZ} {rs:List Nat} {os:List cI} {D:Option iD} {aQ:List iv} {r:a1} {h:ah} {Q:ec->a1->ah->Prop} (v:V)
 (bZ:(b == want)=true->e5 P f (aZ.gE (r.trim rs) args) h v h)
 (H:bL P (.os (jE D r h (V.opt (b == want) v)) os::aQ) .normal (r.set d (V.opt (b == want) v)) h Q):h0 P (.bool b) want d (.call f args) rs D os aQ r h Q:=by
 have:=abn (P:=P) (c:=true) (b:=b) (want:=want) (d:=d) (f:=f) (args:=args) (rs:=rs) (D:=D) (os:=os) (aQ:=aQ) (r:=r) (h:=h) (Q:=Q) v;simp only [V.opt,aoJ,ap1] at this;exact this bZ H
theorem jz {b:Bool} {d:Option Nat} {f:FuncId} {args:List aZ} {rs:List Nat} {os:List cI} {D:Option iD} {aQ:List iv} {r:a1} {h:ah} {Q:ec->a1->ah->Prop} (v:V)
 (bZ:(!b)=true->e5 P f (aZ.gE (r.trim rs) args) h v h)
 (H:bL P (.os (jE D r h (V.opt (!b) v)) os::aQ) .normal (r.set d (V.opt (!b) v)) h Q):h0 P (.bool b) false d (.call f args) rs D os aQ r h Q:=by
 refine abo v ?_ ?_<;>rw [beq_false]<;>assumption
def V.toN:V->Nat
 | .int _ n=>n.toNat
 | _=>0
theorem alH (k:IntKind) (n:Int):V.toN (.int k n)=n.toNat:=rfl
theorem bQ {f:FuncId} {args:List V} {d:Option Nat} {os:List cI} {D:Option iD} {aQ:List iv} {r:a1} {h:ah} {Q:ec->a1->ah->Prop} {v:V}
 (c:e5 P f args h v h) (H:bL P (.os (jE D r h v) os::aQ) .normal (r.set d v) h Q):q5 P f args d D os aQ r h Q:=.inl ⟨v,h,c,H⟩
theorem aY {f:FuncId} {args:List V} {d:Option Nat} {os:List cI} {D:Option iD} {aQ:List iv} {r:a1} {h:ah} {Q:ec->a1->ah->Prop} {K:V->ah->Prop}
 (c:dY P f args h K) (H:∀v ae,K v ae->bL P (.os (jE D r h v) os::aQ) .normal (r.set d v) ae Q):q5 P f args d D os aQ r h Q:=.inl (c.mono H)
theorem cH {f:FuncId} {args:List V} {d:Option Nat} {os:List cI} {D:Option iD} {aQ:List iv} {r:a1} {h:ah} {Q:ec->a1->ah->Prop} {K X:V->ah->Prop}
 (c:jW P f args h K X) (H:∀v ae,K v ae->bL P (.os (jE D r h v) os::aQ) .normal (r.set d v) ae Q) (Ut:∀v ae,X v ae->rJ P D aQ r h v ae Q):q5 P f args d D os aQ r h Q:=c.mono H Ut
structure Ext (h ae:ah):Prop where
 next:h.next<=ae.next
 get:∀b,Old h b->ae.get b=h.get b
theorem Ext.refl (h:ah):Ext h h:=⟨aoz _,fun _ _=>rfl⟩
theorem Ext.cu {h ae:ah} (e:Ext h ae) {b:aN} (ai:Old h b):Old ae b:=apP ai e.next
theorem Ext.trans {h ae tp:ah} (e:Ext h ae) (fi:Ext ae tp):Ext h tp:=
 ⟨aoF e.next fi.next,fun b ai=>(fi.get b (e.cu ai)).trans (e.get b ai)⟩
theorem Ext.new {h ae:ah} (e:Ext h ae) (k:c_):Ext h (ae.new k):=
 ⟨Nat.le_succ_of_le e.next,fun b ai=>by rw [k2,aoI (fun q=>(J1 (h:=h) ai e.next) ▸ q)];exact e.get b ai⟩
theorem Ext.set {h ae:ah} (e:Ext h ae) {i:Nat} (aJ:h.next<=i) (k:c_):Ext h (ae.set (ao i) k):=
 ⟨e.next,fun b ai=>by rw [ey,aoI (fun q=>(J1 (h:=h) ai aJ) ▸ q)];exact e.get b ai⟩
theorem Ext.rd {h ae:ah} (e:Ext h ae) {b:aN} (ai:Old h b) {aj:List V} (H:mi h b aj):mi ae b aj:=by unfold mi at H ⊢;rw [e.get b ai];exact H
def lR (h:ah) (b:aN) (off:Nat) (aj:List V):Prop:=Old h b/\∃us,mi h b us/\off+aj.length<=us.length/\(us.drop off).take aj.length=aj
theorem lR.ext {h ae:ah} (e:Ext h ae) {b:aN} {off:Nat} {aj:List V} (H:lR h b off aj):lR ae b off aj:=by obtain ⟨aM,us,ad,ag,ar⟩:=H;exact ⟨e.cu aM,us,e.rd aM ad,ag,ar⟩
theorem lR.kJ {h:ah} {b:aN} {off:Nat} {aj:List V} (H:lR h b off aj) {i:Nat} (aJ:i<aj.length):gv (h.get b) (off+i)=some aj[i]:=by
 obtain ⟨_,us,ad,ag,ar⟩:=H;rw [ad.kJ,aoB (by omega)];congr 1;have:((us.drop off).take aj.length)[i]? =aj[i]? :=by rw [ar]
 rw [apt aJ,apD,aoB (by omega),aoB aJ] at this;simpa using this
theorem lR.k9 {h:ah} {b:aN} {off:Nat} {aj:List V} (H:lR h b off aj) {i n:Nat} (aJ:i+n<=aj.length):rE n (h.get b) (off+i)=some (.agg ((aj.drop i).take n)):=by
 obtain ⟨_,us,ad,ag,ar⟩:=H;rw [ad.k9,aoN (by omega)];congr 2;have:(((us.drop off).take aj.length).drop i).take n=(aj.drop i).take n:=by rw [ar]
 rw [<-this,List.drop_take,apv,List.take_take];congr 1;omega
def hi (h:ah) (size:Nat) (v:V) (n:Nat) (aj:List V):Prop:=
 aj.length=n * size/\match v with
  | .cL=>n=0
  | .slice b off len _=>len=n/\lR h b off aj
  | .gp b off len _=>len=n/\lR h b off aj
  | .kz _ _ _ _=>n=0
  | _=>False
theorem hi.ext {h ae:ah} (e:Ext h ae) {size:Nat} {v:V} {n:Nat} {aj:List V} (H:hi h size v n aj):hi ae size v n aj:=by refine ⟨H.1,?_⟩;have eY:=H.2;cases v<;>simp only at eY ⊢<;>first | exact eY | exact ⟨eY.1,eY.2.ext e⟩
theorem hi.len {h:ah} {size:Nat} {v:V} {n:Nat} {aj:List V} (H:hi h size v n aj):k' v=some (.int .i64 n):=by
 have eY:=H.2;cases v<;>simp only at eY<;>first
  | (rw [<-eY.1];rfl)
  | (subst eY;rfl)
  | (exact eY.elim)
theorem hi.l5 {h:ah} {size:Nat} {v:V} {n:Nat} {aj:List V} (H:hi h size v n aj) {k:IntKind} {i:Nat} (aJ:i<n):
 ∃b off,j9 size v (.int k i)=some (.ptr b (off+i * size))/\lR h b off aj:=by
 have eY:=H.2;cases v<;>simp only at eY<;>first
  | omega
  | (exact eY.elim)
  | skip
 . rename_i b off len cap;obtain ⟨rfl,ad⟩:=eY;refine ⟨b,off,?_,ad⟩;rw [Jl,aoN (by omega)];simp
 . rename_i b off len cap;obtain ⟨rfl,ad⟩:=eY;refine ⟨b,off,?_,ad⟩;rw [Jk,aoN (by omega)];simp
end
end
end Go.Proofs.YtahfljfikfkpnaaGreatDoor.ba
