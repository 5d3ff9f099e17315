/- The abstract machine and its walks (a verified interpreter of the model's code: plain definitions and lemmas, no condition). Printed by a program from longer texts: names made short. -/
import Derived.Test.YtjbiefneffiogaaGreatM1
import Derived.Scope
import Derived.IntWalk
set_option linter.unusedSectionVars false
set_option linter.unusedSimpArgs false
set_option linter.unusedVariables false
namespace Go.Proofs.YtjbiefneffiogaaGreat.bs
variable [Lay]
open Go Go.RowKit
section
variable {P:Program}
def lq (P:Program) (call:gd):Prop:=
 ∀(aR:Fr) f args h v J,call f args h=.val v J→∀E w xs,bW E args xs→cf aR E h w→
  ((∃fn,P.funcs[f]? =some fn∧fn.body.isSome=true)∧Calls P f xs.toArray w fun e aT=>∃a_ x,e=.returned x∧E.le a_∧Rel a_ v x∧cf aR a_ J aT)∨
  ∃a_ x aT,(callFunc f xs.toArray).run P w=.ok (.value x) aT∧E.le a_∧Rel a_ v x∧cf aR a_ J aT
theorem iZ {o:Oper} {a:Act} {w:World} {aR:Fr} {E:Env} {J:ai} {v:V} {m:Sem Value} {K:Act→World→Prop} {Q:Exit→Act→World→Prop}
 (ax:execOp a.eval o=(do pure (.value (←m)))) (g:eO aR P E w m v J) (dd:∀a_ x aT,E.le a_→Rel a_ v x→cf aR a_ J aT→K (a.put o.dst x) aT):o.wp P a w K Q:=by
 obtain ⟨Z,aT,a_,ad,ak,aB,bw⟩:=g
 unfold Oper.wp
 rw [ax,Sem.run_bind,ad]
 exact dd a_ Z aT ak aB bw
theorem DP {E:Env} {bd:Nat} {r:c7} {a:Act} (k:hD E bd r a):∀l:List (Nat × Operand),sB E ((uU l).run r) (l.map fun (i,x)=>(i,a.eval x))
 | []=>rfl
 | (i,x)::l=>by
   simp only [uU,List.map,sB]
   exact ⟨_,_,rfl,gp k x,DP k l⟩
theorem DN {E:Env} {bd:Nat} {r:c7} {a:Act} (k:hD E bd r a) (x:Option Operand):iU E ((r8 x).run r) (x.map a.eval):=by
 cases x with
 | none=>rfl
 | some x=>simp only [r8,iU,Option.map];exact ⟨_,rfl,gp k x⟩
theorem acP {v:V} {f:aV→Nat→bE} {r:V} {h:ai} (he:v.n4 .fail f=.val r h):∃b off,v=.ptr b off∧f b off=.val r h:=by
 cases v<;>simp only [V.n4] at he<;>first
  | (cases he;done)
  | exact ⟨_,_,rfl,he⟩
theorem acv {aR:Fr} {E:Env} {h J:ai} {w:World} (s:cf aR E h w) {x v:V} {X:Value} {ty:TypeId} (ax:Rel E x X) (he:AN x h=.val v J):eO aR P E w (Instr.next X true ty) v J:=by
 unfold AN at he
 obtain ⟨b,off,rfl,ad⟩:=acP he
 have af:=s.at (p:=_) (by simp only [Rel] at ax;exact ax.choose_spec.1)
 cases bl:h.get b with
 | dead=>rw [bl] at ad;cases ad
 | view _ _=>rw [bl] at ad;cases ad
 | cells _ _ _ _=>rw [bl] at ad;cases ad
 | mp _ _=>rw [bl] at ad;cases ad
 | iter st pos=>
   rw [bl] at ad af
   simp only at ad
   obtain ⟨aj,ak⟩:=qq ad
   rw [Nat.beq_eq] at aj
   subst aj
   obtain ⟨p,aQ,dF,x1,cU⟩:=af
   simp only [Rel] at ax
   obtain ⟨q,aZ,rfl⟩:=ax
   rw [aQ] at aZ;cases aZ
   have nn:(getObj p.bb).run P w=.ok (.stringIter ⟨⟨st⟩⟩ pos) w:=by simp only [getObj,Sem.run,cU]
   have gG:(⟨⟨st⟩⟩:ByteArray).size=st.length:=rfl
   cases a7:Nat.blt pos st.length with
   | true=>
     rw [a7] at ak
     simp only [cond_true,bE.val.injEq] at ak
     obtain ⟨rfl,rfl⟩:=ak
     rw [Nat.blt_eq] at a7
     let dV:Obj:=.stringIter ⟨⟨st⟩⟩ (pos + (zH st pos).2)
     let aT:World:={w with heap:=w.heap.setIfInBounds p.bb dV}
     have G7:=(Array.getElem?_eq_some_iff.1 cU).1
     have YK:(setObj p.bb dV).run P w=.ok () aT:=by simp only [setObj,Sem.run,cU];rfl
     refine ⟨.tuple #[.bool true,goInt pos,.int .i32 (zH st pos).1],aT,E,?_,Env.le.refl E,?_,s.set (p:=p) (by rw [bl];rfl) aQ dF (by simp [aT]) (fun j bQ=>?_) rfl rfl rfl (fun _ _ _ e=>by cases e) ?_⟩
     · simp only [Instr.next,x1,Sem.run_bind,nn,Result.andThen_ok,gG,if_pos a7]
       have:(Utf8.decode (⟨⟨st⟩⟩:ByteArray) pos)=zH st pos:=rfl
       simp only [this]
       rw [YK]
       rfl
     · simp only [Rel,bW]
       exact ⟨_,rfl,_,_,rfl,rfl,_,_,rfl,rfl,_,_,rfl,rfl,rfl⟩
     · simp only [aT,Array.getElem?_setIfInBounds]
       rw [if_neg (fun e=>bQ e.symm)]
     · exact ⟨p,aQ,dF,x1,by simp [aT,G7,dV]⟩
   | false=>
     rw [a7] at ak
     simp only [cond_false,bE.val.injEq] at ak
     obtain ⟨rfl,rfl⟩:=ak
     have rI:¬pos<st.length:=by rw [←Nat.blt_eq,a7];simp
     refine eO.plain (Z:=.tuple #[.bool false]) s ?_ ?_
     · simp only [Instr.next,x1,Sem.run_bind,nn,Result.andThen_ok,gG,if_neg rI,Sem.run_pure]
     · simp only [Rel,bW]
       exact ⟨_,rfl,_,_,rfl,rfl,rfl⟩
theorem adV {aR:Fr} {E:Env} {h J:ai} {w:World} (s:cf aR E h w) {t:TypeId} {x v:V} {X:Value} (ax:Rel E x X) (he:(DX P t).run x h=.val v J):eO aR P E w (Instr.range t X) v J:=by
 unfold DX at he
 cases aF:bF P t with
 | none=>rw [aF] at he;cases he
 | some a'=>
   rw [aF] at he
   simp only at he
   have hu:=h2 aF
   cases cM:a'.b0 with
   | string=>
     rw [cM] at he hu
     simp only at he
     cases x<;>simp only at he<;>try (cases he;done)
     rename_i st
     simp only [bE.val.injEq] at he
     obtain ⟨rfl,rfl⟩:=he
     have:=ax.tx;subst this
     have fU:=s.fresh h.next (Nat.le_refl _)
     have fP:E.put (ao h.next) ⟨w.heap.size,0,0⟩ (ao h.next)=some ⟨w.heap.size,0,0⟩:=by unfold Env.put;rw [if_pos rfl]
     refine ⟨.pointer (some ⟨w.heap.size,0,none⟩),{w with heap:=w.heap.push (.stringIter ⟨⟨st⟩⟩ 0)},_,?_,Env.s_ (p:=⟨w.heap.size,0,0⟩) fU,?_,s.alloc 0 ?_⟩
     · simp only [Instr.range,Sem.run_bind,hu,Result.andThen_ok,Sem.run_pure,run_newObj]
     · simp only [Rel];exact ⟨_,fP,by simp⟩
     · exact ⟨_,fP,s.frame.size,rfl,by simp⟩
   | _=>rw [cM] at he;cases he
theorem SM {aR:Fr} {E:Env} {h J:ai} {w:World} (s:cf aR E h w) {t u:TypeId} {x y v:V} {X Y:Value} {ty:TypeId}
 (he:(Cd P t u).run x y h=.val v J) (ax:Rel E x X) (bG:Rel E y Y):eO aR P E w (Builtin.append_ #[t,u] ty #[X,Y]) v J:=by
 unfold Cd at he
 cases aF:bF P t with
 | none=>rw [aF] at he;cases he
 | some a'=>
   cases hu:bF P u with
   | none=>rw [aF,hu] at he;cases he
   | some tA=>
     rw [aF,hu] at he
     simp only at he
     have main:(∀k,tA.b0≠.int k)→(match a'.b0 with
      | .slice e=>match bF P e with
        | none=>(⟨fun _ _ _=>.fail⟩:Bw)
        | some bL=>match bL.zero with
          | none=>⟨fun _ _ _=>.fail⟩
          | some z=>bif Nat.ble 1 bL.size&&Nat.ble bL.bytes 4096&&Nat.beq z.cells.length bL.size then ⟨l2 bL.size⟩ else ⟨fun _ _ _=>.fail⟩
      | _=>⟨fun _ _ _=>.fail⟩).run x y h=.val v J→eO aR P E w (Builtin.append_ #[t,u] ty #[X,Y]) v J:=by
      intro GW he
      cases cM:a'.b0 with
      | slice e=>
        rw [cM] at he
        simp only at he
        cases du:bF P e with
        | none=>rw [du] at he;cases he
        | some bL=>
          rw [du] at he
          simp only at he
          cases bD:bL.zero with
          | none=>rw [bD] at he;cases he
          | some z=>
            rw [bD] at he
            simp only at he
            cases aC:(Nat.ble 1 bL.size&&Nat.ble bL.bytes 4096&&Nat.beq z.cells.length bL.size) with
            | false=>rw [aC] at he;cases he
            | true=>
              rw [aC] at he
              simp only [cond_true] at he
              simp only [Bool.and_eq_true,Nat.ble_eq,Nat.beq_eq] at aC
              obtain ⟨u9,Hr,_,wg⟩:=w8 (P:=P) (E:=E) du bD w
              refine SO s ⟨fun w=>?_,⟨tA.b0,fun w=>h2 hu w,GW⟩,fun w=>lS du w,fun w=>QI du w,⟨u9,Hr,by rw [wg];exact aC.2⟩,aC.1.1,aC.1.2⟩ he ax bG
              have:=h2 aF w
              rw [cM] at this
              exact this
      | _=>rw [cM] at he;cases he
     cases Ax:tA.b0 with
     | int k=>rw [Ax] at he;cases he
     | _=>rw [Ax] at he;exact main (by rw [Ax];simp) he
theorem VM {aR:Fr} {E:Env} {h J:ai} {w:World} (s:cf aR E h w) {t:TypeId} {rest:List TypeId} {x y v:V} {X Y:Value} {ty:TypeId}
 (he:(Cs P t).run x y h=.val v J) (ax:Rel E x X) (bG:Rel E y Y):eO aR P E w (Builtin.copy_ (t::rest).toArray ty #[X,Y]) v J:=by
 unfold Cs at he
 cases aF:bF P t with
 | none=>rw [aF] at he;cases he
 | some a'=>
   rw [aF] at he
   simp only at he
   cases cM:a'.b0 with
   | slice e=>
     rw [cM] at he
     simp only at he
     cases du:bF P e with
     | none=>rw [du] at he;cases he
     | some bL=>
       rw [du] at he
       simp only at he
       exact VN s (fun w=>by have:=h2 aF w;rw [cM] at this;exact this) (fun w=>lS du w) he ax bG
   | _=>rw [cM] at he;cases he
theorem Vx {aR:Fr} {E:Env} {h J:ai} {w:World} (s:cf aR E h w) {t:TypeId} {x v:V} {X:Value} {ty:TypeId} {z:List V} (aC:zD P t=some z)
 (he:t' z x h=.val v J) (ax:Rel E x X):eO aR P E w (Builtin.clear_ #[t] ty #[X]) v J:=by
 unfold zD at aC
 cases aF:bF P t with
 | none=>rw [aF] at aC;cases aC
 | some a'=>
   rw [aF] at aC
   simp only at aC
   cases cM:a'.b0 with
   | slice e=>
     rw [cM] at aC
     simp only at aC
     cases du:bF P e with
     | none=>rw [du] at aC;cases aC
     | some bL=>
       rw [du] at aC
       simp only at aC
       cases bD:bL.zero with
       | none=>rw [bD] at aC;cases aC
       | some z0=>
         rw [bD] at aC
         simp only [Option.some.injEq] at aC
         subst aC
         have hu:∀w,(underlying t).run P w=.ok (.slice e) w:=fun w=>by have:=h2 aF w;rw [cM] at this;exact this
         obtain ⟨z,Dg,Zf,OE⟩:=w8 (P:=P) (E:=E) du bD w
         have nothing:∀a c,X=.slice a 0 c→v=.tuple []→J=h→eO aR P E w (Builtin.clear_ #[t] ty #[X]) v J:=by
          intro a c gB bh cU
          subst gB bh cU
          refine ⟨.tuple #[],w,E,?_,Env.le.refl E,?_,s⟩
          · cases a<;>simp [Builtin.clear_,Sem.run_bind,hu,Result.andThen_ok,Sem.run_pure]
          · simp only [Rel];exact ⟨_,rfl,rfl⟩
         have QU:∀(b:aV) (off n c:Nat) (p:nI),E b=some p→X=.slice (some ⟨p.bb,p.base+off,none⟩) n c→(bif Nat.beq n 0 then (bE.val (.tuple []) h) else (match lay h b off (hN z0.cells n) with
          | some J=>bE.val (.tuple []) J
          | none=>.fail))=.val v J→eO aR P E w (Builtin.clear_ #[t] ty #[X]) v J:=by
          intro b off n c p aQ gB he
          cases n with
          | zero=>
            simp only [Nat.beq_refl,cond_true,bE.val.injEq] at he
            exact nothing _ _ gB he.1.symm he.2.symm
          | succ n=>
            simp only [show Nat.beq (n+1) 0=false from rfl,cond_false] at he
            cases aL:lay h b off (hN z0.cells (n+1)) with
            | none=>rw [aL] at he;cases he
            | some ad=>
              rw [aL] at he
              simp only [bE.val.injEq] at he
              obtain ⟨rfl,rfl⟩:=he
              obtain ⟨aT,bH,bM⟩:=yk (P:=P) s (D1 Zf (n+1)) aL aQ
              subst gB
              refine ⟨.tuple #[],aT,E,?_,Env.le.refl E,?_,bM⟩
              · simp only [Builtin.clear_,Sem.run_bind,List.getElem?_toArray,List.getElem?_cons_zero,hu,Dg,Result.andThen_ok]
                have:(storeCells ⟨p.bb,p.base+off,none⟩ (Builtin.zeroCells z.cells (n+1)).toList).run P w=.ok () aT:=bH
                simp [this,Sem.run_pure,Result.andThen_ok]
              · simp only [Rel];exact ⟨_,rfl,rfl⟩
         unfold t' at he
         cases x<;>simp only at he<;>try (cases he;done)
         · simp only [Rel] at ax
           obtain ⟨p,bH,bM,cT⟩:=ax
           exact QU _ _ _ _ p bH cT he
         · simp only [Rel] at ax
           obtain ⟨p,bH,bM,cT⟩:=ax
           exact QU _ _ _ _ p bH cT he
         · simp only [Rel] at ax
           obtain ⟨a,c,rfl⟩:=ax
           simp only [bE.val.injEq] at he
           exact nothing _ _ rfl he.1.symm he.2.symm
         · simp only [Rel] at ax
           simp only [bE.val.injEq] at he
           exact nothing _ _ ax he.1.symm he.2.symm
   | _=>rw [cM] at aC;cases aC
theorem Vf {E:Env} {t:TypeId} {a':pv} {x v:V} {X:Value} {ty:TypeId} (aF:bF P t=some a') (aM:HE a'.b0=true) (he:FM x=some v) (ax:Rel E x X) (w:World):
 ∃Z,(Builtin.cap_ #[t] ty #[X]).run P w=.ok Z w∧Rel E v Z:=by
 cases cM:a'.b0 with
 | slice e=>
   have hu:∀w,(underlying t).run P w=.ok (.slice e) w:=fun w=>by have:=h2 aF w;rw [cM] at this;exact this
   cases x<;>simp only [FM] at he<;>try (cases he;done)
   · simp only [Rel] at ax
     obtain ⟨p,_,_,rfl⟩:=ax
     cases he
     refine ⟨_,?_,rfl⟩
     simp [Builtin.cap_,Sem.run_bind,hu,Result.andThen_ok,Sem.run_pure]
     rfl
   · simp only [Rel] at ax
     subst ax
     cases he
     refine ⟨_,?_,rfl⟩
     simp [Builtin.cap_,Sem.run_bind,hu,Result.andThen_ok,Sem.run_pure]
     rfl
 | _=>rw [cM] at aM;cases aM
theorem Bl {α:Type} (a:Array α):a.toList.toArray=a:=by simp
theorem Tk {aR:Fr} {E:Env} {h J:ai} {w:World} (s:cf aR E h w) {b:Builtin} {dm:Array TypeId} {args:List V} {xs:List Value} {v:V} {ty:TypeId} {cs:Array Bool} (aL:bW E args xs)
 (he:(sF P b dm.toList).run args h=.val v J):∃m:Sem Value,Go.builtin b dm ty cs xs.toArray=(do pure (.value (←m)))∧eO aR P E w m v J:=by
 have one:∀{x:V},bW E [x] xs→∃X,xs=[X]∧Rel E x X:=by
  intro x h
  simp only [bW] at h
  obtain ⟨y,gm,rfl,bG,rfl⟩:=h
  exact ⟨y,rfl,bG⟩
 have two:∀{x y:V},bW E [x,y] xs→∃X Y,xs=[X,Y]∧Rel E x X∧Rel E y Y:=by
  intro x y h
  simp only [bW] at h
  obtain ⟨X,_,rfl,gB,Y,_,rfl,jK,rfl⟩:=h
  exact ⟨X,Y,rfl,gB,jK⟩
 cases b<;>simp only [sF] at he<;>try (simp [hi.none] at he;done)
 · -- append
   cases ho:dm.toList with
   | nil=>rw [ho] at he;simp [hi.none] at he
   | cons t tz=>
     rw [ho] at he
     cases tz with
     | nil=>simp [hi.none] at he
     | cons u agf=>
       cases agf with
       | cons _ _=>simp [hi.none] at he
       | nil=>
         simp only at he
         match args,he,aL with
         | [x,y],he,aL=>
           obtain ⟨X,Y,rfl,gB,jK⟩:=two aL
           have e:dm=#[t,u]:=by rw [←Bl dm,ho]
           exact ⟨_,rfl,by rw [e];exact SM s he gB jK⟩
         | [],he,_=>cases he
         | [_],he,_=>cases he
         | _::_::_::_,he,_=>cases he
 · -- cap
   cases ho:dm.toList with
   | nil=>rw [ho] at he;simp [hi.none] at he
   | cons t tz=>
     rw [ho] at he
     cases tz with
     | cons _ _=>simp [hi.none] at he
     | nil=>
       simp only at he
       cases aF:bF P t with
       | none=>rw [aF] at he;simp [hi.none] at he
       | some a'=>
         rw [aF] at he
         simp only at he
         cases aM:HE a'.b0 with
         | false=>rw [aM] at he;simp [hi.none] at he
         | true=>
           rw [aM] at he
           simp only [cond_true] at he
           match args,he,aL with
           | [x],he,aL=>
             obtain ⟨X,rfl,gB⟩:=one aL
             have e:dm=#[t]:=by rw [←Bl dm,ho]
             obtain ⟨fO,rfl⟩:=bE.j4 he
             obtain ⟨Z,hI,fi⟩:=Vf (P:=P) (ty:=ty) aF aM fO gB w
             exact ⟨_,rfl,by rw [e];exact eO.plain s hI fi⟩
           | [],he,_=>cases he
           | _::_::_,he,_=>cases he
 · -- clear
   cases ho:dm.toList with
   | nil=>rw [ho] at he;simp [hi.none] at he
   | cons t tz=>
     rw [ho] at he
     cases tz with
     | cons _ _=>simp [hi.none] at he
     | nil=>
       simp only at he
       cases aC:zD P t with
       | none=>rw [aC] at he;simp [hi.none] at he
       | some z=>
         rw [aC] at he
         simp only at he
         match args,he,aL with
         | [x],he,aL=>
           obtain ⟨X,rfl,gB⟩:=one aL
           have e:dm=#[t]:=by rw [←Bl dm,ho]
           exact ⟨_,rfl,by rw [e];exact Vx s aC he gB⟩
         | [],he,_=>cases he
         | _::_::_,he,_=>cases he
 · -- copy
   cases ho:dm.toList with
   | nil=>rw [ho] at he;simp [hi.none] at he
   | cons t tz=>
     rw [ho] at he
     simp only at he
     match args,he,aL with
     | [x,y],he,aL=>
       obtain ⟨X,Y,rfl,gB,jK⟩:=two aL
       have e:dm=(t::tz).toArray:=by rw [←Bl dm,ho]
       exact ⟨_,rfl,by rw [e];exact VM s he gB jK⟩
     | [],he,_=>cases he
     | [_],he,_=>cases he
     | _::_::_::_,he,_=>cases he
 · -- len
   cases ho:dm.toList with
   | nil=>rw [ho] at he;simp [hi.none] at he
   | cons t tz=>
     rw [ho] at he
     cases tz with
     | cons _ _=>simp [hi.none] at he
     | nil=>
       simp only at he
       cases aF:bF P t with
       | none=>rw [aF] at he;simp [hi.none] at he
       | some a'=>
         rw [aF] at he
         simp only at he
         match args,he,aL with
         | [x],he,aL=>
           obtain ⟨X,rfl,gB⟩:=one aL
           have e:dm=[t].toArray:=by rw [←Bl dm,ho]
           cases hm:uD a'.b0 with
           | true=>
             rw [hm] at he
             exact ⟨_,rfl,by rw [e];exact abL s aF hm gB ty [] he⟩
           | false=>
             rw [hm] at he
             simp only [cond_false] at he
             obtain ⟨fO,rfl⟩:=bE.j4 he
             obtain ⟨Z,hI,fi⟩:=abM (P:=P) aF fO gB ty [] w
             exact ⟨_,rfl,by rw [e];exact eO.plain s hI fi⟩
         | [],he,_=>cases hm:uD a'.b0<;>rw [hm] at he<;>cases he
         | _::_::_,he,_=>cases hm:uD a'.b0<;>rw [hm] at he<;>cases he
 · -- max
   obtain ⟨fO,rfl⟩:=bE.j4 he
   clear he
   cases args with
   | nil=>cases fO
   | cons x args=>
     simp only [lQ] at fO
     obtain ⟨k,a,rfl,ad⟩:=kO fO
     simp only [bW] at aL
     obtain ⟨X,gm,rfl,gB,aL⟩:=aL
     have:=gB.ko;subst this
     obtain ⟨Z,hI,fi⟩:=Il (P:=P) false args gm k a v aL ad w
     exact ⟨_,rfl,eO.plain (Z:=Z) s (by simpa [Builtin.max_] using hI) fi⟩
 · -- min
   obtain ⟨fO,rfl⟩:=bE.j4 he
   clear he
   cases args with
   | nil=>cases fO
   | cons x args=>
     simp only [lQ] at fO
     obtain ⟨k,a,rfl,ad⟩:=kO fO
     simp only [bW] at aL
     obtain ⟨X,gm,rfl,gB,aL⟩:=aL
     have:=gB.ko;subst this
     obtain ⟨Z,hI,fi⟩:=Il (P:=P) true args gm k a v aL ad w
     exact ⟨_,rfl,eO.plain (Z:=Z) s (by simpa [Builtin.min_] using hI) fi⟩
end
end Go.Proofs.YtjbiefneffiogaaGreat.bs
namespace Go.Proofs.YtjbiefneffiogaaGreat.bs
variable [Lay]
open Go Go.RowKit
section
variable {P:Program}
def kD (P:Program):Prop:=∀(f:FuncId) (fn:Func),P.funcs[f]? =some fn→(fn.name == "runtime.NumGoroutine")=false
theorem IJ (eT:kD P) {f:FuncId} {fn:Func} (ar:P.funcs[f]? =some fn) (af:fn.body.isSome=true) (args:Array Value) (w:World):(callFunc f args).run P w=.ok (.enter f args) w:=by
 have ew:fn.body.isNone=false:=by cases h:fn.body with | none=>rw [h] at af;cases af | some c=>rfl
 simp only [callFunc,Sem.run_bind,run_program,Result.andThen_ok,ar]
 rw [if_neg (by rw [eT f fn ar];simp)]
 simp [ew]
theorem Pg {α β:Type} (f:α→β) (a:Array α):a.map f=(a.toList.map f).toArray:=by
 apply Array.ext'
 simp
theorem Ik (ρ:Operand→Value) (ct:Array (Nat × Operand)):(ct.map fun (i,x)=>(i,ρ x))=(ct.toList.map fun (i,x)=>(i,ρ x)).toArray:=by
 apply Array.ext'
 simp
def lW (P:Program) (call:gd):Prop:=∀f args h v J,call f args h=.val v J→True
set_option maxHeartbeats 2000000 in
theorem MY {aR:Fr} {E:Env} {h J:ai} {w:World} {call:gd} (eT:kD P) (kI:lq P call) (kf:lW P call) {o:Oper} {bd:Nat} {r:c7} {a:Act} {v:V}
 (he:(iO P o).run call r h=.val v J) (k:hD E bd r a) (s:cf aR E h w) {K:Act→World→Prop} {Q:Exit→Act→World→Prop}
 (dd:∀a_ x aT,E.le a_→Rel a_ v x→cf aR a_ J aT→K (a.put o.dst x) aT):o.wp P a w K Q:=by
 obtain ⟨dst,op,type,pos,after,guard⟩:=o
 cases op<;>simp only [iO] at he<;>try (simp [et.none] at he;done)
 case move x=>
  simp only [bE.val.injEq] at he;obtain ⟨rfl,rfl⟩:=he
  exact iZ (m:=pure (a.eval x)) rfl (eO.plain s rfl (gp k x)) dd
 case assign x=>
  simp only [bE.val.injEq] at he;obtain ⟨rfl,rfl⟩:=he
  exact iZ (m:=pure (a.eval x)) rfl (eO.plain s rfl (gp k x)) dd
 case pick c x y=>
  have aC:=gp k c
  generalize (ec c).run r=Rs at he aC
  cases Rs<;>simp only at he<;>try (cases he;done)
  rename_i t
  simp only [bE.val.injEq] at he;obtain ⟨rfl,rfl⟩:=he
  simp only [Rel] at aC
  refine iZ (m:=do pure (if ←asBool (a.eval c) then a.eval x else a.eval y)) (by simp only [execOp,bind_assoc,pure_bind]) (eO.plain (Z:=if t then a.eval x else a.eval y) s ?_ ?_) dd
  · rw [aC];rfl
  · cases t
    · exact gp k y
    · exact gp k x
 case alloc t=>
  cases aF:bF P t with
  | none=>rw [aF] at he;simp [et.none] at he
  | some a'=>
    rw [aF] at he
    simp only at he
    cases bD:a'.zero with
    | none=>rw [bD] at he;simp [et.none] at he
    | some z=>
      rw [bD] at he
      simp only at he
      cases a1:hL h z.cells with
      | none=>rw [a1] at he;cases he
      | some ad=>
        rw [a1] at he
        simp only [kP,bE.val.injEq] at he;obtain ⟨rfl,rfl⟩:=he
        obtain ⟨x,ax,rR,_⟩:=w8 (P:=P) (E:=E) aF bD w
        obtain ⟨a_,bH,bM,cT,fF⟩:=DE (P:=P) s rR a1 t
        have Gb:(newRow t x.cells).run P w=.ok ⟨w.heap.size,0,none⟩ {w with heap:=w.heap.push (.cells x.cells t)}:=by simpa using cT
        have Gc:cf aR a_ ad {w with heap:=w.heap.push (.cells x.cells t)}:=by simpa using fF
        exact iZ (m:=Instr.alloc t true (.tuple #[])) rfl ⟨.pointer (some ⟨w.heap.size,0,none⟩),_,a_,by simp only [Instr.alloc,Sem.run_bind,ax,Result.andThen_ok,newVar,Gb,Sem.run_pure],bH,by simp only [Rel];exact ⟨_,bM,by simp⟩,Gc⟩ dd
 case box t x=>
  obtain ⟨bl,he⟩:=qq he
  cases a1:hL h ((ec x).run r).cells with
  | none=>rw [a1] at he;cases he
  | some ad=>
    rw [a1] at he
    simp only [kP,bE.val.injEq] at he;obtain ⟨rfl,rfl⟩:=he
    have aL:=(gp k x).cells (fun e=>by rw [e] at bl;cases bl)
    obtain ⟨a_,bH,bM,cT,fF⟩:=DE (P:=P) s aL a1 t
    have Gb:(newRow t (a.eval x).cells).run P w=.ok ⟨w.heap.size,0,none⟩ {w with heap:=w.heap.push (.cells (a.eval x).cells t)}:=by simpa using cT
    have Gc:cf aR a_ ad {w with heap:=w.heap.push (.cells (a.eval x).cells t)}:=by simpa using fF
    exact iZ (m:=Instr.box t (a.eval x)) rfl ⟨.pointer (some ⟨w.heap.size,0,none⟩),_,a_,by simp only [Instr.box,Sem.run_bind,newVar,Gb,Result.andThen_ok,Sem.run_pure],bH,by simp only [Rel];exact ⟨_,bM,by simp⟩,Gc⟩ dd
 case build t ct=>
  obtain ⟨fO,rfl⟩:=bE.j4 he
  clear he
  obtain ⟨Z,hI,fi⟩:=Tg (P:=P) (DP k ct.toList) fO w
  refine iZ (m:=Instr.build t (ct.map fun (i,x)=>(i,a.eval x))) rfl (eO.plain (Z:=Z) s ?_ fi) dd
  rw [Ik];exact hI
 case buildSlice t n ct=>
  refine iZ (m:=Instr.buildSlice t n (ct.map fun (i,x)=>(i,a.eval x))) rfl ?_ dd
  rw [Ik]
  exact Ti s (DP k ct.toList) he
 case load t x=>
  obtain ⟨fO,rfl⟩:=bE.j4 he
  clear he
  obtain ⟨Y,jK,fi,_⟩:=Pb (P:=P) s (gp k x) fO
  exact iZ (m:=Instr.loadAt t (a.eval x)) rfl (eO.plain s jK fi) dd
 case store t x y=>
  cases di:(Bj P t).run h ((ec x).run r) ((ec y).run r) with
  | none=>rw [di] at he;cases he
  | some ad=>
    rw [di] at he
    simp only [kP,bE.val.injEq] at he;obtain ⟨rfl,rfl⟩:=he
    obtain ⟨aT,eH,l_⟩:=af0 (P:=P) s (gp k x) (gp k y) di
    unfold Oper.wp
    have:execOp a.eval ⟨dst,.store t x y,type,pos,after,guard⟩=(do Instr.storeAt t (a.eval x) (a.eval y);pure .skip):=rfl
    rw [this,Sem.run_bind,eH]
    exact dd E undef aT (Env.le.refl E) (by simp [Rel]) l_
 case nilCheck x=>
  obtain ⟨fO,rfl⟩:=bE.j4 he
  clear he
  have ax:=gp k x
  generalize (ec x).run r=Bp at fO ax
  have nn:∀X,Rel E Bp X→(match X with
   | .pointer none | .nilIface | .nilFunc=>(runtimePanic .nilDeref:Sem Next)
   | .func (.method name) first captured=>
     match (first[0]? :Option Value) with
     | some .nilIface=>runtimePanic .nilDeref
     | some (.iface t w)=>do
       if (←nilAhead ((←program).types.size+Made.depth) t w name) != some false then
        unsupported (.noEntry "op/nilCheck.the method's receiver behind this interface value is a nil pointer, or cannot be seen to be none, and the arguments act or may panic (ledger 612)")
       pure (.value (.func (.method name) first captured))
     | _=>pure (.value (.func (.method name) first captured))
   | x=>pure (.value x))=pure (.value X)∧v=Bp:=by
   intro X gB
   cases Bp<;>simp only [uM] at fO<;>try (cases fO;done)
   all_goals simp only [Option.some.injEq] at fO
   all_goals simp only [Rel] at gB
   · obtain ⟨p,_,rfl⟩:=gB;exact ⟨rfl,fO.symm⟩
   · obtain ⟨p,rfl,_⟩:=gB;exact ⟨rfl,fO.symm⟩
   · obtain ⟨p,rfl,_⟩:=gB;exact ⟨rfl,fO.symm⟩
  obtain ⟨ad,rfl⟩:=nn _ ax
  exact iZ (m:=pure (a.eval x)) (by simp only [execOp];rw [pure_bind];exact ad) (eO.plain s rfl ax) dd
 case binOp op t x y u=>
  obtain ⟨fO,rfl⟩:=bE.j4 he
  clear he
  obtain ⟨Z,hI,fi⟩:=Td (P:=P) (mW:=x) (mX:=y) fO (gp k x) (gp k y) w
  exact iZ rfl (eO.plain s hI fi) dd
 case unOp op t x=>
  obtain ⟨fO,rfl⟩:=bE.j4 he
  clear he
  obtain ⟨Z,hI,fi⟩:=agn (P:=P) fO (gp k x) w
  exact iZ (m:=Op.unary op (a.eval x)) rfl (eO.plain s hI fi) dd
 case convert t u x=>exact iZ (m:=convert t u (a.eval x)) rfl (VI s he (gp k x)) dd
 case makeInterface t x=>
  cases aF:bF P t with
  | none=>rw [aF] at he;simp [et.none] at he
  | some a'=>
    rw [aF] at he
    simp only at he
    cases af:Nat.beq (hq a'.b0) 5 with
    | true=>rw [af] at he;simp [et.none] at he
    | false=>
      rw [af] at he
      simp only [cond_false,bE.val.injEq] at he;obtain ⟨rfl,rfl⟩:=he
      refine iZ (m:=Instr.makeInterface t (a.eval x)) rfl (eO.plain (Z:=.iface t (a.eval x)) s ?_ ?_) dd
      · have hu:=h2 aF w
        simp only [Instr.makeInterface,Sem.run_bind,hu,Result.andThen_ok]
        cases cM:a'.b0<;>first
         | rfl
         | (rw [cM] at af;simp [hq] at af)
      · simp only [Rel];exact ⟨_,rfl,gp k x⟩
 case makeFunc fn first k0=>
  cases fn<;>simp only at he<;>try (simp [et.none] at he;done)
  rename_i f
  cases ar:first.isEmpty with
  | false=>rw [ar] at he;simp [et.none] at he
  | true=>
    rw [ar] at he
    simp only [cond_true,bE.val.injEq] at he;obtain ⟨rfl,rfl⟩:=he
    have XH:first=#[]:=by simpa using ar
    subst XH
    refine iZ (m:=Instr.makeFunc (.func f) #[] (k0.map a.eval)) (by simp [execOp]) (eO.plain s rfl ?_) dd
    simp only [Rel]
    exact ⟨_,rfl,by rw [Pg];simpa using CA k k0.toList⟩
 case makeSlice t l c=>exact iZ (m:=Instr.makeSlice t (a.eval l) (a.eval c)) rfl (ab' s (gp k l) (gp k c) he) dd
 case slice t x cm aH fy=>
  obtain ⟨fO,rfl⟩:=bE.j4 he
  clear he
  obtain ⟨Z,hI,fi⟩:=afG (P:=P) fO (gp k x) (DN k cm) (DN k aH) (DN k fy) w
  exact iZ (m:=Instr.sliceAt t (a.eval x) (cm.map a.eval) (aH.map a.eval) (fy.map a.eval)) rfl (eO.plain s hI fi) dd
 case fieldAddr t x i=>
  obtain ⟨fO,rfl⟩:=bE.j4 he
  clear he
  obtain ⟨Z,hI,fi⟩:=Wg (P:=P) fO (gp k x) w
  exact iZ (m:=Instr.fieldAt t (a.eval x) i) rfl (eO.plain s hI fi) dd
 case field t x i=>
  obtain ⟨fO,rfl⟩:=bE.j4 he
  clear he
  obtain ⟨Z,hI,fi⟩:=Wh (P:=P) fO (gp k x) w
  exact iZ (m:=Instr.field t (a.eval x) i) rfl (eO.plain s hI fi) dd
 case indexAddr t x i=>
  obtain ⟨fO,rfl⟩:=bE.j4 he
  clear he
  obtain ⟨Z,hI,fi⟩:=Zo (P:=P) fO (gp k x) (gp k i) w
  exact iZ (m:=Instr.indexAt t (a.eval x) (a.eval i)) rfl (eO.plain s hI fi) dd
 case index t x i=>
  obtain ⟨fO,rfl⟩:=bE.j4 he
  clear he
  obtain ⟨Z,hI,fi⟩:=Zp (P:=P) fO (gp k x) (gp k i) w
  exact iZ (m:=Instr.index t (a.eval x) (a.eval i)) rfl (eO.plain s hI fi) dd
 case range t x=>exact iZ (m:=Instr.range t (a.eval x)) rfl (adV s (gp k x) he) dd
 case next it yg=>
  cases yg<;>simp only at he<;>try (simp [et.none] at he;done)
  exact iZ (m:=Instr.next (a.eval it) true type) rfl (acv s (gp k it) he) dd
 case lookup t x y ok=>
  obtain ⟨fO,rfl⟩:=bE.j4 he
  clear he
  obtain ⟨Z,hI,fi⟩:=ab1 (P:=P) s (gp k x) (gp k y) fO
  exact iZ (m:=Instr.lookup t (a.eval x) (a.eval y) ok) rfl (eO.plain s hI fi) dd
 case mapUpdate t m y x=>
  cases di:(u5 P t).run h ((ec m).run r) ((ec y).run r) ((ec x).run r) with
  | none=>rw [di] at he;cases he
  | some ad=>
    rw [di] at he
    simp only [kP,bE.val.injEq] at he;obtain ⟨rfl,rfl⟩:=he
    obtain ⟨aT,eH,l_⟩:=Rj (P:=P) s (gp k m) (gp k y) (gp k x) di
    unfold Oper.wp
    have:execOp a.eval ⟨dst,.mapUpdate t m y x,type,pos,after,guard⟩=(do Instr.mapUpdate t (a.eval m) (a.eval y) (a.eval x);pure .skip):=rfl
    rw [this,Sem.run_bind,eH]
    exact dd E undef aT (Env.le.refl E) (by simp [Rel]) l_
 case insert t m y x=>
  cases di:(u5 P t).run h ((ec m).run r) ((ec y).run r) ((ec x).run r) with
  | none=>rw [di] at he;cases he
  | some ad=>
    rw [di] at he
    simp only [kP,bE.val.injEq] at he;obtain ⟨rfl,rfl⟩:=he
    obtain ⟨aT,eH,l_⟩:=Rj (P:=P) s (gp k m) (gp k y) (gp k x) di
    unfold Oper.wp
    have:execOp a.eval ⟨dst,.insert t m y x,type,pos,after,guard⟩=(do Instr.mapUpdate t (a.eval m) (a.eval y) (a.eval x);pure .skip):=rfl
    rw [this,Sem.run_bind,eH]
    exact dd E undef aT (Env.le.refl E) (by simp [Rel]) l_
 case makeMap t x=>exact iZ (m:=Instr.makeMap t (x.map a.eval)) rfl (ab9 s (DN k x) he) dd
 case extract x i=>
  have ax:=gp k x
  generalize (ec x).run r=Bp at he ax
  cases Bp<;>simp only at he<;>try (cases he;done)
  obtain ⟨fO,rfl⟩:=bE.j4 he
  clear he
  simp only [Rel] at ax
  obtain ⟨arr,gB,aL⟩:=ax
  obtain ⟨y,bG,fi⟩:=aL.get i v fO
  refine iZ (m:=Instr.extract (a.eval x) i) rfl (eO.plain (Z:=y) s ?_ fi) dd
  rw [gB]
  have:arr[i]? =some y:=by simpa using bG
  simp only [Instr.extract,this,Sem.run_pure]
 case call c=>
  obtain ⟨callee,args,types⟩:=c
  cases callee with
  | invoke _ _=>simp [tZ,et.none] at he
  | builtin b=>
    simp only [tZ] at he
    obtain ⟨cs,g_⟩:∃cs,execOp a.eval ⟨dst,.call ⟨.builtin b,args,types⟩,type,pos,after,guard⟩=Go.builtin b types type cs (args.map a.eval):=by
     simp only [execOp,resolve,pure_bind,invoke]
     exact ⟨_,rfl⟩
    obtain ⟨m,hm,bl⟩:=Tk (P:=P) (ty:=type) (cs:=cs) s (CA k args.toList) he
    refine iZ (m:=m) ?_ bl dd
    rw [g_,←hm,Pg]
  | value f=>
    simp only [tZ] at he
    have ar:=gp k f
    generalize ah7:(ec f).run r=agu at he ar
    cases agu<;>simp only [V.AW] at he<;>try (cases he;done)
    rename_i g cs
    simp only [Rel] at ar
    obtain ⟨k0,gB,aL⟩:=ar
    have Xk:=(CA k args.toList).append aL
    have N0:=kI _ _ _ _ _ _ he E w _ Xk s
    unfold Oper.wp
    have hex:execOp a.eval ⟨dst,.call ⟨.value f,args,types⟩,type,pos,after,guard⟩=callFunc g (args.map a.eval++k0):=by
     simp only [execOp,resolve,gB,Deferred.ofValue,pure_bind,invoke]
     simp
    have e:args.map a.eval++k0=(args.toList.map a.eval++k0.toList).toArray:=by
     apply Array.ext';simp
    rw [hex,e]
    rcases N0 with ⟨⟨fn,vP,af⟩,aC⟩ | ⟨a_,x,aT,ba,aP,aA,a2⟩
    case inr=>
     rw [ba]
     exact dd a_ x aT aP aA a2
    rw [IJ eT vP af]
    simp only [Oper.upon]
    refine aC.mono fun e aT aZ=>?_
    obtain ⟨a_,x,rfl,aP,aA,a2⟩:=aZ
    exact dd a_ x aT aP aA a2
end
end Go.Proofs.YtjbiefneffiogaaGreat.bs
namespace Go.Proofs.YtjbiefneffiogaaGreat.bs
variable [Lay]
open Go Go.RowKit
section
variable {P:Program}
theorem Gf {E:Env} {bd:Nat} {r:c7} {a:Act} (k:hD E bd r a) {all:Array Oper} {j:Nat} {g:Oper} {d:Nat} (bQ:all[j]? =some g) (ca:g.dst=some d) (Xt:d<bd) (Xu:d≤top):
 (∀b,T.get .bad (ao d) r=.bool b→yielded all a.tmps j=some b)∧(∀ah,T.get .bad (ao d) r=.tuple ah→yielded all a.tmps j=none):=by
 have ba:=k.ag d Xu
 have a7:d<a.tmps.size:=by rw [k.size];exact Xt
 have he:a.tmps[d]? =some (a.tmps.getD d undef):=by simp [Array.getD_eq_getD_getElem?,a7]
 refine ⟨fun b af=>?_,fun ah af=>?_⟩
 · rw [af] at ba
   simp only [Rel] at ba
   simp only [yielded,bQ,Option.bind,ca,he,ba]
 · rw [af] at ba
   simp only [Rel] at ba
   obtain ⟨arr,ba,_⟩:=ba
   simp only [yielded,bQ,Option.bind,ca,he,ba]
theorem ac8 {op:et} {put:ze} {call:gd} {r bR:c7} {h J:ai} (he:A0 op put call r h=.ok bR J):∃v,op.run call r h=.val v J∧bR=put.run r v:=by
 unfold A0 at he
 cases bA:op.run call r h with
 | fail=>rw [bA] at he;cases he
 | val v ad=>
   rw [bA] at he
   simp only [rq.ok.injEq] at he
   obtain ⟨rfl,rfl⟩:=he
   exact ⟨v,rfl,rfl⟩
theorem ac7 {aR:Fr} {E:Env} {h J:ai} {w:World} {call:gd} (eT:kD P) (kI:lq P call) (kf:lW P call) {all:Array Oper} {i:Nat} {o:Oper} (aH:all[i]? =some o) {bd:Nat} {r bR:c7} {a:Act}
 (he:(DM P bd all o).run call r h=.ok bR J) (k:hD E bd r a) (s:cf aR E h w) {K:Act→World→Prop} {Q:Exit→Act→World→Prop}
 (dd:∀a_ cC aT,E.le a_→hD a_ bd bR cC→cf aR a_ J aT→K cC aT):wpOp P all Q i K a w:=by
 unfold DM at he
 cases ca:ka bd o.dst with
 | false=>rw [ca] at he;cases he
 | true=>
   rw [ca] at he
   simp only [cond_true] at he
   have wanted:∀(aY:c7),A0 (iO P o) (mi o.dst) call r h=.ok aY J→aY=bR→Region.wanted o (yielded all a.tmps)=true→wpOp P all Q i K a w:=by
    intro aY ad e hw
    subst e
    obtain ⟨v,bh,rfl⟩:=ac8 ad
    simp only [wpOp,aH,hw,if_true]
    left
    exact MY eT kI kf bh k s fun a_ x aT aP aA a2=>dd a_ _ aT aP ((k.mono aP).put ca aA) a2
   have Bo:bR=(mi o.dst).run r (.tuple [])→J=h→Region.wanted o (yielded all a.tmps)=false→wpOp P all Q i K a w:=by
    intro aI bo hw
    subst aI bo
    simp only [wpOp,aH,hw,Bool.false_eq_true,if_false]
    exact dd E _ w (Env.le.refl E) (k.put ca (by simp only [Rel];exact ⟨#[],rfl,rfl⟩)) s
   cases bl:o.guard with
   | none=>
     rw [bl] at he
     exact wanted bR he rfl (by simp [Region.wanted,bl])
   | some s9=>
     obtain ⟨j,want⟩:=s9
     rw [bl] at he
     simp only at he
     cases bQ:all[j]? with
     | none=>rw [bQ] at he;cases he
     | some g=>
       rw [bQ] at he
       simp only at he
       cases j2:g.dst with
       | none=>rw [j2] at he;cases he
       | some d=>
         rw [j2] at he
         simp only at he
         cases aC:(Nat.blt d bd&&Nat.ble d top) with
         | false=>rw [aC] at he;cases he
         | true=>
           rw [aC] at he
           simp only [cond_true,NL,pG] at he
           simp only [Bool.and_eq_true,Nat.blt_eq,Nat.ble_eq] at aC
           obtain ⟨bH,bM⟩:=Gf k bQ j2 aC.1 aC.2
           cases bh:T.get .bad (ao d) r<;>rw [bh] at he<;>simp only at he<;>try (cases he;done)
           · rename_i b
             have bG:=bH b bh
             cases af:(bif want then b else !b) with
             | true=>
               rw [af] at he
               simp only [cond_true] at he
               refine wanted bR he rfl ?_
               simp only [Region.wanted,bl,bG]
               cases want<;>cases b<;>simp_all
             | false=>
               rw [af] at he
               simp only [cond_false,rq.ok.injEq] at he
               refine Bo he.1.symm he.2.symm ?_
               simp only [Region.wanted,bl,bG]
               cases want<;>cases b<;>simp_all
           · rename_i ah
             have bG:=bM ah bh
             simp only [rq.ok.injEq] at he
             refine Bo he.1.symm he.2.symm ?_
             simp only [Region.wanted,bl,bG]
             rfl
theorem PL {aR:Fr} {call:gd} (eT:kD P) (kI:lq P call) (kf:lW P call) {all:Array Oper} {bd:Nat} {Q:Exit→Act→World→Prop}:∀(l:List Oper) (i:Nat),(∀j,l[j]? =all[i+j]?)→
 ∀(E:Env) (r bR:c7) (h J:ai) (a:Act) (w:World),(yB P bd all l).run call r h=.ok bR J→hD E bd r a→cf aR E h w→
 (∀a_ cC aT,E.le a_→hD a_ bd bR cC→cf aR a_ J aT→Q .normal cC aT)→wpOps P all Q (List.range' i l.length) a w
 | [],i,_,E,r,bR,h,J,a,w,he,k,s,dA=>by
   simp only [yB,rq.ok.injEq] at he
   obtain ⟨rfl,rfl⟩:=he
   simp only [List.length_nil,List.range'_zero,wpOps]
   exact dA E a w (Env.le.refl E) k s
 | o::os,i,aL,E,r,bR,h,J,a,w,he,k,s,dA=>by
   simp only [yB,QO] at he
   have aH:all[i]? =some o:=by have:=aL 0;simpa using this.symm
   cases ad:(DM P bd all o).run call r h with
   | fail=>rw [ad] at he;cases he
   | ok aY XN=>
     rw [ad] at he
     simp only at he
     rw [List.length_cons,List.range'_succ,wpOps_cons]
     refine ac7 eT kI kf aH ad k s fun a_ cC aT aP aA a2=>?_
     refine PL eT kI kf os (i+1) (fun j=>?_) a_ aY bR XN J cC aT he aA a2 fun ff b1 dq b_ ch cI=>dA ff b1 dq (aP.trans b_) ch cI
     have:=aL (j+1)
     simp only [List.getElem?_cons_succ] at this
     rw [this]
     congr 1
     omega
end
end Go.Proofs.YtjbiefneffiogaaGreat.bs
namespace Go.Proofs.YtjbiefneffiogaaGreat.bs
variable [Lay]
open Go Go.RowKit
theorem aV.qu:∀{p q:aV},aV.kb p q=true→p=q
 | .z,.z,_=>rfl
 | .l p,.l q,h=>by rw [aV.qu (p:=p) (q:=q) h]
 | .r p,.r q,h=>by rw [aV.qu (p:=p) (q:=q) h]
 | .z,.l _,h=>by cases h
 | .z,.r _,h=>by cases h
 | .l _,.z,h=>by cases h
 | .l _,.r _,h=>by cases h
 | .r _,.z,h=>by cases h
 | .r _,.l _,h=>by cases h
theorem Nd {a b:V} (h:Cx a b=true):a=b:=by
 cases a<;>cases b<;>simp only [Cx] at h<;>first
  | rfl
  | (cases h;done)
  | (rename_i x y;cases x<;>cases y<;>simp_all;done)
  | (rename_i k x l y
     simp only [Bool.and_eq_true] at h
     have ad:=zL h.1
     have ak:=h.2
     rw [qu,beq_iff_eq] at ak
     rw [ad,ak];done)
  | (rw [xE,beq_iff_eq] at h;rw [h];done)
  | (simp only [Bool.and_eq_true,Nat.beq_eq] at h
     obtain ⟨ad,ak,aB,bw⟩:=h
     rw [aV.qu ad,ak,aB,bw];done)
  | (simp only [Bool.and_eq_true,Nat.beq_eq] at h
     rw [aV.qu h.1,h.2];done)
  | (rw [aV.qu h];done)
  | (simp only [Bool.and_eq_true,Nat.beq_eq,List.isEmpty_iff] at h
     obtain ⟨ad,ak,aB⟩:=h
     rw [ad,ak,aB];done)
  | (simp only [Bool.and_eq_true,List.isEmpty_iff] at h
     rw [h.1,h.2];done)
theorem FZ {f:V→V→Bool} (ar:∀a b,f a b=true→a=b):∀{a b:List V},xP f a b=true→a=b
 | [],[],_=>rfl
 | [],_::_,h=>by cases h
 | _::_,[],h=>by cases h
 | a::x,b::y,h=>by
   simp only [xP] at h
   cases ad:f a b with
   | false=>rw [ad] at h;cases h
   | true=>
     rw [ad] at h
     rw [ar a b ad,FZ ar h]
theorem Tb {c x:Bool} (h:(bif c then x else false)=true):c=true∧x=true:=by
 cases c with
 | false=>cases h
 | true=>exact ⟨rfl,h⟩
theorem Nf:∀(d:Nat) (a b:V),vx d a b=true→a=b
 | 0,a,b,h=>Nd h
 | d+1,a,b,h=>by
   have bJ:=Nf d
   cases a<;>simp only [vx] at h<;>first
    | exact Nd h
    | (cases b<;>simp only at h<;>first
        | (cases h;done)
        | rfl
        | (rw [FZ bJ h];done)
        | (obtain ⟨ad,ak⟩:=Tb h
           rw [Nat.beq_eq] at ad
           rw [ad]
           first
            | rw [FZ bJ ak]
            | rw [bJ _ _ ak]))
theorem V6 {a b:V} (h:Nc a b=true):a=b:=Nf 5 a b h
theorem zu (m i:Nat):l4 m i=m.testBit i:=by
 rw [Nat.testBit_eq_decide_div_mod_eq]
 unfold l4
 have e:Nat.mod (Nat.shiftRight m i) 2=m / 2 ^ i % 2:=by
  show (m >>> i) % 2=_
  rw [Nat.shiftRight_eq_div_pow]
 rw [e,Bool.eq_iff_iff,Nat.beq_eq,decide_eq_true_eq]
theorem HR {eV:List Nat} {i:Nat}:∀{es:List Edge},l4 (uL eV es) i=true→∃e ∈ es,vt e=true∧(e.on=i∨l4 ((eV[e.on]?).getD 0) i=true)
 | [],h=>by simp [uL,zu] at h
 | e::es,h=>by
   simp only [uL] at h
   cases af:vt e with
   | false=>
     rw [af] at h
     obtain ⟨fM,ad,ak⟩:=HR (es:=es) h
     exact ⟨fM,by simp [ad],ak⟩
   | true=>
     rw [af] at h
     simp only [cond_true,zu] at h
     have J:((1 <<< e.on||| (eV[e.on]?).getD 0)||| uL eV es).testBit i=true:=h
     rw [Nat.testBit_or,Nat.testBit_or,Bool.or_eq_true,Bool.or_eq_true] at J
     rcases J with (ad | ad) | ad
     · refine ⟨e,by simp,af,.inl ?_⟩
       rw [Nat.testBit_shiftLeft] at ad
       simp only [Bool.and_eq_true,decide_eq_true_eq] at ad
       have:=ad.2
       rw [Nat.testBit_one_eq_true_iff_self_eq_zero] at this
       omega
     · exact ⟨e,by simp,af,.inr (by rw [zu];exact ad)⟩
     · rw [←zu] at ad
       obtain ⟨fM,aP,aA⟩:=HR (es:=es) ad
       exact ⟨fM,by simp [aP],aA⟩
def EG (ops:Array Oper) (L:Nat→Prop):Prop:=∀k o e,L k→ops[k]? =some o→e ∈ o.after.toList→vt e=true→L e.on
theorem HS {ops:Array Oper} {L:Nat→Prop} (CV:EG ops L):∀(os:List Oper) (eV:List Nat),(∀j,os[j]? =ops[eV.length+j]?)→
 (∀k m i,eV[k]? =some m→l4 m i=true→L k→L i)→∀k m i,(lI eV os)[k]? =some m→l4 m i=true→L k→L i
 | [],eV,_,h,k,m,i,al,af,b6=>h k m i al af b6
 | o::os,eV,uy,h,k,m,i,al,af,b6=>by
   simp only [lI] at al
   refine HS CV os (eV++[uL eV o.after.toList]) (fun j=>?_) (fun k m i al af b6=>?_) k m i al af b6
   · have:=uy (j+1)
     simp only [List.getElem?_cons_succ] at this
     rw [this]
     congr 1
     simp
     omega
   · by_cases a7:k<eV.length
     · rw [List.getElem?_append_left a7] at al
       exact h k m i al af b6
     · rw [List.getElem?_append_right (by omega)] at al
       have np:k-eV.length=0:=by
        cases bD:k-eV.length with
        | zero=>rfl
        | succ n=>rw [bD] at al;simp at al
       rw [np] at al
       simp only [List.getElem?_cons_zero,Option.some.injEq] at al
       subst al
       have X0:k=eV.length:=by omega
       have bA:ops[k]? =some o:=by have:=uy 0;simp only [List.getElem?_cons_zero,Nat.add_zero] at this;rw [X0];exact this.symm
       obtain ⟨e,he,Gt,km⟩:=HR af
       have NR:=CV k o e b6 bA he Gt
       rcases km with rfl | km
       · exact NR
       · cases hm:eV[e.on]? with
         | none=>rw [hm] at km;simp [zu] at km
         | some rZ=>rw [hm] at km;exact h e.on rZ i hm km NR
theorem Js {f:Nat→Nat→Oper→Bool}:∀{k:Nat} {ms:List Nat} {os:List Oper},u_ f k ms os=true→∀j o,os[j]? =some o→∃m,ms[j]? =some m∧f (k+j) m o=true
 | _,_,[],_,j,o,h=>by simp at h
 | _,[],_::_,h,_,_,_=>by cases h
 | k,m::ms,dV::os,h,j,o,bA=>by
   simp only [u_,Bool.and_eq_true] at h
   cases j with
   | zero=>simp only [List.getElem?_cons_zero,Option.some.injEq] at bA;subst bA;exact ⟨m,rfl,h.1⟩
   | succ j=>
     obtain ⟨rZ,ad,ak⟩:=Js h.2 j o (by simpa using bA)
     exact ⟨rZ,by simpa using ad,by rw [show k + (j+1)=k+1+j from by omega];exact ak⟩
theorem RJ {f:Nat→Nat→Oper→Bool}:∀{k:Nat} {ms:List Nat} {os:List Oper},ms.length=os.length→(∀j m o,ms[j]? =some m→os[j]? =some o→f (k+j) m o=true)→u_ f k ms os=true
 | _,[],[],_,_=>rfl
 | _,[],_::_,h,_=>by simp at h
 | _,_::_,[],h,_=>by simp at h
 | k,m::ms,o::os,h,ar=>by
   simp only [u_,Bool.and_eq_true]
   refine ⟨ar 0 m o rfl rfl,RJ (by simpa using h) fun j rZ dV ad ak=>?_⟩
   have:=ar (j+1) rZ dV (by simpa using ad) (by simpa using ak)
   rw [show k+1+j=k + (j+1) from by omega]
   exact this
theorem Ph:∀(os:List Oper) (eV:List Nat),(lI eV os).length=eV.length+os.length
 | [],eV=>rfl
 | o::os,eV=>by simp [lI,Ph os];omega
section
variable {P:Program}
theorem MX {o:Oper} {call:gd} {r:c7} {h J:ai} {v:V} (aZ:iS P o.op=false) (he:(iO P o).run call r h=.val v J):J=h:=by
 obtain ⟨dst,op,type,pos,after,guard⟩:=o
 cases op<;>simp only [iS] at aZ<;>try (cases aZ;done)
 all_goals simp only [iO] at he
 case convert s d x=>
  unfold rB at he
  cases aM:bF P s with
  | none=>rw [aM] at he;cases he
  | some u1=>
    cases ca:bF P d with
    | none=>rw [ca] at aZ;cases aZ
    | some pB=>
      rw [aM,ca] at he
      rw [ca] at aZ
      simp only at he aZ
      cases hu:pB.b0 with
      | int k=>
        rw [hu] at he
        obtain ⟨cb,n,_,ad⟩:=AX he
        simp only [bE.val.injEq] at ad
        exact ad.2.symm
      | slice e=>rw [hu] at aZ;cases aZ
      | string=>
        rw [hu] at he
        simp only at he
        have other:∀x:V,(match x with
         | .str s=>bE.val (.str s) h
         | .int _ n=>.val (.str (Utf8.encode n).data.toList) h
         | _=>.fail)=.val v J→J=h:=by
         intro x he
         cases x<;>simp only at he<;>first
          | (cases he;done)
          | (simp only [bE.val.injEq] at he;exact he.2.symm)
        cases Ow:u1.b0 with
        | slice e=>
          rw [Ow] at he
          simp only at he
          cases du:bF P e with
          | none=>rw [du] at he;cases he
          | some bL=>
            rw [du] at he
            simp only at he
            have af4:∀b off len,q_ b off len h=.val v J→J=h:=by
             intro b off len he
             unfold q_ at he
             cases bl:h.get b<;>rw [bl] at he<;>simp only [cL.pd] at he<;>try (cases he;done)
             all_goals
              obtain ⟨_,ak⟩:=qq he
              cases YR:pj (l7 _ off len)<;>rw [YR] at ak<;>first
               | (cases ak;done)
               | (simp only [bE.val.injEq] at ak;exact ak.2.symm)
            cases gL:bL.b0 with
            | int AE=>
              rw [gL] at he
              cases AE<;>simp only at he<;>try (cases he;done)
              simp only [nM] at he
              cases ax:(ec x).run r<;>rw [ax] at he<;>simp only at he<;>first
               | (cases he;done)
               | exact af4 _ _ _ he
               | (simp only [bE.val.injEq] at he;exact he.2.symm)
            | _=>rw [gL] at he;cases he
        | _=>rw [Ow] at he;exact other _ he
      | _=>rw [hu] at he;cases he
 case call c=>
  obtain ⟨callee,args,types⟩:=c
  cases callee<;>simp only at aZ<;>try (cases aZ;done)
  rename_i b
  simp only [tZ] at he
  cases b<;>simp only at aZ<;>try (cases aZ;done)
  · simp only [sF] at he
    cases ho:types.toList with
    | nil=>rw [ho] at he;simp [hi.none] at he
    | cons t dm=>
      cases dm with
      | cons _ _=>rw [ho] at he;simp [hi.none] at he
      | nil=>
        rw [ho] at he
        simp only at he
        cases aF:bF P t with
        | none=>rw [aF] at he;simp [hi.none] at he
        | some a'=>
          rw [aF] at he
          rw [ho] at aZ
          simp only [HD,aF] at aZ
          simp only [aZ,cond_false] at he
          split at he
          · exact (bE.j4 he).2
          · cases he
  · exact (bE.j4 he).2
  · exact (bE.j4 he).2
 case move=>simp only [bE.val.injEq] at he;exact he.2.symm
 case assign=>simp only [bE.val.injEq] at he;exact he.2.symm
 case pick c a b=>
  split at he
  · simp only [bE.val.injEq] at he;exact he.2.symm
  · cases he
 case makeFunc fn first k0=>
  cases fn<;>simp only at he<;>try (simp [et.none] at he;done)
  cases ar:first.isEmpty<;>rw [ar] at he
  · simp [et.none] at he
  · simp only [cond_true,bE.val.injEq] at he;exact he.2.symm
 case makeInterface t x=>
  cases aF:bF P t with
  | none=>rw [aF] at he;simp [et.none] at he
  | some a'=>
    rw [aF] at he
    simp only at he
    cases af:Nat.beq (hq a'.b0) 5<;>rw [af] at he
    · simp only [cond_false,bE.val.injEq] at he;exact he.2.symm
    · simp [et.none] at he
 case extract x i=>
  split at he
  · exact (bE.j4 he).2
  · cases he
 all_goals exact (bE.j4 he).2
theorem bE.AU {h J:ai} {x:Option V} {v:V} (he:bE.of h x=.val v J) (H:ai):bE.of H x=.val v H:=by
 rw [(bE.j4 he).1];rfl
theorem MW {o:Oper} {call:gd} {r:c7} {h J:ai} {v:V} (aZ:iS P o.op=false) (aL:looks o.op=false) (he:(iO P o).run call r h=.val v J) (H:ai):(iO P o).run call r H=.val v H:=by
 obtain ⟨dst,op,type,pos,after,guard⟩:=o
 cases op<;>simp only [iS] at aZ<;>try (cases aZ;done)
 all_goals simp only [looks] at aL<;>try (cases aL;done)
 all_goals simp only [iO] at he ⊢
 case call c=>
  obtain ⟨callee,args,types⟩:=c
  cases callee<;>simp only at aZ<;>try (cases aZ;done)
  rename_i b
  simp only [tZ] at he ⊢
  cases b<;>simp only at aZ<;>try (cases aZ;done)
  · simp only [sF] at he ⊢
    cases ho:types.toList with
    | nil=>rw [ho] at he;simp [hi.none] at he
    | cons t dm=>
      cases dm with
      | cons _ _=>rw [ho] at he;simp [hi.none] at he
      | nil=>
        rw [ho] at he
        simp only at he ⊢
        cases aF:bF P t with
        | none=>rw [aF] at he;simp [hi.none] at he
        | some a'=>
          rw [aF] at he
          rw [ho] at aZ
          simp only [HD,aF] at aZ
          simp only [aZ,cond_false] at he ⊢
          split at he
          · exact bE.AU he H
          · cases he
  · exact bE.AU he H
  · exact bE.AU he H
 case move=>simp only [bE.val.injEq] at he;rw [he.1]
 case assign=>simp only [bE.val.injEq] at he;rw [he.1]
 case pick c a b=>
  split at he
  · simp only [bE.val.injEq] at he;rw [he.1]
  · cases he
 case makeFunc fn first k0=>
  cases fn<;>simp only at he ⊢<;>try (simp [et.none] at he;done)
  cases ar:first.isEmpty<;>rw [ar] at he
  · simp [et.none] at he
  · simp only [cond_true,bE.val.injEq] at he ⊢;exact ⟨he.1,trivial⟩
 case makeInterface t x=>
  cases aF:bF P t with
  | none=>rw [aF] at he;simp [et.none] at he
  | some a'=>
    rw [aF] at he
    simp only at he ⊢
    cases af:Nat.beq (hq a'.b0) 5<;>rw [af] at he
    · simp only [cond_false,bE.val.injEq] at he ⊢;exact ⟨he.1,trivial⟩
    · simp [et.none] at he
 case extract x i=>
  split at he
  · exact bE.AU he H
  · cases he
 all_goals exact bE.AU he H
end
end Go.Proofs.YtjbiefneffiogaaGreat.bs
namespace Go.Proofs.YtjbiefneffiogaaGreat.bs
variable [Lay]
open Go Go.RowKit
section
variable {P:Program}
def J0 (P:Program) (E:Env) (m:Sem Value) (v:V) (h J:ai):Prop:=
 ∃k,J=h.new k∧True∧∀w,∃X lh,m.run P w=.ok X {w with heap:=w.heap.push lh}∧
  ∀a_,E.le a_→a_ (ao h.next)=some ⟨w.heap.size,0,0⟩→Rel a_ v X∧∀B,B≤w.heap.size→jC B a_ {w with heap:=w.heap.push lh} (ao h.next) k
theorem HZ {E:Env} {h J:ai} {ah:List V} {l:List Value} (aL:bW E ah l) (he:hL h ah=some J) (t:TypeId):
 ∃k,J=h.new k∧True∧∀w,(newRow t l.toArray).run P w=.ok ⟨w.heap.size,0,none⟩ {w with heap:=w.heap.push (.cells l.toArray t)}∧
  ∀a_,E.le a_→a_ (ao h.next)=some ⟨w.heap.size,0,0⟩→∀B,B≤w.heap.size→jC B a_ {w with heap:=w.heap.push (.cells l.toArray t)} (ao h.next) k:=by
 unfold hL at he
 obtain ⟨aC,he⟩:=gO he
 rw [Nat.ble_eq] at aC
 cases he
 refine ⟨_,rfl,trivial,fun w=>⟨by simp [newRow],fun a_ hle fP B dF=>?_⟩⟩
 have:=CM (bW.mono hle _ _ aL) aC #[]
 rw [Array.append_empty] at this
 exact ⟨aC,_,_,t,(0,0),fP,dF,by simp,.inr (Nat.le_refl _),fun _=>rfl,fun h=>absurd rfl h,this⟩
theorem Tj {E:Env} {h J:ai} {t:TypeId} {n:Nat} {ct:List (Nat × V)} {ml:List (Nat × Value)} {v:V} (aQ:sB E ct ml) (he:(vv P t n).run ct h=.val v J):
 J0 P E (Instr.buildSlice t n ml.toArray) v h J:=by
 unfold vv at he
 cases aF:bF P t with
 | none=>rw [aF] at he;cases he
 | some a'=>
   rw [aF] at he
   simp only at he
   have hu:=h2 aF
   cases cM:a'.b0 with
   | slice e=>
     rw [cM] at he hu
     simp only at he
     cases du:bF P e with
     | none=>rw [du] at he;cases he
     | some bL=>
       rw [du] at he
       simp only at he
       cases bD:bL.zero with
       | none=>rw [bD] at he;cases he
       | some z=>
         rw [bD] at he
         simp only at he
         cases aC:(Nat.ble (n * bL.size) 1000000&&Nat.beq z.cells.length bL.size) with
         | false=>rw [aC] at he;cases he
         | true=>
           rw [aC] at he
           simp only [cond_true] at he
           simp only [Bool.and_eq_true,Nat.ble_eq,Nat.beq_eq] at aC
           cases ar:nR (fun i=>some (i * bL.size,bL.size)) (hN z.cells n) ct with
           | none=>rw [ar] at he;cases he
           | some cs=>
             rw [ar] at he
             simp only at he
             cases a1:hL h cs with
             | none=>rw [a1] at he;cases he
             | some ad=>
               rw [a1] at he
               simp only [bE.val.injEq] at he
               obtain ⟨rfl,rfl⟩:=he
               obtain ⟨x,ax,rR,wg⟩:=w8 (P:=P) (E:=E) du bD ⟨#[],fun _ _=>0,0,default,#[]⟩
               have wh:x.cells.size=bL.size:=by rw [wg,aC.2]
               have v7:=D1 rR n
               rw [wh] at v7
               obtain ⟨b,nj,iR⟩:=zQ (a:=(Array.range (n * bL.size)).map (x.cells[· % x.cells.size]!)) aQ (by rw [wh];exact v7) ar
               obtain ⟨k,bH,bM,cT⟩:=HZ (P:=P) iR a1 e
               refine ⟨k,bH,bM,fun w=>⟨.slice (some ⟨w.heap.size,0,none⟩) n n,.cells b e,?_,fun a_ hle fP=>⟨?_,?_⟩⟩⟩
               · have Al:¬16777216<n * bL.size:=by omega
                 have sU:(newRow e b).run P w=.ok ⟨w.heap.size,0,none⟩ {w with heap:=w.heap.push (.cells b e)}:=by simpa using (cT w).1
                 by_cases aj:n * bL.size=0
                 · have Gr:Instr.fill (fun i=>some (i * bL.size,bL.size)) ((Array.range (n * bL.size)).map ((#[]:Array Value)[· % 0]!)) ml=some b:=by
                    have aI:(Array.range (n * bL.size)).map ((#[]:Array Value)[· % 0]!)=(Array.range (n * bL.size)).map (x.cells[· % x.cells.size]!):=by
                     rw [aj];simp
                    rw [aI];exact nj
                   have Gs:Instr.fill (fun i=>some (i * bL.size,bL.size)) ((Array.range (n * bL.size)).map (fun x=>(#[]:Array Value)[x % (#[]:Array Value).size]!)) ml=some b:=Gr
                   simp only [Instr.buildSlice,Sem.run_bind,hu,Result.andThen_ok,lS du,Sem.run_ite]
                   rw [if_neg Al]
                   simp only [Sem.run_pure,Result.andThen_ok,if_pos aj]
                   rw [Gs]
                   simp only [Sem.run_bind,sU,Result.andThen_ok,Sem.run_pure]
                 · simp only [Instr.buildSlice,Sem.run_bind,hu,Result.andThen_ok,lS du,Sem.run_ite]
                   rw [if_neg Al]
                   simp only [Sem.run_pure,Result.andThen_ok,if_neg aj,ax]
                   rw [nj]
                   simp only [Sem.run_bind,sU,Result.andThen_ok,Sem.run_pure]
               · simp only [Rel]
                 exact ⟨_,fP,Nat.le_refl _,by simp⟩
               · simpa using (cT w).2 a_ hle fP
   | _=>rw [cM] at he;cases he
set_option maxHeartbeats 2000000 in
theorem VK {E:Env} {h J:ai} {call:gd} {o:Oper} {bd:Nat} {r:c7} {a:Act} {v:V} (bT:kp o=true) (he:(iO P o).run call r h=.val v J) (k:hD E bd r a):
 ∃m:Sem Value,execOp a.eval o=(do pure (.value (←m)))∧J0 P E m v h J:=by
 obtain ⟨dst,op,type,pos,after,guard⟩:=o
 cases op<;>simp only [kp] at bT<;>try (cases bT;done)
 all_goals simp only [iO] at he
 case alloc t=>
  refine ⟨Instr.alloc t true (.tuple #[]),rfl,?_⟩
  cases aF:bF P t with
  | none=>rw [aF] at he;simp [et.none] at he
  | some a'=>
    rw [aF] at he
    simp only at he
    cases bD:a'.zero with
    | none=>rw [bD] at he;simp [et.none] at he
    | some z=>
      rw [bD] at he
      simp only at he
      cases a1:hL h z.cells with
      | none=>rw [a1] at he;cases he
      | some ad=>
        rw [a1] at he
        simp only [kP,bE.val.injEq] at he;obtain ⟨rfl,rfl⟩:=he
        obtain ⟨x,ax,rR,_⟩:=w8 (P:=P) (E:=E) aF bD ⟨#[],fun _ _=>0,0,default,#[]⟩
        obtain ⟨fq,bH,bM,cT⟩:=HZ (P:=P) rR a1 t
        refine ⟨fq,bH,bM,fun w=>⟨.pointer (some ⟨w.heap.size,0,none⟩),.cells x.cells t,?_,fun a_ hle fP=>⟨?_,?_⟩⟩⟩
        · have:=(cT w).1
          simp only [Array.toArray_toList] at this
          simp only [Instr.alloc,Sem.run_bind,ax,Result.andThen_ok,newVar,this,Sem.run_pure]
        · simp only [Rel];exact ⟨_,fP,by simp⟩
        · simpa using (cT w).2 a_ hle fP
 case box t x=>
  refine ⟨Instr.box t (a.eval x),rfl,?_⟩
  obtain ⟨bl,he⟩:=qq he
  cases a1:hL h ((ec x).run r).cells with
  | none=>rw [a1] at he;cases he
  | some ad=>
    rw [a1] at he
    simp only [kP,bE.val.injEq] at he;obtain ⟨rfl,rfl⟩:=he
    have aL:=(gp k x).cells (fun e=>by rw [e] at bl;cases bl)
    obtain ⟨fq,bH,bM,cT⟩:=HZ (P:=P) aL a1 t
    refine ⟨fq,bH,bM,fun w=>⟨.pointer (some ⟨w.heap.size,0,none⟩),.cells (a.eval x).cells t,?_,fun a_ hle fP=>⟨?_,?_⟩⟩⟩
    · have:=(cT w).1
      simp only [Array.toArray_toList] at this
      simp only [Instr.box,Sem.run_bind,newVar,this,Result.andThen_ok,Sem.run_pure]
    · simp only [Rel];exact ⟨_,fP,by simp⟩
    · simpa using (cT w).2 a_ hle fP
 case buildSlice t n ct=>
  refine ⟨Instr.buildSlice t n (ct.map fun (i,x)=>(i,a.eval x)),rfl,?_⟩
  rw [Ik]
  exact Tj (DP k ct.toList) he
 case makeMap t x=>
  cases x with
  | some _=>cases bT
  | none=>
    refine ⟨Instr.makeMap t none,rfl,?_⟩
    simp only [r8,yn] at he
    cases aF:bF P t with
    | none=>rw [aF] at he;cases he
    | some a'=>
      rw [aF] at he
      simp only at he
      cases af:Nat.beq (hq a'.b0) 3 with
      | false=>rw [af] at he;cases he
      | true=>
        rw [af] at he
        simp only [cond_true,qX,yt] at he
        simp only [bE.val.injEq] at he
        obtain ⟨rfl,rfl⟩:=he
        refine ⟨_,rfl,trivial,fun w=>⟨.map (some w.heap.size),.map #[] 0,?_,fun a_ hle fP=>⟨?_,fun B dF=>?_⟩⟩⟩
        · simp only [Instr.makeMap,Sem.run_bind,run_newObj,Result.andThen_ok,Sem.run_pure]
        · simp only [Rel];exact ⟨_,fP,rfl⟩
        · exact ⟨_,#[],fP,dF,by simp,rfl⟩
def Fr.hold (F:Fr) (b:aV) (k:cL):Fr:=⟨F.w,fun b2=>if b2=b then some k else F.lP b2⟩
def Fr.free (F:Fr) (b:aV):Fr:=⟨F.w,fun b2=>if b2=b then none else F.lP b2⟩
theorem cf.hold {F:Fr} {E:Env} {h:ai} {w:World} (s:cf F E h w) (k:cL):cf (F.hold (ao h.next) k) E (h.new k) w:=by
 have fU:=s.fresh h.next (Nat.le_refl _)
 refine ⟨fun b af=>?_,fun b cb al=>?_,fun b b2 p nt ad ak aI bo kH=>?_,fun i aH=>s.fresh i (Nat.le_of_succ_le aH),s.frame,s.laid,fun b p n cs st ad aI=>s.base b p n cs st (by
  have dL:ao h.next≠b:=fun e=>by rw [←e,fU] at aI;cases aI
  rwa [ai.eG,if_neg dL] at ad) aI⟩
 · simp only [Fr.hold] at af
   by_cases aZ:b=ao h.next
   · rw [if_pos aZ] at af;cases af
   · rw [if_neg aZ] at af
     rw [ai.eG,if_neg (fun e=>aZ e.symm)]
     exact s.bb b af
 · simp only [Fr.hold] at al
   by_cases aZ:b=ao h.next
   · rw [if_pos aZ] at al
     cases al
     exact ⟨by rw [ai.eG,if_pos aZ.symm],by rw [aZ];exact fU,h.next,Nat.lt_succ_self _,aZ⟩
   · rw [if_neg aZ] at al
     obtain ⟨aP,aA,i,a2,b'⟩:=s.q2 b cb al
     exact ⟨by rw [ai.eG,if_neg (fun e=>aZ e.symm)];exact aP,aA,i,Nat.lt_succ_of_lt a2,b'⟩
 · have dL:ao h.next≠b:=fun e=>by rw [←e,fU] at aI;cases aI
   have eJ:ao h.next≠b2:=fun e=>by rw [←e,fU] at bo;cases bo
   rw [ai.eG,if_neg dL] at ad
   rw [ai.eG,if_neg eJ] at ak
   exact s.inj b b2 p nt ad ak aI bo kH
theorem cf.link {F:Fr} {E:Env} {h:ai} {w:World} (s:cf F E h w) {b:aV} {k:cL} (aQ:F.lP b=some k) {o:Obj}
 (k9:jC F.w.heap.size (E.put b ⟨w.heap.size,0,0⟩) {w with heap:=w.heap.push o} b k):
 E.le (E.put b ⟨w.heap.size,0,0⟩)∧cf (F.free b) (E.put b ⟨w.heap.size,0,0⟩) h {w with heap:=w.heap.push o}:=by
 obtain ⟨al,fU,i0,ahS,vJ⟩:=s.q2 b k aQ
 have hle:E.le (E.put b ⟨w.heap.size,0,0⟩):=Env.s_ fU
 have fP:E.put b ⟨w.heap.size,0,0⟩ b=some ⟨w.heap.size,0,0⟩:=by unfold Env.put;rw [if_pos rfl]
 have hold:∀b2,b2≠b→E.put b ⟨w.heap.size,0,0⟩ b2=E b2:=by intro b2 af;unfold Env.put;rw [if_neg af]
 have pL:∀b2 q,E b2=some q→(h.get b2)≠.dead→q.bb<w.heap.size:=by
  intro b2 q aZ ca
  have af:=s.at aZ
  cases bl:h.get b2 with
  | dead=>exact absurd bl ca
  | view n cs=>rw [bl] at af;obtain ⟨_,hg,c,el,cy,e,_,cU,_⟩:=af;rw [e] at aZ;cases aZ;exact (Array.getElem?_eq_some_iff.1 cU).1
  | cells n cs cS st=>rw [bl] at af;obtain ⟨_,hg,c,el,cy,e,_,cU,_⟩:=af;rw [e] at aZ;cases aZ;exact (Array.getElem?_eq_some_iff.1 cU).1
  | iter st pos=>rw [bl] at af;obtain ⟨hg,e,_,_,cU⟩:=af;rw [e] at aZ;cases aZ;exact (Array.getElem?_eq_some_iff.1 cU).1
  | mp es clock=>rw [bl] at af;obtain ⟨hg,a,e,_,cU,_⟩:=af;rw [e] at aZ;cases aZ;exact (Array.getElem?_eq_some_iff.1 cU).1
 refine ⟨hle,fun b2 ew=>?_,fun b2 cb dJ=>?_,fun bX cD b_ ch ad ak aI bo kH=>?_,fun i aH=>?_,⟨s.frame.os,s.frame.tape,s.frame.output,?_,fun j bQ=>?_⟩,s.laid,fun bX b_ n cs st ad aI=>by
  by_cases cg:bX=b
  · subst cg;rw [fP] at aI;cases aI;rfl
  · rw [hold bX cg] at aI;exact s.base _ _ _ _ _ ad aI⟩
 · by_cases aZ:b2=b
   · subst aZ;rw [al];exact k9
   · simp only [Fr.free,if_neg aZ] at ew
     have aj:=(s.bb b2 ew).mono hle
     by_cases ca:h.get b2=.dead
     · rw [ca];trivial
     · refine jC.hb aj fun q pT=>?_
       rw [hold b2 aZ] at pT
       have:=pL b2 q pT ca
       simp only [Array.getElem?_push]
       rw [if_neg (by omega)]
 · simp only [Fr.free] at dJ
   by_cases aZ:b2=b
   · rw [if_pos aZ] at dJ;cases dJ
   · rw [if_neg aZ] at dJ
     obtain ⟨aP,aA,a2⟩:=s.q2 b2 cb dJ
     exact ⟨aP,by rw [hold b2 aZ];exact aA,a2⟩
 · by_cases cg:bX=b<;>by_cases dk:cD=b
   · exact cg.trans dk.symm
   · subst cg
     rw [fP] at aI;cases aI
     rw [hold cD dk] at bo
     have:=pL cD ch bo (fun e=>by rw [e] at ak;cases ak)
     simp only at kH
     omega
   · subst dk
     rw [fP] at bo;cases bo
     rw [hold bX cg] at aI
     have:=pL bX b_ aI (fun e=>by rw [e] at ad;cases ad)
     simp only at kH
     omega
   · rw [hold bX cg] at aI
     rw [hold cD dk] at bo
     exact s.inj bX cD b_ ch ad ak aI bo kH
 · rw [hold _ (fun e=>?_)]
   · exact s.fresh i aH
   · rw [vJ] at e
     have:=n' e
     omega
 · have:=s.frame.size
   simp only [Array.size_push,Fr.free]
   omega
 · have ad:=s.frame.size
   simp only [Fr.free,Array.getElem?_push]
   rw [if_neg (by simp only [Fr.free] at bQ;omega)]
   exact s.frame.block j bQ
end
end Go.Proofs.YtjbiefneffiogaaGreat.bs
namespace Go.Proofs.YtjbiefneffiogaaGreat.bs
variable [Lay]
open Go Go.RowKit
section
variable {P:Program}
def kR (es:List jD) (hV:c7) (i:Nat):c7:=
 match es[i]? with
 | some e=>e.r
 | none=>hV
theorem C3 (e:jD) (es:List jD) (ar:ai) (i:Nat):eN (e::es) ar (i+1)=eN es ar i:=by simp [eN]
theorem DZ (e:jD) (es:List jD) (hV:c7) (i:Nat):kR (e::es) hV (i+1)=kR es hV i:=by simp [kR]
theorem IY {bd:Nat} {all:Array Oper} {call:gd}:∀{l:List Oper} {r hV:c7} {h ar:ai} {es:List jD},(sd P bd all l).run call r h=.ok es hV ar→
 es.length=l.length∧eN es ar 0=h∧kR es hV 0=r∧∀j o,l[j]? =some o→∃e,es[j]? =some e∧(hF P bd all o).run call e.r e.h=.val e.v (eN es ar (j+1))∧kR es hV (j+1)=(mi o.dst).run e.r e.v
 | [],r,hV,h,ar,es,he=>by
   simp only [sd,BB.ok.injEq] at he
   obtain ⟨rfl,rfl,rfl⟩:=he
   exact ⟨rfl,rfl,rfl,fun j o bA=>by simp at bA⟩
 | o::os,r,hV,h,ar,es,he=>by
   simp only [sd,Q5] at he
   cases ad:(hF P bd all o).run call r h with
   | fail=>rw [ad] at he;cases he
   | val v cU=>
     rw [ad] at he
     simp only at he
     cases ak:(sd P bd all os).run call ((mi o.dst).run r v) cU with
     | fail=>rw [ak] at he;cases he
     | ok ahx aY aB=>
       rw [ak] at he
       simp only [BB.ok.injEq] at he
       obtain ⟨rfl,rfl,rfl⟩:=he
       obtain ⟨aP,aA,a2,b'⟩:=IY ak
       refine ⟨by simp [aP],by simp [eN],by simp [kR],fun j dV bA=>?_⟩
       cases j with
       | zero=>
         simp only [List.getElem?_cons_zero,Option.some.injEq] at bA
         subst bA
         exact ⟨⟨r,h,v⟩,rfl,by rw [C3,aA];exact ad,by rw [DZ,a2]⟩
       | succ j=>
         obtain ⟨e,b_,ch,cI⟩:=b' j dV (by simpa using bA)
         exact ⟨e,by simpa using b_,by rw [C3];exact ch,by rw [DZ];exact cI⟩
theorem WG {bd:Nat} {d:Option Nat} (ca:ka bd d=true) {r:c7} {v:V} {t:Nat} (aF:t≤top):T.get .bad (ao t) ((mi d).run r v)=if d=some t then v else T.get .bad (ao t) r:=by
 cases d with
 | none=>simp [mi]
 | some d=>
   simp only [ka,Bool.and_eq_true,Nat.blt_eq,Nat.ble_eq] at ca
   simp only [mi,T.oO,Option.some.injEq]
   by_cases h:d=t
   · subst h;simp
   · rw [if_neg (fun e=>h (n' e)),if_neg h]
theorem xJ {bd:Nat} {all:Array Oper} {o:Oper} {call:gd} {r:c7} {h J:ai} {v:V} (he:(hF P bd all o).run call r h=.val v J):ka bd o.dst=true∧sa (gU all o)=true:=by
 unfold hF at he
 cases aC:(ka bd o.dst&&sa (gU all o)) with
 | false=>rw [aC] at he;simp [et.none] at he
 | true=>simpa using aC
theorem Re {r:c7} {rs:List Nat} (aM:sa rs=true) {t:Nat} (aF:t≤top):T.get .bad (ao t) (kT r rs)=if t ∈ rs then T.get .bad (ao t) r else .bad:=by
 induction rs with
 | nil=>simp [kT]
 | cons u rs bJ=>
   simp only [sa,List.all_cons,Bool.and_eq_true,Nat.ble_eq] at aM
   simp only [kT,T.oO,List.mem_cons]
   by_cases h:u=t
   · subst h;simp
   · rw [if_neg (fun e=>h (n' e)),bJ aM.2]
     have J:¬t=u:=fun e=>h e.symm
     simp [J]
theorem Ct {aR:Fr} {E:Env} {h J:ai} {w:World} {call:gd} (eT:kD P) (kI:lq P call) (kf:lW P call) {all:Array Oper} {i:Nat} {o:Oper} (aH:all[i]? =some o) {bd:Nat} {r:c7} {a:Act} {v:V}
 (he:(hF P bd all o).run call r h=.val v J) (v':a.tmps.size=bd) (z8:a.defers=[]) (G_:∀t ∈ gU all o,Rel E (T.get .bad (ao t) r) (a.tmps.getD t undef)) (s:cf aR E h w)
 {K:Act→World→Prop} {Q:Exit→Act→World→Prop} (dd:∀a_ x aT,E.le a_→Rel a_ v x→cf aR a_ J aT→K (a.put o.dst x) aT):wpOp P all Q i K a w:=by
 obtain ⟨ca,aM⟩:=xJ he
 have k:hD E bd (kT r (gU all o)) a:=⟨v',z8,fun t aF=>by
  rw [Re aM aF]
  by_cases hm:t ∈ gU all o
  · rw [if_pos hm];exact G_ t hm
  · rw [if_neg hm];simp [Rel]⟩
 unfold hF at he
 rw [show (ka bd o.dst&&sa (gU all o))=true from by rw [ca,aM];rfl] at he
 simp only [cond_true] at he
 have wanted:(iO P o).run call (kT r (gU all o)) h=.val v J→Region.wanted o (yielded all a.tmps)=true→wpOp P all Q i K a w:=by
  intro ad hw
  simp only [wpOp,aH,hw,if_true]
  left
  exact MY eT kI kf ad k s dd
 have Bo:bE.val (.tuple []) h=bE.val v J→Region.wanted o (yielded all a.tmps)=false→wpOp P all Q i K a w:=by
  intro ad hw
  simp only [bE.val.injEq] at ad
  obtain ⟨rfl,rfl⟩:=ad
  simp only [wpOp,aH,hw,Bool.false_eq_true,if_false]
  exact dd E undef w (Env.le.refl E) (by simp only [Rel];exact ⟨#[],rfl,rfl⟩) s
 cases bl:o.guard with
 | none=>
   rw [bl] at he
   exact wanted he (by simp [Region.wanted,bl])
 | some s9=>
   obtain ⟨j,want⟩:=s9
   rw [bl] at he
   simp only at he
   cases bQ:all[j]? with
   | none=>rw [bQ] at he;simp [et.none] at he
   | some g=>
     rw [bQ] at he
     simp only at he
     cases j2:g.dst with
     | none=>rw [j2] at he;simp [et.none] at he
     | some d=>
       rw [j2] at he
       simp only at he
       cases aC:(Nat.blt d bd&&Nat.ble d top) with
       | false=>rw [aC] at he;simp [et.none] at he
       | true=>
         rw [aC] at he
         simp only [cond_true,nN,pG] at he
         simp only [Bool.and_eq_true,Nat.blt_eq,Nat.ble_eq] at aC
         obtain ⟨bH,bM⟩:=Gf k bQ j2 aC.1 aC.2
         cases bh:T.get .bad (ao d) (kT r (gU all o))<;>rw [bh] at he<;>simp only at he<;>try (cases he;done)
         · rename_i b
           have bG:=bH b bh
           cases af:(bif want then b else !b) with
           | true=>
             rw [af] at he
             simp only [cond_true] at he
             refine wanted he ?_
             simp only [Region.wanted,bl,bG]
             cases want<;>cases b<;>simp_all
           | false=>
             rw [af] at he
             simp only [cond_false] at he
             refine Bo he ?_
             simp only [Region.wanted,bl,bG]
             cases want<;>cases b<;>simp_all
         · rename_i ah
           have bG:=bM ah bh
           refine Bo he ?_
           simp only [Region.wanted,bl,bG]
           rfl
theorem zJ {bd:Nat} {all:Array Oper} {o:Oper} {call:gd} {r:c7} {h J:ai} {v:V} (aZ:iS P o.op=false) (he:(hF P bd all o).run call r h=.val v J):
 J=h∧(looks o.op=false→∀H,(hF P bd all o).run call r H=.val v H):=by
 obtain ⟨ca,aM⟩:=xJ he
 have ck:(ka bd o.dst&&sa (gU all o))=true:=by rw [ca,aM];rfl
 have key:hF P bd all o=(match o.guard with
  | none=>⟨nN none (iO P o) (gU all o)⟩
  | some (j,want)=>match all[j]? with
    | some g=>match g.dst with
      | some d=>bif Nat.blt d bd&&Nat.ble d top then ⟨nN (some (pG (ao d),want)) (iO P o) (gU all o)⟩ else et.none
      | none=>et.none
    | none=>et.none):=by
  unfold hF;rw [ck];rfl
 rw [key] at he ⊢
 cases bl:o.guard with
 | none=>
   rw [bl] at he
   exact ⟨MX aZ he,fun aL H=>MW aZ aL he H⟩
 | some s9=>
   obtain ⟨j,want⟩:=s9
   rw [bl] at he
   simp only at he ⊢
   cases bQ:all[j]? with
   | none=>rw [bQ] at he;simp [et.none] at he
   | some g=>
     rw [bQ] at he
     simp only at he ⊢
     cases j2:g.dst with
     | none=>rw [j2] at he;simp [et.none] at he
     | some d=>
       rw [j2] at he
       simp only at he ⊢
       cases aC:(Nat.blt d bd&&Nat.ble d top) with
       | false=>rw [aC] at he;simp [et.none] at he
       | true=>
         rw [aC] at he
         simp only [cond_true,nN] at he ⊢
         cases bh:(pG (ao d)).run (kT r (gU all o))<;>rw [bh] at he<;>simp only at he ⊢<;>try (cases he;done)
         · rename_i b
           cases af:(bif want then b else !b)<;>rw [af] at he<;>simp only [cond_true,cond_false] at he ⊢
           · simp only [bE.val.injEq] at he ⊢
             exact ⟨he.2.symm,fun _ H=>⟨he.1,trivial⟩⟩
           · exact ⟨MX aZ he,fun aL H=>MW aZ aL he H⟩
         · simp only [bE.val.injEq] at he ⊢
           exact ⟨he.2.symm,fun _ H=>⟨he.1,trivial⟩⟩
theorem J_ {op:et} {call:gd} {es:List jD} {ar:ai} {r:c7} {v:V}:∀{gN:List Nat},Ce op call es ar r v gN=true→∀s ∈ gN,∃J,op.run call r (eN es ar s)=.val v J
 | [],_,s,h=>by simp at h
 | iW::gN,he,s,hm=>by
   simp only [Ce,Bool.and_eq_true] at he
   simp only [List.mem_cons] at hm
   rcases hm with rfl | hm
   · have ad:=he.1
     cases ba:op.run call r (eN es ar s) with
     | fail=>rw [ba] at ad;cases ad
     | val db J=>
       rw [ba] at ad
       rw [V6 ad]
       exact ⟨J,rfl⟩
   · exact J_ he.2 s hm
theorem Kc {bd:Nat} {all:Array Oper} {eV bk gJ:List Nat} {call:gd} {es:List jD} {ar:ai}:∀{l:List Oper} {i:Nat},(xy P bd all eV bk gJ i l).run call es ar=true→
 ∀j o,l[j]? =some o→looks o.op=true→iS P o.op=false→∃e,es[posOf bk (i+j)]? =some e∧∀s ∈ gJ,wI P eV all.toList bk (i+j) ((eV[i+j]?).getD 0) s=true→∃J,(hF P bd all o).run call e.r (eN es ar s)=.val e.v J
 | [],_,_,j,o,bA,_,_=>by simp at bA
 | dV::os,i,he,j,o,bA,aL,aZ=>by
   simp only [xy] at he
   cases j with
   | zero=>
     simp only [List.getElem?_cons_zero,Option.some.injEq] at bA
     subst bA
     rw [aL,aZ] at he
     simp only [Bool.not_false,Bool.and_true,cond_true,Bool.and_eq_true,Ka] at he
     have ad:=he.1
     cases sR:es[posOf bk i]? with
     | none=>rw [sR] at ad;cases ad
     | some e=>
       rw [sR] at ad
       refine ⟨e,rfl,fun s aM hm=>?_⟩
       exact J_ ad s (List.mem_filter.2 ⟨aM,by simpa using hm⟩)
   | succ j=>
     have rest:(xy P bd all eV bk gJ (i+1) os).run call es ar=true:=by
      cases aC:(looks dV.op&&!iS P dV.op) with
      | false=>rw [aC] at he;exact he
      | true=>rw [aC] at he;simp only [cond_true,Bool.and_eq_true] at he;exact he.2
     have:=Kc rest j o (by simpa using bA) aL aZ
     rw [show i + (j+1)=i+1+j from by omega]
     exact this
theorem HO {bk:List Nat}:∀{l:List Oper} {i j:Nat} {o:Oper},l[j]? =some o→h0 P o=true→posOf bk (i+j) ∈ mf P bk i l
 | [],_,j,o,h,_=>by simp at h
 | dV::os,i,j,o,h,he=>by
   simp only [mf]
   cases j with
   | zero=>
     simp only [List.getElem?_cons_zero,Option.some.injEq] at h
     subst h
     rw [he]
     simp
   | succ j=>
     have:=HO (bk:=bk) (i:=i+1) (by simpa using h) he
     rw [show i + (j+1)=i+1+j from by omega]
     cases h0 P dV with
     | true=>simp [this]
     | false=>exact this
theorem HN {bk:List Nat}:∀{l:List Oper} {i:Nat},i+l.length ∈ mf P bk i l
 | [],_=>by simp [mf]
 | o::os,i=>by
   have:=HN (bk:=bk) (l:=os) (i:=i+1)
   simp only [mf,List.length_cons]
   rw [show i + (os.length+1)=i+1+os.length from by omega]
   cases h0 P o with
   | true=>simp [this]
   | false=>exact this
theorem AH {bk:List Nat}:∀{l:List Oper} {i s:Nat},s ∈ mf P bk i l→s=i+l.length∨∃j o,l[j]? =some o∧h0 P o=true∧s=posOf bk (i+j)
 | [],i,s,h=>by simp only [mf,List.mem_singleton] at h;exact .inl (by simpa using h)
 | o::os,i,s,h=>by
   simp only [mf] at h
   have rest:s ∈ mf P bk (i+1) os→s=i + (o::os).length∨∃j dV,(o::os)[j]? =some dV∧h0 P dV=true∧s=posOf bk (i+j):=by
    intro h
    rcases AH h with h | ⟨j,dV,ad,ak,aB⟩
    · exact .inl (by simp only [List.length_cons];omega)
    · exact .inr ⟨j+1,dV,by simpa using ad,ak,by rw [aB];congr 1;omega⟩
   cases aC:h0 P o with
   | true=>
     rw [aC] at h
     simp only [cond_true,List.mem_cons] at h
     rcases h with h | h
     · exact .inr ⟨0,o,rfl,aC,h⟩
     · exact rest h
   | false=>rw [aC] at h;exact rest h
theorem VL {o:Oper} {call:gd} {r:c7} {h J:ai} {v:V} (bT:kp o=true) (he:(iO P o).run call r h=.val v J):∃k,J=h.new k∧True:=by
 have cells:∀{ah:List V} {ad:ai},hL h ah=some ad→∃k,ad=h.new k∧True:=by
  intro ah ad he
  unfold hL at he
  obtain ⟨aC,he⟩:=gO he
  cases he
  exact ⟨_,rfl,trivial⟩
 obtain ⟨dst,op,type,pos,after,guard⟩:=o
 cases op<;>simp only [kp] at bT<;>try (cases bT;done)
 all_goals simp only [iO] at he
 case alloc t=>
  cases aF:bF P t with
  | none=>rw [aF] at he;simp [et.none] at he
  | some a'=>
    rw [aF] at he
    simp only at he
    cases bD:a'.zero with
    | none=>rw [bD] at he;simp [et.none] at he
    | some z=>
      rw [bD] at he
      simp only at he
      cases a1:hL h z.cells with
      | none=>rw [a1] at he;cases he
      | some ad=>
        rw [a1] at he
        simp only [kP,bE.val.injEq] at he;obtain ⟨_,rfl⟩:=he
        exact cells a1
 case box t x=>
  obtain ⟨bl,he⟩:=qq he
  cases a1:hL h ((ec x).run r).cells with
  | none=>rw [a1] at he;cases he
  | some ad=>
    rw [a1] at he
    simp only [kP,bE.val.injEq] at he;obtain ⟨_,rfl⟩:=he
    exact cells a1
 case buildSlice t n ct=>
  unfold vv at he
  cases aF:bF P t with
  | none=>rw [aF] at he;cases he
  | some a'=>
    rw [aF] at he
    simp only at he
    cases cM:a'.b0<;>rw [cM] at he<;>simp only at he<;>try (cases he;done)
    rename_i e
    cases du:bF P e with
    | none=>rw [du] at he;cases he
    | some bL=>
      rw [du] at he
      simp only at he
      cases bD:bL.zero with
      | none=>rw [bD] at he;cases he
      | some z=>
        rw [bD] at he
        simp only at he
        cases aC:(Nat.ble (n * bL.size) 1000000&&Nat.beq z.cells.length bL.size) with
        | false=>rw [aC] at he;cases he
        | true=>
          rw [aC] at he
          simp only [cond_true] at he
          cases ar:nR (fun i=>some (i * bL.size,bL.size)) (hN z.cells n) ((uU ct.toList).run r) with
          | none=>rw [ar] at he;cases he
          | some cs=>
            rw [ar] at he
            simp only at he
            cases a1:hL h cs with
            | none=>rw [a1] at he;cases he
            | some ad=>
              rw [a1] at he
              simp only [bE.val.injEq] at he
              obtain ⟨_,rfl⟩:=he
              exact cells a1
 case makeMap t x=>
  cases x with
  | some _=>cases bT
  | none=>
    simp only [r8,yn] at he
    cases aF:bF P t with
    | none=>rw [aF] at he;cases he
    | some a'=>
      rw [aF] at he
      simp only at he
      cases af:Nat.beq (hq a'.b0) 3 with
      | false=>rw [af] at he;cases he
      | true=>
        rw [af] at he
        simp only [cond_true,qX,yt] at he
        simp only [bE.val.injEq] at he
        exact ⟨_,he.2.symm,trivial⟩
theorem Zx {o:Oper} (bT:kp o=true):iS P o.op=true:=by
 obtain ⟨dst,op,type,pos,after,guard⟩:=o
 cases op<;>simp only [kp] at bT<;>first | (cases bT;done) | rfl
theorem M5 {bd:Nat} {all:Array Oper} {o:Oper} {call:gd} {r:c7} {h J:ai} {v:V} (he:(hF P bd all o).run call r h=.val v J):
 ((iO P o).run call (kT r (gU all o)) h=.val v J∧∀E a,hD E bd (kT r (gU all o)) a→Region.wanted o (yielded all a.tmps)=true)∨
 (J=h∧∀H,(hF P bd all o).run call r H=.val v H):=by
 obtain ⟨ca,aM⟩:=xJ he
 have ck:(ka bd o.dst&&sa (gU all o))=true:=by rw [ca,aM];rfl
 have key:hF P bd all o=(match o.guard with
  | none=>⟨nN none (iO P o) (gU all o)⟩
  | some (j,want)=>match all[j]? with
    | some g=>match g.dst with
      | some d=>bif Nat.blt d bd&&Nat.ble d top then ⟨nN (some (pG (ao d),want)) (iO P o) (gU all o)⟩ else et.none
      | none=>et.none
    | none=>et.none):=by
  unfold hF;rw [ck];rfl
 rw [key] at he ⊢
 cases bl:o.guard with
 | none=>
   rw [bl] at he
   exact .inl ⟨he,fun E a _=>by simp [Region.wanted,bl]⟩
 | some s9=>
   obtain ⟨j,want⟩:=s9
   rw [bl] at he
   simp only at he ⊢
   cases bQ:all[j]? with
   | none=>rw [bQ] at he;simp [et.none] at he
   | some g=>
     rw [bQ] at he
     simp only at he ⊢
     cases j2:g.dst with
     | none=>rw [j2] at he;simp [et.none] at he
     | some d=>
       rw [j2] at he
       simp only at he ⊢
       cases aC:(Nat.blt d bd&&Nat.ble d top) with
       | false=>rw [aC] at he;simp [et.none] at he
       | true=>
         rw [aC] at he
         simp only [cond_true,nN] at he ⊢
         have nk:=aC
         simp only [Bool.and_eq_true,Nat.blt_eq,Nat.ble_eq] at nk
         cases bh:(pG (ao d)).run (kT r (gU all o))<;>rw [bh] at he<;>simp only at he ⊢<;>try (cases he;done)
         · rename_i b
           cases af:(bif want then b else !b)<;>rw [af] at he<;>simp only [cond_true,cond_false] at he ⊢
           · simp only [bE.val.injEq] at he ⊢
             exact .inr ⟨he.2.symm,fun H=>⟨he.1,trivial⟩⟩
           · refine .inl ⟨he,fun E a k=>?_⟩
             obtain ⟨bH,_⟩:=Gf k bQ j2 nk.1 nk.2
             have bG:=bH b bh
             simp only [Region.wanted,bl,bG]
             cases want<;>cases b<;>simp_all
         · simp only [bE.val.injEq] at he ⊢
           exact .inr ⟨he.2.symm,fun H=>⟨he.1,trivial⟩⟩
theorem M4 {bd:Nat} {all:Array Oper} {o:Oper} {call:gd} {r:c7} {h J:ai} {v:V} (bT:kp o=true) (he:(hF P bd all o).run call r h=.val v J):
 (∃k,J=h.new k∧True)∨(J=h∧∀H,(hF P bd all o).run call r H=.val v H):=by
 rcases M5 he with ⟨ad,_⟩ | ad
 · exact .inl (VL bT ad)
 · exact .inr ad
theorem VW {F:Fr} {E:Env} {h J H:ai} {w:World} {call:gd} {all:Array Oper} {i:Nat} {o:Oper} (aH:all[i]? =some o) (bT:kp o=true) {bd:Nat} {r:c7} {a:Act} {v:V}
 (he:(hF P bd all o).run call r h=.val v J) (v':a.tmps.size=bd) (z8:a.defers=[]) (G_:∀t ∈ gU all o,Rel E (T.get .bad (ao t) r) (a.tmps.getD t undef)) (s:cf F E H w)
 (GS:J.next≠h.next) (aQ:F.lP (ao h.next)=some (J.get (ao h.next)))
 {K:Act→World→Prop} {Q:Exit→Act→World→Prop} (dd:∀a_ x aT,E.le a_→Rel a_ v x→cf (F.free (ao h.next)) a_ H aT→K (a.put o.dst x) aT):wpOp P all Q i K a w:=by
 obtain ⟨ca,aM⟩:=xJ he
 have k:hD E bd (kT r (gU all o)) a:=⟨v',z8,fun t aF=>by
  rw [Re aM aF]
  by_cases hm:t ∈ gU all o
  · rw [if_pos hm];exact G_ t hm
  · rw [if_neg hm];simp [Rel]⟩
 obtain ⟨l9,hw⟩:(iO P o).run call (kT r (gU all o)) h=.val v J∧Region.wanted o (yielded all a.tmps)=true:=by
  rcases M5 he with ⟨ad,ak⟩ | ⟨ad,_⟩
  · exact ⟨ad,ak E a k⟩
  · exact absurd (by rw [ad]) GS
 obtain ⟨m,ax,fq,aP,aA,a2⟩:=VK bT l9 k
 simp only [wpOp,aH,hw,if_true]
 left
 obtain ⟨X,lh,b_,ch⟩:=a2 w
 rw [aP,ai.eG,if_pos rfl] at aQ
 have fP:E.put (ao h.next) ⟨w.heap.size,0,0⟩ (ao h.next)=some ⟨w.heap.size,0,0⟩:=by unfold Env.put;rw [if_pos rfl]
 have hle:E.le (E.put (ao h.next) ⟨w.heap.size,0,0⟩):=Env.s_ (s.q2 _ _ aQ).2.1
 obtain ⟨aY,bn⟩:=ch _ hle fP
 have gG:F.w.heap.size≤w.heap.size:=s.frame.size
 obtain ⟨_,gZ⟩:=s.link aQ (o:=lh) (bn _ gG)
 unfold Oper.wp
 rw [ax,Sem.run_bind,b_]
 exact dd _ X _ hle aY gZ
end
end Go.Proofs.YtjbiefneffiogaaGreat.bs
namespace Go.Proofs.YtjbiefneffiogaaGreat.bs
variable [Lay]
open Go Go.RowKit
theorem MZ {α:Type} (p q:α→Bool):∀(l:List α),(∀x ∈ l,q x=true→p x=true)→(∃x ∈ l,p x=true∧q x=false)→l.countP q<l.countP p
 | [],_,h=>by obtain ⟨x,ax,_⟩:=h;simp at ax
 | a::l,ad,ak=>by
   have hle:l.countP q≤l.countP p:=List.countP_mono_left fun x ax=>ad x (by simp [ax])
   obtain ⟨x,ax,aQ,aZ⟩:=ak
   simp only [List.mem_cons] at ax
   rcases ax with rfl | ax
   · rw [List.countP_cons,List.countP_cons,aQ,aZ]
     simp
     omega
   · have bJ:=MZ p q l (fun y bG=>ad y (by simp [bG])) ⟨x,ax,aQ,aZ⟩
     have bT:=ad a (by simp)
     rw [List.countP_cons,List.countP_cons]
     cases Yr:q a with
     | true=>rw [bT Yr];simp;omega
     | false=>simp;omega
theorem Kj (e:Edge):Region.binds .any e=vt e:=by
 unfold Region.binds vt
 cases e.ground<;>rfl
section
variable {P:Program}
theorem A7 {order:List Nat}:∀{ct:List Nat} {k j p:Nat},A6 order k ct=true→ct[j]? =some p→order[p]? =some (k+j)
 | [],_,j,p,_,h=>by simp at h
 | q::ct,k,j,p,aQ,h=>by
   simp only [A6,Bool.and_eq_true] at aQ
   cases j with
   | zero=>
     simp only [List.getElem?_cons_zero,Option.some.injEq] at h
     subst h
     have ad:=aQ.1
     cases aZ:order[q]? with
     | none=>rw [aZ] at ad;cases ad
     | some i=>rw [aZ] at ad;rw [Nat.beq_eq] at ad;rw [ad];rfl
   | succ j=>
     have:=A7 aQ.2 (show ct[j]? =some p by simpa using h)
     rw [this]
     congr 1
     omega
theorem yA {ops:Array Oper}:∀{order:List Nat} {p i:Nat} {o:Oper},order[p]? =some i→ops[i]? =some o→(p2 ops order)[p]? =some o
 | [],p,i,o,h,_=>by simp at h
 | x::xs,p,i,o,h,bA=>by
   cases p with
   | zero=>
     simp only [List.getElem?_cons_zero,Option.some.injEq] at h
     subst h
     simp [p2,bA]
   | succ p=>simpa [p2] using yA (show xs[p]? =some i by simpa using h) bA
theorem Ie {ops:Array Oper}:∀{order:List Nat},(p2 ops order).length=order.length
 | []=>rfl
 | x::xs=>by simp [p2,Ie (order:=xs)]
structure Cert (P:Program) (bd:Nat) (ops:Array Oper) (calls:Nat→gd) (es:List jD) (bm:c7) (aj:ai) (hV:c7) (ar:ai) (gJ:List Nat) (order bk:List Nat):Prop where
 len:es.length=ops.size
 nu:∀k,k<ops.size→posOf bk k<ops.size∧order[posOf bk k]? =some k
 uS:∀p,p<ops.size→∃i,i<ops.size∧posOf bk i=p
 aj:eN es ar 0=aj
 bm:kR es hV 0=bm
 step:∀i o,ops[i]? =some o→∃e,es[posOf bk i]? =some e∧(hF P bd ops o).run (calls i) e.r e.h=.val e.v (eN es ar (posOf bk i+1))∧kR es hV (posOf bk i+1)=(mi o.dst).run e.r e.v
 Wm:xK P ops bk=true
 ends:ops.size ∈ gJ
 mem:∀j o,ops[j]? =some o→h0 P o=true→posOf bk j ∈ gJ
 Q7:∀s ∈ gJ,s=ops.size∨∃k o,ops[k]? =some o∧h0 P o=true∧s=posOf bk k
 ask:∀j o,ops[j]? =some o→looks o.op=true→iS P o.op=false→∃e,es[posOf bk j]? =some e∧∀s ∈ gJ,
  wI P (lI [] ops.toList) ops.toList bk j (((lI [] ops.toList)[j]?).getD 0) s=true→∃c J,(lq P c∧lW P c)∧(hF P bd ops o).run c e.r (eN es ar s)=.val e.v J
variable {bd:Nat} {ops:Array Oper} {call:gd} {calls:Nat→gd} {es:List jD} {bm:c7} {aj:ai} {hV:c7} {ar:ai} {gJ:List Nat} {order bk:List Nat}
theorem Cert.A' (C:Cert P bd ops calls es bm aj hV ar gJ order bk) {k cb:Nat} (ad:k<ops.size) (ak:cb<ops.size) (he:posOf bk k=posOf bk cb):k=cb:=by
 have a:=(C.nu k ad).2
 have b:=(C.nu cb ak).2
 rw [he,b] at a
 cases a
 rfl
theorem Cert.CH (C:Cert P bd ops calls es bm aj hV ar gJ order bk) {i:Nat} {o:Oper} (aH:ops[i]? =some o):∃lK,(lI [] ops.toList)[i]? =some lK∧PJ i o=true∧
 ∀k ok,ops[k]? =some ok→∃mk,(lI [] ops.toList)[k]? =some mk∧A5 i lK (gU ops o) o.dst k mk ok (Nat.blt (posOf bk k) (posOf bk i))=true∧(iS P o.op=true→h0 P ok=true→posOf bk k<posOf bk i→l4 lK k=true):=by
 have ar:=C.Wm
 unfold xK at ar
 obtain ⟨lK,ad,ak⟩:=Js ar i o (by simpa using aH)
 simp only [Nat.zero_add,Bool.and_eq_true] at ak
 refine ⟨lK,ad,ak.1,fun k ok al=>?_⟩
 obtain ⟨mk,bS,cF⟩:=Js ak.2 k ok (by simpa using al)
 simp only [Nat.zero_add,Bool.and_eq_true] at cF
 refine ⟨mk,bS,cF.1,fun aI bo a7=>?_⟩
 have gS:=cF.2
 rw [aI,bo,Bool.true_and,show Nat.blt (posOf bk k) (posOf bk i)=true from by rw [Nat.blt_eq];exact a7] at gS
 exact gS
theorem Cert.Iv (C:Cert P bd ops calls es bm aj hV ar gJ order bk):∀p,p≤ops.size→∀t,t≤top→
 (∃k o e,posOf bk k<p∧ops[k]? =some o∧o.dst=some t∧es[posOf bk k]? =some e∧T.get .bad (ao t) (kR es hV p)=e.v)∨
 ((∀k o,posOf bk k<p→ops[k]? =some o→o.dst≠some t)∧T.get .bad (ao t) (kR es hV p)=T.get .bad (ao t) bm)
 | 0,_,t,aF=>.inr ⟨fun k o h=>by omega,by rw [C.bm]⟩
 | p+1,aH,t,aF=>by
   obtain ⟨i,a7,qL⟩:=C.uS p (by omega)
   have fw:ops[i]? =some ops[i]:=Array.getElem?_eq_getElem a7
   obtain ⟨e,ad,ak,aB⟩:=C.step i ops[i] fw
   rw [qL] at ad ak aB
   have Yv:kR es hV p=e.r:=by simp [kR,ad]
   have fP:=WG (r:=e.r) (v:=e.v) (xJ ak).1 aF
   rw [aB,fP]
   by_cases ca:ops[i].dst=some t
   · rw [if_pos ca]
     exact .inl ⟨i,_,e,by omega,fw,ca,by rw [qL];exact ad,rfl⟩
   · rw [if_neg ca,←Yv]
     rcases Cert.Iv C p (by omega) t aF with ⟨k,o,fM,aP,aA,a2,b',da⟩ | ⟨aP,aA⟩
     · exact .inl ⟨k,o,fM,by omega,aA,a2,b',da⟩
     · refine .inr ⟨fun k o al bA=>?_,aA⟩
       by_cases k6:k=i
       · subst k6;rw [fw] at bA;cases bA;exact ca
       · refine aP k o ?_ bA
         have sV:=(Array.getElem?_eq_some_iff.1 bA).1
         have:posOf bk k≠p:=fun e=>k6 (C.A' sV a7 (by rw [e,qL]))
         omega
def nameAt (es:List jD) (ar:ai) (bk:List Nat) (k:Nat):aV:=ao (eN es ar (posOf bk k)).next
noncomputable def zv (es:List jD) (ar:ai) (bk:List Nat) (k:Nat):cL:=(eN es ar (posOf bk k+1)).get (nameAt es ar bk k)
def Made (es:List jD) (ar:ai) (bk:List Nat) (k:Nat):Prop:=(eN es ar (posOf bk k+1)).next≠(eN es ar (posOf bk k)).next
def lv (ops:Array Oper) (es:List jD) (ar:ai) (bk:List Nat) (dK:Array Bool) (s k:Nat):Prop:=
 ∃o,ops[k]? =some o∧(kp o=true∧Made es ar bk k)∧¬dK.getD k false=true∧posOf bk k<s
structure Holds (aR F:Fr) (es:List jD) (ar:ai) (bk:List Nat) (D:Nat→Prop):Prop where
 w:F.w=aR.w
 b5:∀b,(∀k,D k→nameAt es ar bk k≠b)→F.lP b=aR.lP b
 new:∀k,D k→F.lP (nameAt es ar bk k)=some (zv es ar bk k)∧aR.lP (nameAt es ar bk k)=none
 inj:∀k cb,D k→D cb→nameAt es ar bk k=nameAt es ar bk cb→k=cb
theorem Holds.congr {aR F:Fr} {D JC:Nat→Prop} (H:Holds aR F es ar bk D) (h:∀k,JC k↔D k):Holds aR F es ar bk JC:=
 ⟨H.w,fun b af=>H.b5 b fun k al=>af k ((h k).2 al),fun k al=>H.new k ((h k).1 al),fun k cb al dJ=>H.inj k cb ((h k).1 al) ((h cb).1 dJ)⟩
theorem Holds.none {aR F:Fr} {D:Nat→Prop} (H:Holds aR F es ar bk D) (h:∀k,¬D k):F=aR:=by
 have:F.lP=aR.lP:=funext fun b=>H.b5 b fun k al=>absurd al (h k)
 cases F;cases aR
 have hw:=H.w
 simp only at this hw
 rw [this,hw]
theorem Cert.advance (C:Cert P bd ops calls es bm aj hV ar gJ order bk) {aR:Fr} {dK:Array Bool} {E:Env} {w:World}:∀(d q:Nat),q+d=ops.size→(∀k o,ops[k]? =some o→kp o=true→q≤posOf bk k→¬dK.getD k false=true)→
 ∀F,Holds aR F es ar bk (lv ops es ar bk dK q)→cf F E (eN es ar q) w→
 ∃s iz,s ∈ gJ∧q≤s∧s≤ops.size∧(∀k o,ops[k]? =some o→h0 P o=true→q≤posOf bk k→s≤posOf bk k)∧Holds aR iz es ar bk (lv ops es ar bk dK s)∧cf iz E (eN es ar s) w
 | 0,q,aZ,_,F,H,S=>by
   have:q=ops.size:=by omega
   subst this
   exact ⟨ops.size,F,C.ends,Nat.le_refl _,Nat.le_refl _,fun k o _ _ h=>h,H,S⟩
 | d+1,q,aZ,Ap,F,H,S=>by
   obtain ⟨i,a7,qL⟩:=C.uS q (by omega)
   have fw:ops[i]? =some ops[i]:=Array.getElem?_eq_getElem a7
   cases z7:h0 P ops[i] with
   | true=>exact ⟨q,F,by rw [←qL];exact C.mem i _ fw z7,Nat.le_refl _,by omega,fun k o _ _ h=>h,H,S⟩
   | false=>
     obtain ⟨e,ad,ak,aB⟩:=C.step i ops[i] fw
     rw [qL] at ad ak
     have uu:eN es ar q=e.h:=by simp [eN,ad]
     have only:∀k o,ops[k]? =some o→posOf bk k=q→k=i:=fun k o al aQ=>C.A' (Array.getElem?_eq_some_iff.1 al).1 a7 (by rw [aQ,qL])
     have fin:∀iz,Holds aR iz es ar bk (lv ops es ar bk dK (q+1))→cf iz E (eN es ar (q+1)) w→
      ∃s iz,s ∈ gJ∧q≤s∧s≤ops.size∧(∀k o,ops[k]? =some o→h0 P o=true→q≤posOf bk k→s≤posOf bk k)∧Holds aR iz es ar bk (lv ops es ar bk dK s)∧cf iz E (eN es ar s) w:=by
      intro iz jn cR
      obtain ⟨s,oq,bH,bM,cT,fF,gY,ke⟩:=Cert.advance C d (q+1) (by omega) (fun k o ad ak aB=>Ap k o ad ak (by omega)) iz jn cR
      refine ⟨s,oq,bH,by omega,cT,fun k o al aC aQ=>fF k o al aC ?_,gY,ke⟩
      by_cases G6:posOf bk k=q
      · have:=only k o al G6
        subst this
        rw [fw] at al;cases al
        rw [z7] at aC;cases aC
      · omega
     have pass:eN es ar (q+1)=e.h→(kp ops[i]=true→¬Made es ar bk i)→∃s iz,s ∈ gJ∧q≤s∧s≤ops.size∧(∀k o,ops[k]? =some o→h0 P o=true→q≤posOf bk k→s≤posOf bk k)∧Holds aR iz es ar bk (lv ops es ar bk dK s)∧cf iz E (eN es ar s) w:=by
      intro Ot kl
      rw [←uu] at Ot
      refine fin F (H.congr fun k=>⟨?_,?_⟩) (by rw [Ot];exact S)
      · rintro ⟨o,aP,aA,a2,b'⟩
        refine ⟨o,aP,aA,a2,?_⟩
        have:posOf bk k≠q:=fun e=>by
         have:=only k o aP e
         subst this
         rw [fw] at aP;cases aP
         exact kl aA.1 aA.2
        omega
      · rintro ⟨o,aP,aA,a2,b'⟩
        exact ⟨o,aP,aA,a2,by omega⟩
     cases bT:kp ops[i] with
     | true=>
      rcases M4 bT ak with ⟨fq,bS,cF⟩ | ⟨bS,_⟩
      ·
       have aM:=S.hold fq
       have a1:nameAt es ar bk i=ao (eN es ar q).next:=by unfold nameAt;rw [qL]
       have af:zv es ar bk i=fq:=by
        unfold zv
        rw [a1,qL,bS,uu,ai.eG,if_pos rfl]
       rw [uu,←bS] at aM
       have Ob:Made es ar bk i:=by
        unfold Made
        rw [qL,bS,uu]
        exact Nat.succ_ne_self _
       have GW:¬dK.getD i false=true:=Ap i _ fw bT (by omega)
       have FN:∀k,lv ops es ar bk dK (q+1) k→k=i∨lv ops es ar bk dK q k:=by
        rintro k ⟨o,aP,aA,a2,b'⟩
        by_cases G6:posOf bk k=q
        · exact .inl (only k o aP G6)
        · exact .inr ⟨o,aP,aA,a2,by omega⟩
       have fresh:∀b Dp,F.lP b=some Dp→b≠nameAt es ar bk i:=by
        intro b Dp vK heq
        obtain ⟨_,_,j,bU,gH⟩:=S.q2 b Dp vK
        rw [heq,a1] at gH
        rw [uu] at bU gH
        have:=n' gH
        omega
       have OH:∀b,b≠nameAt es ar bk i→(F.hold (ao e.h.next) fq).lP b=F.lP b:=by
        intro b NZ
        rw [a1,uu] at NZ
        simp only [Fr.hold,if_neg NZ]
       have S1:(F.hold (ao e.h.next) fq).lP (nameAt es ar bk i)=some fq:=by
        rw [a1,uu]
        simp only [Fr.hold,if_true]
       have ne:∀k,lv ops es ar bk dK q k→nameAt es ar bk k≠nameAt es ar bk i:=fun k al=>fresh _ _ (H.new k al).1
       refine fin (F.hold (ao e.h.next) fq) ⟨H.w,fun b vK=>?_,fun k al=>?_,fun k cb al dJ he=>?_⟩ aM
       · have vJ:b≠nameAt es ar bk i:=fun e=>vK i ⟨_,fw,⟨bT,Ob⟩,GW,by omega⟩ e.symm
         rw [OH b vJ]
         exact H.b5 b fun k al=>vK k (by obtain ⟨o,aP,aA,a2,b'⟩:=al;exact ⟨o,aP,aA,a2,by omega⟩)
       · rcases FN k al with rfl | al
         · refine ⟨by rw [S1,af],?_⟩
           cases aQ:aR.lP (nameAt es ar bk k) with
           | none=>rfl
           | some Dp=>
             exfalso
             have:=H.b5 (nameAt es ar bk k) fun cb dJ=>ne cb dJ
             rw [aQ] at this
             exact fresh _ _ this rfl
         · rw [OH _ (ne k al)]
           exact H.new k al
       · rcases FN k al with rfl | al<;>rcases FN cb dJ with rfl | dJ
         · rfl
         · exact absurd he.symm (ne cb dJ)
         · exact absurd he (ne k al)
         · exact H.inj k cb al dJ he
      · refine pass bS fun _ hm=>hm ?_
        rw [qL,bS,uu]
     | false=>
       have gQ:iS P ops[i].op=false:=by
        unfold h0 at z7
        rw [bT] at z7
        simpa using z7
       exact pass (zJ gQ ak).1 fun h=>by rw [bT] at h;cases h
structure w9 (P:Program) (aR:Fr) (bd:Nat) (ops:Array Oper) (es:List jD) (bm:c7) (ar:ai) (gJ bk:List Nat) (ky:Env) (dK:Array Bool) (a:Act) (w:World):Prop where
 Dv:dK.size=ops.size
 size:a.tmps.size=bd
 defers:a.defers=[]
 down:EG ops fun k=>dK.getD k false=true
 main:∃E s F,ky.le E∧s ∈ gJ∧s≤ops.size∧(∀k o,ops[k]? =some o→h0 P o=true→(dK.getD k false=true↔posOf bk k<s))∧
  (∀k o,ops[k]? =some o→kp o=true→dK.getD k false=true→posOf bk k<s)∧Holds aR F es ar bk (lv ops es ar bk dK s)∧cf F E (eN es ar s) w∧
  ∀t,t≤top→(∃k o e,dK.getD k false=true∧ops[k]? =some o∧o.dst=some t∧es[posOf bk k]? =some e∧Rel E e.v (a.tmps.getD t undef))∨
   ((∀k o,dK.getD k false=true→ops[k]? =some o→o.dst≠some t)∧Rel E (T.get .bad (ao t) bm) (a.tmps.getD t undef))
theorem xV {l:Array Bool} {i:Nat}:l.getD i false=true↔l[i]? =some true:=by
 rw [Array.getD_eq_getD_getElem?]
 cases l[i]? with
 | none=>simp
 | some b=>cases b<;>simp
theorem nS {l:Array Bool} {i k:Nat} (aH:i<l.size):(l.setIfInBounds i true).getD k false=true↔(k=i∨l.getD k false=true):=by
 rw [xV,xV,Array.getElem?_setIfInBounds]
 by_cases h:i=k
 · subst h;simp [aH]
 · have:¬k=i:=fun e=>h e.symm
   simp [h,this]
theorem VY {aR:Fr} (eT:kD P) (kI:∀i,lq P (calls i)) (kf:∀i,lW P (calls i)) (C:Cert P bd ops calls es bm aj hV ar gJ order bk) {ky:Env} {dK:Array Bool} {a:Act} {w:World} (I:w9 P aR bd ops es bm ar gJ bk ky dK a w)
 {i:Nat} (aH:i ∈ Region.ready .any ops dK) {Q:Exit→Act→World→Prop} {K:Act→World→Prop} (dd:∀cC aT,w9 P aR bd ops es bm ar gJ bk ky (dK.setIfInBounds i true) cC aT→K cC aT):wpOp P ops Q i K a w:=by
 rw [mem_ready] at aH
 obtain ⟨E,s,F,zW,aM,uB,nX,jh,mO,v8,x'⟩:=I.main
 obtain ⟨Ap,o,fw,Xz⟩:=aH
 have oS:i<ops.size:=(Array.getElem?_eq_some_iff.1 fw).1
 have rL:¬dK.getD i false=true:=by
  rw [xV]
  intro h
  rw [Array.getD_eq_getD_getElem?,h] at Ap
  simp at Ap
 have Oa:=HS I.down ops.toList [] (fun j=>by simp) (fun k m j al=>by simp at al)
 have NP:EG ops fun k=>dK.getD k false=true∨k=i:=by
  intro k ok e al b8 he af
  rcases al with al | rfl
  · exact .inl (I.down k ok e al b8 he af)
  · rw [fw] at b8;cases b8
    exact .inl (Xz e (Array.mem_toList_iff.1 he) (by rw [Kj];exact af))
 have X9:=HS NP ops.toList [] (fun j=>by simp) (fun k m j al=>by simp at al)
 obtain ⟨lK,Oc,nq,Oh⟩:=C.CH fw
 have Gv:∀k,k≠i→l4 lK k=true→dK.getD k false=true:=by
  intro k al af
  rcases X9 i lK k Oc af (.inr rfl) with h | h
  · exact h
  · exact absurd h al
 obtain ⟨e,sR,eH,ah4⟩:=C.step i o fw
 have qM:=(C.nu i oS).1
 have x4:=xJ eH
 have gL:kR es hV (posOf bk i)=e.r:=by simp [kR,sR]
 have j3:eN es ar (posOf bk i)=e.h:=by simp [eN,sR]
 have uniq:∀(k cb:Nat) (ok lO:Oper) (t:Nat),ops[k]? =some ok→ops[cb]? =some lO→ok.dst=some t→lO.dst=some t→k=cb:=by
  intro k cb ok lO t ad ak aB bw
  obtain ⟨mk,_,_,aQ⟩:=C.CH ad
  obtain ⟨mk',_,kn,_⟩:=aQ cb lO ak
  unfold A5 at kn
  rw [pA] at kn
  by_cases gq:k=cb
  · exact gq
  · rw [if_neg gq,bw,aB] at kn
    simp at kn
 have reads:∀t ∈ gU ops o,Rel E (T.get .bad (ao t) e.r) (a.tmps.getD t undef):=by
  intro t aF
  have Db:t≤top:=by
   have:=List.all_eq_true.1 x4.2 t aF
   exact Nat.le_of_ble_eq_true this
  have PO:∀(k:Nat) (ok:Oper),k≠i→ops[k]? =some ok→ok.dst=some t→∃mk,(lI [] ops.toList)[k]? =some mk∧(posOf bk k<posOf bk i→l4 lK k=true)∧(¬posOf bk k<posOf bk i→l4 mk i=true):=by
   intro k ok al b8 ca
   obtain ⟨mk,aP,aA,_⟩:=Oh k ok b8
   refine ⟨mk,aP,?_⟩
   unfold A5 at aA
   rw [pA,if_neg (fun e=>al e.symm),ca] at aA
   simp only [Bool.and_eq_true] at aA
   have a2:=aA.1
   rw [show (gU ops o).contains t=true from by simpa using aF] at a2
   simp only [cond_true] at a2
   refine ⟨fun a7=>?_,fun N8=>?_⟩
   · rw [show Nat.blt (posOf bk k) (posOf bk i)=true from by rw [Nat.blt_eq];exact a7] at a2
     exact a2
   · rw [show Nat.blt (posOf bk k) (posOf bk i)=false from by rw [←Bool.not_eq_true,Nat.blt_eq];exact N8] at a2
     exact a2
  rw [←gL]
  rcases C.Iv (posOf bk i) (by omega) t Db with ⟨k,ok,FW,aP,aA,a2,b',da⟩ | ⟨aP,aA⟩
  · obtain ⟨mk,_,dj,_⟩:=PO k ok (fun e=>by subst e;omega) aA a2
    have X5:=Gv k (fun e=>by subst e;omega) (dj aP)
    rcases x' t Db with ⟨cb,lO,FX,b_,ch,cI,ga,fG⟩ | ⟨b_,_⟩
    · have:=uniq k cb ok lO t aA ch a2 cI
      subst this
      rw [b'] at ga;cases ga
      rw [da];exact fG
    · exact absurd a2 (b_ k ok X5 aA)
  · rcases x' t Db with ⟨cb,lO,FX,b_,ch,cI,ga,fG⟩ | ⟨_,ch⟩
    · have k6:cb≠i:=fun e=>rL (e ▸ b_)
      obtain ⟨mk,ym,_,eW⟩:=PO cb lO k6 ch cI
      by_cases a7:posOf bk cb<posOf bk i
      · exact absurd cI (aP cb lO a7 ch)
      · exact absurd (Oa cb mk i ym (eW a7) b_) rL
    · rw [aA];exact ch
 have k7:i<dK.size:=by rw [I.Dv];exact oS
 have after:∀(iW:Nat) (iz:Fr) (a_:Env) (x:Value) (aT:World),iW ∈ gJ→iW≤ops.size→(∀k ok,ops[k]? =some ok→h0 P ok=true→((k=i∨dK.getD k false=true)↔posOf bk k<iW))→
  (∀k ok,ops[k]? =some ok→kp ok=true→(k=i∨dK.getD k false=true)→posOf bk k<iW)→
  Holds aR iz es ar bk (lv ops es ar bk (dK.setIfInBounds i true) iW)→E.le a_→Rel a_ e.v x→cf iz a_ (eN es ar iW) aT→
  w9 P aR bd ops es bm ar gJ bk ky (dK.setIfInBounds i true) (a.put o.dst x) aT:=by
  intro iW iz a_ x aT l_ YJ nW Xi XM hle ax YI
  refine ⟨by simp [I.Dv],by cases h:o.dst<;>simp [Act.put,I.size],by cases h:o.dst<;>simp [Act.put,I.defers],?_,a_,iW,iz,zW.trans hle,l_,YJ,fun k ok ad ak=>by rw [nS k7];exact nW k ok ad ak,
   fun k ok ad ak aB=>Xi k ok ad ak ((nS k7).1 aB),XM,YI,fun t aF=>?_⟩
  · intro k ok fM al b8 l9 af
    rw [nS k7] at al ⊢
    rcases NP k ok fM al.symm b8 l9 af with h | h
    · exact .inr h
    · exact .inl h
  · by_cases ca:o.dst=some t
    · refine .inl ⟨i,o,e,by rw [nS k7];exact .inl rfl,fw,ca,sR,?_⟩
      have a7:t<a.tmps.size:=by
       have:=x4.1
       rw [ca] at this
       simp only [ka,Bool.and_eq_true,Nat.blt_eq] at this
       rw [I.size];exact this.1
      rw [ca]
      simp only [Act.put]
      rw [Array.getD_eq_getD_getElem?,Array.getElem?_setIfInBounds,if_pos rfl,if_pos a7]
      exact ax
    · have fP:(a.put o.dst x).tmps.getD t undef=a.tmps.getD t undef:=by
       cases Yi:o.dst with
       | none=>rfl
       | some d=>
         simp only [Act.put]
         rw [Array.getD_eq_getD_getElem?,Array.getD_eq_getD_getElem?,Array.getElem?_setIfInBounds,if_neg (fun e=>ca (by rw [Yi,e]))]
      rw [fP]
      rcases x' t aF with ⟨k,ok,FW,b_,ch,cI,ga,fG⟩ | ⟨b_,ch⟩
      · exact .inl ⟨k,ok,FW,by rw [nS k7];exact .inr b_,ch,cI,ga,Rel.mono hle _ _ fG⟩
      · refine .inr ⟨fun k ok al b8=>?_,Rel.mono hle _ _ ch⟩
        rw [nS k7] at al
        rcases al with rfl | al
        · rw [fw] at b8;cases b8;exact ca
        · exact b_ k ok al b8
 have Gz:¬(kp o=true∧Made es ar bk i)→∀iW k,lv ops es ar bk (dK.setIfInBounds i true) iW k↔lv ops es ar bk dK iW k:=by
  intro bT iW k
  constructor
  · rintro ⟨ok,aP,aA,a2,b'⟩
    exact ⟨ok,aP,aA,fun h=>a2 ((nS k7).2 (.inr h)),b'⟩
  · rintro ⟨ok,aP,aA,a2,b'⟩
    refine ⟨ok,aP,aA,fun h=>?_,b'⟩
    rcases (nS k7).1 h with rfl | h
    · rw [fw] at aP;cases aP;exact bT aA
    · exact a2 h
 have level:iS P o.op=true→s≤posOf bk i→s=posOf bk i∧kp o=false:=by
  intro oR hle
  rcases C.Q7 s aM with h | ⟨k,ok,bS,cF,gS⟩
  · omega
  · have Ye:¬dK.getD k false=true:=fun h=>by have:=(nX k ok bS cF).1 h;omega
    have sV:=(Array.getElem?_eq_some_iff.1 bS).1
    by_cases k6:k=i
    · subst k6
      rw [fw] at bS;cases bS
      refine ⟨gS,?_⟩
      unfold h0 at cF
      simpa [oR] using cF
    · have a7:posOf bk k<posOf bk i:=by
       have:posOf bk k≠posOf bk i:=fun e=>k6 (C.A' sV oS e)
       omega
      obtain ⟨mk,_,_,a2⟩:=Oh k ok bS
      exact absurd (Gv k k6 (a2 oR cF a7)) Ye
 cases oR:iS P o.op with
 | true=>
   cases bT:kp o with
   | true=>
     have a7:posOf bk i<s:=by
      rcases Nat.lt_or_ge (posOf bk i) s with h | h
      · exact h
      · have:=(level oR h).2
        rw [bT] at this;cases this
     by_cases hm:Made es ar bk i
     case neg=>
      have Hc:(hF P bd ops o).run (calls i) e.r (eN es ar s)=.val e.v (eN es ar s):=by
       rcases M4 bT eH with ⟨fq,bS,_⟩ | ⟨_,bS⟩
       · exact absurd (show Made es ar bk i from by unfold Made;rw [bS,j3];exact Nat.succ_ne_self _) hm
       · exact bS _
      refine Ct eT (kI i) (kf i) fw Hc I.size I.defers reads v8 fun a_ x aT aP aA a2=>dd _ _ (after s F a_ x aT aM uB (fun k ok b8 kj=>?_) (fun k ok b8 qI al=>?_) (mO.congr fun k=>Gz (fun h=>hm h.2) s k) aP aA a2)
      · constructor
        · rintro (rfl | h)
          · rw [fw] at b8;cases b8
            unfold h0 at kj
            rw [bT] at kj
            simp at kj
          · exact (nX k ok b8 kj).1 h
        · intro h
          exact .inr ((nX k ok b8 kj).2 h)
      · rcases al with rfl | al
        · exact a7
        · exact jh k ok b8 qI al
     have rF:lv ops es ar bk dK s i:=⟨o,fw,⟨bT,hm⟩,rL,a7⟩
     have GS:(eN es ar (posOf bk i+1)).next≠e.h.next:=by rw [←j3];exact hm
     have kl:nameAt es ar bk i=ao e.h.next:=by unfold nameAt;rw [j3]
     have s0:=(mO.new i rF).1
     have oX:=(mO.new i rF).2
     have pL:zv es ar bk i=(eN es ar (posOf bk i+1)).get (ao e.h.next):=by unfold zv;rw [kl]
     rw [kl,pL] at s0
     refine VW fw bT eH I.size I.defers reads v8 GS s0 fun a_ x aT aP aA a2=>dd _ _ (after s (F.free (ao e.h.next)) a_ x aT aM uB (fun k ok b8 kj=>?_) (fun k ok b8 qI al=>?_) ?_ aP aA a2)
     · constructor
       · rintro (rfl | h)
         · rw [fw] at b8;cases b8
           unfold h0 at kj
           rw [bT] at kj
           simp at kj
         · exact (nX k ok b8 kj).1 h
       · intro h
         exact .inr ((nX k ok b8 kj).2 h)
     · rcases al with rfl | al
       · exact a7
       · exact jh k ok b8 qI al
     · have sub:∀k,lv ops es ar bk (dK.setIfInBounds i true) s k→lv ops es ar bk dK s k∧k≠i:=by
        rintro k ⟨ok,aP,aA,a2,b'⟩
        refine ⟨⟨ok,aP,aA,fun h=>a2 ((nS k7).2 (.inr h)),b'⟩,fun e=>a2 ((nS k7).2 (.inl e))⟩
       refine ⟨mO.w,fun b af=>?_,fun k al=>?_,fun k cb al dJ=>mO.inj k cb (sub k al).1 (sub cb dJ).1⟩
       · by_cases vJ:b=ao e.h.next
         · subst vJ
           simp only [Fr.free,if_true]
           rw [←kl,oX]
         · simp only [Fr.free,if_neg vJ]
           refine mO.b5 b fun k al=>?_
           by_cases k6:k=i
           · subst k6;rw [kl];exact fun e=>vJ e.symm
           · obtain ⟨ok,aP,aA,a2,b'⟩:=al
             refine af k ⟨ok,aP,aA,fun h=>?_,b'⟩
             rcases (nS k7).1 h with h | h
             · exact k6 h
             · exact a2 h
       · obtain ⟨ki,k6⟩:=sub k al
         have gQ:nameAt es ar bk k≠ao e.h.next:=fun e=>k6 (mO.inj k i ki rF (by rw [e,kl]))
         simp only [Fr.free,if_neg gQ]
         exact mO.new k ki
   | false=>
     have Xp:h0 P o=true:=by unfold h0;rw [oR,bT];rfl
     have YH:s≤posOf bk i:=by
      rcases Nat.lt_or_ge (posOf bk i) s with h | h
      · exact absurd ((nX i o fw Xp).2 h) rL
      · exact h
     have Da:=(level oR YH).1
     rw [←j3,←Da] at eH
     refine Ct eT (kI i) (kf i) fw eH I.size I.defers reads v8 fun a_ x aT aP aA a2=>?_
     rw [Da] at a2
     have X4:∀k ok,ops[k]? =some ok→kp ok=true→posOf bk i+1≤posOf bk k→¬(dK.setIfInBounds i true).getD k false=true:=by
      intro k ok b8 qI aQ h
      rcases (nS k7).1 h with rfl | h
      · omega
      · have:=jh k ok b8 qI h
        omega
     have XO:Holds aR F es ar bk (lv ops es ar bk (dK.setIfInBounds i true) (posOf bk i+1)):=by
      refine mO.congr fun k=>?_
      rw [Gz (fun h=>by rw [bT] at h;cases h.1)]
      constructor
      · rintro ⟨ok,fk,fe,z3,z4⟩
        refine ⟨ok,fk,fe,z3,?_⟩
        have sV:=(Array.getElem?_eq_some_iff.1 fk).1
        have:posOf bk k≠posOf bk i:=fun e=>by
         have:=C.A' sV oS e
         subst this
         rw [fw] at fk;cases fk
         rw [bT] at fe;cases fe.1
        omega
      · rintro ⟨ok,fk,fe,z3,z4⟩
        exact ⟨ok,fk,fe,z3,by omega⟩
     obtain ⟨iW,iz,bH,bM,cT,fF,gY,ke⟩:=C.advance (ops.size - (posOf bk i+1)) (posOf bk i+1) (by omega) X4 F XO a2
     refine dd _ _ (after iW iz a_ x aT bH cT (fun k ok b8 kj=>?_) (fun k ok b8 qI al=>?_) gY aP aA ke)
     · have sV:=(Array.getElem?_eq_some_iff.1 b8).1
       constructor
       · rintro (rfl | h)
         · omega
         · have:=(nX k ok b8 kj).1 h
           omega
       · intro h
         by_cases k6:k=i
         · exact .inl k6
         · refine .inr ((nX k ok b8 kj).2 ?_)
           rcases Nat.lt_or_ge (posOf bk k) s with cU | cU
           · exact cU
           · have gQ:posOf bk k≠posOf bk i:=fun e=>k6 (C.A' sV oS e)
             have:=fF k ok b8 kj (by omega)
             omega
     · rcases al with rfl | al
       · omega
       · have:=jh k ok b8 qI al
         omega
 | false=>
   have bT:kp o=false:=by
    cases h:kp o with
    | false=>rfl
    | true=>rw [Zx h] at oR;cases oR
   obtain ⟨c,aC,Hc⟩:∃c,(lq P c∧lW P c)∧(hF P bd ops o).run c e.r (eN es ar s)=.val e.v (eN es ar s):=by
    cases fj:looks o.op with
    | false=>exact ⟨_,⟨kI i,kf i⟩,(zJ oR eH).2 fj _⟩
    | true=>
      obtain ⟨fM,aP,aA⟩:=C.ask i o fw fj oR
      rw [sR] at aP;cases aP
      obtain ⟨c,J,aC,a2⟩:=aA s aM (RJ (by rw [Ph];simp) fun k mk ok ad ak=>by
       simp only [Nat.zero_add]
       have b8:ops[k]? =some ok:=by simpa using ak
       cases Ai:h0 P ok with
       | false=>rfl
       | true=>
         simp only [cond_true]
         cases uv:Nat.blt (posOf bk k) s with
         | true=>
           rw [Nat.blt_eq] at uv
           simp only [cond_true,Bool.not_eq_true']
           cases af:l4 mk i with
           | false=>rfl
           | true=>exact absurd (Oa k mk i ad af ((nX k ok b8 Ai).2 uv)) rL
         | false=>
           have X1:¬posOf bk k<s:=by rw [←Nat.blt_eq,uv];simp
           simp only [cond_false,Bool.not_eq_true',Oc,Option.getD_some]
           cases af:l4 lK k with
           | false=>rfl
           | true=>
             by_cases k6:k=i
             · subst k6
               rw [fw] at b8;cases b8
               unfold h0 at Ai
               rw [oR] at Ai;cases Ai
             · exact absurd ((nX k ok b8 Ai).1 (Gv k k6 af)) X1)
      rw [(zJ oR a2).1] at a2
      exact ⟨c,aC,a2⟩
   refine Ct eT aC.1 aC.2 fw Hc I.size I.defers reads v8 fun a_ x aT aP aA a2=>dd _ _ (after s F a_ x aT aM uB (fun k ok b8 kj=>?_) (fun k ok b8 qI al=>?_) (mO.congr fun k=>Gz (fun h=>by rw [bT] at h;cases h.1) s k) aP aA a2)
   · constructor
     · rintro (rfl | h)
       · rw [fw] at b8;cases b8
         unfold h0 at kj
         rw [oR] at kj;cases kj
       · exact (nX k ok b8 kj).1 h
     · intro h
       exact .inr ((nX k ok b8 kj).2 h)
   · rcases al with rfl | al
     · rw [fw] at b8;cases b8;rw [bT] at qI;cases qI
     · exact jh k ok b8 qI al
theorem M7 {aR:Fr} (eT:kD P) (kI:∀i,lq P (calls i)) (kf:∀i,lW P (calls i)) (C:Cert P bd ops calls es bm aj hV ar gJ order bk) {ky:Env} {Q:Exit→Act→World→Prop}
 (dA:∀a_ cC aT,ky.le a_→hD a_ bd hV cC→cf aR a_ ar aT→Q .normal cC aT):∀(fuel:Nat) (dK:Array Bool) (a:Act) (w:World),(List.range ops.size).countP (fun i=>!dK.getD i false)≤fuel→
 w9 P aR bd ops es bm ar gJ bk ky dK a w→wpAny P .any ops Q fuel dK a w:=by
 have done:∀(dK:Array Bool) (a:Act) (w:World),w9 P aR bd ops es bm ar gJ bk ky dK a w→Region.ready .any ops dK=[]→∀i,i<ops.size→dK.getD i false=true:=by
  intro dK a w I ba i
  induction i using Nat.strongRecOn with
  | _ i bJ=>
    intro aH
    cases k7:dK.getD i false with
    | true=>rfl
    | false=>
      exfalso
      have fw:ops[i]? =some ops[i]:=Array.getElem?_eq_getElem aH
      obtain ⟨lK,_,nq,_⟩:=C.CH fw
      have:i ∈ Region.ready .any ops dK:=by
       rw [mem_ready]
       refine ⟨?_,ops[i],fw,fun e he af=>?_⟩
       · have gG:i<dK.size:=by rw [I.Dv];exact aH
         rw [Array.getD_eq_getD_getElem?,Array.getElem?_eq_getElem gG] at k7 ⊢
         exact k7
       · have ad:=List.all_eq_true.1 nq e (Array.mem_toList_iff.2 he)
         rw [Kj] at af
         rw [af] at ad
         simp only [Bool.not_true,Bool.false_or,Nat.blt_eq] at ad
         exact bJ e.on ad (by omega)
      rw [ba] at this
      simp at this
 have finish:∀(dK:Array Bool) (a:Act) (w:World),w9 P aR bd ops es bm ar gJ bk ky dK a w→Region.ready .any ops dK=[]→Q .normal a w:=by
  intro dK a w I ba
  have jh:=done dK a w I ba
  obtain ⟨E,s,F,zW,aM,uB,nX,_,mO,v8,x'⟩:=I.main
  have C4:eN es ar ops.size=ar:=by
   have:es[ops.size]? =none:=List.getElem?_eq_none (by rw [C.len];exact Nat.le_refl _)
   simp [eN,this]
  have Oq:kR es hV ops.size=hV:=by
   have:es[ops.size]? =none:=List.getElem?_eq_none (by rw [C.len];exact Nat.le_refl _)
   simp [kR,this]
  have Da:s=ops.size:=by
   rcases C.Q7 s aM with h | ⟨k,ok,bS,cF,gS⟩
   · exact h
   · have:=(nX k ok bS cF).1 (jh k (Array.getElem?_eq_some_iff.1 bS).1)
     omega
  subst Da
  have qA:F=aR:=mO.none fun k al=>by
   obtain ⟨ok,aP,aA,a2,b'⟩:=al
   exact a2 (jh k (Array.getElem?_eq_some_iff.1 aP).1)
  subst qA
  rw [C4] at v8
  refine dA E a w zW ⟨I.size,I.defers,fun t aF=>?_⟩ v8
  have YU:∀(k cb:Nat) (ok lO:Oper),ops[k]? =some ok→ops[cb]? =some lO→ok.dst=some t→lO.dst=some t→k=cb:=by
   intro k cb ok lO ad ak aB bw
   obtain ⟨mk,_,_,aQ⟩:=C.CH ad
   obtain ⟨mk',_,kn,_⟩:=aQ cb lO ak
   unfold A5 at kn
   rw [pA] at kn
   by_cases gq:k=cb
   · exact gq
   · rw [if_neg gq,bw,aB] at kn
     simp at kn
  rcases C.Iv ops.size (Nat.le_refl _) t aF with ⟨k,ok,FW,aP,aA,a2,b',da⟩ | ⟨aP,aA⟩
  · rw [Oq] at da
    rcases x' t aF with ⟨cb,lO,FX,b_,ch,cI,ga,fG⟩ | ⟨b_,_⟩
    · have:=YU k cb ok lO aA ch a2 cI
      subst this
      rw [b'] at ga;cases ga
      rw [da];exact fG
    · exact absurd a2 (b_ k ok (jh k (Array.getElem?_eq_some_iff.1 aA).1) aA)
  · rw [Oq] at aA
    rcases x' t aF with ⟨cb,lO,FX,b_,ch,cI,ga,fG⟩ | ⟨_,ch⟩
    · exact absurd cI (aP cb lO (C.nu cb (Array.getElem?_eq_some_iff.1 ch).1).1 ch)
    · rw [aA];exact ch
 intro fuel
 induction fuel with
 | zero=>
   intro dK a w aC I
   have jh:∀i,i<ops.size→dK.getD i false=true:=by
    intro i aH
    have aj:(List.range ops.size).countP (fun i=>!dK.getD i false)=0:=by omega
    rw [List.countP_eq_zero] at aj
    simpa using aj i (List.mem_range.2 aH)
   have ba:Region.ready .any ops dK=[]:=by
    cases aZ:Region.ready .any ops dK with
    | nil=>rfl
    | cons j bu=>
      exfalso
      have bQ:j ∈ Region.ready .any ops dK:=by rw [aZ];simp
      rw [mem_ready] at bQ
      obtain ⟨ad,o,ak,_⟩:=bQ
      have:=jh j (Array.getElem?_eq_some_iff.1 ak).1
      rw [xV] at this
      rw [Array.getD_eq_getD_getElem?,this] at ad
      simp at ad
   exact ⟨ba,finish dK a w I ba⟩
 | succ fuel bJ=>
   intro dK a w aC I
   refine ⟨fun ba=>finish dK a w I ba,fun i aH=>?_⟩
   refine VY eT kI kf C I aH fun cC aT R2=>bJ _ cC aT ?_ R2
   have qH:=aH
   rw [mem_ready] at qH
   obtain ⟨ad,o,ak,_⟩:=qH
   have oS:i<ops.size:=(Array.getElem?_eq_some_iff.1 ak).1
   have k7:i<dK.size:=by rw [I.Dv];exact oS
   have rL:dK.getD i false=false:=by
    rw [Array.getD_eq_getD_getElem?,Array.getElem?_eq_getElem k7] at ad ⊢
    exact ad
   have:=MZ (fun k=>!dK.getD k false) (fun k=>!(dK.setIfInBounds i true).getD k false) (List.range ops.size)
    (fun k _ al=>by
      simp only [Bool.not_eq_true'] at al ⊢
      cases aZ:dK.getD k false with
      | false=>rfl
      | true=>
        have:=(nS (k:=k) k7).2 (.inr aZ)
        rw [al] at this
        cases this)
    ⟨i,List.mem_range.2 oS,by simp [rL],by
      have:=(nS (k:=i) k7).2 (.inl rfl)
      simp [this]⟩
   omega
theorem VX {aR:Fr} {E:Env} {h J:ai} {w:World} {id:Nat} (eS:P.follows .mixedOrders=true) (eT:kD P) (kI:lq P call) (kf:lW P call) {r bR:c7} {a:Act}
 (he:(Cu P bd ops).run call r h=.ok bR J) (k:hD E bd r a) (s:cf aR E h w) {Q:Exit→Act→World→Prop}
 (dA:∀a_ cC aT,E.le a_→hD a_ bd bR cC→cf aR a_ J aT→Q .normal cC aT):(Code.region id ops true).wp P Q a w:=by
 unfold Cu at he
 generalize A2 P ops=order at he
 generalize DQ order 0 ops.toList=bk at he
 unfold M6 at he
 cases ar:(yC ops.size order bk&&xK P ops bk) with
 | false=>rw [ar] at he;cases he
 | true=>
   rw [ar] at he
   simp only [cond_true] at he
   simp only [Bool.and_eq_true] at ar
   obtain ⟨rN,x4⟩:=ar
   unfold yC at rN
   simp only [Bool.and_eq_true,Nat.beq_eq] at rN
   obtain ⟨GX,Yh,GY,GZ⟩:=rN
   have nu:∀k,k<ops.size→posOf bk k<ops.size∧order[posOf bk k]? =some k:=by
    intro k al
    have bl:bk[k]? =some (posOf bk k):=by
     unfold posOf
     rw [List.getElem?_eq_getElem (by omega)]
     rfl
    have:=A7 GY bl
    rw [Nat.zero_add] at this
    exact ⟨by have:=(List.getElem?_eq_some_iff.1 this).1;omega,this⟩
   have uS:∀p,p<ops.size→∃i,i<ops.size∧posOf bk i=p:=by
    intro p aQ
    have bl:order[p]? =some (order[p]'(by omega)):=List.getElem?_eq_getElem (by omega)
    have:=A7 GZ bl
    rw [Nat.zero_add] at this
    refine ⟨order[p]'(by omega),by have:=(List.getElem?_eq_some_iff.1 this).1;omega,?_⟩
    unfold posOf
    rw [this]
    rfl
   have main:∀(q:EB),
    (∀es pO,(sd P bd ops (p2 ops order)).run call r h=.ok es bR pO→q.run call es pO=true→∀j o,ops[j]? =some o→looks o.op=true→iS P o.op=false→∃e,es[posOf bk j]? =some e∧∀s ∈ mf P bk 0 ops.toList,
      wI P (lI [] ops.toList) ops.toList bk j (((lI [] ops.toList)[j]?).getD 0) s=true→∃J,(hF P bd ops o).run call e.r (eN es pO s)=.val e.v J)→
    Cv (sd P bd ops (p2 ops order)) q call r h=.ok bR J→(Code.region id ops true).wp P Q a w:=by
    intro q Gp eH
    unfold Cv at eH
    cases di:(sd P bd ops (p2 ops order)).run call r h with
    | fail=>rw [di] at eH;cases eH
    | ok es D6 cU=>
      rw [di] at eH
      simp only at eH
      cases aZ:q.run call es cU with
      | false=>rw [aZ] at eH;cases eH
      | true=>
        rw [aZ] at eH
        simp only [cond_true,rq.ok.injEq] at eH
        obtain ⟨rfl,rfl⟩:=eH
        obtain ⟨aP,aA,a2,b'⟩:=IY di
        have C:Cert P bd ops (fun _=>call) es r h D6 cU (mf P bk 0 ops.toList) order bk:=
         ⟨by rw [aP,Ie,GX],nu,uS,aA,a2,fun i o bA=>b' _ o (yA (nu i (Array.getElem?_eq_some_iff.1 bA).1).2 bA),x4,
           by simpa using HN (P:=P) (bk:=bk) (l:=ops.toList) (i:=0),
           fun j o ad ak=>by simpa using HO (bk:=bk) (i:=0) (j:=j) (l:=ops.toList) (by simpa using ad) ak,
           fun s aM=>by
            rcases AH aM with h | ⟨j,o,ad,ak,aB⟩
            · exact .inl (by simpa using h)
            · exact .inr ⟨j,o,by simpa using ad,ak,by simpa using aB⟩,
           fun j o ad ak aB=>by
            obtain ⟨e,bH,bM⟩:=Gp es cU di aZ j o ad ak aB
            exact ⟨e,bH,fun s aM hm=>by obtain ⟨J,cT⟩:=bM s aM hm;exact ⟨_,J,⟨kI,kf⟩,cT⟩⟩⟩
        have fU:∀k,¬(Array.replicate ops.size false).getD k false=true:=by
         intro k
         rw [xV,Array.getElem?_replicate]
         split<;>simp
        have mO:Holds aR aR es cU bk (lv ops es cU bk (Array.replicate ops.size false) 0):=
         ⟨rfl,fun _ _=>rfl,fun k al=>(by obtain ⟨_,_,_,_,aj⟩:=al;omega),fun k cb al=>(by obtain ⟨_,_,_,_,aj⟩:=al;omega)⟩
        obtain ⟨iW,iz,bH,bM,cT,fF,gY,ke⟩:=C.advance ops.size 0 (by omega) (fun k o _ _ _=>fU k) aR mO (E:=E) (w:={w with drawn:=w.drawn}) (by rw [aA];exact s.same rfl rfl rfl rfl)
        refine wp_region_any eS (M7 eT (fun _=>kI) (fun _=>kf) C (ky:=E) dA ops.size _ a _ ?_ ?_)
        · exact Nat.le_trans List.countP_le_length (by simp)
        · refine ⟨by simp,k.size,k.defers,fun cb o e al=>absurd al (fU cb),E,iW,iz,Env.le.refl E,bH,cT,fun cb o ad ak=>⟨fun h=>absurd h (fU cb),fun h=>by have:=fF cb o ad ak (Nat.zero_le _);omega⟩,
           fun cb o _ _ h=>absurd h (fU cb),gY,?_,fun t aF=>.inr ⟨fun cb o al=>absurd al (fU cb),k.ag t aF⟩⟩
          exact ke.same rfl rfl rfl rfl
   cases aL:sC P ops.toList with
   | false=>
     rw [aL] at he
     have none:∀(l:List Oper),sC P l=false→∀(j:Nat) (o:Oper),l[j]? =some o→iS P o.op=false:=by
      intro l
      induction l with
      | nil=>intro _ j o h;simp at h
      | cons x l bJ=>
        intro h j o bA
        simp only [sC,Bool.or_eq_false_iff] at h
        cases j with
        | zero=>simp only [List.getElem?_cons_zero,Option.some.injEq] at bA;subst bA;exact h.1
        | succ j=>exact bJ h.2 j o (by simpa using bA)
     refine main _ (fun es pO di _ j o bA fj aZ=>?_) he
     obtain ⟨aP,aA,a2,b'⟩:=IY di
     have bQ:=(Array.getElem?_eq_some_iff.1 bA).1
     obtain ⟨e,b_,ch,cI⟩:=b' _ o (yA (nu j bQ).2 bA)
     refine ⟨e,b_,fun s aM _=>?_⟩
     have l_:s=ops.size:=by
      rcases AH aM with h | ⟨Dl,dV,ad,ak,aB⟩
      · simpa using h
      · have:=none _ aL Dl dV ad
        unfold h0 at ak
        rw [this] at ak
        cases ak
     have flat:∀d,d≤ops.size→eN es pO d=eN es pO 0:=by
      intro d
      induction d with
      | zero=>intro _;rfl
      | succ d bJ=>
        intro ca
        obtain ⟨i,pQ,qH⟩:=uS d (by omega)
        have fw:ops[i]? =some ops[i]:=Array.getElem?_eq_getElem pQ
        obtain ⟨V2,dH,dq,_⟩:=b' _ ops[i] (yA (nu i pQ).2 fw)
        rw [qH] at dH dq
        have gQ:iS P ops[i].op=false:=none _ aL i _ (by simp)
        rw [(zJ gQ dq).1,←bJ (by omega)]
        simp [eN,dH]
     have Yo:=(nu j bQ).1
     have:e.h=eN es pO s:=by rw [l_,flat ops.size (Nat.le_refl _),←flat (posOf bk j) (by omega)];simp [eN,b_]
     rw [←this]
     exact ⟨_,ch⟩
   | true=>
     rw [aL] at he
     refine main _ (fun es pO di aZ j o bA fj Ys=>?_) he
     have:=Kc aZ j o (by simpa using bA) fj Ys
     simpa using this
end
end Go.Proofs.YtjbiefneffiogaaGreat.bs
namespace Go.Proofs.YtjbiefneffiogaaGreat.bs
variable [Lay]
open Go Go.RowKit
def w0:cN→Exit
 | .normal=>.normal
 | .exit id=>.exit id
 | .ret=>.ret
def tQ (C:Ctx):Prop:=
 ∀f p args h v J,C.n_ f=some p→p.run args h=.val v J→(∃fn,C.P.funcs[f]? =some fn∧fn.body.isSome=true)∧∀(aR:Fr) E w xs,bW E args xs→cf aR E h w→
  Calls C.P f xs.toArray w fun e aT=>∃a_ x,e=.returned x∧E.le a_∧Rel a_ v x∧cf aR a_ J aT
def Ev (P:Program) (c:Code) (Q:Exit→Act→World→Prop) (a:Act) (w:World):Prop:=
 match c with
 | .loop x=>∀(b:Frame) (k:List Item) (cs:List Frame),∃e cC aT,Q e cC aT∧Arrives P (lone (b.at a (.code x::.inLoop x::k)) cs w) b k cs e cC aT
 | c=>c.wp P Q a w
theorem Ev.wp {P:Program} {c:Code} {Q:Exit→Act→World→Prop} {a:Act} {w:World} (h:Ev P c Q a w):c.wp P Q a w:=by
 cases c with
 | loop x=>
   intro b k cs
   obtain ⟨e,cC,aT,q,r⟩:=h b k cs
   exact ⟨e,cC,aT,q,.of_steps (.one step_loop) r⟩
 | _=>exact h
def JB (P:Program) (bd:Nat) (c:Code) (run:c7→ai→i'):Prop:=
 ∀(aR:Fr) r h e bR J,run r h=.ok e bR J→∀E a w,hD E bd r a→cf aR E h w→∀Q:Exit→Act→World→Prop,
  (∀a_ cC aT,E.le a_→hD a_ bd bR cC→cf aR a_ J aT→Q (w0 e) cC aT)→Ev P c Q a w
def EI (P:Program) (ex:lX):Prop:=∀bd c,JB P bd c (ex bd c)
def wT (tmps:Array Value):ResultVar→Sem Value
 | .tmp t=>pure (tmps.getD t undef)
 | .cell b t=>do loadVar t (←asAddr (tmps.getD b undef))
theorem D2 {P:Program} {aR:Fr} {E:Env} {bd:Nat} {r:c7} {h:ai} {a:Act} {w:World} (k:hD E bd r a) (s:cf aR E h w):∀{l:List ResultVar} {ah:List V},(mZ P bd l).run r h=some ah→
 ∃xs,bW E ah xs∧(l.mapM (wT a.tmps)).run P w=.ok xs w
 | [],ah,he=>by
   simp only [mZ,Option.some.injEq] at he
   subst he
   exact ⟨[],rfl,rfl⟩
 | .tmp t::l,ah,he=>by
   simp only [mZ] at he
   cases aC:(Nat.ble t top&&Nat.blt t bd) with
   | false=>rw [aC] at he;cases he
   | true=>
     rw [aC] at he
     simp only [cond_true] at he
     simp only [Bool.and_eq_true,Nat.ble_eq] at aC
     cases ba:(mZ P bd l).run r h with
     | none=>rw [ba] at he;cases he
     | some us=>
       rw [ba] at he
       simp only [Option.some.injEq] at he
       subst he
       obtain ⟨xs,ad,ak⟩:=D2 k s ba
       refine ⟨_::xs,by simp only [bW];exact ⟨_,_,rfl,k.ag t aC.1,ad⟩,?_⟩
       rw [List.mapM_cons,Sem.run_bind]
       simp only [wT,Sem.run_pure,Result.andThen_ok,Sem.run_bind,ak]
 | .cell b t::l,ah,he=>by
   simp only [mZ] at he
   cases aC:(Nat.ble b top&&Nat.blt b bd) with
   | false=>rw [aC] at he;cases he
   | true=>
     rw [aC] at he
     simp only [cond_true] at he
     simp only [Bool.and_eq_true,Nat.ble_eq] at aC
     cases bh:(wF P t).run h (T.get .bad (ao b) r) with
     | none=>rw [bh] at he;cases he
     | some v=>
       rw [bh] at he
       simp only at he
       cases ba:(mZ P bd l).run r h with
       | none=>rw [ba] at he;cases he
       | some us=>
         rw [ba] at he
         simp only [Option.some.injEq] at he
         subst he
         obtain ⟨xs,ad,ak⟩:=D2 k s ba
         obtain ⟨Y,_,fi,A,dz,jK⟩:=Pb (P:=P) s (k.ag b aC.1) bh
         refine ⟨Y::xs,by simp only [bW];exact ⟨_,_,rfl,fi,ad⟩,?_⟩
         rw [List.mapM_cons,Sem.run_bind]
         simp only [wT,dz,asAddr,Sem.run_bind,Sem.run_pure,Result.andThen_ok,jK,ak]
theorem J':∀(args:List V) (i:Nat) (t:c7) (j:Nat),i+args.length≤top+1→j≤top→
 T.get .bad (ao j) (vr i args t)=if i≤j∧j<i+args.length then (args[j-i]?).getD .bad else T.get .bad (ao j) t
 | [],i,t,j,_,_=>by
   have:¬(i≤j∧j<i):=by omega
   simp [vr,this]
 | v::ah,i,t,j,h,bQ=>by
   simp only [List.length_cons] at h ⊢
   rw [vr,J' ah _ _ _ (by omega) bQ]
   by_cases ad:i+1≤j∧j<i+1+ah.length
   · rw [if_pos ad,if_pos (by omega)]
     have:j-i=(j - (i+1))+1:=by omega
     rw [this,List.getElem?_cons_succ]
   · rw [if_neg ad,T.oO]
     by_cases ak:j=i
     · subst ak;rw [if_pos rfl,if_pos (by omega)];simp
     · rw [if_neg (fun e=>ak (n' e).symm),if_neg (by omega)]
theorem PK {E:Env} {ah:List V} {xs:List Value} (h:bW E ah xs) (fn:Func) (a:Act) (P:Program) (w:World)
 (ba:(fn.results.toList.mapM (wT a.tmps)).run P w=.ok xs w):∃x,(results fn a.tmps).run P w=.ok x w∧Rel E (oneOf ah) x:=by
 have vW:(fn.results.mapM (wT a.tmps)).run P w=.ok xs.toArray w:=by
  rw [Array.mapM_eq_mapM_toList,Sem.run_map,ba]
  rfl
 have z8:results fn a.tmps=(do
  let ah ←fn.results.mapM (wT a.tmps)
  pure (if h:ah.size=1 then ah[0] else .tuple ah)):=by
  unfold results
  have:(fun x=>match x with
   | ResultVar.tmp t=>(pure (a.tmps.getD t undef):Sem Value)
   | ResultVar.cell b t=>do loadVar t (←asAddr (a.tmps.getD b undef)))=wT a.tmps:=by
   funext x
   cases x<;>rfl
  rw [←this]
  rfl
 have uA:(results fn a.tmps).run P w=.ok (if h:xs.toArray.size=1 then xs.toArray[0] else .tuple xs.toArray) w:=by
  rw [z8,Sem.run_bind,vW]
  rfl
 refine ⟨_,uA,?_⟩
 match ah,h with
 | [],h=>
   simp only [bW] at h
   subst h
   simp only [oneOf,Rel]
   exact ⟨#[],rfl,rfl⟩
 | [v],h=>
   simp only [bW] at h
   obtain ⟨y,gm,rfl,bG,rfl⟩:=h
   simpa [oneOf] using bG
 | v::u::ah,h=>
   have aL:=h.length
   have gQ:¬xs.toArray.size=1:=by simp at aL ⊢;omega
   rw [dif_neg gQ]
   simp only [oneOf,Rel]
   exact ⟨_,rfl,by simpa using h⟩
section
variable {C:Ctx}
theorem Nz {f:FuncId} {ex:lX} {args:List V} {h J:ai} {v:V} (he:(CK C.P f).run ex args h=.val v J):∃fn,C.P.funcs[f]? =some fn∧fn.body.isSome=true:=by
 unfold CK at he
 cases ar:C.P.funcs[f]? with
 | none=>rw [ar] at he;cases he
 | some fn=>
   rw [ar] at he
   simp only at he
   cases af:fn.body with
   | none=>rw [af] at he;cases he
   | some c=>exact ⟨fn,rfl,by rw [af];rfl⟩
theorem U9 (jx:tQ C) (ex:lX):lW C.P (sI C ex):=by
 intro f args h v J he
 trivial
theorem U' (jx:tQ C) (ex:lX) {f:FuncId} {args:List V} {h J:ai} {v:V} (he:sI C ex f args h=.val v J):∃fn,C.P.funcs[f]? =some fn∧fn.body.isSome=true:=by
 unfold sI F6 at he
 cases aQ:C.n_ f with
 | some p=>rw [aQ] at he;exact (jx f p args h v J aQ he).1
 | none=>rw [aQ] at he;exact Nz he
theorem MM (jx:tQ C) {ex:lX} (hex:EI C.P ex):lq C.P (sI C ex):=by
 intro aR f args h v J he E w xs aL s
 unfold sI F6 at he
 cases aQ:C.n_ f with
 | some p=>rw [aQ] at he;exact .inl ⟨(jx f p args h v J aQ he).1,(jx f p args h v J aQ he).2 aR E w xs aL s⟩
 | none=>
   rw [aQ] at he
   simp only at he
   refine .inl ⟨Nz he,?_⟩
   unfold CK at he
   cases ar:C.P.funcs[f]? with
   | none=>rw [ar] at he;cases he
   | some fn=>
     rw [ar] at he
     simp only at he
     cases af:fn.body with
     | none=>rw [af] at he;cases he
     | some c=>
       rw [af] at he
       simp only at he
       cases qJ:Nat.ble fn.ntmps top with
       | false=>rw [qJ] at he;cases he
       | true=>
         rw [qJ] at he
         simp only [cond_true,NA] at he
         rw [Nat.ble_eq] at qJ
         obtain ⟨CY,pN⟩:=qq he
         rw [Nat.ble_eq] at CY
         cases eH:ex fn.ntmps c (vr 0 args .e) h with
         | fail=>rw [eH] at pN;cases pN
         | ok e bR ad=>
           rw [eH] at pN
           simp only at pN
           have hlen:=aL.length
           have k:hD E fn.ntmps (vr 0 args .e) {tmps:=xs.toArray++Array.replicate (fn.ntmps-xs.toArray.size) undef,defers:=[]}:=by
            refine ⟨by simp;omega,rfl,fun t aF=>?_⟩
            rw [J' _ _ _ _ (by omega) aF]
            by_cases a7:t<args.length
            · rw [if_pos (by omega),Nat.sub_zero,List.getElem?_eq_getElem a7]
              obtain ⟨y,bG,fi⟩:=aL.get t args[t] (List.getElem?_eq_getElem a7)
              simp only [Option.getD_some]
              have:(xs.toArray++Array.replicate (fn.ntmps-xs.toArray.size) undef).getD t undef=y:=by
               rw [Array.getD_eq_getD_getElem?,Array.getElem?_append_left (by simp;omega)]
               simp [bG]
              rw [this];exact fi
            · rw [if_neg (by omega)]
              simp [Rel]
           refine calls_of_wp ar af ?_
           have post:∀ah,(mZ C.P fn.ntmps fn.results.toList).run bR ad=some ah→oneOf ah=v→ad=J→∀a_ cC aT,E.le a_→hD a_ fn.ntmps bR cC→cf aR a_ ad aT→
            cC.defers=[]∧∃x,(results fn cC.tmps).run C.P aT=.ok x aT∧∃ff fC,Ending.returned x=.returned fC∧E.le ff∧Rel ff v fC∧cf aR ff J aT:=by
            intro ah bh pR XP a_ cC aT aP aA a2
            obtain ⟨gm,b_,ch⟩:=D2 (P:=C.P) aA a2 bh
            obtain ⟨x,cI,ga⟩:=PK b_ fn cC C.P aT ch
            exact ⟨aA.defers,x,cI,a_,x,rfl,aP,pR ▸ ga,XP ▸ a2⟩
           have fin:∀fM,e=fM→(fM=.normal∨fM=.ret)→(match (mZ C.P fn.ntmps fn.results.toList).run bR ad with
            | some ah=>bE.val (oneOf ah) ad
            | none=>.fail)=.val v J→c.wp C.P (bodyPost C.P fn fun e aT=>∃a_ x,e=.returned x∧E.le a_∧Rel a_ v x∧cf aR a_ J aT) {tmps:=xs.toArray++Array.replicate (fn.ntmps-xs.toArray.size) undef,defers:=[]} w:=by
            intro fM XA km uA
            subst XA
            cases bh:(mZ C.P fn.ntmps fn.results.toList).run bR ad with
            | none=>rw [bh] at uA;cases uA
            | some ah=>
              rw [bh] at uA
              simp only [bE.val.injEq] at uA
              refine (hex fn.ntmps c aR _ _ _ _ _ eH E _ w k s _ fun a_ cC aT aP aA a2=>?_).wp
              have:=post ah bh uA.1 uA.2 a_ cC aT aP aA a2
              rcases km with rfl | rfl<;>exact this
           cases e with
           | normal=>exact fin _ rfl (.inl rfl) pN
           | ret=>exact fin _ rfl (.inr rfl) pN
           | exit id=>cases pN
theorem VA (eS:C.P.follows .mixedOrders=true) (eT:kD C.P) (jx:tQ C) {ex:lX} (hex:EI C.P ex) (bd:Nat):∀c:Code,JB C.P bd c ((iN C bd c).run ex):=by
 have kI:=MM jx hex
 have kf:=U9 jx ex
 intro c
 induction c with
 | skip=>
   intro aR r h e bR J he E a w k s Q dA
   simp only [iN,i'.ok.injEq] at he
   obtain ⟨rfl,rfl,rfl⟩:=he
   exact wp_skip (dA E a w (Env.le.refl E) k s)
 | label l=>
   intro aR r h e bR J he E a w k s Q dA
   simp only [iN,i'.ok.injEq] at he
   obtain ⟨rfl,rfl,rfl⟩:=he
   exact wp_label (dA E a w (Env.le.refl E) k s)
 | exit id=>
   intro aR r h e bR J he E a w k s Q dA
   simp only [iN,i'.ok.injEq] at he
   obtain ⟨rfl,rfl,rfl⟩:=he
   exact wp_exit (dA E a w (Env.le.refl E) k s)
 | ret=>
   intro aR r h e bR J he E a w k s Q dA
   simp only [iN,i'.ok.injEq] at he
   obtain ⟨rfl,rfl,rfl⟩:=he
   exact wp_ret (dA E a w (Env.le.refl E) k s)
 | region id ops draw=>
   intro aR r h e bR J he E a w k s Q dA
   cases draw with
   | true=>
     simp only [iN,cond_true,D0] at he
     cases ba:(Cu C.P bd ops).run (sI C ex) r h with
     | fail=>rw [ba] at he;cases he
     | ok aY ad=>
       rw [ba] at he
       simp only [i'.ok.injEq] at he
       obtain ⟨rfl,rfl,rfl⟩:=he
       exact VX eS eT kI kf ba k s dA
   | false=>
     simp only [iN,cond_false,D0] at he
     cases ba:(yB C.P bd ops ops.toList).run (sI C ex) r h with
     | fail=>rw [ba] at he;cases he
     | ok aY ad=>
       rw [ba] at he
       simp only [i'.ok.injEq] at he
       obtain ⟨rfl,rfl,rfl⟩:=he
       refine wp_region ?_
       have:=PL (Q:=Q) eT kI kf ops.toList 0 (fun j=>by simp) E r aY h ad a w ba k s dA
       rw [List.range_eq_range']
       simpa using this
 | seq x y wm wo=>
   intro aR r h e bR J he E a w k s Q dA
   simp only [iN,QN] at he
   cases ba:(iN C bd x).run ex r h with
   | fail=>rw [ba] at he;cases he
   | ok aI aY ad=>
     rw [ba] at he
     simp only at he
     refine wp_seq (wm aR r h aI aY ad ba E a w k s _ fun a_ cC aT aP aA a2=>?_).wp
     cases aI with
     | normal=>exact (wo aR aY ad e bR J he a_ cC aT aA a2 Q fun ff b1 dq b_ ch cI=>dA ff b1 dq (aP.trans b_) ch cI).wp
     | exit id=>simp only [i'.ok.injEq] at he;obtain ⟨rfl,rfl,rfl⟩:=he;exact dA a_ cC aT aP aA a2
     | ret=>simp only [i'.ok.injEq] at he;obtain ⟨rfl,rfl,rfl⟩:=he;exact dA a_ cC aT aP aA a2
 | cond c x y wm wo=>
   intro aR r h e bR J he E a w k s Q dA
   simp only [iN,MS] at he
   have aC:=gp k c
   cases bh:(ec c).run r<;>rw [bh] at he aC<;>simp only at he<;>try (cases he;done)
   rename_i t
   simp only [Rel] at aC
   cases t with
   | true=>exact wp_cond_true aC (wm aR r h e bR J he E a w k s Q dA).wp
   | false=>exact wp_cond_false aC (wo aR r h e bR J he E a w k s Q dA).wp
 | block id x bJ=>
   intro aR r h e bR J he E a w k s Q dA
   simp only [iN,Kl] at he
   cases ba:(iN C bd x).run ex r h with
   | fail=>rw [ba] at he;cases he
   | ok aI aY ad=>
     rw [ba] at he
     simp only at he
     refine wp_block (bJ aR r h aI aY ad ba E a w k s _ fun a_ cC aT aP aA a2=>?_).wp
     cases aI with
     | normal=>simp only [i'.ok.injEq] at he;obtain ⟨rfl,rfl,rfl⟩:=he;exact dA a_ cC aT aP aA a2
     | ret=>simp only [i'.ok.injEq] at he;obtain ⟨rfl,rfl,rfl⟩:=he;exact dA a_ cC aT aP aA a2
     | exit i=>
       simp only [pA] at he
       simp only [w0,Exit.inBlock]
       by_cases aH:i=id
       · rw [if_pos aH] at he ⊢
         simp only [i'.ok.injEq] at he;obtain ⟨rfl,rfl,rfl⟩:=he;exact dA a_ cC aT aP aA a2
       · rw [if_neg aH] at he ⊢
         simp only [i'.ok.injEq] at he;obtain ⟨rfl,rfl,rfl⟩:=he;exact dA a_ cC aT aP aA a2
 | loop x bJ=>
   intro aR r h e bR J he E a w k s Q dA
   simp only [iN,Pc] at he
   cases ba:(iN C bd x).run ex r h with
   | fail=>rw [ba] at he;cases he
   | ok aI aY ad=>
     rw [ba] at he
     simp only at he
     intro b fq cs
     have body:=(bJ aR r h aI aY ad ba E a w k s
      (fun fM cC aT=>fM=w0 aI∧∃a_,E.le a_∧hD a_ bd aY cC∧cf aR a_ ad aT) (fun a_ cC aT aP aA a2=>⟨rfl,a_,aP,aA,a2⟩)).wp b (.inLoop x::fq) cs
     obtain ⟨bo,b1,dq,⟨rfl,ff,aP,aA,a2⟩,qC⟩:=body
     cases aI with
     | normal=>
       have next:=hex bd (.loop x) aR aY ad e bR J he ff b1 dq aA a2 Q (fun kz a4 ix t1 t2 t3=>dA kz a4 ix (aP.trans t1) t2 t3)
       obtain ⟨cp,a3,hA,b_,ch⟩:=next b fq cs
       exact ⟨cp,a3,hA,b_,.of_steps (Steps.trans qC (.one step_inLoop)) ch⟩
     | exit id=>
       simp only [i'.ok.injEq] at he;obtain ⟨rfl,rfl,rfl⟩:=he
       exact ⟨.exit id,b1,dq,dA ff b1 dq aP aA a2,.pass (x:=.inLoop x) rfl (fun _ _=>.inl (by simp)) qC⟩
     | ret=>
       simp only [i'.ok.injEq] at he;obtain ⟨rfl,rfl,rfl⟩:=he
       exact ⟨.ret,b1,dq,dA ff b1 dq aP aA a2,.pass (x:=.inLoop x) rfl (fun _ _=>.inl (by simp)) qC⟩
 | scope x bJ=>
   intro aR r h e bR J he E a w k s Q dA
   simp only [iN] at he
   refine wp_scope_straight (bJ aR r h e bR J he E a w k s _ fun a_ cC aT aP aA a2=>?_).wp
   have:=dA a_ cC aT aP aA a2
   cases e<;>exact this
 | rangeFunc f ct x y _ _=>intro aR r h e bR J he;simp [iN] at he
 | goto l=>intro aR r h e bR J he;simp [iN] at he
 | refuse agC=>intro aR r h e bR J he;simp [iN] at he
theorem Nl (eS:C.P.follows .mixedOrders=true) (eT:kD C.P) (jx:tQ C):∀n,EI C.P (exec C n)
 | 0=>fun bd c aR r h e bR J he=>by simp [exec] at he
 | n+1=>fun bd c=>VA eS eT jx (Nl eS eT jx n) bd c
theorem U_ (eS:C.P.follows .mixedOrders=true) (eT:kD C.P) (jx:tQ C) (n:Nat):lq C.P (FL C n):=MM jx (Nl eS eT jx n)
theorem QR (w:World) (hw:Lay.ok w):cf ⟨w,fun _=>none⟩ (fun _=>none) ai.empty w:=by
 refine ⟨fun b _=>?_,fun _ _ h=>(by cases h),(fun b b2 p nt _ _ h=>by cases h),fun _ _=>rfl,Below.refl _ _,hw,(fun _ _ _ _ _ _ h=>by cases h)⟩
 have:ai.empty.get b=.dead:=by simp [ai.get,ai.empty]
 rw [this]
 trivial
theorem age (eS:C.P.follows .mixedOrders=true) (eT:kD C.P) {w:World} (hw:Lay.ok w) (jx:tQ C) {n:Nat} {f:FuncId} (h:I2 C n f []=true):Calls C.P f #[] w fun e aT=>e=.returned (.bool true)∧Below w.heap.size w aT:=by
 unfold I2 at h
 cases aC:FL C n f [] ai.empty with
 | fail=>rw [aC] at h;cases h
 | val v cU=>
   rw [aC] at h
   simp only at h
   cases v<;>simp only at h<;>try (cases h;done)
   subst h
   have kf:∃fn,C.P.funcs[f]? =some fn∧fn.body.isSome=true:=U' jx _ aC
   rcases U_ eS eT jx n ⟨w,fun _=>none⟩ f [] ai.empty _ cU aC (fun _=>none) w [] rfl (QR w hw) with ⟨_,kg⟩ | ⟨a_,x,aT,ba,_⟩
   case inr=>
    obtain ⟨fn,ad,ak⟩:=kf
    rw [IJ eT ad ak] at ba
    cases ba
   refine kg.mono fun e aT aZ=>?_
   obtain ⟨a_,x,rfl,_,aA,a2⟩:=aZ
   simp only [Rel] at aA
   subst aA
   exact ⟨rfl,a2.frame⟩
end
end Go.Proofs.YtjbiefneffiogaaGreat.bs
namespace Go.Proofs.YtjbiefneffiogaaGreat.bs
variable [Lay]
open Go Go.RowKit
inductive bp where
 | t (n:Nat)
 | c (v:V)
abbrev bP:=Nat→V
def bp.br (r:bP):bp→V
 | .t n=>r n
 | .c v=>v
def bp.hY (r:bP):List bp→List V
 | []=>[]
 | x::xs=>x.br r::bp.hY r xs
def rx:Operand→bp
 | .tmp t=>bif Nat.ble t top then .t t else .c .bad
 | .const v=>.c (iq v)
 | .func f=>.c (.func f [])
 | .global _=>.c .bad
def p9:List Operand→List bp
 | []=>[]
 | x::xs=>rx x::p9 xs
def bp.opt (r:bP):Option bp→Option V
 | none=>none
 | some x=>some (x.br r)
def tt:Option Operand→Option bp
 | none=>none
 | some x=>some (rx x)
inductive e4 where
 | int (op:BinOp)
 | str (op:BinOp)
 | shl
 | shr
 | zN (neg:Bool)
 | nP (neg:Bool) (k:Nat)
 | other (op:BinOp) (t:TypeId)
noncomputable def e4.run (P:Program):e4→V→V→Option V
 | .int op=>(mb op).run
 | .str op=>(tw op).run
 | .shl=>(wX true).run
 | .shr=>(wX false).run
 | .zN neg=>(kc neg rC).run
 | .nP neg k=>(kc neg (h' k)).run
 | .other op t=>(sE P op t).run
inductive tG where
 | int (k:IntKind)
 | bytes
 | str
 | other (s d:TypeId)
noncomputable def tG.run (P:Program):tG→V→ai→bE
 | .int k=>fun x h=>x.eX .fail fun _ n=>.val (.int k (k.wrap n)) h
 | .bytes=>zE.run
 | .str=>nM.run
 | .other s d=>(rB P s d).run
inductive fH where
 | int | str | bool
def fH.eq:fH→gW
 | .int=>oN
 | .str=>qw
 | .bool=>rC
inductive B' where
 | arr (n:Nat)
 | str
 | slice
 | map
inductive G where
 | bad
 | gu (x:bp)
 | pick (c a b:bp)
 | new (z:List V)
 | box (x:bp)
 | build (z:List V) (ct:List (Nat × Nat × bp))
 | h9 (len size:Nat) (z:List V) (ct:List (Nat × Nat × bp))
 | b7 (x:bp)
 | gT (size:Nat) (x:bp)
 | st (size:Nat) (x y:bp)
 | tb (x:bp)
 | bin (k:e4) (x y:bp)
 | un (op:UnOp) (x:bp)
 | ju (k:tG) (x:bp)
 | fn (f:FuncId) (k0:List bp)
 | wk (t:TypeId) (x:bp)
 | AK (size:Nat) (z:List V) (l c:bp)
 | u3 (x:bp) (cm aH fy:Option bp)
 | g2 (size:Nat) (x:bp) (cm aH fy:Option bp)
 | cX (off:Nat) (x:bp)
 | vy (off:Nat) (x:bp)
 | vz (off size:Nat) (x:bp)
 | b9 (size:Nat) (x i:bp)
 | s4 (n size:Nat) (x i:bp)
 | uE (x i:bp)
 | iT (t:TypeId) (x i:bp)
 | look (k:fH) (z:V) (ok:Bool) (x i:bp)
 | fc (k:fH) (m i x:bp)
 | r2 (x:Option bp)
 | Bd (x:bp)
 | AQ (x:bp)
 | ext (x:bp) (i:Nat)
 | call (f:FuncId) (args:List bp)
 | rA (f:bp) (args:List bp)
 | len (k:B') (x:bp)
 | app (size:Nat) (s x:bp)
 | copy (size:Nat) (d s:bp)
 | gr (args:List bp)
 | fy (args:List bp)
 | Cq (z:List V) (x:bp)
def lD (r:bP):List (Nat × Nat × bp)→List (Nat × Nat × V)
 | []=>[]
 | (o,s,x)::ct=>(o,s,x.br r)::lD r ct
def j1:List V→List (Nat × Nat × V)→Option (List V)
 | cells,[]=>some cells
 | cells,(off,size,v)::rest=>bif v.e7&&(Nat.beq v.cells.length size&&Nat.ble (off+v.cells.length) cells.length) then j1 (sO cells off v.cells) rest else none
noncomputable def B'.run:B'→V→ai→bE
 | .arr n=>fun _ h=>.val (.int .i64 n) h
 | .str=>fun x h=>bE.of h ((p1 .string).run x)
 | .slice=>fun x h=>bE.of h ((p1 (.slice 0)).run x)
 | .map=>fun x h=>AG [x] h
noncomputable def G.run (P:Program) (g:G) (call:gd) (r:bP) (h:ai):bE:=
 match g with
 | .bad=>.fail
 | .gu x=>.val (x.br r) h
 | .pick c a b=>match c.br r with
   | .bool t=>.val (bif t then a.br r else b.br r) h
   | _=>.fail
 | .new z=>kP (.ptr (ao h.next) 0) (hL h z)
 | .box x=>bif (x.br r).e7 then kP (.ptr (ao h.next) 0) (hL h (x.br r).cells) else .fail
 | .build z ct=>(match j1 z (lD r ct) with
   | some cs=>.val (.agg cs) h
   | none=>.fail)
 | .h9 n _ z ct=>match j1 (hN z n) (lD r ct) with
   | some cs=>(match hL h cs with
     | some J=>.val (.slice (ao h.next) 0 n n) J
     | none=>.fail)
   | none=>.fail
 | .b7 x=>bE.of h (o2 h (x.br r))
 | .gT n x=>bE.of h (o1 n h (x.br r))
 | .st n x y=>kP .bad (Bk n h (x.br r) (y.br r))
 | .tb x=>bE.of h (uM (x.br r))
 | .bin k x y=>bE.of h (k.run P (x.br r) (y.br r))
 | .un op x=>bE.of h (sj op (x.br r))
 | .ju k x=>k.run P (x.br r) h
 | .fn f k0=>.val (.func f (bp.hY r k0)) h
 | .wk t x=>.val (.iface t (x.br r)) h
 | .AK n z l c=>Dy n z (l.br r) (c.br r) h
 | .u3 x cm aH gh=>bE.of h (mo (x.br r) (bp.opt r cm) (bp.opt r aH) (bp.opt r gh))
 | .g2 n x cm aH gh=>bE.of h (match x.br r with
   | .aw=>wY (bp.opt r cm) (bp.opt r aH) (bp.opt r gh)
   | .slice b off uJ cap=>p' n b off uJ cap (bp.opt r cm) (bp.opt r aH) (bp.opt r gh)
   | .ei b off uJ idx=>pg n b off uJ idx (bp.opt r cm) (bp.opt r aH) (bp.opt r gh)
   | .h4 b off o5 idx=>yG b off o5 idx (bp.opt r cm) (bp.opt r aH) (bp.opt r gh)
   | _=>none)
 | .cX off x=>bE.of h ((x.br r).n4 none fun b o=>some (.ptr b (o+off)))
 | .vy off x=>bE.of h (match x.br r with
   | .agg cs=>cs[off]?
   | _=>none)
 | .vz off n x=>bE.of h (match x.br r with
   | .agg cs=>some (.agg ((cs.drop off).take n))
   | _=>none)
 | .b9 n x i=>bE.of h ((wq n).run (x.br r) (i.br r))
 | .s4 n s x i=>bE.of h ((s6 n s).run (x.br r) (i.br r))
 | .uE x i=>bE.of h (qR.run (x.br r) (i.br r))
 | .iT t x i=>bE.of h ((s7 P t).run (x.br r) (i.br r))
 | .look k z ok x i=>bE.of h (lb k.eq z ok h (x.br r) (i.br r))
 | .fc k m i x=>kP .bad (lp k.eq h (m.br r) (i.br r) (x.br r))
 | .r2 x=>qX (bp.opt r x) h
 | .Bd x=>(match x.br r with
   | .str s=>.val (.ptr (ao h.next) 0) (h.new (.iter s 0))
   | _=>.fail)
 | .AQ x=>AN (x.br r) h
 | .ext x i=>(match x.br r with
   | .tuple ah=>bE.of h ah[i]?
   | _=>.fail)
 | .call f args=>call f (bp.hY r args) h
 | .rA f args=>(f.br r).AW fun g cs=>call g (bp.hY r args++cs) h
 | .len k x=>k.run (x.br r) h
 | .app n s x=>l2 n (s.br r) (x.br r) h
 | .copy n d s=>copyV n (d.br r) (s.br r) h
 | .gr args=>bE.of h (lQ (fun b a=>!Int.leB a b) (bp.hY r args))
 | .fy args=>bE.of h (lQ (fun b a=>!Int.leB b a) (bp.hY r args))
 | .Cq z x=>t' z (x.br r) h
def Ix (P:Program) (op:BinOp) (t:TypeId):e4:=
 match op with
 | .shl=>.shl
 | .shr=>.shr
 | op=>match bF P t with
   | none=>.other op t
   | some a'=>match a'.b0 with
     | .int _=>.int op
     | .string=>.str op
     | .bool=>(match op with
       | .eql=>.zN false
       | .neq=>.zN true
       | _=>.other op t)
     | .pointer _=>(match op with
       | .eql=>.nP false 1
       | .neq=>.nP true 1
       | _=>.other op t)
     | .slice _=>(match op with
       | .eql=>.nP false 2
       | .neq=>.nP true 2
       | _=>.other op t)
     | .map _ _=>(match op with
       | .eql=>.nP false 3
       | .neq=>.nP true 3
       | _=>.other op t)
     | .func _ _ _=>(match op with
       | .eql=>.nP false 4
       | .neq=>.nP true 4
       | _=>.other op t)
     | _=>.other op t
def IB (P:Program) (op:BinOp) (t:TypeId) (lit:Bool):e4:=
 bif lit then (match bF P t with
  | some a'=>match a'.b0 with
    | .interface _=>match op with
      | .eql=>.nP false 5
      | .neq=>.nP true 5
      | _=>.nP false 99
    | _=>.nP false 99
  | none=>.nP false 99) else Ix P op t
def Iz (P:Program) (s d:TypeId):tG:=
 match bF P s,bF P d with
 | some u1,some pB=>match pB.b0 with
   | .int k=>.int k
   | .string=>match u1.b0 with
     | .slice e=>match bF P e with
       | some bL=>match bL.b0 with
         | .int .u8=>.str
         | _=>.other s d
       | none=>.other s d
     | _=>.other s d
   | .slice e=>match bF P e with
     | some bL=>match bL.b0 with
       | .int .u8=>.bytes
       | _=>.other s d
     | none=>.other s d
   | _=>.other s d
 | _,_=>.other s d
def q3 (place:Nat→Option (Nat × Nat)):List (Nat × Operand)→Option (List (Nat × Nat × bp))
 | []=>some []
 | (i,x)::ct=>match place i with
   | none=>none
   | some (off,size)=>match q3 place ct with
     | none=>none
     | some l=>some ((off,size,rx x)::l)
def Qt (P:Program) (t:TypeId) (ct:List (Nat × Operand)):G:=
 match bF P t with
 | some a'=>match a'.zero with
   | some z=>match a'.b0 with
     | .struct bg=>bif CF P bg.toList then (match q3 (xS P bg) ct with
       | some l=>.build z.cells l
       | none=>.bad) else .bad
     | .array _ e=>match bF P e with
       | some bL=>(match q3 (fun i=>some (i * bL.size,bL.size)) ct with
         | some l=>.build z.cells l
         | none=>.bad)
       | none=>.bad
     | _=>.bad
   | none=>.bad
 | none=>.bad
def Qw (P:Program) (t:TypeId) (len:Nat) (ct:List (Nat × Operand)):G:=
 match bF P t with
 | some a'=>match a'.b0 with
   | .slice e=>match bF P e with
     | some bL=>match bL.zero with
       | some z=>bif Nat.ble (len * bL.size) 1000000&&Nat.beq z.cells.length bL.size then
          (match q3 (fun i=>some (i * bL.size,bL.size)) ct with
          | some l=>.h9 len bL.size z.cells l
          | none=>.bad) else .bad
       | none=>.bad
     | none=>.bad
   | _=>.bad
 | none=>.bad
def wy:TypeDesc→Option fH
 | .int _=>some .int
 | .string=>some .str
 | .bool=>some .bool
 | _=>none
def FO (P:Program) (t:TypeId):Option (List V):=
 match bF P t with
 | some a'=>match a'.b0 with
   | .slice e=>match bF P e with
     | some bL=>match bL.zero with
       | some z=>some z.cells
       | none=>none
     | none=>none
   | _=>none
 | none=>none
theorem Vz (P:Program) (t:TypeId):zD P t=FO P t:=rfl
def Iy (P:Program) (c:Call):G:=
 match c.callee with
 | .value (.func f)=>.call f (p9 c.args.toList)
 | .value x=>.rA (rx x) (p9 c.args.toList)
 | .invoke _ _=>.bad
 | .builtin b=>match b with
   | .len=>match c.argTypes.toList,c.args.toList with
     | [t],[x]=>(match bF P t with
       | some a'=>(match a'.b0 with
         | .map _ _=>.len .map (rx x)
         | .array n _=>.len (.arr n) (rx x)
         | .string=>.len .str (rx x)
         | .slice _=>.len .slice (rx x)
         | _=>.bad)
       | none=>.bad)
     | _,_=>.bad
   | .append=>match c.argTypes.toList,c.args.toList with
     | [t,u],[s,x]=>(match bF P t,bF P u with
       | some a',some tA=>(match tA.b0 with
         | .int _=>.bad
         | _=>match a'.b0 with
           | .slice e=>(match bF P e with
             | none=>.bad
             | some bL=>match bL.zero with
               | none=>.bad
               | some z=>bif Nat.ble 1 bL.size&&Nat.ble bL.bytes 4096&&Nat.beq z.cells.length bL.size then .app bL.size (rx s) (rx x) else .bad)
           | _=>.bad)
       | _,_=>.bad)
     | _,_=>.bad
   | .copy=>match c.argTypes.toList,c.args.toList with
     | t::_,[d,s]=>(match bF P t with
       | some a'=>(match a'.b0 with
         | .slice e=>(match bF P e with
           | some bL=>.copy bL.size (rx d) (rx s)
           | none=>.bad)
         | _=>.bad)
       | none=>.bad)
     | _,_=>.bad
   | .min=>.gr (p9 c.args.toList)
   | .max=>.fy (p9 c.args.toList)
   | .clear=>match c.argTypes.toList,c.args.toList with
     | [t],[x]=>(match FO P t with
       | some z=>.Cq z (rx x)
       | none=>.bad)
     | _,_=>.bad
   | _=>.bad
def D3 (P:Program) (op:Op):G:=
 match op with
 | .move x=>.gu (rx x)
 | .assign x=>.gu (rx x)
 | .pick c a b=>.pick (rx c) (rx a) (rx b)
 | .alloc t=>(match bF P t with
   | some a'=>(match a'.zero with
     | some z=>.new z.cells
     | none=>.bad)
   | none=>.bad)
 | .box _ x=>.box (rx x)
 | .build t ct=>Qt P t ct.toList
 | .buildSlice t n ct=>Qw P t n ct.toList
 | .load t x=>(match bF P t with
   | none=>.bad
   | some a'=>bif a'.agg then .gT a'.size (rx x) else bif Nat.beq a'.size 1 then .b7 (rx x) else .bad)
 | .store t x y=>(match bF P t with
   | none=>.bad
   | some a'=>.st a'.size (rx x) (rx y))
 | .nilCheck x=>.tb (rx x)
 | .binOp op t x y _=>.bin (IB P op t (rY x||rY y)) (rx x) (rx y)
 | .unOp op _ x=>.un op (rx x)
 | .convert s d x=>.ju (Iz P s d) (rx x)
 | .makeFunc (.func f) first k0=>bif first.isEmpty then .fn f (p9 k0.toList) else .bad
 | .makeInterface t x=>(match bF P t with
   | some a'=>bif Nat.beq (hq a'.b0) 5 then .bad else .wk t (rx x)
   | none=>.bad)
 | .makeSlice t l c=>(match bF P t with
   | some a'=>(match a'.b0 with
     | .slice e=>(match bF P e with
       | some bL=>(match bL.zero with
         | some z=>bif Nat.ble bL.bytes 4096 then .AK bL.size z.cells (rx l) (rx c) else .bad
         | none=>.bad)
       | none=>.bad)
     | _=>.bad)
   | none=>.bad)
 | .slice t x cm aH fy=>(match bF P t with
   | none=>.bad
   | some a'=>match a'.b0 with
     | .string=>.u3 (rx x) (tt cm) (tt aH) (tt fy)
     | .slice e=>(match bF P e with
       | none=>.bad
       | some bL=>.g2 bL.size (rx x) (tt cm) (tt aH) (tt fy))
     | _=>.bad)
 | .fieldAddr t x i=>(match rD P t i with
   | none=>.bad
   | some f=>match bF P f.type with
     | none=>.bad
     | some nQ=>bif Nat.beq nQ.size 0 then .bad else .cX f.offset (rx x))
 | .field t x i=>(match rD P t i with
   | none=>.bad
   | some f=>match bF P f.type with
     | none=>.bad
     | some a'=>bif a'.agg then .vz f.offset a'.size (rx x) else .vy f.offset (rx x))
 | .indexAddr t x i=>(match bF P t with
   | none=>.bad
   | some a'=>match a'.b0 with
     | .slice e=>(match bF P e with
       | none=>.bad
       | some bL=>.b9 bL.size (rx x) (rx i))
     | .array n e=>(match bF P e with
       | none=>.bad
       | some bL=>.s4 n bL.size (rx x) (rx i))
     | _=>.bad)
 | .index t x i=>(match bF P t with
   | none=>.bad
   | some a'=>match a'.b0 with
     | .string=>.uE (rx x) (rx i)
     | _=>.iT t (rx x) (rx i))
 | .range t x=>(match bF P t with
   | some a'=>(match a'.b0 with
     | .string=>.Bd (rx x)
     | _=>.bad)
   | none=>.bad)
 | .next it true=>.AQ (rx it)
 | .lookup t x k ok=>(match bF P t with
   | some a'=>(match a'.b0 with
     | .map cb e=>(match bF P cb with
       | some kq=>(match bF P e with
         | some bL=>(match bL.zero with
           | some z=>(match wy kq.b0 with
             | some fq=>.look fq z ok (rx x) (rx k)
             | none=>.bad)
           | none=>.bad)
         | none=>.bad)
       | none=>.bad)
     | _=>.bad)
   | none=>.bad)
 | .mapUpdate t m k x | .insert t m k x=>(match bF P t with
   | some a'=>(match a'.b0 with
     | .map cb _=>(match bF P cb with
       | some kq=>(match wy kq.b0 with
         | some fq=>.fc fq (rx m) (rx k) (rx x)
         | none=>.bad)
       | none=>.bad)
     | _=>.bad)
   | none=>.bad)
 | .makeMap t x=>(match bF P t with
   | some a'=>bif Nat.beq (hq a'.b0) 3 then .r2 (tt x) else .bad
   | none=>.bad)
 | .extract x i=>.ext (rx x) i
 | .call c=>Iy P c
 | _=>.bad
noncomputable def f_ (eb:c7):bP:=fun t=>T.get .bad (ao t) eb
theorem hS (eb:c7) (x:Operand):(ec x).run eb=(rx x).br (f_ eb):=by
 cases x with
 | tmp t=>
   simp only [ec,rx]
   cases Nat.ble t top<;>rfl
 | const v=>rfl
 | func f=>rfl
 | global g=>rfl
theorem zO (eb:c7):∀xs:List Operand,(ud xs).run eb=bp.hY (f_ eb) (p9 xs)
 | []=>rfl
 | x::xs=>by simp only [ud,p9,bp.hY,hS,zO eb xs]
theorem Ig (eb:c7) (x:Option Operand):(r8 x).run eb=bp.opt (f_ eb) (tt x):=by
 cases x with
 | none=>rfl
 | some x=>simp only [r8,tt,bp.opt,hS]
theorem CG (eb:c7) {place:Nat→Option (Nat × Nat)}:∀{ct:List (Nat × Operand)} {l:List (Nat × Nat × bp)},q3 place ct=some l→∀cells,nR place cells ((uU ct).run eb)=j1 cells (lD (f_ eb) l)
 | [],l,h,cells=>by
   simp only [q3,Option.some.injEq] at h
   subst h
   rfl
 | (i,x)::ct,l,h,cells=>by
   simp only [q3] at h
   cases aQ:place i with
   | none=>rw [aQ] at h;cases h
   | some os=>
     obtain ⟨off,size⟩:=os
     rw [aQ] at h
     simp only at h
     cases aL:q3 place ct with
     | none=>rw [aL] at h;cases h
     | some hd=>
       rw [aL] at h
       simp only [Option.some.injEq] at h
       subst h
       simp only [uU,nR,aQ,lD,j1,hS]
       cases ((rx x).br (f_ eb)).e7&&(Nat.beq ((rx x).br (f_ eb)).cells.length size&&Nat.ble (off + ((rx x).br (f_ eb)).cells.length) cells.length) with
       | false=>rfl
       | true=>exact CG eb aL _
section
variable {P:Program}
theorem ad3 (op:BinOp) (t:TypeId):(Ix P op t).run P=(sE P op t).run:=by
 unfold Ix sE
 cases op<;>first | rfl | skip
 all_goals
  cases aF:bF P t with
  | none=>simp only [e4.run];unfold sE;rw [aF]
  | some a'=>
    simp only
    cases hu:a'.b0<;>first | rfl | (simp only [e4.run];unfold sE;rw [aF];simp only [hu];done) | (simp only [e4.run];unfold qx je;simp only [aF,hu];first | done | rfl)
theorem ad6 (op:BinOp) (t:TypeId) (lit:Bool):(IB P op t lit).run P=(zt P op t lit).run:=by
 unfold IB zt
 cases lit with
 | false=>simp only [cond_false];exact ad3 op t
 | true=>
   simp only [cond_true]
   cases bF P t with
   | none=>rfl
   | some a'=>
     simp only
     cases a'.b0<;>first | rfl | (cases op<;>rfl)
theorem ad5 (s d:TypeId):(Iz P s d).run P=(rB P s d).run:=by
 unfold Iz
 split
 · rename_i u1 pB aM ca
   split
   · rename_i k hu
     simp only [tG.run];unfold rB;rw [aM,ca];simp only [hu]
   · rename_i hu
     split
     · rename_i e bh
       split
       · rename_i bL he
         split
         · rename_i hw
           simp only [tG.run];unfold rB;rw [aM,ca];simp only [hu,bh,he,hw]
         · rfl
       · rfl
     · rfl
   · rename_i e hu
     split
     · rename_i bL he
       split
       · rename_i hw
         simp only [tG.run];unfold rB;rw [aM,ca];simp only [hu,he,hw]
       · rfl
     · rfl
   · rfl
 · rfl
theorem HF {d:TypeDesc} {fq:fH} (h:wy d=some fq):wx d=true∧pY d=fq.eq:=by
 cases d<;>simp only [wy] at h<;>first | (cases h;done) | (cases h;exact ⟨rfl,rfl⟩)
theorem ad4 {c:Call} {call:gd} {eb:c7} {h J:ai} {v:V} (he:(Iy P c).run P call (f_ eb) h=.val v J):(tZ P c).run call eb h=.val v J:=by
 unfold Iy at he
 unfold tZ
 split at he
 · rename_i f aC
   rw [aC]
   simp only [G.run] at he
   simpa only [ec,uc,V.AW,zO,List.append_nil] using he
 · rename_i x ax aC
   rw [aC]
   simp only [G.run] at he
   simpa only [hS,zO] using he
 · cases he
 · rename_i b aC
   rw [aC]
   simp only [zO]
   cases b<;>simp only at he<;>try (cases he;done)
   case len=>
    split at he
    · rename_i t x aF ax
      cases qN:bF P t with
      | none=>rw [qN] at he;cases he
      | some a'=>
        rw [qN] at he
        simp only at he
        simp only [sF,aF,qN,ax,p9,bp.hY]
        cases hu:a'.b0<;>rw [hu] at he<;>first | (cases he;done) | (simpa only [uD,cond_true,cond_false,G.run,B'.run,p1,bE.of] using he)
    · cases he
   case append=>
    split at he
    · rename_i t u s x aF ax
      split at he
      · rename_i a' tA qN Ax
        simp only [sF,aF,ax,p9,bp.hY,Cd,qN,Ax]
        split at he
        · cases he
        · rename_i gQ
          split at he
          · rename_i e du
            cases gL:bF P e with
            | none=>rw [gL] at he;cases he
            | some bL=>
              rw [gL] at he
              simp only at he
              cases bD:bL.zero with
              | none=>rw [bD] at he;cases he
              | some z=>
                rw [bD] at he
                simp only at he
                cases af:(Nat.ble 1 bL.size&&Nat.ble bL.bytes 4096&&Nat.beq z.cells.length bL.size) with
                | false=>rw [af] at he;cases he
                | true=>
                  rw [af] at he
                  simp only [cond_true,G.run] at he
                  cases YV:tA.b0<;>first
                   | (exact absurd YV (gQ _))
                   | (simp only [du,gL,bD,af,cond_true];exact he)
          · cases he
      · cases he
    · cases he
   case copy=>
    split at he
    · rename_i t dm d s aF ax
      cases qN:bF P t with
      | none=>rw [qN] at he;cases he
      | some a'=>
        rw [qN] at he
        simp only at he
        split at he
        · rename_i e du
          cases gL:bF P e with
          | none=>rw [gL] at he;cases he
          | some bL=>
            rw [gL] at he
            simp only [G.run] at he
            simp only [sF,aF,ax,p9,bp.hY,Cs,qN,du,gL]
            exact he
        · cases he
    · cases he
   case min=>exact he
   case max=>exact he
   case clear=>
    split at he
    · rename_i t x aF ax
      cases aC:FO P t with
      | none=>rw [aC] at he;cases he
      | some z=>
        rw [aC] at he
        simp only [G.run] at he
        simp only [sF,aF,ax,p9,bp.hY,Vz,aC]
        exact he
    · cases he
theorem Qu {o:Oper} {call:gd} {eb:c7} {h J:ai} {v:V} (he:(D3 P o.op).run P call (f_ eb) h=.val v J):(iO P o).run call eb h=.val v J:=by
 obtain ⟨dst,op,type,pos,after,guard⟩:=o
 cases op<;>simp only [D3] at he<;>try (cases he;done)
 all_goals simp only [iO]
 case move x=>simpa only [hS,G.run] using he
 case assign x=>simpa only [hS,G.run] using he
 case pick c a b=>
  simp only [hS,G.run] at he ⊢
  generalize (rx c).br (f_ eb)=q at he ⊢
  cases q<;>exact he
 case alloc t=>
  cases aF:bF P t with
  | none=>rw [aF] at he;cases he
  | some a'=>
    rw [aF] at he
    simp only at he ⊢
    cases bD:a'.zero with
    | none=>rw [bD] at he;cases he
    | some z=>rw [bD] at he;exact he
 case box t x=>simpa only [hS,G.run] using he
 case build t ct=>
  unfold Qt at he
  unfold Ck
  cases aF:bF P t with
  | none=>rw [aF] at he;cases he
  | some a'=>
    rw [aF] at he
    simp only at he ⊢
    cases bD:a'.zero with
    | none=>rw [bD] at he;cases he
    | some z=>
      rw [bD] at he
      simp only at he ⊢
      cases hu:a'.b0<;>rw [hu] at he<;>simp only at he ⊢<;>try (cases he;done)
      · rename_i n e
        cases gL:bF P e with
        | none=>rw [gL] at he;cases he
        | some bL=>
          rw [gL] at he
          simp only at he ⊢
          cases aQ:q3 (fun i=>some (i * bL.size,bL.size)) ct.toList with
          | none=>rw [aQ] at he;cases he
          | some l=>
            rw [aQ] at he
            simp only [G.run] at he
            rw [CG eb aQ]
            cases ar:j1 z.cells (lD (f_ eb) l) with
            | none=>rw [ar] at he;cases he
            | some cs=>rw [ar] at he;exact he
      · rename_i bg
        cases al:CF P bg.toList with
        | false=>rw [al] at he;cases he
        | true=>
          rw [al] at he
          simp only [cond_true] at he ⊢
          cases aQ:q3 (xS P bg) ct.toList with
          | none=>rw [aQ] at he;cases he
          | some l=>
            rw [aQ] at he
            simp only [G.run] at he
            rw [CG eb aQ]
            cases ar:j1 z.cells (lD (f_ eb) l) with
            | none=>rw [ar] at he;cases he
            | some cs=>rw [ar] at he;exact he
 case buildSlice t n ct=>
  unfold Qw at he
  unfold vv
  cases aF:bF P t with
  | none=>rw [aF] at he;cases he
  | some a'=>
    rw [aF] at he
    simp only at he ⊢
    cases hu:a'.b0<;>rw [hu] at he<;>simp only at he ⊢<;>try (cases he;done)
    rename_i e
    cases gL:bF P e with
    | none=>rw [gL] at he;cases he
    | some bL=>
      rw [gL] at he
      simp only at he ⊢
      cases bD:bL.zero with
      | none=>rw [bD] at he;cases he
      | some z=>
        rw [bD] at he
        simp only at he ⊢
        cases af:(Nat.ble (n * bL.size) 1000000&&Nat.beq z.cells.length bL.size) with
        | false=>rw [af] at he;cases he
        | true=>
          rw [af] at he
          simp only [cond_true] at he ⊢
          cases aQ:q3 (fun i=>some (i * bL.size,bL.size)) ct.toList with
          | none=>rw [aQ] at he;cases he
          | some l=>
            rw [aQ] at he
            simp only [G.run] at he
            rw [CG eb aQ]
            exact he
 case load t x=>
  unfold wF
  cases aF:bF P t with
  | none=>rw [aF] at he;cases he
  | some a'=>
    rw [aF] at he
    simp only at he ⊢
    cases bT:a'.agg with
    | true=>rw [bT] at he;simpa only [cond_true,hS,G.run] using he
    | false=>
      rw [bT] at he
      simp only [cond_false] at he ⊢
      cases aM:Nat.beq a'.size 1 with
      | true=>rw [aM] at he;simpa only [cond_true,hS,G.run] using he
      | false=>rw [aM] at he;cases he
 case store t x y=>
  unfold Bj
  cases aF:bF P t with
  | none=>rw [aF] at he;cases he
  | some a'=>rw [aF] at he;simpa only [hS,G.run] using he
 case nilCheck x=>simpa only [hS,G.run] using he
 case binOp op t x y t2=>simpa only [hS,G.run,ad6] using he
 case unOp op t x=>simpa only [hS,G.run] using he
 case convert s d x=>simpa only [hS,G.run,ad5] using he
 case makeFunc fn first k0=>
  cases fn<;>simp only at he<;>try (cases he;done)
  simp only
  cases ar:first.isEmpty with
  | false=>rw [ar] at he;cases he
  | true=>rw [ar] at he;simpa only [cond_true,zO,G.run] using he
 case makeInterface t x=>
  cases aF:bF P t with
  | none=>rw [aF] at he;cases he
  | some a'=>
    rw [aF] at he
    simp only at he ⊢
    cases af:Nat.beq (hq a'.b0) 5 with
    | true=>rw [af] at he;cases he
    | false=>rw [af] at he;simpa only [cond_false,hS,G.run] using he
 case makeSlice t l c=>
  unfold Dx
  cases aF:bF P t with
  | none=>rw [aF] at he;cases he
  | some a'=>
    rw [aF] at he
    simp only at he ⊢
    cases hu:a'.b0<;>rw [hu] at he<;>simp only at he ⊢<;>try (cases he;done)
    rename_i e
    cases gL:bF P e with
    | none=>rw [gL] at he;cases he
    | some bL=>
      rw [gL] at he
      simp only at he ⊢
      cases bD:bL.zero with
      | none=>rw [bD] at he;cases he
      | some z=>
        rw [bD] at he
        simp only at he ⊢
        cases af:Nat.ble bL.bytes 4096 with
        | false=>rw [af] at he;cases he
        | true=>rw [af] at he;simpa only [cond_true,hS,G.run] using he
 case slice t x cm aH gh=>
  unfold Ea
  cases aF:bF P t with
  | none=>rw [aF] at he;cases he
  | some a'=>
    rw [aF] at he
    simp only at he ⊢
    cases hu:a'.b0<;>rw [hu] at he<;>simp only at he ⊢<;>try (cases he;done)
    · simpa only [hS,Ig,G.run] using he
    · rename_i e
      cases gL:bF P e with
      | none=>rw [gL] at he;cases he
      | some bL=>
        rw [gL] at he
        simp only [hS,Ig,G.run] at he ⊢
        generalize (rx x).br (f_ eb)=q at he ⊢
        cases q<;>exact he
 case fieldAddr t x i=>
  unfold CD
  cases ar:rD P t i with
  | none=>rw [ar] at he;cases he
  | some f=>
    rw [ar] at he
    simp only at he ⊢
    cases aF:bF P f.type with
    | none=>rw [aF] at he;cases he
    | some nQ=>
      rw [aF] at he
      simp only at he ⊢
      cases af:Nat.beq nQ.size 0 with
      | true=>rw [af] at he;cases he
      | false=>rw [af] at he;simpa only [cond_false,hS,G.run] using he
 case field t x i=>
  unfold CE
  cases ar:rD P t i with
  | none=>rw [ar] at he;cases he
  | some f=>
    rw [ar] at he
    simp only [th] at he ⊢
    cases aF:bF P f.type with
    | none=>rw [aF] at he;cases he
    | some nQ=>
      rw [aF] at he
      simp only at he ⊢
      cases af:nQ.agg with
      | true=>
        rw [af] at he
        simp only [cond_true,hS,G.run] at he ⊢
        generalize (rx x).br (f_ eb)=q at he ⊢
        cases q<;>exact he
      | false=>
        rw [af] at he
        simp only [cond_false,hS,G.run] at he ⊢
        generalize (rx x).br (f_ eb)=q at he ⊢
        cases q<;>exact he
 case indexAddr t x i=>
  unfold Di
  cases aF:bF P t with
  | none=>rw [aF] at he;cases he
  | some a'=>
    rw [aF] at he
    simp only at he ⊢
    cases hu:a'.b0<;>rw [hu] at he<;>simp only at he ⊢<;>try (cases he;done)
    all_goals
     rename_i e
     cases gL:bF P e with
     | none=>rw [gL] at he;cases he
     | some bL=>rw [gL] at he;simpa only [hS,G.run] using he
 case index t x i=>
  cases aF:bF P t with
  | none=>rw [aF] at he;cases he
  | some a'=>
    rw [aF] at he
    simp only at he
    cases hu:a'.b0<;>rw [hu] at he<;>simp only [G.run] at he
    case string=>
     unfold s7
     rw [aF]
     simp only [hu]
     simpa only [hS] using he
    all_goals simpa only [hS] using he
 case range t x=>
  unfold DX
  cases aF:bF P t with
  | none=>rw [aF] at he;cases he
  | some a'=>
    rw [aF] at he
    simp only at he ⊢
    cases hu:a'.b0<;>rw [hu] at he<;>simp only at he ⊢<;>try (cases he;done)
    simp only [hS,G.run] at he ⊢
    generalize (rx x).br (f_ eb)=q at he ⊢
    cases q<;>exact he
 case next it b=>
  cases b<;>simp only at he<;>try (cases he;done)
  simpa only [hS,G.run] using he
 case lookup t x k ok=>
  unfold Du
  cases aF:bF P t with
  | none=>rw [aF] at he;cases he
  | some a'=>
    rw [aF] at he
    simp only at he ⊢
    cases hu:a'.b0<;>rw [hu] at he<;>simp only at he ⊢<;>try (cases he;done)
    rename_i cb e
    cases al:bF P cb with
    | none=>rw [al] at he;cases he
    | some kq=>
      rw [al] at he
      simp only at he ⊢
      cases gL:bF P e with
      | none=>rw [gL] at he;cases he
      | some bL=>
        rw [gL] at he
        simp only at he ⊢
        cases bD:bL.zero with
        | none=>rw [bD] at he;cases he
        | some z=>
          rw [bD] at he
          simp only at he ⊢
          cases gq:wy kq.b0 with
          | none=>rw [gq] at he;cases he
          | some fq=>
            rw [gq] at he
            obtain ⟨aP,aA⟩:=HF gq
            simp only [aP,aA,cond_true]
            simpa only [hS,G.run] using he
 case mapUpdate t m k x=>
  unfold u5
  cases aF:bF P t with
  | none=>rw [aF] at he;cases he
  | some a'=>
    rw [aF] at he
    simp only at he ⊢
    cases hu:a'.b0<;>rw [hu] at he<;>simp only at he ⊢<;>try (cases he;done)
    rename_i cb e
    cases al:bF P cb with
    | none=>rw [al] at he;cases he
    | some kq=>
      rw [al] at he
      simp only at he ⊢
      cases gq:wy kq.b0 with
      | none=>rw [gq] at he;cases he
      | some fq=>
        rw [gq] at he
        obtain ⟨aP,aA⟩:=HF gq
        simp only [aP,aA,cond_true]
        simpa only [hS,G.run] using he
 case insert t m k x=>
  unfold u5
  cases aF:bF P t with
  | none=>rw [aF] at he;cases he
  | some a'=>
    rw [aF] at he
    simp only at he ⊢
    cases hu:a'.b0<;>rw [hu] at he<;>simp only at he ⊢<;>try (cases he;done)
    rename_i cb e
    cases al:bF P cb with
    | none=>rw [al] at he;cases he
    | some kq=>
      rw [al] at he
      simp only at he ⊢
      cases gq:wy kq.b0 with
      | none=>rw [gq] at he;cases he
      | some fq=>
        rw [gq] at he
        obtain ⟨aP,aA⟩:=HF gq
        simp only [aP,aA,cond_true]
        simpa only [hS,G.run] using he
 case makeMap t x=>
  unfold yn
  cases aF:bF P t with
  | none=>rw [aF] at he;cases he
  | some a'=>
    rw [aF] at he
    simp only at he ⊢
    cases af:Nat.beq (hq a'.b0) 3 with
    | false=>rw [af] at he;cases he
    | true=>rw [af] at he;simpa only [cond_true,Ig,G.run] using he
 case extract x i=>
  simp only [hS,G.run] at he ⊢
  generalize (rx x).br (f_ eb)=q at he ⊢
  cases q<;>exact he
 case call c=>exact ad4 he
end
end Go.Proofs.YtjbiefneffiogaaGreat.bs
namespace Go.Proofs.YtjbiefneffiogaaGreat.bs
variable [Lay]
open Go Go.RowKit
def lr (P:Program) (f:FuncId) (args:List V) (h:ai) (v:V) (J:ai):Prop:=
 ((∃fn,P.funcs[f]? =some fn∧fn.body.isSome=true)∧∀(aR:Fr) E w xs,bW E args xs→cf aR E h w→
   Calls P f xs.toArray w fun e aT=>∃a_ x,e=.returned x∧E.le a_∧Rel a_ v x∧cf aR a_ J aT)∨
 ∀(aR:Fr) E w xs,bW E args xs→cf aR E h w→∃a_ x aT,(callFunc f xs.toArray).run P w=.ok (.value x) aT∧E.le a_∧Rel a_ v x∧cf aR a_ J aT
theorem lr.calls {P:Program} (eT:kD P) {f:FuncId} {args:List V} {h J:ai} {v:V} (H:lr P f args h v J) (af:∃fn,P.funcs[f]? =some fn∧fn.body.isSome=true) (aR:Fr) (E:Env) (w:World) (xs:List Value) (ax:bW E args xs) (s:cf aR E h w):
 Calls P f xs.toArray w fun e aT=>∃a_ x,e=.returned x∧E.le a_∧Rel a_ v x∧cf aR a_ J aT:=by
 rcases H with ⟨_,H⟩ | H
 · exact H aR E w xs ax s
 · obtain ⟨a_,x,aT,ba,_⟩:=H aR E w xs ax s
   obtain ⟨fn,ad,ak⟩:=af
   rw [IJ eT ad ak] at ba
   cases ba
def bB (P:Program) (f:FuncId) (args:List V) (h:ai) (K:V→ai→Prop):Prop:=∃v J,lr P f args h v J∧K v J
theorem bB.mono {P:Program} {f:FuncId} {args:List V} {h:ai} {K aK:V→ai→Prop} (c:bB P f args h K) (al:∀v J,K v J→aK v J):bB P f args h aK:=by
 obtain ⟨v,J,aP,aA⟩:=c
 exact ⟨v,J,aP,al v J aA⟩
def n3:gd:=fun _ _ _=>.fail
theorem DI (P:Program):lq P n3∧lW P n3:=
 ⟨fun _ f args h v J he=>by simp [n3] at he,fun f args h v J he=>by simp [n3] at he⟩
open Classical in
noncomputable def A1 (f:FuncId) (args:List V) (h:ai) (v:V) (J:ai):gd:=
 fun f1 bt ad=>if f1=f∧bt=args∧ad=h then .val v J else .fail
theorem PM {P:Program} {f:FuncId} {args:List V} {h J:ai} {v:V} (H:lr P f args h v J):lq P (A1 f args h v J)∧lW P (A1 f args h v J):=by
 refine ⟨fun aR f1 bt ad v1 dZ he=>?_,fun f1 bt ad v1 dZ he=>?_⟩
 · unfold A1 at he
   split at he
   · rename_i aC
     obtain ⟨rfl,rfl,rfl⟩:=aC
     simp only [bE.val.injEq] at he
     obtain ⟨rfl,rfl⟩:=he
     intro E w xs ax s
     rcases H with H | H
     · exact .inl ⟨H.1,H.2 aR E w xs ax s⟩
     · exact .inr (H aR E w xs ax s)
   · cases he
 · trivial
theorem PN {f:FuncId} {args:List V} {h J:ai} {v:V}:A1 f args h v J f args h=.val v J:=by
 unfold A1
 rw [if_pos ⟨rfl,rfl,rfl⟩]
def bP.set (r:bP) (d:Option Nat) (v:V):bP:=
 match d with
 | none=>r
 | some d=>fun t=>if t=d then v else r t
def bP.trim (r:bP):List Nat→bP
 | [],_=>.bad
 | u::us,t=>if t=u then r t else bP.trim r us t
def bP.au:List V→bP
 | [],_=>.bad
 | v::ah,t=>if t=0 then v else bP.au ah (t-1)
noncomputable def Bm (r:bP):List Nat→c7
 | []=>.e
 | t::dm=>T.put .bad (r t) (ao t) (Bm r dm)
theorem Rc (r:bP):∀dm:List Nat,f_ (Bm r dm)=bP.trim r dm
 | []=>by funext t;simp [f_,Bm,bP.trim]
 | u::dm=>by
   funext t
   have bJ:=congrFun (Rc r dm) t
   simp only [f_] at bJ
   simp only [f_,Bm,bP.trim,T.oO]
   by_cases h:t=u
   · subst h;simp
   · rw [if_neg (fun e=>h (n' e).symm),if_neg h]
     exact bJ
theorem Ej (eb:c7):∀dm:List Nat,f_ (kT eb dm)=bP.trim (f_ eb) dm
 | []=>by funext t;simp [f_,kT,bP.trim]
 | u::dm=>by
   funext t
   have bJ:=congrFun (Ej eb dm) t
   simp only [f_] at bJ
   simp only [f_,kT,bP.trim,T.oO]
   by_cases h:t=u
   · subst h;simp
   · rw [if_neg (fun e=>h (n' e).symm),if_neg h]
     exact bJ
theorem Ek {r:bP}:∀{dm:List Nat} {t:Nat},t ∈ dm→bP.trim r dm t=r t
 | [],t,h=>by simp at h
 | u::dm,t,h=>by
   simp only [bP.trim]
   by_cases hu:t=u
   · rw [if_pos hu]
   · rw [if_neg hu]
     simp only [List.mem_cons] at h
     exact Ek (h.resolve_left hu)
theorem Rf {r:bP}:∀{dm:List Nat} {t:Nat},t ∉ dm→bP.trim r dm t=.bad
 | [],t,_=>rfl
 | u::dm,t,h=>by
   simp only [List.mem_cons,not_or] at h
   simp only [bP.trim]
   rw [if_neg h.1]
   exact Rf h.2
theorem Qd (d:Option Nat) (eb:c7) (v:V):f_ ((mi d).run eb v)=(f_ eb).set d v:=by
 cases d with
 | none=>rfl
 | some d=>
   funext t
   simp only [f_,mi,bP.set,T.oO]
   by_cases h:t=d
   · subst h;simp
   · rw [if_neg (fun e=>h (n' e).symm),if_neg h]
def Out (bd:Nat) (r:bP):Prop:=∀t,bd≤t→r t=.bad
theorem F1 {bd:Nat} {r:bP} (bA:Out bd r):∃eb,f_ eb=r:=by
 refine ⟨Bm r (List.range bd),?_⟩
 rw [Rc]
 funext t
 by_cases h:t<bd
 · exact Ek (List.mem_range.2 h)
 · rw [Rf (by simpa using h),bA t (by omega)]
theorem Out.set {bd:Nat} {r:bP} (bA:Out bd r) {d:Option Nat} (ca:ka bd d=true) (v:V):Out bd (r.set d v):=by
 intro t aF
 cases d with
 | none=>exact bA t aF
 | some d=>
   simp only [ka,Bool.and_eq_true,Nat.blt_eq] at ca
   simp only [bP.set]
   rw [if_neg (by omega)]
   exact bA t aF
structure mE (E:Env) (bd:Nat) (r:bP) (a:Act):Prop where
 size:a.tmps.size=bd
 defers:a.defers=[]
 ag:∀t,Rel E (r t) (a.tmps.getD t undef)
theorem mE.mono {E a_:Env} (h:E.le a_) {bd:Nat} {r:bP} {a:Act} (k:mE E bd r a):mE a_ bd r a:=
 ⟨k.size,k.defers,fun t=>Rel.mono h _ _ (k.ag t)⟩
theorem mE.put {E a_:Env} (h:E.le a_) {bd:Nat} {r:bP} {a:Act} (k:mE E bd r a) {d:Option Nat} (ca:ka bd d=true) {v:V} {x:Value} (ax:Rel a_ v x):mE a_ bd (r.set d v) (a.put d x):=by
 cases d with
 | none=>exact k.mono h
 | some d=>
   simp only [ka,Bool.and_eq_true,Nat.blt_eq] at ca
   refine ⟨by simp [Act.put,k.size],by simp [Act.put,k.defers],fun t=>?_⟩
   simp only [bP.set,Act.put]
   rw [Array.getD_eq_getD_getElem?,Array.getElem?_setIfInBounds]
   by_cases aF:t=d
   · subst aF
     rw [if_pos rfl,if_pos rfl,if_pos (by rw [k.size];exact ca.1)]
     exact ax
   · rw [if_neg aF,if_neg (fun e=>aF e.symm),←Array.getD_eq_getD_getElem?]
     exact Rel.mono h _ _ (k.ag t)
noncomputable def G.wp (P:Program) (g:G) (r:bP) (h:ai) (K:V→ai→Prop):Prop:=
 match g with
 | .call f args=>bB P f (bp.hY r args) h K
 | .rA f args=>∃g cs,f.br r=.func g cs∧bB P g (bp.hY r args++cs) h K
 | g=>∃v J,g.run P n3 r h=.val v J∧K v J
theorem G.yP {P:Program} {g:G} {r:bP} {h:ai} {K:V→ai→Prop} (H:g.wp P r h K):∃call v J,(lq P call∧lW P call)∧g.run P call r h=.val v J∧K v J:=by
 cases g
 case call f args=>
  obtain ⟨v,J,aP,aA⟩:=H
  exact ⟨_,v,J,PM aP,PN,aA⟩
 case rA f args=>
  obtain ⟨g,cs,ar,v,J,aP,aA⟩:=H
  refine ⟨_,v,J,PM aP,?_,aA⟩
  simp only [G.run,ar,V.AW]
  exact PN
 all_goals
  obtain ⟨v,J,aP,aA⟩:=H
  exact ⟨n3,v,J,DI P,aP,aA⟩
structure bq where
 dst:Option Nat
 g:G
 WD:Option (Nat × Bool)
 rs:List Nat
def bq.bad:bq:=⟨none,.bad,none,[]⟩
def gate (v:V) (want:Bool) (A B:Prop):Prop:=
 match v with
 | .bool b=>(b=want→A)∧(b=!want→B)
 | .tuple _=>B
 | _=>False
noncomputable def bq.wp (P:Program) (o:bq) (r:bP) (h:ai) (K:bP→V→ai→Prop):Prop:=
 match o.WD with
 | none=>o.g.wp P (r.trim o.rs) h fun v J=>K (r.set o.dst v) v J
 | some (d,want)=>gate (r.trim o.rs d) want (o.g.wp P (r.trim o.rs) h fun v J=>K (r.set o.dst v) v J) (K (r.set o.dst (.tuple [])) (.tuple []) h)
def D4 (P:Program) (bd:Nat) (all:Array Oper) (o:Oper):bq:=
 bif ka bd o.dst&&sa (gU all o) then
  match o.guard with
  | none=>⟨o.dst,D3 P o.op,none,gU all o⟩
  | some (j,want)=>match all[j]? with
    | some g=>match g.dst with
      | some d=>bif Nat.blt d bd&&Nat.ble d top then ⟨o.dst,D3 P o.op,some (d,want),gU all o⟩ else bq.bad
      | none=>bq.bad
    | none=>bq.bad
 else bq.bad
def tr (P:Program) (bd:Nat) (all:Array Oper):List Oper→List bq
 | []=>[]
 | o::os=>D4 P bd all o::tr P bd all os
theorem Qv (P:Program) (bd:Nat) (all:Array Oper):∀l:List Oper,tr P bd all l=l.map (D4 P bd all)
 | []=>rfl
 | o::os=>by simp [tr,Qv P bd all os]
theorem bq.Cg {P:Program} {r:bP} {h:ai} {K:bP→V→ai→Prop}:¬bq.bad.wp P r h K:=by
 rintro ⟨v,J,q,_⟩
 cases q
theorem bq.yP {P:Program} {bd:Nat} {all:Array Oper} {o:Oper} {r:bP} {h:ai} {K:bP→V→ai→Prop} (H:(D4 P bd all o).wp P r h K):
 ∃call v J,(lq P call∧lW P call)∧ka bd o.dst=true∧K (r.set o.dst v) v J∧∀eb,f_ eb=r→(hF P bd all o).run call eb h=.val v J:=by
 unfold D4 at H
 cases aC:(ka bd o.dst&&sa (gU all o)) with
 | false=>rw [aC] at H;exact absurd H bq.Cg
 | true=>
   have ca:ka bd o.dst=true:=by simp only [Bool.and_eq_true] at aC;exact aC.1
   rw [aC] at H
   simp only [cond_true] at H
   cases bl:o.guard with
   | none=>
     rw [bl] at H
     obtain ⟨call,v,J,aP,aA,a2⟩:=G.yP H
     refine ⟨call,v,J,aP,ca,a2,fun eb cq=>?_⟩
     unfold hF
     rw [aC]
     simp only [cond_true,bl,nN]
     refine Qu ?_
     rw [Ej,cq]
     exact aA
   | some s9=>
     obtain ⟨j,want⟩:=s9
     rw [bl] at H
     simp only at H
     cases bQ:all[j]? with
     | none=>rw [bQ] at H;exact absurd H bq.Cg
     | some g=>
       rw [bQ] at H
       simp only at H
       cases j2:g.dst with
       | none=>rw [j2] at H;exact absurd H bq.Cg
       | some d=>
         rw [j2] at H
         simp only at H
         cases af:(Nat.blt d bd&&Nat.ble d top) with
         | false=>rw [af] at H;exact absurd H bq.Cg
         | true=>
           rw [af] at H
           simp only [cond_true,bq.wp] at H
           have key:hF P bd all o=⟨nN (some (pG (ao d),want)) (iO P o) (gU all o)⟩:=by
            unfold hF
            rw [aC]
            simp only [cond_true,bl,bQ,j2,af]
           have GA:∀eb,f_ eb=r→(pG (ao d)).run (kT eb (gU all o))=r.trim (gU all o) d:=by
            intro eb cq
            rw [←cq,←Ej]
            rfl
           cases bh:r.trim (gU all o) d<;>rw [bh] at H<;>simp only [gate] at H
           case bool b=>
            by_cases z6:b=want
            · obtain ⟨call,v,J,aP,aA,a2⟩:=G.yP (H.1 z6)
              refine ⟨call,v,J,aP,ca,a2,fun eb cq=>?_⟩
              rw [key]
              simp only [nN,GA eb cq,bh]
              rw [show (bif want then b else !b)=true from by subst z6;cases b<;>rfl]
              simp only [cond_true]
              refine Qu ?_
              rw [Ej,cq]
              exact aA
            · have qE:b=!want:=by cases b<;>cases want<;>simp_all
              refine ⟨n3,.tuple [],h,DI P,ca,H.2 qE,fun eb cq=>?_⟩
              rw [key]
              simp only [nN,GA eb cq,bh]
              rw [show (bif want then b else !b)=false from by subst qE;cases want<;>rfl]
              rfl
           case tuple ah=>
            refine ⟨n3,.tuple [],h,DI P,ca,H,fun eb cq=>?_⟩
            rw [key]
            simp only [nN,GA eb cq,bh]
noncomputable def tC (P:Program):List bq→bP→ai→(bP→ai→Prop)→Prop
 | [],r,h,K=>K r h
 | o::os,r,h,K=>o.wp P r h fun bR _ J=>tC P os bR J K
structure g5 where
 r:bP
 h:ai
 v:V
noncomputable def mw (P:Program):List bq→bP→ai→(List g5→bP→ai→Prop)→Prop
 | [],r,h,K=>K [] r h
 | o::os,r,h,K=>o.wp P r h fun bR v J=>mw P os bR J fun es hV ar=>K (⟨r,h,v⟩::es) hV ar
def x3 (es:List g5) (ar:ai) (i:Nat):ai:=
 match es[i]? with
 | some e=>e.h
 | none=>ar
noncomputable def sD (P:Program) (o:Option bq) (e:Option g5) (es:List g5) (ar:ai):List Nat→Prop
 | []=>True
 | s::gN=>(match o,e with
   | some o,some e=>o.wp P e.r (x3 es ar s) fun _ db _=>db=e.v
   | _,_=>False)∧sD P o e es ar gN
noncomputable def qn (P:Program) (ops:List bq) (es:List g5) (ar:ai):List (Nat × List Nat)→Prop
 | []=>True
 | (p,gN)::rest=>sD P ops[p]? es[p]? es ar gN∧qn P ops es ar rest
inductive bK where
 | bad
 | skip
 | ag (ops:List bq)
 | draw (ops:List bq) (asks:List (Nat × List Nat))
 | seq (a b:bK)
 | cond (c:bp) (a b:bK)
 | block (id:Nat) (b:bK)
 | loop (b:bK)
 | exit (id:Nat)
 | ret
def xA (P:Program) (ops:List Oper) (eV bk gJ:List Nat):Nat→List Oper→List (Nat × List Nat)
 | _,[]=>[]
 | i,o::os=>bif looks o.op&&!iS P o.op then
    (posOf bk i,gJ.filter (wI P eV ops bk i ((eV[i]?).getD 0)))::xA P ops eV bk gJ (i+1) os
   else xA P ops eV bk gJ (i+1) os
def IA (P:Program) (bd:Nat) (ops:Array Oper) (order bk:List Nat):bK:=
 bif yC ops.size order bk&&xK P ops bk then
  .draw (tr P bd ops (p2 ops order)) (bif sC P ops.toList then xA P ops.toList (lI [] ops.toList) bk (mf P bk 0 ops.toList) 0 ops.toList else [])
 else .bad
def m0 (P:Program) (bd:Nat):Code→bK
 | .skip=>.skip
 | .label _=>.skip
 | .region _ ops draw=>bif draw then IA P bd ops (A2 P ops) (DQ (A2 P ops) 0 ops.toList) else .ag (tr P bd ops ops.toList)
 | .seq a b=>.seq (m0 P bd a) (m0 P bd b)
 | .cond c a b=>.cond (rx c) (m0 P bd a) (m0 P bd b)
 | .block id b=>.block id (m0 P bd b)
 | .loop b=>.loop (m0 P bd b)
 | .exit id=>.exit id
 | .ret=>.ret
 | .scope b=>m0 P bd b
 | _=>.bad
def cN.andThen:cN→Prop→Prop→Prop
 | .normal,A,_=>A
 | _,_,B=>B
def cN.leave (id:Nat):cN→cN
 | .exit i=>if i=id then .normal else .exit i
 | e=>e
noncomputable def iY (P:Program):bK→bP→ai→(cN→bP→ai→Prop)→Prop
 | .bad,_,_,_=>False
 | .skip,r,h,Q=>Q .normal r h
 | .ag ops,r,h,Q=>tC P ops r h (Q .normal)
 | .draw ops asks,r,h,Q=>mw P ops r h fun es hV ar=>qn P ops es ar asks∧Q .normal hV ar
 | .seq a b,r,h,Q=>iY P a r h fun e bR J=>e.andThen (iY P b bR J Q) (Q e bR J)
 | .cond c a b,r,h,Q=>match c.br r with
   | .bool t=>(t=true→iY P a r h Q)∧(t=false→iY P b r h Q)
   | _=>False
 | .block id b,r,h,Q=>iY P b r h fun e bR J=>Q (e.leave id) bR J
 | .loop b,r,h,Q=>∃(I:bP→ai→Prop) (μ:bP→ai→Nat),I r h∧∀r h,I r h→iY P b r h fun e bR J=>e.andThen (I bR J∧μ bR J<μ r h) (Q e bR J)
 | .exit id,r,h,Q=>Q (.exit id) r h
 | .ret,r,h,Q=>Q .ret r h
def EE (P:Program) (bd:Nat) (c:Code) (r:bP) (h:ai) (e:cN) (bR:bP) (J:ai):Prop:=
 ∀(aR:Fr) E a w,mE E bd r a→cf aR E h w→∀Q:Exit→Act→World→Prop,
  (∀a_ cC aT,E.le a_→mE a_ bd bR cC→cf aR a_ J aT→Q (w0 e) cC aT)→Ev P c Q a w
section
variable {P:Program} {bd:Nat}
theorem RG (eT:kD P) {all:Array Oper}:∀(l:List Oper) (i:Nat),(∀j,l[j]? =all[i+j]?)→∀(r:bP) (h:ai) (K:bP→ai→Prop),Out bd r→tC P (tr P bd all l) r h K→
 ∃bR J,K bR J∧Out bd bR∧∀(aR:Fr) E a w,mE E bd r a→cf aR E h w→∀Q:Exit→Act→World→Prop,
  (∀a_ cC aT,E.le a_→mE a_ bd bR cC→cf aR a_ J aT→Q .normal cC aT)→wpOps P all Q (List.range' i l.length) a w
 | [],i,_,r,h,K,bA,H=>by
   refine ⟨r,h,H,bA,fun aR E a w k s Q dA=>?_⟩
   simp only [List.length_nil,List.range'_zero,wpOps]
   exact dA E a w (Env.le.refl E) k s
 | o::os,i,aL,r,h,K,bA,H=>by
   have aH:all[i]? =some o:=by have:=aL 0;simpa using this.symm
   simp only [tr,tC] at H
   obtain ⟨call,v,ad,aC,ca,H1,eH⟩:=bq.yP H
   obtain ⟨bn,ak,aP,aA,a2⟩:=RG eT os (i+1) (fun j=>by
    have:=aL (j+1)
    simp only [List.getElem?_cons_succ] at this
    rw [this]
    congr 1
    omega) _ ad K (bA.set ca v) H1
   refine ⟨bn,ak,aP,aA,fun aR E a w k s Q dA=>?_⟩
   obtain ⟨eb,cq⟩:=F1 bA
   rw [List.length_cons,List.range'_succ,wpOps_cons]
   refine Ct eT aC.1 aC.2 aH (eH eb cq) k.size k.defers (fun t _=>?_) s fun a_ x aT b_ ch cI=>?_
   · have:=congrFun cq t
     simp only [f_] at this
     rw [this]
     exact k.ag t
   · exact a2 aR a_ _ aT (k.put b_ ca ch) cI Q fun ff b1 dq fk fe z3=>dA ff b1 dq (b_.trans fk) fe z3
noncomputable def Ra (e:jD):g5:=⟨f_ e.r,e.h,e.v⟩
theorem Xv (es:List jD) (ar:ai) (i:Nat):x3 (es.map Ra) ar i=eN es ar i:=by
 unfold x3 eN
 rw [List.getElem?_map]
 cases es[i]? <;>rfl
theorem RF {all:Array Oper}:∀(l:List Oper) (oD:c7) (h:ai) (K:List g5→bP→ai→Prop),mw P (tr P bd all l) (f_ oD) h K→Out bd (f_ oD)→
 ∃es rr ar,K (es.map Ra) (f_ rr) ar∧Out bd (f_ rr)∧es.length=l.length∧eN es ar 0=h∧kR es rr 0=oD∧
  ∀j o,l[j]? =some o→∃e call,es[j]? =some e∧(lq P call∧lW P call)∧(hF P bd all o).run call e.r e.h=.val e.v (eN es ar (j+1))∧kR es rr (j+1)=(mi o.dst).run e.r e.v
 | [],oD,h,K,H,bA=>⟨[],oD,h,H,bA,rfl,rfl,rfl,fun j o bQ=>by simp at bQ⟩
 | o::os,oD,h,K,H,bA=>by
   simp only [tr,mw] at H
   obtain ⟨call,v,ad,aC,ca,H1,eH⟩:=bq.yP H
   rw [←Qd] at H1
   obtain ⟨es,rr,ar,aP,aA,a2,b',da,eh⟩:=RF os _ ad _ H1 (by rw [Qd];exact bA.set ca v)
   refine ⟨⟨oD,h,v⟩::es,rr,ar,aP,aA,by simp [a2],by simp [eN],by simp [kR],fun j dV bQ=>?_⟩
   cases j with
   | zero=>
     simp only [List.getElem?_cons_zero,Option.some.injEq] at bQ
     subst bQ
     exact ⟨⟨oD,h,v⟩,call,rfl,aC,by rw [C3,b'];exact eH oD rfl,by rw [DZ,da]⟩
   | succ j=>
     obtain ⟨e,c,b_,ch,cI,ga⟩:=eh j dV (by simpa using bQ)
     exact ⟨e,c,by simpa using b_,ch,by rw [C3];exact cI,by rw [DZ];exact ga⟩
theorem Kb {o:Option bq} {e:Option g5} {es:List g5} {ar:ai}:∀{gN:List Nat},sD P o e es ar gN→∀s ∈ gN,∃dV fM,o=some dV∧e=some fM∧dV.wp P fM.r (x3 es ar s) fun _ db _=>db=fM.v
 | [],_,s,h=>by simp at h
 | iW::gN,H,s,hm=>by
   simp only [sD] at H
   simp only [List.mem_cons] at hm
   rcases hm with rfl | hm
   · cases o with
     | none=>exact H.1.elim
     | some o=>
       cases e with
       | none=>exact H.1.elim
       | some e=>exact ⟨o,e,rfl,rfl,H.1⟩
   · exact Kb H.2 s hm
theorem Kd {ops:List Oper} {eV bk gJ:List Nat} {gs:List bq} {es:List g5} {ar:ai}:∀{l:List Oper} {i:Nat},qn P gs es ar (xA P ops eV bk gJ i l)→∀j o,l[j]? =some o→looks o.op=true→iS P o.op=false→
 sD P gs[posOf bk (i+j)]? es[posOf bk (i+j)]? es ar (gJ.filter (wI P eV ops bk (i+j) ((eV[i+j]?).getD 0)))
 | [],i,_,j,o,h,_,_=>by simp at h
 | dV::os,i,H,j,o,h,ad,ak=>by
   simp only [xA] at H
   cases j with
   | zero=>
     simp only [List.getElem?_cons_zero,Option.some.injEq] at h
     subst h
     rw [ad,ak] at H
     simp only [Bool.not_false,Bool.and_true,cond_true,qn] at H
     exact H.1
   | succ j=>
     have jn:qn P gs es ar (xA P ops eV bk gJ (i+1) os):=by
      cases aC:(looks dV.op&&!iS P dV.op) with
      | true=>rw [aC] at H;simp only [cond_true,qn] at H;exact H.2
      | false=>rw [aC] at H;exact H
     have:=Kd jn j o (by simpa using h) ad ak
     rw [show i+1+j=i + (j+1) from by omega] at this
     exact this
theorem VZ (qJ:bd≤top) (eS:P.follows .mixedOrders=true) (eT:kD P) {id:Nat} {ops:Array Oper} {order bk:List Nat} {r:bP} {h:ai} {Q:cN→bP→ai→Prop} (bA:Out bd r)
 (H:iY P (IA P bd ops order bk) r h Q):∃bR J,Q .normal bR J∧Out bd bR∧EE P bd (.region id ops true) r h .normal bR J:=by
 unfold IA at H
 cases ar:(yC ops.size order bk&&xK P ops bk) with
 | false=>rw [ar] at H;exact H.elim
 | true=>
   rw [ar] at H
   simp only [cond_true,iY] at H
   simp only [Bool.and_eq_true] at ar
   obtain ⟨rN,x4⟩:=ar
   unfold yC at rN
   simp only [Bool.and_eq_true,Nat.beq_eq] at rN
   obtain ⟨GX,Yh,GY,GZ⟩:=rN
   have nu:∀k,k<ops.size→posOf bk k<ops.size∧order[posOf bk k]? =some k:=by
    intro k al
    have bl:bk[k]? =some (posOf bk k):=by
     unfold posOf
     rw [List.getElem?_eq_getElem (by omega)]
     rfl
    have:=A7 GY bl
    rw [Nat.zero_add] at this
    exact ⟨by have:=(List.getElem?_eq_some_iff.1 this).1;omega,this⟩
   have uS:∀p,p<ops.size→∃i,i<ops.size∧posOf bk i=p:=by
    intro p aQ
    have bl:order[p]? =some (order[p]'(by omega)):=List.getElem?_eq_getElem (by omega)
    have:=A7 GZ bl
    rw [Nat.zero_add] at this
    refine ⟨order[p]'(by omega),by have:=(List.getElem?_eq_some_iff.1 this).1;omega,?_⟩
    unfold posOf
    rw [this]
    rfl
   obtain ⟨oD,zZ⟩:=F1 bA
   rw [←zZ] at H bA
   obtain ⟨es,rr,cU,⟨Gq,dA⟩,nr,aP,aA,a2,b'⟩:=RF _ oD h _ H bA
   refine ⟨_,cU,dA,nr,fun aR E a w k s j7 Xe=>?_⟩
   have step:∀i:Nat,∃call,(lq P call∧lW P call)∧∀o,ops[i]? =some o→∃e,es[posOf bk i]? =some e∧(hF P bd ops o).run call e.r e.h=.val e.v (eN es cU (posOf bk i+1))∧kR es rr (posOf bk i+1)=(mi o.dst).run e.r e.v:=by
    intro i
    cases aH:ops[i]? with
    | none=>exact ⟨n3,DI P,fun o h=>by cases h⟩
    | some o=>
      obtain ⟨e,call,b_,ch,cI,ga⟩:=b' _ o (yA (nu i (Array.getElem?_eq_some_iff.1 aH).1).2 aH)
      exact ⟨call,ch,fun dV x8=>by cases x8;exact ⟨e,b_,cI,ga⟩⟩
   obtain ⟨calls,x2⟩:=Classical.axiomOfChoice step
   have Gp:∀j o,ops[j]? =some o→looks o.op=true→iS P o.op=false→∃e,es[posOf bk j]? =some e∧∀s ∈ mf P bk 0 ops.toList,
    wI P (lI [] ops.toList) ops.toList bk j (((lI [] ops.toList)[j]?).getD 0) s=true→∃c J,(lq P c∧lW P c)∧(hF P bd ops o).run c e.r (eN es cU s)=.val e.v J:=by
    intro j o C8 fj XB
    have bQ:=(Array.getElem?_eq_some_iff.1 C8).1
    obtain ⟨e,b_,ch,cI⟩:=(x2 j).2 o C8
    refine ⟨e,b_,fun s aM hm=>?_⟩
    cases aL:sC P ops.toList with
    | true=>
      rw [aL] at Gq
      simp only [cond_true] at Gq
      have:=Kd Gq j o (by simpa using C8) fj XB
      rw [Nat.zero_add] at this
      obtain ⟨dV,fM,fk,fe,z3⟩:=Kb this s (List.mem_filter.2 ⟨aM,hm⟩)
      rw [Qv,List.getElem?_map,yA (nu j bQ).2 C8] at fk
      simp only [Option.map_some,Option.some.injEq] at fk
      rw [List.getElem?_map,b_] at fe
      simp only [Option.map_some,Option.some.injEq] at fe
      subst fk;subst fe
      rw [Xv] at z3
      obtain ⟨c,v,J,pk,_,re,w6⟩:=bq.yP z3
      have RH:=w6 e.r rfl
      rw [show v=e.v from re] at RH
      exact ⟨c,J,pk,RH⟩
    | false=>
      have none:∀(l:List Oper),sC P l=false→∀(j:Nat) (o:Oper),l[j]? =some o→iS P o.op=false:=by
       intro l
       induction l with
       | nil=>intro _ j o h;simp at h
       | cons x l bJ=>
         intro h j o bA
         simp only [sC,Bool.or_eq_false_iff] at h
         cases j with
         | zero=>simp only [List.getElem?_cons_zero,Option.some.injEq] at bA;subst bA;exact h.1
         | succ j=>exact bJ h.2 j o (by simpa using bA)
      have l_:s=ops.size:=by
       rcases AH aM with h | ⟨Dl,dV,ad,ak,aB⟩
       · simpa using h
       · have:=none _ aL Dl dV ad
         unfold h0 at ak
         rw [this] at ak
         cases ak
      have flat:∀d,d≤ops.size→eN es cU d=eN es cU 0:=by
       intro d
       induction d with
       | zero=>intro _;rfl
       | succ d bJ=>
         intro ca
         obtain ⟨i,pQ,qH⟩:=uS d (by omega)
         have fw:ops[i]? =some ops[i]:=Array.getElem?_eq_getElem pQ
         obtain ⟨V2,dH,dq,_⟩:=(x2 i).2 ops[i] fw
         rw [qH] at dH dq
         have gQ:iS P ops[i].op=false:=none _ aL i _ (by simp)
         rw [(zJ gQ dq).1,←bJ (by omega)]
         simp [eN,dH]
      have Yo:=(nu j bQ).1
      have:e.h=eN es cU s:=by rw [l_,flat ops.size (Nat.le_refl _),←flat (posOf bk j) (by omega)];simp [eN,b_]
      rw [←this]
      exact ⟨_,_,(x2 j).1,ch⟩
   have C:Cert P bd ops calls es oD h rr cU (mf P bk 0 ops.toList) order bk:=
    ⟨by rw [aP,Ie,GX],nu,uS,aA,a2,fun i o fw=>(x2 i).2 o fw,x4,
      by simpa using HN (P:=P) (bk:=bk) (l:=ops.toList) (i:=0),
      fun j o ad ak=>by simpa using HO (bk:=bk) (i:=0) (j:=j) (l:=ops.toList) (by simpa using ad) ak,
      fun s aM=>by
       rcases AH aM with h | ⟨j,o,ad,ak,aB⟩
       · exact .inl (by simpa using h)
       · exact .inr ⟨j,o,by simpa using ad,ak,by simpa using aB⟩,
      Gp⟩
   have al:hD E bd oD a:=⟨k.size,k.defers,fun t _=>by
    have:=congrFun zZ t
    simp only [f_] at this
    rw [this]
    exact k.ag t⟩
   have fU:∀k,¬(Array.replicate ops.size false).getD k false=true:=by
    intro k
    rw [xV,Array.getElem?_replicate]
    split<;>simp
   have mO:Holds aR aR es cU bk (lv ops es cU bk (Array.replicate ops.size false) 0):=
    ⟨rfl,fun _ _=>rfl,fun k al=>(by obtain ⟨_,_,_,_,aj⟩:=al;omega),fun k cb al=>(by obtain ⟨_,_,_,_,aj⟩:=al;omega)⟩
   obtain ⟨iW,iz,bH,bM,cT,fF,gY,ke⟩:=C.advance ops.size 0 (by omega) (fun k o _ _ _=>fU k) aR mO (E:=E) (w:={w with drawn:=w.drawn}) (by rw [aA];exact s.same rfl rfl rfl rfl)
   have fin:∀a_ cC aT,E.le a_→hD a_ bd rr cC→cf aR a_ cU aT→j7 .normal cC aT:=by
    intro a_ cC aT fk fe z3
    refine Xe a_ cC aT fk ⟨fe.size,fe.defers,fun t=>?_⟩ z3
    by_cases aF:t≤top
    · exact fe.ag t aF
    · have gG:=fe.size
      rw [nr t (by omega)]
      simp [Rel]
   refine wp_region_any eS (M7 eT (fun i=>(x2 i).1.1) (fun i=>(x2 i).1.2) C (ky:=E) fin ops.size _ a _ ?_ ?_)
   · exact Nat.le_trans List.countP_le_length (by simp)
   · refine ⟨by simp,al.size,al.defers,fun cb o e al=>absurd al (fU cb),E,iW,iz,Env.le.refl E,bH,cT,fun cb o ad ak=>⟨fun h=>absurd h (fU cb),fun h=>by have:=fF cb o ad ak (Nat.zero_le _);omega⟩,
      fun cb o _ _ h=>absurd h (fU cb),gY,?_,fun t aF=>.inr ⟨fun cb o al=>absurd al (fU cb),al.ag t aF⟩⟩
     exact ke.same rfl rfl rfl rfl
theorem agH (qJ:bd≤top) (eS:P.follows .mixedOrders=true) (eT:kD P):∀(c:Code) (r:bP) (h:ai) (Q:cN→bP→ai→Prop),Out bd r→iY P (m0 P bd c) r h Q→
 ∃e bR J,Q e bR J∧Out bd bR∧EE P bd c r h e bR J:=by
 intro c
 induction c with
 | skip=>
   intro r h Q bA H
   exact ⟨.normal,r,h,H,bA,fun aR E a w k s j7 dA=>wp_skip (dA E a w (Env.le.refl E) k s)⟩
 | label l=>
   intro r h Q bA H
   exact ⟨.normal,r,h,H,bA,fun aR E a w k s j7 dA=>wp_label (dA E a w (Env.le.refl E) k s)⟩
 | exit id=>
   intro r h Q bA H
   exact ⟨.exit id,r,h,H,bA,fun aR E a w k s j7 dA=>wp_exit (dA E a w (Env.le.refl E) k s)⟩
 | ret=>
   intro r h Q bA H
   exact ⟨.ret,r,h,H,bA,fun aR E a w k s j7 dA=>wp_ret (dA E a w (Env.le.refl E) k s)⟩
 | region id ops draw=>
   intro r h Q bA H
   cases draw with
   | true=>
     simp only [m0,cond_true] at H
     obtain ⟨bR,J,aP,aA,a2⟩:=VZ qJ eS eT (id:=id) bA H
     exact ⟨.normal,bR,J,aP,aA,a2⟩
   | false=>
     simp only [m0,cond_false,iY] at H
     obtain ⟨bR,J,aP,aA,a2⟩:=RG eT ops.toList 0 (fun j=>by simp) r h _ bA H
     refine ⟨.normal,bR,J,aP,aA,fun aR E a w k s j7 dA=>?_⟩
     refine wp_region ?_
     have:=a2 aR E a w k s j7 dA
     rw [List.range_eq_range']
     simpa using this
 | seq x y wm wo=>
   intro r h Q bA H
   simp only [m0,iY] at H
   obtain ⟨e,aY,ad,aP,aA,a2⟩:=wm r h _ bA H
   cases e with
   | normal=>
     obtain ⟨e,bn,ak,b_,ch,cI⟩:=wo aY ad Q aA aP
     refine ⟨e,bn,ak,b_,ch,fun aR E a w k s j7 dA=>?_⟩
     refine wp_seq (a2 aR E a w k s _ fun a_ cC aT fk fe z3=>?_).wp
     exact (cI aR a_ cC aT fe z3 j7 fun ff b1 dq pk rb re=>dA ff b1 dq (fk.trans pk) rb re).wp
   | exit i=>
     refine ⟨.exit i,aY,ad,aP,aA,fun aR E a w k s j7 dA=>?_⟩
     refine wp_seq (a2 aR E a w k s _ fun a_ cC aT fk fe z3=>?_).wp
     exact dA a_ cC aT fk fe z3
   | ret=>
     refine ⟨.ret,aY,ad,aP,aA,fun aR E a w k s j7 dA=>?_⟩
     refine wp_seq (a2 aR E a w k s _ fun a_ cC aT fk fe z3=>?_).wp
     exact dA a_ cC aT fk fe z3
 | cond c x y wm wo=>
   intro r h Q bA H
   simp only [m0,iY] at H
   cases bh:(rx c).br r<;>rw [bh] at H<;>simp only at H<;>try (exact H.elim)
   rename_i t
   have aC:∀E a,mE E bd r a→a.eval c=.bool t:=by
    intro E a k
    cases c with
    | tmp d=>
      simp only [rx] at bh
      cases af:Nat.ble d top with
      | false=>rw [af] at bh;simp [bp.br] at bh
      | true=>
        rw [af] at bh
        simp only [cond_true,bp.br] at bh
        have:=k.ag d
        rw [bh] at this
        simp only [Rel] at this
        exact this
    | const v=>
      simp only [rx,bp.br] at bh
      have:=wM E v
      rw [bh] at this
      simp only [Rel] at this
      exact this
    | func f=>simp [rx,bp.br] at bh
    | global g=>simp [rx,bp.br] at bh
   cases t with
   | true=>
     obtain ⟨e,aY,ad,aP,aA,a2⟩:=wm r h Q bA (H.1 rfl)
     exact ⟨e,aY,ad,aP,aA,fun aR E a w k s j7 dA=>wp_cond_true (aC E a k) (a2 aR E a w k s j7 dA).wp⟩
   | false=>
     obtain ⟨e,aY,ad,aP,aA,a2⟩:=wo r h Q bA (H.2 rfl)
     exact ⟨e,aY,ad,aP,aA,fun aR E a w k s j7 dA=>wp_cond_false (aC E a k) (a2 aR E a w k s j7 dA).wp⟩
 | block id x bJ=>
   intro r h Q bA H
   simp only [m0,iY] at H
   obtain ⟨e,aY,ad,aP,aA,a2⟩:=bJ r h _ bA H
   refine ⟨e.leave id,aY,ad,aP,aA,fun aR E a w k s j7 dA=>?_⟩
   refine wp_block (a2 aR E a w k s _ fun a_ cC aT fk fe z3=>?_).wp
   cases e with
   | normal=>exact dA a_ cC aT fk fe z3
   | ret=>exact dA a_ cC aT fk fe z3
   | exit i=>
     have:=dA a_ cC aT fk fe z3
     simp only [w0,Exit.inBlock]
     simp only [cN.leave] at this
     by_cases aH:i=id
     · rw [if_pos aH] at this ⊢;exact this
     · rw [if_neg aH] at this ⊢;exact this
 | loop x bJ=>
   intro r h Q bA H
   simp only [m0,iY] at H
   obtain ⟨I,μ,Gk,Yx⟩:=H
   have key:∀n r h,μ r h=n→I r h→Out bd r→∃e bR J,Q e bR J∧Out bd bR∧EE P bd (.loop x) r h e bR J:=by
    intro n
    induction n using Nat.strongRecOn with
    | _ n Zk=>
      intro r h a1 Gk bA
      obtain ⟨e,aY,ad,aP,aA,a2⟩:=bJ r h _ bA (Yx r h Gk)
      have body:∀(aR:Fr) E a w,mE E bd r a→cf aR E h w→∀b fq cs,∃cC aT a_,E.le a_∧mE a_ bd aY cC∧cf aR a_ ad aT∧Arrives P (lone (b.at a (.code x::.inLoop x::fq)) cs w) b (.inLoop x::fq) cs (w0 e) cC aT:=by
       intro aR E a w k s b fq cs
       have:=(a2 aR E a w k s (fun fM cC aT=>fM=w0 e∧∃a_,E.le a_∧mE a_ bd aY cC∧cf aR a_ ad aT) (fun a_ cC aT aP aA a2=>⟨rfl,a_,aP,aA,a2⟩)).wp b (.inLoop x::fq) cs
       obtain ⟨bo,b1,dq,⟨rfl,ff,fk,fe,z3⟩,qC⟩:=this
       exact ⟨b1,dq,ff,fk,fe,z3,qC⟩
      cases e with
      | normal=>
        obtain ⟨Xb,a7⟩:=aP
        obtain ⟨bo,bn,ak,b_,ch,cI⟩:=Zk (μ aY ad) (a1 ▸ a7) aY ad rfl Xb aA
        refine ⟨bo,bn,ak,b_,ch,fun aR E a w k s j7 dA b fq cs=>?_⟩
        obtain ⟨b1,dq,ff,fk,fe,z3,qC⟩:=body aR E a w k s b fq cs
        obtain ⟨cp,a3,hA,pk,rb⟩:=cI aR ff b1 dq fe z3 j7 (fun kz a4 ix t1 t2 t3=>dA kz a4 ix (fk.trans t1) t2 t3) b fq cs
        exact ⟨cp,a3,hA,pk,.of_steps (Steps.trans qC (.one step_inLoop)) rb⟩
      | exit i=>
        refine ⟨.exit i,aY,ad,aP,aA,fun aR E a w k s j7 dA b fq cs=>?_⟩
        obtain ⟨b1,dq,ff,fk,fe,z3,qC⟩:=body aR E a w k s b fq cs
        exact ⟨.exit i,b1,dq,dA ff b1 dq fk fe z3,.pass (x:=.inLoop x) rfl (fun _ _=>.inl (by simp)) qC⟩
      | ret=>
        refine ⟨.ret,aY,ad,aP,aA,fun aR E a w k s j7 dA b fq cs=>?_⟩
        obtain ⟨b1,dq,ff,fk,fe,z3,qC⟩:=body aR E a w k s b fq cs
        exact ⟨.ret,b1,dq,dA ff b1 dq fk fe z3,.pass (x:=.inLoop x) rfl (fun _ _=>.inl (by simp)) qC⟩
   exact key _ r h rfl Gk bA
 | scope x bJ=>
   intro r h Q bA H
   obtain ⟨e,aY,ad,aP,aA,a2⟩:=bJ r h Q bA H
   refine ⟨e,aY,ad,aP,aA,fun aR E a w k s j7 dA=>?_⟩
   refine wp_scope_straight (a2 aR E a w k s _ fun a_ cC aT fk fe z3=>?_).wp
   have:=dA a_ cC aT fk fe z3
   cases e<;>exact this
 | rangeFunc f ct x y _ _=>intro r h Q bA H;exact H.elim
 | goto l=>intro r h Q bA H;exact H.elim
 | refuse agC=>intro r h Q bA H;exact H.elim
inductive zf where
 | t (n:Nat)
 | cg (n:Nat)
 | k1 (n size:Nat)
 | bad
def q9 (P:Program) (bd:Nat):List ResultVar→List zf
 | []=>[]
 | .tmp t::rs=>(bif Nat.ble t top&&Nat.blt t bd then .t t else .bad)::q9 P bd rs
 | .cell a t::rs=>(bif Nat.ble a top&&Nat.blt a bd then (match bF P t with
   | none=>.bad
   | some a'=>bif a'.agg then .k1 a a'.size else bif Nat.beq a'.size 1 then .cg a else .bad) else .bad)::q9 P bd rs
noncomputable def eZ (r:bP) (h:ai):List zf→Option (List V)
 | []=>some []
 | x::xs=>match (match x with
   | .t n=>some (r n)
   | .cg n=>o2 h (r n)
   | .k1 n size=>o1 size h (r n)
   | .bad=>none) with
   | none=>none
   | some v=>match eZ r h xs with
     | none=>none
     | some ah=>some (v::ah)
theorem Cy {r:bP} {h:ai} {eb:c7} (cq:f_ eb=r):∀{l:List ResultVar} {ah:List V},eZ r h (q9 P bd l)=some ah→(mZ P bd l).run eb h=some ah
 | [],ah,he=>by simpa [eZ,q9,mZ] using he
 | .tmp t::rs,ah,he=>by
   simp only [q9,eZ] at he
   unfold mZ
   cases aC:(Nat.ble t top&&Nat.blt t bd) with
   | false=>rw [aC] at he;simp at he
   | true=>
     rw [aC] at he
     simp only [cond_true] at he ⊢
     cases ba:eZ r h (q9 P bd rs) with
     | none=>rw [ba] at he;cases he
     | some w3=>
       rw [ba] at he
       rw [Cy cq ba]
       have:=congrFun cq t
       simp only [f_] at this
       rw [this]
       exact he
 | .cell a t::rs,ah,he=>by
   simp only [q9,eZ] at he
   unfold mZ
   cases aC:(Nat.ble a top&&Nat.blt a bd) with
   | false=>rw [aC] at he;simp at he
   | true=>
     rw [aC] at he
     simp only [cond_true] at he ⊢
     have Oo:=congrFun cq a
     simp only [f_] at Oo
     rw [Oo]
     unfold wF
     cases aF:bF P t with
     | none=>rw [aF] at he;simp at he
     | some a'=>
       rw [aF] at he
       simp only at he ⊢
       cases NT:a'.agg with
       | true=>
         rw [NT] at he
         simp only [cond_true] at he ⊢
         cases aL:o1 a'.size h (r a) with
         | none=>rw [aL] at he;cases he
         | some v=>
           rw [aL] at he
           simp only at he ⊢
           cases ba:eZ r h (q9 P bd rs) with
           | none=>rw [ba] at he;cases he
           | some w3=>rw [ba] at he;rw [Cy cq ba];exact he
       | false=>
         rw [NT] at he
         simp only [cond_false] at he ⊢
         cases aM:Nat.beq a'.size 1 with
         | false=>rw [aM] at he;simp at he
         | true=>
           rw [aM] at he
           simp only [cond_true] at he ⊢
           cases aL:o2 h (r a) with
           | none=>rw [aL] at he;cases he
           | some v=>
             rw [aL] at he
             simp only at he ⊢
             cases ba:eZ r h (q9 P bd rs) with
             | none=>rw [ba] at he;cases he
             | some w3=>rw [ba] at he;rw [Cy cq ba];exact he
theorem H':∀(l:List V) (t:Nat),bP.au l t=(l[t]?).getD .bad
 | [],t=>by simp [bP.au]
 | v::ah,t=>by
   simp only [bP.au]
   cases t with
   | zero=>simp
   | succ t=>simp [H' ah t]
def cN.ends:cN→Prop
 | .exit _=>False
 | _=>True
theorem VO (eS:P.follows .mixedOrders=true) (eT:kD P) {f:FuncId} {fn:Func} {c:Code} {args:List V} {h:ai} {K:V→ai→Prop} (ar:P.funcs[f]? =some fn) (af:fn.body=some c)
 (qJ:Nat.ble fn.ntmps top=true) (CY:Nat.ble args.length fn.ntmps=true) {rc:bK} {D6:List zf} (Yt:m0 P fn.ntmps c=rc) (Yz:q9 P fn.ntmps fn.results.toList=D6)
 (H:iY P rc (bP.au args) h fun e r J=>e.ends∧∃ah,eZ r J D6=some ah∧K (oneOf ah) J):bB P f args h K:=by
 subst Yt Yz
 rw [Nat.ble_eq] at qJ CY
 have bA:Out fn.ntmps (bP.au args):=by
  intro t aF
  rw [H',List.getElem?_eq_none (by omega)]
  rfl
 obtain ⟨e,bR,J,⟨XC,ah,Ay,dd⟩,nr,Xq⟩:=agH qJ eS eT c _ h _ bA H
 refine ⟨oneOf ah,J,.inl ⟨⟨fn,ar,by rw [af];rfl⟩,fun aR E w xs ax s=>?_⟩,dd⟩
 have hlen:=ax.length
 have gG:xs.toArray.size≤fn.ntmps:=by simp;omega
 refine calls_of_wp ar af ?_
 have k:mE E fn.ntmps (bP.au args) {tmps:=xs.toArray++Array.replicate (fn.ntmps-xs.toArray.size) undef,defers:=[]}:=by
  refine ⟨by simp;omega,rfl,fun t=>?_⟩
  rw [H']
  cases bl:args[t]? with
  | none=>simp [Rel]
  | some v=>
    obtain ⟨y,bG,ba⟩:=ax.get t v bl
    simp only [Option.getD_some]
    have qO:t<xs.length:=(List.getElem?_eq_some_iff.1 bG).1
    rw [Array.getD_eq_getD_getElem?,Array.getElem?_append_left (by simpa using qO)]
    simp only [List.getElem?_toArray,bG,Option.getD_some]
    exact ba
 have fin:∀a_ cC aT,E.le a_→mE a_ fn.ntmps bR cC→cf aR a_ J aT→cC.defers=[]∧∃v,(results fn cC.tmps).run P aT=.ok v aT∧(∃ff x,Ending.returned v=.returned x∧E.le ff∧Rel ff (oneOf ah) x∧cf aR ff J aT):=by
  intro a_ cC aT aP aA a2
  obtain ⟨eb,cq⟩:=F1 nr
  have al:hD a_ fn.ntmps eb cC:=⟨aA.size,aA.defers,fun t _=>by
   have:=congrFun cq t
   simp only [f_] at this
   rw [this]
   exact aA.ag t⟩
  obtain ⟨gm,Za,Zb⟩:=D2 al a2 (Cy cq Ay)
  obtain ⟨x,dn,fR⟩:=PK Za fn cC P aT Zb
  exact ⟨aA.defers,x,dn,a_,x,rfl,aP,fR,a2⟩
 refine (Xq aR E _ w k s _ fun a_ cC aT aP aA a2=>?_).wp
 have:=fin a_ cC aT aP aA a2
 cases e with
 | normal=>exact this
 | ret=>exact this
 | exit i=>exact XC.elim
end
end Go.Proofs.YtjbiefneffiogaaGreat.bs
namespace Go.Proofs.YtjbiefneffiogaaGreat.bs
variable [Lay]
open Go Go.RowKit
section
variable {α:Type} (d:α)
theorem T.yE (x y:α):∀(p:aV) (t:T α),T.put d x p (T.put d y p t)=T.put d x p t
 | .z,t=>by cases t<;>rfl
 | .l p,t=>by
   cases t with
   | e=>exact congrArg (fun q=>T.n d q .e) (T.yE x y p .e)
   | n v l r=>exact congrArg (fun q=>T.n v q r) (T.yE x y p l)
 | .r p,t=>by
   cases t with
   | e=>exact congrArg (fun q=>T.n d .e q) (T.yE x y p .e)
   | n v l r=>exact congrArg (fun q=>T.n v l q) (T.yE x y p r)
theorem T.put_comm (x y:α):∀(p q:aV) (t:T α),p≠q→T.put d x p (T.put d y q t)=T.put d y q (T.put d x p t)
 | .z,.z,t,h=>absurd rfl h
 | .z,.l q,t,_=>by cases t<;>rfl
 | .z,.r q,t,_=>by cases t<;>rfl
 | .l p,.z,t,_=>by cases t<;>rfl
 | .r p,.z,t,_=>by cases t<;>rfl
 | .l p,.r q,t,_=>by cases t<;>rfl
 | .r p,.l q,t,_=>by cases t<;>rfl
 | .l p,.l q,t,h=>by
   have J:p≠q:=fun e=>h (by rw [e])
   cases t with
   | e=>exact congrArg (fun s=>T.n d s .e) (T.put_comm x y p q .e J)
   | n v l r=>exact congrArg (fun s=>T.n v s r) (T.put_comm x y p q l J)
 | .r p,.r q,t,h=>by
   have J:p≠q:=fun e=>h (by rw [e])
   cases t with
   | e=>exact congrArg (fun s=>T.n d .e s) (T.put_comm x y p q .e J)
   | n v l r=>exact congrArg (fun s=>T.n v l s) (T.put_comm x y p q r J)
end
theorem gM (i j:Nat):(ao i=ao j)=(i=j):=by
 apply propext
 exact ⟨n',fun h=>by rw [h]⟩
theorem adI (ah:List V):∀(i off:Nat) (x:V) (t:T V),i<off→T.put .bad x (ao i) (g1 t off ah)=g1 (T.put .bad x (ao i) t) off ah:=by
 induction ah with
 | nil=>intro i off x t _;rfl
 | cons v ah bJ=>
   intro i off x t h
   simp only [g1]
   rw [bJ i (off+1) x _ (by omega),T.put_comm _ _ _ _ _ _ (fun e=>by rw [gM] at e;omega)]
def iw (ah:List V) (off:Nat) (ws:List V):List V:=ah.take off++ws++ah.drop (off+ws.length)
theorem Qe:∀(ah:List V) (base i:Nat) (x:V) (t:T V),i<ah.length→T.put .bad x (ao (base+i)) (g1 t base ah)=g1 t base (ah.set i x)
 | [],_,i,_,_,h=>by simp at h
 | v::ah,base,i,x,t,h=>by
   cases i with
   | zero=>
     simp only [g1,Nat.add_zero,List.set]
     rw [adI ah base (base+1) x _ (by omega),T.yE]
   | succ i=>
     simp only [g1,List.set]
     have:=Qe ah (base+1) i x (T.put .bad v (ao base) t) (by simpa using h)
     rw [show base + (i+1)=base+1+i from by omega]
     exact this
theorem QQ (ah:List V) (off:Nat) (w:V) (ws:List V) (h:off<ah.length):iw (ah.set off w) (off+1) ws=iw ah off (w::ws):=by
 unfold iw
 have ad:(ah.set off w).take (off+1)=ah.take off++[w]:=by
  rw [List.take_succ_eq_append_getElem (by simpa using h)]
  simp [List.take_set_of_le]
 have ak:(ah.set off w).drop (off+1+ws.length)=ah.drop (off + (w::ws).length):=by
  rw [List.drop_set_of_lt (by omega)]
  congr 1
  simp
  omega
 rw [ad,ak]
 simp
theorem u4 (ah:List V) (off:Nat) (ws:List V) (h:off+ws.length≤ah.length):(iw ah off ws).length=ah.length:=by
 unfold iw
 simp
 omega
theorem Io:∀(ws ah:List V) (off:Nat),off+ws.length≤ah.length→g1 (g1 .e 0 ah) off ws=g1 .e 0 (iw ah off ws)
 | [],ah,off,h=>by simp [g1,iw]
 | w::ws,ah,off,h=>by
   simp only [List.length_cons] at h
   simp only [g1]
   have ad:=Qe ah 0 off w .e (by omega)
   rw [Nat.zero_add] at ad
   rw [ad,Io ws (ah.set off w) (off+1) (by simp;omega),QQ ah off w ws (by omega)]
theorem CP (ah:List V):∀(off i:Nat) (t:T V),T.get .bad (ao (off+i)) (g1 t off ah)=if i<ah.length then (ah[i]?).getD .bad else T.get .bad (ao (off+i)) t:=by
 induction ah with
 | nil=>intro off i t;simp [g1]
 | cons v ah bJ=>
   intro off i t
   simp only [g1]
   cases i with
   | zero=>
     have:∀(ws:List V) (o:Nat) (s:T V),off<o→T.get .bad (ao off) (g1 s o ws)=T.get .bad (ao off) s:=by
      intro ws
      induction ws with
      | nil=>intro o s _;rfl
      | cons w ws Zl=>
        intro o s bA
        simp only [g1]
        rw [Zl (o+1) _ (by omega),T.oO,if_neg (fun e=>by rw [gM] at e;omega)]
     rw [Nat.add_zero,this ah (off+1) _ (by omega),T.oO]
     simp
   | succ i=>
     have:=bJ (off+1) i (T.put .bad v (ao off) t)
     rw [show off+1+i=off + (i+1) from by omega] at this
     rw [this,T.oO]
     have gQ:¬ao off=ao (off + (i+1)):=fun e=>by rw [gM] at e;omega
     rw [if_neg gQ]
     simp
theorem zT (ah:List V):∀(n i:Nat),i+n≤ah.length→l7 (g1 .e 0 ah) i n=(ah.drop i).take n
 | 0,i,h=>by simp [l7]
 | n+1,i,h=>by
   simp only [l7]
   have ad:=CP ah 0 i .e
   rw [Nat.zero_add] at ad
   rw [ad,if_pos (by omega),zT ah n (i+1) (by omega)]
   have ca:ah.drop i=ah[i]::ah.drop (i+1):=List.drop_eq_getElem_cons (by omega)
   rw [ca,List.take_succ_cons]
   simp [List.getElem?_eq_getElem (by omega:i<ah.length)]
noncomputable def cL.au (ah:List V) (cS:Nat) (st:Bool):cL:=.cells ah.length (g1 .e 0 ah) cS st
noncomputable def cL.ro (ah:List V):cL:=.view ah.length (g1 .e 0 ah)
def Rd (h:ai) (b:aV) (ah:List V):Prop:=h.get b=.ro ah∨∃cS st,h.get b=.au ah cS st
def Own (h:ai) (b:aV) (ah:List V) (cS:Nat) (st:Bool):Prop:=h.get b=.au ah cS st
theorem Rd.pd {α:Type} {h:ai} {b:aV} {ah:List V} (H:Rd h b ah) (d:α) (f:Nat→T V→α):(h.get b).pd d f=f ah.length (g1 .e 0 ah):=by
 rcases H with H | ⟨_,_,H⟩<;>rw [H]<;>rfl
theorem Own.lay {h:ai} {b:aV} {ah:List V} {cS:Nat} {st:Bool} (H:Own h b ah cS st) {off:Nat} {ws:List V} (bA:off+ws.length≤ah.length) (ad:gv ws=true):
 lay h b off ws=some (h.set b (.au (iw ah off ws) cS st)):=by
 unfold bs.lay
 rw [show h.get b=.cells ah.length (g1 .e 0 ah) cS st from H]
 simp only [cL.on]
 rw [show Nat.ble (off+ws.length) ah.length=true from by rw [Nat.ble_eq];exact bA,ad]
 simp only [Bool.and_true,cond_true,Option.some.injEq,cL.au]
 rw [u4 ah off ws bA,Io ws ah off bA]
theorem acs {h:ai} {ah:List V} (aL:ah.length≤top):hL h ah=some (h.new (.au ah 0 false)):=by
 unfold hL
 rw [show Nat.ble ah.length top=true from by rw [Nat.ble_eq];exact aL]
 rfl
theorem ys {h:ai} {ah:List V} {cS:Nat} {st:Bool} (aL:ah.length≤top) (he:1≤cS):ld h ah cS st=some (h.new (.au ah cS st)):=by
 unfold ld
 rw [show Nat.ble ah.length top=true from by rw [Nat.ble_eq];exact aL,show Nat.ble 1 cS=true from by rw [Nat.ble_eq];exact he]
 rfl
theorem cY (h:ai) (k:cL):(h.new k).next=h.next+1:=rfl
theorem hf (h:ai) (b:aV) (k:cL):(h.set b k).next=h.next:=rfl
end Go.Proofs.YtjbiefneffiogaaGreat.bs
namespace Go.Proofs.YtjbiefneffiogaaGreat.bs
variable [Lay]
open Go Go.RowKit
section
variable {P:Program} {r:bP} {h:ai}
theorem afs (r:bP) (d:Nat) (v:V) (t:Nat):bP.set r (some d) v t=if t=d then v else r t:=(rfl)
theorem aft (r:bP) (v:V):bP.set r none v=r:=(rfl)
theorem agd (r:bP) (u:Nat) (us:List Nat) (t:Nat):bP.trim r (u::us) t=if t=u then r t else bP.trim r us t:=(rfl)
theorem acK (v:V) (ah:List V):bP.au (v::ah) 0=v:=(rfl)
theorem acL (v:V) (ah:List V) (t:Nat):bP.au (v::ah) (t+1)=bP.au ah t:=by simp [bP.au]
theorem Cz (r:bP) (n:Nat):bp.br r (.t n)=r n:=(rfl)
theorem xQ (r:bP) (v:V):bp.br r (.c v)=v:=(rfl)
theorem PD {d:Option Nat} {g:G} {rs:List Nat} {K:bP→V→ai→Prop}:bq.wp P ⟨d,g,none,rs⟩ r h K=g.wp P (r.trim rs) h fun v J=>K (r.set d v) v J:=(rfl)
theorem PB {d:Option Nat} {g:G} {j:Nat} {want:Bool} {rs:List Nat} {K:bP→V→ai→Prop}:bq.wp P ⟨d,g,some (j,want),rs⟩ r h K=
 gate (r.trim rs j) want (g.wp P (r.trim rs) h fun v J=>K (r.set d v) v J) (K (r.set d (.tuple [])) (.tuple []) h):=(rfl)
variable {K:V→ai→Prop}
theorem qv (k:IntKind):nO k k=true:=by cases k<;>rfl
theorem oY (a b:Int):Int.leB a b=decide (a≤b):=qV a b
theorem pE (a b:Int):Int.kb a b=decide (a=b):=by rw [qu];rfl
variable (k:IntKind) (a b:Int)
theorem ZD:(e4.int .add).run P (.int k a) (.int k b)=some (.int k (k.wrap (a+b))):=by simp [e4.run,mb,pW,V.eX,qv]
theorem aaH:(e4.int .sub).run P (.int k a) (.int k b)=some (.int k (k.wrap (a-b))):=by simp [e4.run,mb,pW,V.eX,qv]
theorem aap:(e4.int .mul).run P (.int k a) (.int k b)=some (.int k (k.wrap (a * b))):=by simp [e4.run,mb,pW,V.eX,qv]
theorem OR (af:b≠0):(e4.int .quo).run P (.int k a) (.int k b)=some (.int k (k.wrap (a.tdiv b))):=by simp [e4.run,mb,ye,V.eX,qv,pE,af]
theorem Dm (af:b≠0):(e4.int .rem).run P (.int k a) (.int k b)=some (.int k (a.tmod b)):=by simp [e4.run,mb,ye,V.eX,qv,pE,af]
theorem Z0:(e4.int .eql).run P (.int k a) (.int k b)=some (.bool (decide (a=b))):=by simp [e4.run,mb,n0,V.eX,qv,pE]
theorem aas:(e4.int .neq).run P (.int k a) (.int k b)=some (.bool (!decide (a=b))):=by simp [e4.run,mb,n0,V.eX,qv,pE]
theorem aal:(e4.int .lss).run P (.int k a) (.int k b)=some (.bool (decide (a<b))):=by
 simp [e4.run,mb,n0,V.eX,qv,oY]
 rw [Bool.eq_iff_iff];simp
theorem aai:(e4.int .leq).run P (.int k a) (.int k b)=some (.bool (decide (a≤b))):=by simp [e4.run,mb,n0,V.eX,qv,oY]
theorem Z8:(e4.int .gtr).run P (.int k a) (.int k b)=some (.bool (decide (b<a))):=by
 simp [e4.run,mb,n0,V.eX,qv,oY]
 rw [Bool.eq_iff_iff];simp
theorem Z7:(e4.int .geq).run P (.int k a) (.int k b)=some (.bool (decide (b≤a))):=by simp [e4.run,mb,n0,V.eX,qv,oY]
theorem ZF (x y:Bool):(e4.zN false).run P (.bool x) (.bool y)=some (.bool (x == y)):=by simp [e4.run,kc,zM,rC]
theorem ZJ (x y:Bool):(e4.zN true).run P (.bool x) (.bool y)=some (.bool (!(x == y))):=by simp [e4.run,kc,zM,rC]
theorem agl (x:Bool):sj .not (.bool x)=some (.bool (!x)):=(rfl)
theorem agk:sj .neg (.int k a)=some (.int k (k.wrap (0-a))):=(rfl)
theorem wrap_i64 {n:Int} (ad:-9223372036854775808≤n) (ak:n≤9223372036854775807):IntKind.i64.wrap n=n:=by
 exact Go.IntWalk.i64_in n ⟨ad,ak⟩
end
section
variable {P:Program} {r:bP} {h:ai} {Q:cN→bP→ai→Prop}
theorem U7 {ops:List bq}:iY P (.ag ops) r h Q=tC P ops r h (Q .normal):=(rfl)
theorem U8 {a b:bK}:iY P (.seq a b) r h Q=iY P a r h fun e bR J=>e.andThen (iY P b bR J Q) (Q e bR J):=(rfl)
theorem af9 {A B:Prop}:cN.andThen .normal A B=A:=(rfl)
theorem af' {A B:Prop}:cN.andThen .ret A B=B:=(rfl)
theorem af8 {A B:Prop} {i:Nat}:cN.andThen (.exit i) A B=B:=(rfl)
theorem abJ {id:Nat}:cN.leave id .normal=.normal:=(rfl)
theorem abK {id:Nat}:cN.leave id .ret=.ret:=(rfl)
theorem abI {id i:Nat}:cN.leave id (.exit i)=if i=id then .normal else .exit i:=(rfl)
end
end Go.Proofs.YtjbiefneffiogaaGreat.bs
