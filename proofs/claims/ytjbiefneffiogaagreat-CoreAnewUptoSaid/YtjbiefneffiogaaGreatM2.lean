/- The abstract machine and its walks (a verified interpreter of the model's code: plain definitions and lemmas, no condition). Printed by a program from longer texts: names made short. -/
import Derived.Test.YtjbiefneffiogaaGreatM1
import Derived.Scope
import Derived.IntWalk
set_option linter.unusedSectionVars false
set_option linter.unusedSimpArgs false
set_option linter.unusedVariables false
namespace Go.Proofs.YtjbiefneffiogaaGreat.ba
variable [Lay]
open Go Go.RowKit
section
variable {P:Program}
def jS (P:Program) (call:eO):Prop:=
 ∀(aJ:Fr) f args h v aa,call f args h=.val v aa→∀E w xs,bA E args xs→bQ aJ E h w→
  ((∃fn,P.funcs[f]? =some fn∧fn.body.isSome=true)∧Calls P f xs.toArray w fun e aC=>∃aP x,e=.returned x∧E.le aP∧Rel aP v x∧bQ aJ aP aa aC)∨
  ∃aP x aC,(callFunc f xs.toArray).run P w=.ok (.value x) aC∧E.le aP∧Rel aP v x∧bQ aJ aP aa aC
theorem hy {o:Oper} {a:Act} {w:World} {aJ:Fr} {E:Env} {aa:ag} {v:V} {m:Sem Value} {K:Act→World→Prop} {Q:Exit→Act→World→Prop}
 (an:execOp a.eval o=(do pure (.value (←m)))) (g:dG aJ P E w m v aa) (cV:∀aP x aC,E.le aP→Rel aP v x→bQ aJ aP aa aC→K (a.put o.dst x) aC):o.wp P a w K Q:=by
 obtain ⟨Z,aC,aP,ab,af,aK,bM⟩:=g
 unfold Oper.wp
 rw [an,Sem.run_bind,ab]
 exact cV aP Z aC af aK bM
theorem AY {E:Env} {aR:Nat} {r:cB} {a:Act} (k:gm E aR r a):∀l:List (Nat × Operand),qu E ((sn l).run r) (l.map fun (i,x)=>(i,a.eval x))
 | []=>rfl
 | (i,x)::l=>by
   simp only [sn,List.map,qu]
   exact ⟨_,_,rfl,eX k x,AY k l⟩
theorem AU {E:Env} {aR:Nat} {r:cB} {a:Act} (k:gm E aR r a) (x:Option Operand):hv E ((pZ x).run r) (x.map a.eval):=by
 cases x with
 | none=>rfl
 | some x=>simp only [pZ,hv,Option.map];exact ⟨_,rfl,eX k x⟩
theorem Z1 {v:V} {f:aN→Nat→bh} {r:V} {h:ag} (he:v.l5 .fail f=.val r h):∃b off,v=.ptr b off∧f b off=.val r h:=by
 cases v<;>simp only [V.l5] at he<;>first
  | (cases he;done)
  | exact ⟨_,_,rfl,he⟩
theorem ZH {aJ:Fr} {E:Env} {h aa:ag} {w:World} (s:bQ aJ E h w) {x v:V} {X:Value} {ty:TypeId} (an:Rel E x X) (he:xV x h=.val v aa):dG aJ P E w (Instr.next X true ty) v aa:=by
 unfold xV at he
 obtain ⟨b,off,rfl,ab⟩:=Z1 he
 have ah:=s.at (p:=_) (by simp only [Rel] at an;exact an.choose_spec.1)
 cases a1:h.get b with
 | dead=>rw [a1] at ab;cases ab
 | view _ _=>rw [a1] at ab;cases ab
 | cells _ _ _ _=>rw [a1] at ab;cases ab
 | mp _ _=>rw [a1] at ab;cases ab
 | iter st pos=>
   rw [a1] at ab ah
   simp only at ab
   obtain ⟨ao,af⟩:=ow ab
   rw [Nat.beq_eq] at ao
   subst ao
   obtain ⟨p,aH,du,vb,cv⟩:=ah
   simp only [Rel] at an
   obtain ⟨q,aM,rfl⟩:=an
   rw [aH] at aM;cases aM
   have lq:(getObj p.a_).run P w=.ok (.stringIter ⟨⟨st⟩⟩ pos) w:=by simp only [getObj,Sem.run,cv]
   have eC:(⟨⟨st⟩⟩:ByteArray).size=st.length:=rfl
   cases aS:Nat.blt pos st.length with
   | true=>
     rw [aS] at af
     simp only [cond_true,bh.val.injEq] at af
     obtain ⟨rfl,rfl⟩:=af
     rw [Nat.blt_eq] at aS
     let dI:Obj:=.stringIter ⟨⟨st⟩⟩ (pos + (w4 st pos).2)
     let aC:World:={w with heap:=w.heap.setIfInBounds p.a_ dI}
     have Eg:=(Array.getElem?_eq_some_iff.1 cv).1
     have VW:(setObj p.a_ dI).run P w=.ok () aC:=by simp only [setObj,Sem.run,cv];rfl
     refine ⟨.tuple #[.bool true,goInt pos,.int .i32 (w4 st pos).1],aC,E,?_,Env.le.refl E,?_,s.set (p:=p) (by rw [a1];rfl) aH du (by simp [aC]) (fun j bC=>?_) rfl rfl rfl (fun _ _ _ e=>by cases e) ?_⟩
     · simp only [Instr.next,vb,Sem.run_bind,lq,Result.andThen_ok,eC,if_pos aS]
       have:(Utf8.decode (⟨⟨st⟩⟩:ByteArray) pos)=w4 st pos:=rfl
       simp only [this]
       rw [VW]
       rfl
     · simp only [Rel,bA]
       exact ⟨_,rfl,_,_,rfl,rfl,_,_,rfl,rfl,_,_,rfl,rfl,rfl⟩
     · simp only [aC,Array.getElem?_setIfInBounds]
       rw [if_neg (fun e=>bC e.symm)]
     · exact ⟨p,aH,du,vb,by simp [aC,Eg,dI]⟩
   | false=>
     rw [aS] at af
     simp only [cond_false,bh.val.injEq] at af
     obtain ⟨rfl,rfl⟩:=af
     have vm:¬pos<st.length:=by rw [←Nat.blt_eq,aS];simp
     refine dG.plain (Z:=.tuple #[.bool false]) s ?_ ?_
     · simp only [Instr.next,vb,Sem.run_bind,lq,Result.andThen_ok,eC,if_neg vm,Sem.run_pure]
     · simp only [Rel,bA]
       exact ⟨_,rfl,_,_,rfl,rfl,rfl⟩
theorem aaX {aJ:Fr} {E:Env} {h aa:ag} {w:World} (s:bQ aJ E h w) {t:TypeId} {x v:V} {X:Value} (an:Rel E x X) (he:(A' P t).run x h=.val v aa):dG aJ P E w (Instr.range t X) v aa:=by
 unfold A' at he
 cases aI:bj P t with
 | none=>rw [aI] at he;cases he
 | some aO=>
   rw [aI] at he
   simp only at he
   have hu:=gL aI
   cases cg:aO.bG with
   | string=>
     rw [cg] at he hu
     simp only at he
     cases x<;>simp only at he<;>try (cases he;done)
     rename_i st
     simp only [bh.val.injEq] at he
     obtain ⟨rfl,rfl⟩:=he
     have:=an.rp;subst this
     have fv:=s.fresh h.next (Nat.le_refl _)
     have eB:E.put (ak h.next) ⟨w.heap.size,0,0⟩ (ak h.next)=some ⟨w.heap.size,0,0⟩:=by unfold Env.put;rw [if_pos rfl]
     refine ⟨.pointer (some ⟨w.heap.size,0,none⟩),{w with heap:=w.heap.push (.stringIter ⟨⟨st⟩⟩ 0)},_,?_,Env.q7 (p:=⟨w.heap.size,0,0⟩) fv,?_,s.alloc 0 ?_⟩
     · simp only [Instr.range,Sem.run_bind,hu,Result.andThen_ok,Sem.run_pure,run_newObj]
     · simp only [Rel];exact ⟨_,eB,by simp⟩
     · exact ⟨_,eB,s.frame.size,rfl,by simp⟩
   | _=>rw [cg] at he;cases he
theorem P9 {aJ:Fr} {E:Env} {h aa:ag} {w:World} (s:bQ aJ E h w) {t u:TypeId} {x y v:V} {X Y:Value} {ty:TypeId}
 (he:(za P t u).run x y h=.val v aa) (an:Rel E x X) (br:Rel E y Y):dG aJ P E w (Builtin.append_ #[t,u] ty #[X,Y]) v aa:=by
 unfold za at he
 cases aI:bj P t with
 | none=>rw [aI] at he;cases he
 | some aO=>
   cases hu:bj P u with
   | none=>rw [aI,hu] at he;cases he
   | some rr=>
     rw [aI,hu] at he
     simp only at he
     have main:(∀k,rr.bG≠.int k)→(match aO.bG with
      | .slice e=>match bj P e with
        | none=>(⟨fun _ _ _=>.fail⟩:yH)
        | some bn=>match bn.zero with
          | none=>⟨fun _ _ _=>.fail⟩
          | some z=>bif Nat.ble 1 bn.size&&Nat.ble bn.bytes 4096&&Nat.beq z.cells.length bn.size then ⟨kJ bn.size⟩ else ⟨fun _ _ _=>.fail⟩
      | _=>⟨fun _ _ _=>.fail⟩).run x y h=.val v aa→dG aJ P E w (Builtin.append_ #[t,u] ty #[X,Y]) v aa:=by
      intro D8 he
      cases cg:aO.bG with
      | slice e=>
        rw [cg] at he
        simp only at he
        cases cS:bj P e with
        | none=>rw [cS] at he;cases he
        | some bn=>
          rw [cS] at he
          simp only at he
          cases aV:bn.zero with
          | none=>rw [aV] at he;cases he
          | some z=>
            rw [aV] at he
            simp only at he
            cases aA:(Nat.ble 1 bn.size&&Nat.ble bn.bytes 4096&&Nat.beq z.cells.length bn.size) with
            | false=>rw [aA] at he;cases he
            | true=>
              rw [aA] at he
              simp only [cond_true] at he
              simp only [Bool.and_eq_true,Nat.ble_eq,Nat.beq_eq] at aA
              obtain ⟨sE,Ez,_,tv⟩:=ux (P:=P) (E:=E) cS aV w
              refine P_ s ⟨fun w=>?_,⟨rr.bG,fun w=>gL hu w,D8⟩,fun w=>kb cS w,fun w=>NL cS w,⟨sE,Ez,by rw [tv];exact aA.2⟩,aA.1.1,aA.1.2⟩ he an br
              have:=gL aI w
              rw [cg] at this
              exact this
      | _=>rw [cg] at he;cases he
     cases xM:rr.bG with
     | int k=>rw [xM] at he;cases he
     | _=>rw [xM] at he;exact main (by rw [xM];simp) he
theorem SU {aJ:Fr} {E:Env} {h aa:ag} {w:World} (s:bQ aJ E h w) {t:TypeId} {rest:List TypeId} {x y v:V} {X Y:Value} {ty:TypeId}
 (he:(zs P t).run x y h=.val v aa) (an:Rel E x X) (br:Rel E y Y):dG aJ P E w (Builtin.copy_ (t::rest).toArray ty #[X,Y]) v aa:=by
 unfold zs at he
 cases aI:bj P t with
 | none=>rw [aI] at he;cases he
 | some aO=>
   rw [aI] at he
   simp only at he
   cases cg:aO.bG with
   | slice e=>
     rw [cg] at he
     simp only at he
     cases cS:bj P e with
     | none=>rw [cS] at he;cases he
     | some bn=>
       rw [cS] at he
       simp only at he
       exact SV s (fun w=>by have:=gL aI w;rw [cg] at this;exact this) (fun w=>kb cS w) he an br
   | _=>rw [cg] at he;cases he
theorem SC {aJ:Fr} {E:Env} {h aa:ag} {w:World} (s:bQ aJ E h w) {t:TypeId} {x v:V} {X:Value} {ty:TypeId} {z:List V} (aA:w0 P t=some z)
 (he:rR z x h=.val v aa) (an:Rel E x X):dG aJ P E w (Builtin.clear_ #[t] ty #[X]) v aa:=by
 unfold w0 at aA
 cases aI:bj P t with
 | none=>rw [aI] at aA;cases aA
 | some aO=>
   rw [aI] at aA
   simp only at aA
   cases cg:aO.bG with
   | slice e=>
     rw [cg] at aA
     simp only at aA
     cases cS:bj P e with
     | none=>rw [cS] at aA;cases aA
     | some bn=>
       rw [cS] at aA
       simp only at aA
       cases aV:bn.zero with
       | none=>rw [aV] at aA;cases aA
       | some z0=>
         rw [aV] at aA
         simp only [Option.some.injEq] at aA
         subst aA
         have hu:∀w,(underlying t).run P w=.ok (.slice e) w:=fun w=>by have:=gL aI w;rw [cg] at this;exact this
         obtain ⟨z,Ak,Wr,Le⟩:=ux (P:=P) (E:=E) cS aV w
         have nothing:∀a c,X=.slice a 0 c→v=.tuple []→aa=h→dG aJ P E w (Builtin.clear_ #[t] ty #[X]) v aa:=by
          intro a c e9 a6 cv
          subst e9 a6 cv
          refine ⟨.tuple #[],w,E,?_,Env.le.refl E,?_,s⟩
          · cases a<;>simp [Builtin.clear_,Sem.run_bind,hu,Result.andThen_ok,Sem.run_pure]
          · simp only [Rel];exact ⟨_,rfl,rfl⟩
         have N5:∀(b:aN) (off n c:Nat) (p:lJ),E b=some p→X=.slice (some ⟨p.a_,p.base+off,none⟩) n c→(bif Nat.beq n 0 then (bh.val (.tuple []) h) else (match lay h b off (gr z0.cells n) with
          | some aa=>bh.val (.tuple []) aa
          | none=>.fail))=.val v aa→dG aJ P E w (Builtin.clear_ #[t] ty #[X]) v aa:=by
          intro b off n c p aH e9 he
          cases n with
          | zero=>
            simp only [Nat.beq_refl,cond_true,bh.val.injEq] at he
            exact nothing _ _ e9 he.1.symm he.2.symm
          | succ n=>
            simp only [show Nat.beq (n+1) 0=false from rfl,cond_false] at he
            cases aB:lay h b off (gr z0.cells (n+1)) with
            | none=>rw [aB] at he;cases he
            | some ab=>
              rw [aB] at he
              simp only [bh.val.injEq] at he
              obtain ⟨rfl,rfl⟩:=he
              obtain ⟨aC,bF,bz⟩:=vA (P:=P) s (Bg Wr (n+1)) aB aH
              subst e9
              refine ⟨.tuple #[],aC,E,?_,Env.le.refl E,?_,bz⟩
              · simp only [Builtin.clear_,Sem.run_bind,List.getElem?_toArray,List.getElem?_cons_zero,hu,Ak,Result.andThen_ok]
                have:(storeCells ⟨p.a_,p.base+off,none⟩ (Builtin.zeroCells z.cells (n+1)).toList).run P w=.ok () aC:=bF
                simp [this,Sem.run_pure,Result.andThen_ok]
              · simp only [Rel];exact ⟨_,rfl,rfl⟩
         unfold rR at he
         cases x<;>simp only at he<;>try (cases he;done)
         · simp only [Rel] at an
           obtain ⟨p,bF,bz,b6⟩:=an
           exact N5 _ _ _ _ p bF b6 he
         · simp only [Rel] at an
           obtain ⟨p,bF,bz,b6⟩:=an
           exact N5 _ _ _ _ p bF b6 he
         · simp only [Rel] at an
           obtain ⟨a,c,rfl⟩:=an
           simp only [bh.val.injEq] at he
           exact nothing _ _ rfl he.1.symm he.2.symm
         · simp only [Rel] at an
           simp only [bh.val.injEq] at he
           exact nothing _ _ an he.1.symm he.2.symm
   | _=>rw [cg] at aA;cases aA
theorem Sf {E:Env} {t:TypeId} {aO:nj} {x v:V} {X:Value} {ty:TypeId} (aI:bj P t=some aO) (bk:EL aO.bG=true) (he:C0 x=some v) (an:Rel E x X) (w:World):
 ∃Z,(Builtin.cap_ #[t] ty #[X]).run P w=.ok Z w∧Rel E v Z:=by
 cases cg:aO.bG with
 | slice e=>
   have hu:∀w,(underlying t).run P w=.ok (.slice e) w:=fun w=>by have:=gL aI w;rw [cg] at this;exact this
   cases x<;>simp only [C0] at he<;>try (cases he;done)
   · simp only [Rel] at an
     obtain ⟨p,_,_,rfl⟩:=an
     cases he
     refine ⟨_,?_,rfl⟩
     simp [Builtin.cap_,Sem.run_bind,hu,Result.andThen_ok,Sem.run_pure]
     rfl
   · simp only [Rel] at an
     subst an
     cases he
     refine ⟨_,?_,rfl⟩
     simp [Builtin.cap_,Sem.run_bind,hu,Result.andThen_ok,Sem.run_pure]
     rfl
 | _=>rw [cg] at bk;cases bk
theorem yw {α:Type} (a:Array α):a.toList.toArray=a:=by simp
theorem QJ {aJ:Fr} {E:Env} {h aa:ag} {w:World} (s:bQ aJ E h w) {b:Builtin} {cP:Array TypeId} {args:List V} {xs:List Value} {v:V} {ty:TypeId} {cs:Array Bool} (aB:bA E args xs)
 (he:(qz P b cP.toList).run args h=.val v aa):∃m:Sem Value,Go.builtin b cP ty cs xs.toArray=(do pure (.value (←m)))∧dG aJ P E w m v aa:=by
 have one:∀{x:V},bA E [x] xs→∃X,xs=[X]∧Rel E x X:=by
  intro x h
  simp only [bA] at h
  obtain ⟨y,eU,rfl,br,rfl⟩:=h
  exact ⟨y,rfl,br⟩
 have two:∀{x y:V},bA E [x,y] xs→∃X Y,xs=[X,Y]∧Rel E x X∧Rel E y Y:=by
  intro x y h
  simp only [bA] at h
  obtain ⟨X,_,rfl,e9,Y,_,rfl,iH,rfl⟩:=h
  exact ⟨X,Y,rfl,e9,iH⟩
 cases b<;>simp only [qz] at he<;>try (simp [fL.none] at he;done)
 · -- append
   cases fR:cP.toList with
   | nil=>rw [fR] at he;simp [fL.none] at he
   | cons t rq=>
     rw [fR] at he
     cases rq with
     | nil=>simp [fL.none] at he
     | cons u acT=>
       cases acT with
       | cons _ _=>simp [fL.none] at he
       | nil=>
         simp only at he
         match args,he,aB with
         | [x,y],he,aB=>
           obtain ⟨X,Y,rfl,e9,iH⟩:=two aB
           have e:cP=#[t,u]:=by rw [←yw cP,fR]
           exact ⟨_,rfl,by rw [e];exact P9 s he e9 iH⟩
         | [],he,_=>cases he
         | [_],he,_=>cases he
         | _::_::_::_,he,_=>cases he
 · -- cap
   cases fR:cP.toList with
   | nil=>rw [fR] at he;simp [fL.none] at he
   | cons t rq=>
     rw [fR] at he
     cases rq with
     | cons _ _=>simp [fL.none] at he
     | nil=>
       simp only at he
       cases aI:bj P t with
       | none=>rw [aI] at he;simp [fL.none] at he
       | some aO=>
         rw [aI] at he
         simp only at he
         cases bk:EL aO.bG with
         | false=>rw [bk] at he;simp [fL.none] at he
         | true=>
           rw [bk] at he
           simp only [cond_true] at he
           match args,he,aB with
           | [x],he,aB=>
             obtain ⟨X,rfl,e9⟩:=one aB
             have e:cP=#[t]:=by rw [←yw cP,fR]
             obtain ⟨ez,rfl⟩:=bh.iw he
             obtain ⟨Z,gp,ey⟩:=Sf (P:=P) (ty:=ty) aI bk ez e9 w
             exact ⟨_,rfl,by rw [e];exact dG.plain s gp ey⟩
           | [],he,_=>cases he
           | _::_::_,he,_=>cases he
 · -- clear
   cases fR:cP.toList with
   | nil=>rw [fR] at he;simp [fL.none] at he
   | cons t rq=>
     rw [fR] at he
     cases rq with
     | cons _ _=>simp [fL.none] at he
     | nil=>
       simp only at he
       cases aA:w0 P t with
       | none=>rw [aA] at he;simp [fL.none] at he
       | some z=>
         rw [aA] at he
         simp only at he
         match args,he,aB with
         | [x],he,aB=>
           obtain ⟨X,rfl,e9⟩:=one aB
           have e:cP=#[t]:=by rw [←yw cP,fR]
           exact ⟨_,rfl,by rw [e];exact SC s aA he e9⟩
         | [],he,_=>cases he
         | _::_::_,he,_=>cases he
 · -- copy
   cases fR:cP.toList with
   | nil=>rw [fR] at he;simp [fL.none] at he
   | cons t rq=>
     rw [fR] at he
     simp only at he
     match args,he,aB with
     | [x,y],he,aB=>
       obtain ⟨X,Y,rfl,e9,iH⟩:=two aB
       have e:cP=(t::rq).toArray:=by rw [←yw cP,fR]
       exact ⟨_,rfl,by rw [e];exact SU s he e9 iH⟩
     | [],he,_=>cases he
     | [_],he,_=>cases he
     | _::_::_::_,he,_=>cases he
 · -- len
   cases fR:cP.toList with
   | nil=>rw [fR] at he;simp [fL.none] at he
   | cons t rq=>
     rw [fR] at he
     cases rq with
     | cons _ _=>simp [fL.none] at he
     | nil=>
       simp only at he
       cases aI:bj P t with
       | none=>rw [aI] at he;simp [fL.none] at he
       | some aO=>
         rw [aI] at he
         simp only at he
         match args,he,aB with
         | [x],he,aB=>
           obtain ⟨X,rfl,e9⟩:=one aB
           have e:cP=[t].toArray:=by rw [←yw cP,fR]
           cases hm:sb aO.bG with
           | true=>
             rw [hm] at he
             exact ⟨_,rfl,by rw [e];exact Y5 s aI hm e9 ty [] he⟩
           | false=>
             rw [hm] at he
             simp only [cond_false] at he
             obtain ⟨ez,rfl⟩:=bh.iw he
             obtain ⟨Z,gp,ey⟩:=Y6 (P:=P) aI ez e9 ty [] w
             exact ⟨_,rfl,by rw [e];exact dG.plain s gp ey⟩
         | [],he,_=>cases hm:sb aO.bG<;>rw [hm] at he<;>cases he
         | _::_::_,he,_=>cases hm:sb aO.bG<;>rw [hm] at he<;>cases he
 · -- max
   obtain ⟨ez,rfl⟩:=bh.iw he
   clear he
   cases args with
   | nil=>cases ez
   | cons x args=>
     simp only [ka] at ez
     obtain ⟨k,a,rfl,ab⟩:=jo ez
     simp only [bA] at aB
     obtain ⟨X,eU,rfl,e9,aB⟩:=aB
     have:=e9.iM;subst this
     obtain ⟨Z,gp,ey⟩:=Fu (P:=P) false args eU k a v aB ab w
     exact ⟨_,rfl,dG.plain (Z:=Z) s (by simpa [Builtin.max_] using gp) ey⟩
 · -- min
   obtain ⟨ez,rfl⟩:=bh.iw he
   clear he
   cases args with
   | nil=>cases ez
   | cons x args=>
     simp only [ka] at ez
     obtain ⟨k,a,rfl,ab⟩:=jo ez
     simp only [bA] at aB
     obtain ⟨X,eU,rfl,e9,aB⟩:=aB
     have:=e9.iM;subst this
     obtain ⟨Z,gp,ey⟩:=Fu (P:=P) true args eU k a v aB ab w
     exact ⟨_,rfl,dG.plain (Z:=Z) s (by simpa [Builtin.min_] using gp) ey⟩
end
end Go.Proofs.YtjbiefneffiogaaGreat.ba
namespace Go.Proofs.YtjbiefneffiogaaGreat.ba
variable [Lay]
open Go Go.RowKit
section
variable {P:Program}
def i' (P:Program):Prop:=∀(f:FuncId) (fn:Func),P.funcs[f]? =some fn→(fn.name == "runtime.NumGoroutine")=false
theorem FT (dU:i' P) {f:FuncId} {fn:Func} (au:P.funcs[f]? =some fn) (ah:fn.body.isSome=true) (args:Array Value) (w:World):(callFunc f args).run P w=.ok (.enter f args) w:=by
 have eI:fn.body.isNone=false:=by cases h:fn.body with | none=>rw [h] at ah;cases ah | some c=>rfl
 simp only [callFunc,Sem.run_bind,run_program,Result.andThen_ok,au]
 rw [if_neg (by rw [dU f fn au];simp)]
 simp [eI]
theorem LW {α β:Type} (f:α→β) (a:Array α):a.map f=(a.toList.map f).toArray:=by
 apply Array.ext'
 simp
theorem Fs (ρ:Operand→Value) (bX:Array (Nat × Operand)):(bX.map fun (i,x)=>(i,ρ x))=(bX.toList.map fun (i,x)=>(i,ρ x)).toArray:=by
 apply Array.ext'
 simp
def kd (P:Program) (call:eO):Prop:=∀f args h v aa,call f args h=.val v aa→True
set_option maxHeartbeats 2000000 in
theorem Jw {aJ:Fr} {E:Env} {h aa:ag} {w:World} {call:eO} (dU:i' P) (je:jS P call) (iI:kd P call) {o:Oper} {aR:Nat} {r:cB} {a:Act} {v:V}
 (he:(hq P o).run call r h=.val v aa) (k:gm E aR r a) (s:bQ aJ E h w) {K:Act→World→Prop} {Q:Exit→Act→World→Prop}
 (cV:∀aP x aC,E.le aP→Rel aP v x→bQ aJ aP aa aC→K (a.put o.dst x) aC):o.wp P a w K Q:=by
 obtain ⟨dst,op,type,pos,after,guard⟩:=o
 cases op<;>simp only [hq] at he<;>try (simp [dj.none] at he;done)
 case move x=>
  simp only [bh.val.injEq] at he;obtain ⟨rfl,rfl⟩:=he
  exact hy (m:=pure (a.eval x)) rfl (dG.plain s rfl (eX k x)) cV
 case assign x=>
  simp only [bh.val.injEq] at he;obtain ⟨rfl,rfl⟩:=he
  exact hy (m:=pure (a.eval x)) rfl (dG.plain s rfl (eX k x)) cV
 case pick c x y=>
  have aA:=eX k c
  generalize (c' c).run r=OG at he aA
  cases OG<;>simp only at he<;>try (cases he;done)
  rename_i t
  simp only [bh.val.injEq] at he;obtain ⟨rfl,rfl⟩:=he
  simp only [Rel] at aA
  refine hy (m:=do pure (if ←asBool (a.eval c) then a.eval x else a.eval y)) (by simp only [execOp,bind_assoc,pure_bind]) (dG.plain (Z:=if t then a.eval x else a.eval y) s ?_ ?_) cV
  · rw [aA];rfl
  · cases t
    · exact eX k y
    · exact eX k x
 case alloc t=>
  cases aI:bj P t with
  | none=>rw [aI] at he;simp [dj.none] at he
  | some aO=>
    rw [aI] at he
    simp only at he
    cases aV:aO.zero with
    | none=>rw [aV] at he;simp [dj.none] at he
    | some z=>
      rw [aV] at he
      simp only at he
      cases aX:gq h z.cells with
      | none=>rw [aX] at he;cases he
      | some ab=>
        rw [aX] at he
        simp only [jq,bh.val.injEq] at he;obtain ⟨rfl,rfl⟩:=he
        obtain ⟨x,an,nK,_⟩:=ux (P:=P) (E:=E) aI aV w
        obtain ⟨aP,bF,bz,b6,fP⟩:=AK (P:=P) s nK aX t
        have Dm:(newRow t x.cells).run P w=.ok ⟨w.heap.size,0,none⟩ {w with heap:=w.heap.push (.cells x.cells t)}:=by simpa using b6
        have Dn:bQ aJ aP ab {w with heap:=w.heap.push (.cells x.cells t)}:=by simpa using fP
        exact hy (m:=Instr.alloc t true (.tuple #[])) rfl ⟨.pointer (some ⟨w.heap.size,0,none⟩),_,aP,by simp only [Instr.alloc,Sem.run_bind,an,Result.andThen_ok,newVar,Dm,Sem.run_pure],bF,by simp only [Rel];exact ⟨_,bz,by simp⟩,Dn⟩ cV
 case box t x=>
  obtain ⟨a1,he⟩:=ow he
  cases aX:gq h ((c' x).run r).cells with
  | none=>rw [aX] at he;cases he
  | some ab=>
    rw [aX] at he
    simp only [jq,bh.val.injEq] at he;obtain ⟨rfl,rfl⟩:=he
    have aB:=(eX k x).cells (fun e=>by rw [e] at a1;cases a1)
    obtain ⟨aP,bF,bz,b6,fP⟩:=AK (P:=P) s aB aX t
    have Dm:(newRow t (a.eval x).cells).run P w=.ok ⟨w.heap.size,0,none⟩ {w with heap:=w.heap.push (.cells (a.eval x).cells t)}:=by simpa using b6
    have Dn:bQ aJ aP ab {w with heap:=w.heap.push (.cells (a.eval x).cells t)}:=by simpa using fP
    exact hy (m:=Instr.box t (a.eval x)) rfl ⟨.pointer (some ⟨w.heap.size,0,none⟩),_,aP,by simp only [Instr.box,Sem.run_bind,newVar,Dm,Result.andThen_ok,Sem.run_pure],bF,by simp only [Rel];exact ⟨_,bz,by simp⟩,Dn⟩ cV
 case build t bX=>
  obtain ⟨ez,rfl⟩:=bh.iw he
  clear he
  obtain ⟨Z,gp,ey⟩:=QF (P:=P) (AY k bX.toList) ez w
  refine hy (m:=Instr.build t (bX.map fun (i,x)=>(i,a.eval x))) rfl (dG.plain (Z:=Z) s ?_ ey) cV
  rw [Fs];exact gp
 case buildSlice t n bX=>
  refine hy (m:=Instr.buildSlice t n (bX.map fun (i,x)=>(i,a.eval x))) rfl ?_ cV
  rw [Fs]
  exact QH s (AY k bX.toList) he
 case load t x=>
  obtain ⟨ez,rfl⟩:=bh.iw he
  clear he
  obtain ⟨Y,iH,ey,_⟩:=LP (P:=P) s (eX k x) ez
  exact hy (m:=Instr.loadAt t (a.eval x)) rfl (dG.plain s iH ey) cV
 case store t x y=>
  cases cZ:(yt P t).run h ((c' x).run r) ((c' y).run r) with
  | none=>rw [cZ] at he;cases he
  | some ab=>
    rw [cZ] at he
    simp only [jq,bh.val.injEq] at he;obtain ⟨rfl,rfl⟩:=he
    obtain ⟨aC,dy,kq⟩:=acA (P:=P) s (eX k x) (eX k y) cZ
    unfold Oper.wp
    have:execOp a.eval ⟨dst,.store t x y,type,pos,after,guard⟩=(do Instr.storeAt t (a.eval x) (a.eval y);pure .skip):=rfl
    rw [this,Sem.run_bind,dy]
    exact cV E undef aC (Env.le.refl E) (by simp [Rel]) kq
 case nilCheck x=>
  obtain ⟨ez,rfl⟩:=bh.iw he
  clear he
  have an:=eX k x
  generalize (c' x).run r=yC at ez an
  have lq:∀X,Rel E yC X→(match X with
   | .pointer none | .nilIface | .nilFunc=>(runtimePanic .nilDeref:Sem Next)
   | .func (.method name) first captured=>
     match (first[0]? :Option Value) with
     | some .nilIface=>runtimePanic .nilDeref
     | some (.iface t w)=>do
       if (←nilAhead ((←program).types.size+Made.depth) t w name) != some false then
        unsupported (.noEntry "op/nilCheck.the method's receiver behind this interface value is a nil pointer, or cannot be seen to be none, and the arguments act or may panic (ledger 612)")
       pure (.value (.func (.method name) first captured))
     | _=>pure (.value (.func (.method name) first captured))
   | x=>pure (.value x))=pure (.value X)∧v=yC:=by
   intro X e9
   cases yC<;>simp only [sh] at ez<;>try (cases ez;done)
   all_goals simp only [Option.some.injEq] at ez
   all_goals simp only [Rel] at e9
   · obtain ⟨p,_,rfl⟩:=e9;exact ⟨rfl,ez.symm⟩
   · obtain ⟨p,rfl,_⟩:=e9;exact ⟨rfl,ez.symm⟩
   · obtain ⟨p,rfl,_⟩:=e9;exact ⟨rfl,ez.symm⟩
  obtain ⟨ab,rfl⟩:=lq _ an
  exact hy (m:=pure (a.eval x)) (by simp only [execOp];rw [pure_bind];exact ab) (dG.plain s rfl an) cV
 case binOp op t x y u=>
  obtain ⟨ez,rfl⟩:=bh.iw he
  clear he
  obtain ⟨Z,gp,ey⟩:=QB (P:=P) (k2:=x) (k3:=y) ez (eX k x) (eX k y) w
  exact hy rfl (dG.plain s gp ey) cV
 case unOp op t x=>
  obtain ⟨ez,rfl⟩:=bh.iw he
  clear he
  obtain ⟨Z,gp,ey⟩:=ac0 (P:=P) ez (eX k x) w
  exact hy (m:=Op.unary op (a.eval x)) rfl (dG.plain s gp ey) cV
 case convert t u x=>exact hy (m:=convert t u (a.eval x)) rfl (SO s he (eX k x)) cV
 case makeInterface t x=>
  cases aI:bj P t with
  | none=>rw [aI] at he;simp [dj.none] at he
  | some aO=>
    rw [aI] at he
    simp only at he
    cases ah:Nat.beq (fS aO.bG) 5 with
    | true=>rw [ah] at he;simp [dj.none] at he
    | false=>
      rw [ah] at he
      simp only [cond_false,bh.val.injEq] at he;obtain ⟨rfl,rfl⟩:=he
      refine hy (m:=Instr.makeInterface t (a.eval x)) rfl (dG.plain (Z:=.iface t (a.eval x)) s ?_ ?_) cV
      · have hu:=gL aI w
        simp only [Instr.makeInterface,Sem.run_bind,hu,Result.andThen_ok]
        cases cg:aO.bG<;>first
         | rfl
         | (rw [cg] at ah;simp [fS] at ah)
      · simp only [Rel];exact ⟨_,rfl,eX k x⟩
 case makeFunc fn first jz=>
  cases fn<;>simp only at he<;>try (simp [dj.none] at he;done)
  rename_i f
  cases au:first.isEmpty with
  | false=>rw [au] at he;simp [dj.none] at he
  | true=>
    rw [au] at he
    simp only [cond_true,bh.val.injEq] at he;obtain ⟨rfl,rfl⟩:=he
    have UO:first=#[]:=by simpa using au
    subst UO
    refine hy (m:=Instr.makeFunc (.func f) #[] (jz.map a.eval)) (by simp [execOp]) (dG.plain s rfl ?_) cV
    simp only [Rel]
    exact ⟨_,rfl,by rw [LW];simpa using zC k jz.toList⟩
 case makeSlice t l c=>exact hy (m:=Instr.makeSlice t (a.eval l) (a.eval c)) rfl (Zm s (eX k l) (eX k c) he) cV
 case slice t x bU ax eo=>
  obtain ⟨ez,rfl⟩:=bh.iw he
  clear he
  obtain ⟨Z,gp,ey⟩:=ace (P:=P) ez (eX k x) (AU k bU) (AU k ax) (AU k eo) w
  exact hy (m:=Instr.sliceAt t (a.eval x) (bU.map a.eval) (ax.map a.eval) (eo.map a.eval)) rfl (dG.plain s gp ey) cV
 case fieldAddr t x i=>
  obtain ⟨ez,rfl⟩:=bh.iw he
  clear he
  obtain ⟨Z,gp,ey⟩:=Tm (P:=P) ez (eX k x) w
  exact hy (m:=Instr.fieldAt t (a.eval x) i) rfl (dG.plain s gp ey) cV
 case field t x i=>
  obtain ⟨ez,rfl⟩:=bh.iw he
  clear he
  obtain ⟨Z,gp,ey⟩:=Tn (P:=P) ez (eX k x) w
  exact hy (m:=Instr.field t (a.eval x) i) rfl (dG.plain s gp ey) cV
 case indexAddr t x i=>
  obtain ⟨ez,rfl⟩:=bh.iw he
  clear he
  obtain ⟨Z,gp,ey⟩:=WB (P:=P) ez (eX k x) (eX k i) w
  exact hy (m:=Instr.indexAt t (a.eval x) (a.eval i)) rfl (dG.plain s gp ey) cV
 case index t x i=>
  obtain ⟨ez,rfl⟩:=bh.iw he
  clear he
  obtain ⟨Z,gp,ey⟩:=WC (P:=P) ez (eX k x) (eX k i) w
  exact hy (m:=Instr.index t (a.eval x) (a.eval i)) rfl (dG.plain s gp ey) cV
 case range t x=>exact hy (m:=Instr.range t (a.eval x)) rfl (aaX s (eX k x) he) cV
 case next it vw=>
  cases vw<;>simp only at he<;>try (simp [dj.none] at he;done)
  exact hy (m:=Instr.next (a.eval it) true type) rfl (ZH s (eX k it) he) cV
 case lookup t x y ok=>
  obtain ⟨ez,rfl⟩:=bh.iw he
  clear he
  obtain ⟨Z,gp,ey⟩:=Zh (P:=P) s (eX k x) (eX k y) ez
  exact hy (m:=Instr.lookup t (a.eval x) (a.eval y) ok) rfl (dG.plain s gp ey) cV
 case mapUpdate t m y x=>
  cases cZ:(sB P t).run h ((c' m).run r) ((c' y).run r) ((c' x).run r) with
  | none=>rw [cZ] at he;cases he
  | some ab=>
    rw [cZ] at he
    simp only [jq,bh.val.injEq] at he;obtain ⟨rfl,rfl⟩:=he
    obtain ⟨aC,dy,kq⟩:=Ow (P:=P) s (eX k m) (eX k y) (eX k x) cZ
    unfold Oper.wp
    have:execOp a.eval ⟨dst,.mapUpdate t m y x,type,pos,after,guard⟩=(do Instr.mapUpdate t (a.eval m) (a.eval y) (a.eval x);pure .skip):=rfl
    rw [this,Sem.run_bind,dy]
    exact cV E undef aC (Env.le.refl E) (by simp [Rel]) kq
 case insert t m y x=>
  cases cZ:(sB P t).run h ((c' m).run r) ((c' y).run r) ((c' x).run r) with
  | none=>rw [cZ] at he;cases he
  | some ab=>
    rw [cZ] at he
    simp only [jq,bh.val.injEq] at he;obtain ⟨rfl,rfl⟩:=he
    obtain ⟨aC,dy,kq⟩:=Ow (P:=P) s (eX k m) (eX k y) (eX k x) cZ
    unfold Oper.wp
    have:execOp a.eval ⟨dst,.insert t m y x,type,pos,after,guard⟩=(do Instr.mapUpdate t (a.eval m) (a.eval y) (a.eval x);pure .skip):=rfl
    rw [this,Sem.run_bind,dy]
    exact cV E undef aC (Env.le.refl E) (by simp [Rel]) kq
 case makeMap t x=>exact hy (m:=Instr.makeMap t (x.map a.eval)) rfl (Zl s (AU k x) he) cV
 case extract x i=>
  have an:=eX k x
  generalize (c' x).run r=yC at he an
  cases yC<;>simp only at he<;>try (cases he;done)
  obtain ⟨ez,rfl⟩:=bh.iw he
  clear he
  simp only [Rel] at an
  obtain ⟨arr,e9,aB⟩:=an
  obtain ⟨y,br,ey⟩:=aB.get i v ez
  refine hy (m:=Instr.extract (a.eval x) i) rfl (dG.plain (Z:=y) s ?_ ey) cV
  rw [e9]
  have:arr[i]? =some y:=by simpa using br
  simp only [Instr.extract,this,Sem.run_pure]
 case call c=>
  obtain ⟨callee,args,types⟩:=c
  cases callee with
  | invoke _ _=>simp [rQ,dj.none] at he
  | builtin b=>
    simp only [rQ] at he
    obtain ⟨cs,j4⟩:∃cs,execOp a.eval ⟨dst,.call ⟨.builtin b,args,types⟩,type,pos,after,guard⟩=Go.builtin b types type cs (args.map a.eval):=by
     simp only [execOp,resolve,pure_bind,invoke]
     exact ⟨_,rfl⟩
    obtain ⟨m,hm,a1⟩:=QJ (P:=P) (ty:=type) (cs:=cs) s (zC k args.toList) he
    refine hy (m:=m) ?_ a1 cV
    rw [j4,←hm,LW]
  | value f=>
    simp only [rQ] at he
    have au:=eX k f
    generalize aeT:(c' f).run r=ac' at he au
    cases ac'<;>simp only [V.x4] at he<;>try (cases he;done)
    rename_i g cs
    simp only [Rel] at au
    obtain ⟨jz,e9,aB⟩:=au
    have Uq:=(zC k args.toList).append aB
    have KD:=je _ _ _ _ _ _ he E w _ Uq s
    unfold Oper.wp
    have hex:execOp a.eval ⟨dst,.call ⟨.value f,args,types⟩,type,pos,after,guard⟩=callFunc g (args.map a.eval++jz):=by
     simp only [execOp,resolve,e9,Deferred.ofValue,pure_bind,invoke]
     simp
    have e:args.map a.eval++jz=(args.toList.map a.eval++jz.toList).toArray:=by
     apply Array.ext';simp
    rw [hex,e]
    rcases KD with ⟨⟨fn,xr,ah⟩,aA⟩ | ⟨aP,x,aC,aT,aG,az,aW⟩
    case inr=>
     rw [aT]
     exact cV aP x aC aG az aW
    rw [FT dU xr ah]
    simp only [Oper.upon]
    refine aA.mono fun e aC aM=>?_
    obtain ⟨aP,x,rfl,aG,az,aW⟩:=aM
    exact cV aP x aC aG az aW
end
end Go.Proofs.YtjbiefneffiogaaGreat.ba
namespace Go.Proofs.YtjbiefneffiogaaGreat.ba
variable [Lay]
open Go Go.RowKit
section
variable {P:Program}
theorem Du {E:Env} {aR:Nat} {r:cB} {a:Act} (k:gm E aR r a) {all:Array Oper} {j:Nat} {g:Oper} {d:Nat} (bC:all[j]? =some g) (bE:g.dst=some d) (UA:d<aR) (UB:d≤top):
 (∀b,T.get .bad (ak d) r=.bool b→yielded all a.tmps j=some b)∧(∀ad,T.get .bad (ak d) r=.tuple ad→yielded all a.tmps j=none):=by
 have aT:=k.aj d UB
 have aS:d<a.tmps.size:=by rw [k.size];exact UA
 have he:a.tmps[d]? =some (a.tmps.getD d undef):=by simp [Array.getD_eq_getD_getElem?,aS]
 refine ⟨fun b ah=>?_,fun ad ah=>?_⟩
 · rw [ah] at aT
   simp only [Rel] at aT
   simp only [yielded,bC,Option.bind,bE,he,aT]
 · rw [ah] at aT
   simp only [Rel] at aT
   obtain ⟨arr,aT,_⟩:=aT
   simp only [yielded,bC,Option.bind,bE,he,aT]
theorem aal {op:dj} {put:wI} {call:eO} {r bI:cB} {h aa:ag} (he:x8 op put call r h=.ok bI aa):∃v,op.run call r h=.val v aa∧bI=put.run r v:=by
 unfold x8 at he
 cases bt:op.run call r h with
 | fail=>rw [bt] at he;cases he
 | val v ab=>
   rw [bt] at he
   simp only [pj.ok.injEq] at he
   obtain ⟨rfl,rfl⟩:=he
   exact ⟨v,rfl,rfl⟩
theorem aak {aJ:Fr} {E:Env} {h aa:ag} {w:World} {call:eO} (dU:i' P) (je:jS P call) (iI:kd P call) {all:Array Oper} {i:Nat} {o:Oper} (ax:all[i]? =some o) {aR:Nat} {r bI:cB} {a:Act}
 (he:(AT P aR all o).run call r h=.ok bI aa) (k:gm E aR r a) (s:bQ aJ E h w) {K:Act→World→Prop} {Q:Exit→Act→World→Prop}
 (cV:∀aP cc aC,E.le aP→gm aP aR bI cc→bQ aJ aP aa aC→K cc aC):wpOp P all Q i K a w:=by
 unfold AT at he
 cases bE:iD aR o.dst with
 | false=>rw [bE] at he;cases he
 | true=>
   rw [bE] at he
   simp only [cond_true] at he
   have wanted:∀(bf:cB),x8 (hq P o) (kv o.dst) call r h=.ok bf aa→bf=bI→Region.wanted o (yielded all a.tmps)=true→wpOp P all Q i K a w:=by
    intro bf ab e hw
    subst e
    obtain ⟨v,a6,rfl⟩:=aal ab
    simp only [wpOp,ax,hw,if_true]
    left
    exact Jw dU je iI a6 k s fun aP x aC aG az aW=>cV aP _ aC aG ((k.mono aG).put bE az) aW
   have yB:bI=(kv o.dst).run r (.tuple [])→aa=h→Region.wanted o (yielded all a.tmps)=false→wpOp P all Q i K a w:=by
    intro aL bo hw
    subst aL bo
    simp only [wpOp,ax,hw,Bool.false_eq_true,if_false]
    exact cV E _ w (Env.le.refl E) (k.put bE (by simp only [Rel];exact ⟨#[],rfl,rfl⟩)) s
   cases a1:o.guard with
   | none=>
     rw [a1] at he
     exact wanted bI he rfl (by simp [Region.wanted,a1])
   | some q5=>
     obtain ⟨j,want⟩:=q5
     rw [a1] at he
     simp only at he
     cases bC:all[j]? with
     | none=>rw [bC] at he;cases he
     | some g=>
       rw [bC] at he
       simp only at he
       cases jf:g.dst with
       | none=>rw [jf] at he;cases he
       | some d=>
         rw [jf] at he
         simp only at he
         cases aA:(Nat.blt d aR&&Nat.ble d top) with
         | false=>rw [aA] at he;cases he
         | true=>
           rw [aA] at he
           simp only [cond_true,Kl,nw] at he
           simp only [Bool.and_eq_true,Nat.blt_eq,Nat.ble_eq] at aA
           obtain ⟨bF,bz⟩:=Du k bC jf aA.1 aA.2
           cases a6:T.get .bad (ak d) r<;>rw [a6] at he<;>simp only at he<;>try (cases he;done)
           · rename_i b
             have br:=bF b a6
             cases ah:(bif want then b else !b) with
             | true=>
               rw [ah] at he
               simp only [cond_true] at he
               refine wanted bI he rfl ?_
               simp only [Region.wanted,a1,br]
               cases want<;>cases b<;>simp_all
             | false=>
               rw [ah] at he
               simp only [cond_false,pj.ok.injEq] at he
               refine yB he.1.symm he.2.symm ?_
               simp only [Region.wanted,a1,br]
               cases want<;>cases b<;>simp_all
           · rename_i ad
             have br:=bz ad a6
             simp only [pj.ok.injEq] at he
             refine yB he.1.symm he.2.symm ?_
             simp only [Region.wanted,a1,br]
             rfl
theorem Mt {aJ:Fr} {call:eO} (dU:i' P) (je:jS P call) (iI:kd P call) {all:Array Oper} {aR:Nat} {Q:Exit→Act→World→Prop}:∀(l:List Oper) (i:Nat),(∀j,l[j]? =all[i+j]?)→
 ∀(E:Env) (r bI:cB) (h aa:ag) (a:Act) (w:World),(vR P aR all l).run call r h=.ok bI aa→gm E aR r a→bQ aJ E h w→
 (∀aP cc aC,E.le aP→gm aP aR bI cc→bQ aJ aP aa aC→Q .normal cc aC)→wpOps P all Q (List.range' i l.length) a w
 | [],i,_,E,r,bI,h,aa,a,w,he,k,s,cU=>by
   simp only [vR,pj.ok.injEq] at he
   obtain ⟨rfl,rfl⟩:=he
   simp only [List.length_nil,List.range'_zero,wpOps]
   exact cU E a w (Env.le.refl E) k s
 | o::os,i,aB,E,r,bI,h,aa,a,w,he,k,s,cU=>by
   simp only [vR,NW] at he
   have ax:all[i]? =some o:=by have:=aB 0;simpa using this.symm
   cases ab:(AT P aR all o).run call r h with
   | fail=>rw [ab] at he;cases he
   | ok bf UX=>
     rw [ab] at he
     simp only at he
     rw [List.length_cons,List.range'_succ,wpOps_cons]
     refine aak dU je iI ax ab k s fun aP cc aC aG az aW=>?_
     refine Mt dU je iI os (i+1) (fun j=>?_) aP bf bI UX aa cc aC he az aW fun ec bJ di b_ b1 cy=>cU ec bJ di (aG.trans b_) b1 cy
     have:=aB (j+1)
     simp only [List.getElem?_cons_succ] at this
     rw [this]
     congr 1
     omega
end
end Go.Proofs.YtjbiefneffiogaaGreat.ba
namespace Go.Proofs.YtjbiefneffiogaaGreat.ba
variable [Lay]
open Go Go.RowKit
theorem aN.oA:∀{p q:aN},aN.hR p q=true→p=q
 | .z,.z,_=>rfl
 | .l p,.l q,h=>by rw [aN.oA (p:=p) (q:=q) h]
 | .r p,.r q,h=>by rw [aN.oA (p:=p) (q:=q) h]
 | .z,.l _,h=>by cases h
 | .z,.r _,h=>by cases h
 | .l _,.z,h=>by cases h
 | .l _,.r _,h=>by cases h
 | .r _,.z,h=>by cases h
 | .r _,.l _,h=>by cases h
theorem JN {a b:V} (h:zz a b=true):a=b:=by
 cases a<;>cases b<;>simp only [zz] at h<;>first
  | rfl
  | (cases h;done)
  | (rename_i x y;cases x<;>cases y<;>simp_all;done)
  | (rename_i k x l y
     simp only [Bool.and_eq_true] at h
     have ab:=w8 h.1
     have af:=h.2
     rw [oA,beq_iff_eq] at af
     rw [ab,af];done)
  | (rw [uT,beq_iff_eq] at h;rw [h];done)
  | (simp only [Bool.and_eq_true,Nat.beq_eq] at h
     obtain ⟨ab,af,aK,bM⟩:=h
     rw [aN.oA ab,af,aK,bM];done)
  | (simp only [Bool.and_eq_true,Nat.beq_eq] at h
     rw [aN.oA h.1,h.2];done)
  | (rw [aN.oA h];done)
  | (simp only [Bool.and_eq_true,Nat.beq_eq,List.isEmpty_iff] at h
     obtain ⟨ab,af,aK⟩:=h
     rw [ab,af,aK];done)
  | (simp only [Bool.and_eq_true,List.isEmpty_iff] at h
     rw [h.1,h.2];done)
theorem Da {f:V→V→Bool} (au:∀a b,f a b=true→a=b):∀{a b:List V},u1 f a b=true→a=b
 | [],[],_=>rfl
 | [],_::_,h=>by cases h
 | _::_,[],h=>by cases h
 | a::x,b::y,h=>by
   simp only [u1] at h
   cases ab:f a b with
   | false=>rw [ab] at h;cases h
   | true=>
     rw [ab] at h
     rw [au a b ab,Da au h]
theorem Qz {c x:Bool} (h:(bif c then x else false)=true):c=true∧x=true:=by
 cases c with
 | false=>cases h
 | true=>exact ⟨rfl,h⟩
theorem JO:∀(d:Nat) (a b:V),s0 d a b=true→a=b
 | 0,a,b,h=>JN h
 | d+1,a,b,h=>by
   have bb:=JO d
   cases a<;>simp only [s0] at h<;>first
    | exact JN h
    | (cases b<;>simp only at h<;>first
        | (cases h;done)
        | rfl
        | (rw [Da bb h];done)
        | (obtain ⟨ab,af⟩:=Qz h
           rw [Nat.beq_eq] at ab
           rw [ab]
           first
            | rw [Da bb af]
            | rw [bb _ _ af]))
theorem Td {a b:V} (h:JM a b=true):a=b:=JO 5 a b h
theorem wV (m i:Nat):kg m i=m.testBit i:=by
 rw [Nat.testBit_eq_decide_div_mod_eq]
 unfold kg
 have e:Nat.mod (Nat.shiftRight m i) 2=m / 2 ^ i % 2:=by
  show (m >>> i) % 2=_
  rw [Nat.shiftRight_eq_div_pow]
 rw [e,Bool.eq_iff_iff,Nat.beq_eq,decide_eq_true_eq]
theorem EZ {dH:List Nat} {i:Nat}:∀{es:List Edge},kg (se dH es) i=true→∃e ∈ es,sW e=true∧(e.on=i∨kg ((dH[e.on]?).getD 0) i=true)
 | [],h=>by simp [se,wV] at h
 | e::es,h=>by
   simp only [se] at h
   cases ah:sW e with
   | false=>
     rw [ah] at h
     obtain ⟨fH,ab,af⟩:=EZ (es:=es) h
     exact ⟨fH,by simp [ab],af⟩
   | true=>
     rw [ah] at h
     simp only [cond_true,wV] at h
     have aa:((1 <<< e.on||| (dH[e.on]?).getD 0)||| se dH es).testBit i=true:=h
     rw [Nat.testBit_or,Nat.testBit_or,Bool.or_eq_true,Bool.or_eq_true] at aa
     rcases aa with (ab | ab) | ab
     · refine ⟨e,by simp,ah,.inl ?_⟩
       rw [Nat.testBit_shiftLeft] at ab
       simp only [Bool.and_eq_true,decide_eq_true_eq] at ab
       have:=ab.2
       rw [Nat.testBit_one_eq_true_iff_self_eq_zero] at this
       omega
     · exact ⟨e,by simp,ah,.inr (by rw [wV];exact ab)⟩
     · rw [←wV] at ab
       obtain ⟨fH,aG,az⟩:=EZ (es:=es) ab
       exact ⟨fH,by simp [aG],az⟩
def B5 (ops:Array Oper) (L:Nat→Prop):Prop:=∀k o e,L k→ops[k]? =some o→e ∈ o.after.toList→sW e=true→L e.on
theorem E0 {ops:Array Oper} {L:Nat→Prop} (zV:B5 ops L):∀(os:List Oper) (dH:List Nat),(∀j,os[j]? =ops[dH.length+j]?)→
 (∀k m i,dH[k]? =some m→kg m i=true→L k→L i)→∀k m i,(j8 dH os)[k]? =some m→kg m i=true→L k→L i
 | [],dH,_,h,k,m,i,al,ah,c2=>h k m i al ah c2
 | o::os,dH,r8,h,k,m,i,al,ah,c2=>by
   simp only [j8] at al
   refine E0 zV os (dH++[se dH o.after.toList]) (fun j=>?_) (fun k m i al ah c2=>?_) k m i al ah c2
   · have:=r8 (j+1)
     simp only [List.getElem?_cons_succ] at this
     rw [this]
     congr 1
     simp
     omega
   · by_cases aS:k<dH.length
     · rw [List.getElem?_append_left aS] at al
       exact h k m i al ah c2
     · rw [List.getElem?_append_right (by omega)] at al
       have oQ:k-dH.length=0:=by
        cases aV:k-dH.length with
        | zero=>rfl
        | succ n=>rw [aV] at al;simp at al
       rw [oQ] at al
       simp only [List.getElem?_cons_zero,Option.some.injEq] at al
       subst al
       have U7:k=dH.length:=by omega
       have bt:ops[k]? =some o:=by have:=r8 0;simp only [List.getElem?_cons_zero,Nat.add_zero] at this;rw [U7];exact this.symm
       obtain ⟨e,he,DG,kp⟩:=EZ ah
       have Kv:=zV k o e c2 bt he DG
       rcases kp with rfl | kp
       · exact Kv
       · cases hm:dH[e.on]? with
         | none=>rw [hm] at kp;simp [wV] at kp
         | some l3=>rw [hm] at kp;exact h e.on l3 i hm kp Kv
theorem Gr {f:Nat→Nat→Oper→Bool}:∀{k:Nat} {ms:List Nat} {os:List Oper},sF f k ms os=true→∀j o,os[j]? =some o→∃m,ms[j]? =some m∧f (k+j) m o=true
 | _,_,[],_,j,o,h=>by simp at h
 | _,[],_::_,h,_,_,_=>by cases h
 | k,m::ms,dI::os,h,j,o,bt=>by
   simp only [sF,Bool.and_eq_true] at h
   cases j with
   | zero=>simp only [List.getElem?_cons_zero,Option.some.injEq] at bt;subst bt;exact ⟨m,rfl,h.1⟩
   | succ j=>
     obtain ⟨l3,ab,af⟩:=Gr h.2 j o (by simpa using bt)
     exact ⟨l3,by simpa using ab,by rw [show k + (j+1)=k+1+j from by omega];exact af⟩
theorem OW {f:Nat→Nat→Oper→Bool}:∀{k:Nat} {ms:List Nat} {os:List Oper},ms.length=os.length→(∀j m o,ms[j]? =some m→os[j]? =some o→f (k+j) m o=true)→sF f k ms os=true
 | _,[],[],_,_=>rfl
 | _,[],_::_,h,_=>by simp at h
 | _,_::_,[],h,_=>by simp at h
 | k,m::ms,o::os,h,au=>by
   simp only [sF,Bool.and_eq_true]
   refine ⟨au 0 m o rfl rfl,OW (by simpa using h) fun j l3 dI ab af=>?_⟩
   have:=au (j+1) l3 dI (by simpa using ab) (by simpa using af)
   rw [show k+1+j=k + (j+1) from by omega]
   exact this
theorem LY:∀(os:List Oper) (dH:List Nat),(j8 dH os).length=dH.length+os.length
 | [],dH=>rfl
 | o::os,dH=>by simp [j8,LY os];omega
section
variable {P:Program}
theorem Jv {o:Oper} {call:eO} {r:cB} {h aa:ag} {v:V} (aM:ht P o.op=false) (he:(hq P o).run call r h=.val v aa):aa=h:=by
 obtain ⟨dst,op,type,pos,after,guard⟩:=o
 cases op<;>simp only [ht] at aM<;>try (cases aM;done)
 all_goals simp only [hq] at he
 case convert s d x=>
  unfold pw at he
  cases bk:bj P s with
  | none=>rw [bk] at he;cases he
  | some sv=>
    cases bE:bj P d with
    | none=>rw [bE] at aM;cases aM
    | some ns=>
      rw [bk,bE] at he
      rw [bE] at aM
      simp only at he aM
      cases hu:ns.bG with
      | int k=>
        rw [hu] at he
        obtain ⟨bK,n,_,ab⟩:=x5 he
        simp only [bh.val.injEq] at ab
        exact ab.2.symm
      | slice e=>rw [hu] at aM;cases aM
      | string=>
        rw [hu] at he
        simp only at he
        have other:∀x:V,(match x with
         | .str s=>bh.val (.str s) h
         | .int _ n=>.val (.str (Utf8.encode n).data.toList) h
         | _=>.fail)=.val v aa→aa=h:=by
         intro x he
         cases x<;>simp only at he<;>first
          | (cases he;done)
          | (simp only [bh.val.injEq] at he;exact he.2.symm)
        cases K9:sv.bG with
        | slice e=>
          rw [K9] at he
          simp only at he
          cases cS:bj P e with
          | none=>rw [cS] at he;cases he
          | some bn=>
            rw [cS] at he
            simp only at he
            have acE:∀b off len,o_ b off len h=.val v aa→aa=h:=by
             intro b off len he
             unfold o_ at he
             cases a1:h.get b<;>rw [a1] at he<;>simp only [cp.m5] at he<;>try (cases he;done)
             all_goals
              obtain ⟨_,af⟩:=ow he
              cases V3:m8 (kl _ off len)<;>rw [V3] at af<;>first
               | (cases af;done)
               | (simp only [bh.val.injEq] at af;exact af.2.symm)
            cases fe:bn.bG with
            | int xP=>
              rw [fe] at he
              cases xP<;>simp only at he<;>try (cases he;done)
              simp only [mw] at he
              cases an:(c' x).run r<;>rw [an] at he<;>simp only at he<;>first
               | (cases he;done)
               | exact acE _ _ _ he
               | (simp only [bh.val.injEq] at he;exact he.2.symm)
            | _=>rw [fe] at he;cases he
        | _=>rw [K9] at he;exact other _ he
      | _=>rw [hu] at he;cases he
 case call c=>
  obtain ⟨callee,args,types⟩:=c
  cases callee<;>simp only at aM<;>try (cases aM;done)
  rename_i b
  simp only [rQ] at he
  cases b<;>simp only at aM<;>try (cases aM;done)
  · simp only [qz] at he
    cases fR:types.toList with
    | nil=>rw [fR] at he;simp [fL.none] at he
    | cons t cP=>
      cases cP with
      | cons _ _=>rw [fR] at he;simp [fL.none] at he
      | nil=>
        rw [fR] at he
        simp only at he
        cases aI:bj P t with
        | none=>rw [aI] at he;simp [fL.none] at he
        | some aO=>
          rw [aI] at he
          rw [fR] at aM
          simp only [EK,aI] at aM
          simp only [aM,cond_false] at he
          split at he
          · exact (bh.iw he).2
          · cases he
  · exact (bh.iw he).2
  · exact (bh.iw he).2
 case move=>simp only [bh.val.injEq] at he;exact he.2.symm
 case assign=>simp only [bh.val.injEq] at he;exact he.2.symm
 case pick c a b=>
  split at he
  · simp only [bh.val.injEq] at he;exact he.2.symm
  · cases he
 case makeFunc fn first jz=>
  cases fn<;>simp only at he<;>try (simp [dj.none] at he;done)
  cases au:first.isEmpty<;>rw [au] at he
  · simp [dj.none] at he
  · simp only [cond_true,bh.val.injEq] at he;exact he.2.symm
 case makeInterface t x=>
  cases aI:bj P t with
  | none=>rw [aI] at he;simp [dj.none] at he
  | some aO=>
    rw [aI] at he
    simp only at he
    cases ah:Nat.beq (fS aO.bG) 5<;>rw [ah] at he
    · simp only [cond_false,bh.val.injEq] at he;exact he.2.symm
    · simp [dj.none] at he
 case extract x i=>
  split at he
  · exact (bh.iw he).2
  · cases he
 all_goals exact (bh.iw he).2
theorem bh.x2 {h aa:ag} {x:Option V} {v:V} (he:bh.of h x=.val v aa) (H:ag):bh.of H x=.val v H:=by
 rw [(bh.iw he).1];rfl
theorem Ju {o:Oper} {call:eO} {r:cB} {h aa:ag} {v:V} (aM:ht P o.op=false) (aB:looks o.op=false) (he:(hq P o).run call r h=.val v aa) (H:ag):(hq P o).run call r H=.val v H:=by
 obtain ⟨dst,op,type,pos,after,guard⟩:=o
 cases op<;>simp only [ht] at aM<;>try (cases aM;done)
 all_goals simp only [looks] at aB<;>try (cases aB;done)
 all_goals simp only [hq] at he ⊢
 case call c=>
  obtain ⟨callee,args,types⟩:=c
  cases callee<;>simp only at aM<;>try (cases aM;done)
  rename_i b
  simp only [rQ] at he ⊢
  cases b<;>simp only at aM<;>try (cases aM;done)
  · simp only [qz] at he ⊢
    cases fR:types.toList with
    | nil=>rw [fR] at he;simp [fL.none] at he
    | cons t cP=>
      cases cP with
      | cons _ _=>rw [fR] at he;simp [fL.none] at he
      | nil=>
        rw [fR] at he
        simp only at he ⊢
        cases aI:bj P t with
        | none=>rw [aI] at he;simp [fL.none] at he
        | some aO=>
          rw [aI] at he
          rw [fR] at aM
          simp only [EK,aI] at aM
          simp only [aM,cond_false] at he ⊢
          split at he
          · exact bh.x2 he H
          · cases he
  · exact bh.x2 he H
  · exact bh.x2 he H
 case move=>simp only [bh.val.injEq] at he;rw [he.1]
 case assign=>simp only [bh.val.injEq] at he;rw [he.1]
 case pick c a b=>
  split at he
  · simp only [bh.val.injEq] at he;rw [he.1]
  · cases he
 case makeFunc fn first jz=>
  cases fn<;>simp only at he ⊢<;>try (simp [dj.none] at he;done)
  cases au:first.isEmpty<;>rw [au] at he
  · simp [dj.none] at he
  · simp only [cond_true,bh.val.injEq] at he ⊢;exact ⟨he.1,trivial⟩
 case makeInterface t x=>
  cases aI:bj P t with
  | none=>rw [aI] at he;simp [dj.none] at he
  | some aO=>
    rw [aI] at he
    simp only at he ⊢
    cases ah:Nat.beq (fS aO.bG) 5<;>rw [ah] at he
    · simp only [cond_false,bh.val.injEq] at he ⊢;exact ⟨he.1,trivial⟩
    · simp [dj.none] at he
 case extract x i=>
  split at he
  · exact bh.x2 he H
  · cases he
 all_goals exact bh.x2 he H
end
end Go.Proofs.YtjbiefneffiogaaGreat.ba
namespace Go.Proofs.YtjbiefneffiogaaGreat.ba
variable [Lay]
open Go Go.RowKit
section
variable {P:Program}
def GY (P:Program) (E:Env) (m:Sem Value) (v:V) (h aa:ag):Prop:=
 ∃k,aa=h.new k∧True∧∀w,∃X jP,m.run P w=.ok X {w with heap:=w.heap.push jP}∧
  ∀aP,E.le aP→aP (ak h.next)=some ⟨w.heap.size,0,0⟩→Rel aP v X∧∀B,B≤w.heap.size→h0 B aP {w with heap:=w.heap.push jP} (ak h.next) k
theorem E6 {E:Env} {h aa:ag} {ad:List V} {l:List Value} (aB:bA E ad l) (he:gq h ad=some aa) (t:TypeId):
 ∃k,aa=h.new k∧True∧∀w,(newRow t l.toArray).run P w=.ok ⟨w.heap.size,0,none⟩ {w with heap:=w.heap.push (.cells l.toArray t)}∧
  ∀aP,E.le aP→aP (ak h.next)=some ⟨w.heap.size,0,0⟩→∀B,B≤w.heap.size→h0 B aP {w with heap:=w.heap.push (.cells l.toArray t)} (ak h.next) k:=by
 unfold gq at he
 obtain ⟨aA,he⟩:=fl he
 rw [Nat.ble_eq] at aA
 cases he
 refine ⟨_,rfl,trivial,fun w=>⟨by simp [newRow],fun aP hle eB B du=>?_⟩⟩
 have:=zN (bA.mono hle _ _ aB) aA #[]
 rw [Array.append_empty] at this
 exact ⟨aA,_,_,t,(0,0),eB,du,by simp,.inr (Nat.le_refl _),fun _=>rfl,fun h=>absurd rfl h,this⟩
theorem QI {E:Env} {h aa:ag} {t:TypeId} {n:Nat} {bX:List (Nat × V)} {kz:List (Nat × Value)} {v:V} (aH:qu E bX kz) (he:(sY P t n).run bX h=.val v aa):
 GY P E (Instr.buildSlice t n kz.toArray) v h aa:=by
 unfold sY at he
 cases aI:bj P t with
 | none=>rw [aI] at he;cases he
 | some aO=>
   rw [aI] at he
   simp only at he
   have hu:=gL aI
   cases cg:aO.bG with
   | slice e=>
     rw [cg] at he hu
     simp only at he
     cases cS:bj P e with
     | none=>rw [cS] at he;cases he
     | some bn=>
       rw [cS] at he
       simp only at he
       cases aV:bn.zero with
       | none=>rw [aV] at he;cases he
       | some z=>
         rw [aV] at he
         simp only at he
         cases aA:(Nat.ble (n * bn.size) 1000000&&Nat.beq z.cells.length bn.size) with
         | false=>rw [aA] at he;cases he
         | true=>
           rw [aA] at he
           simp only [cond_true] at he
           simp only [Bool.and_eq_true,Nat.ble_eq,Nat.beq_eq] at aA
           cases au:lT (fun i=>some (i * bn.size,bn.size)) (gr z.cells n) bX with
           | none=>rw [au] at he;cases he
           | some cs=>
             rw [au] at he
             simp only at he
             cases aX:gq h cs with
             | none=>rw [aX] at he;cases he
             | some ab=>
               rw [aX] at he
               simp only [bh.val.injEq] at he
               obtain ⟨rfl,rfl⟩:=he
               obtain ⟨x,an,nK,tv⟩:=ux (P:=P) (E:=E) cS aV ⟨#[],fun _ _=>0,0,default,#[]⟩
               have tw:x.cells.size=bn.size:=by rw [tv,aA.2]
               have tm:=Bg nK n
               rw [tw] at tm
               obtain ⟨b,lo,km⟩:=xb (a:=(Array.range (n * bn.size)).map (x.cells[· % x.cells.size]!)) aH (by rw [tw];exact tm) au
               obtain ⟨k,bF,bz,b6⟩:=E6 (P:=P) km aX e
               refine ⟨k,bF,bz,fun w=>⟨.slice (some ⟨w.heap.size,0,none⟩) n n,.cells b e,?_,fun aP hle eB=>⟨?_,?_⟩⟩⟩
               · have xz:¬16777216<n * bn.size:=by omega
                 have qQ:(newRow e b).run P w=.ok ⟨w.heap.size,0,none⟩ {w with heap:=w.heap.push (.cells b e)}:=by simpa using (b6 w).1
                 by_cases ao:n * bn.size=0
                 · have DE:Instr.fill (fun i=>some (i * bn.size,bn.size)) ((Array.range (n * bn.size)).map ((#[]:Array Value)[· % 0]!)) kz=some b:=by
                    have aL:(Array.range (n * bn.size)).map ((#[]:Array Value)[· % 0]!)=(Array.range (n * bn.size)).map (x.cells[· % x.cells.size]!):=by
                     rw [ao];simp
                    rw [aL];exact lo
                   have DF:Instr.fill (fun i=>some (i * bn.size,bn.size)) ((Array.range (n * bn.size)).map (fun x=>(#[]:Array Value)[x % (#[]:Array Value).size]!)) kz=some b:=DE
                   simp only [Instr.buildSlice,Sem.run_bind,hu,Result.andThen_ok,kb cS,Sem.run_ite]
                   rw [if_neg xz]
                   simp only [Sem.run_pure,Result.andThen_ok,if_pos ao]
                   rw [DF]
                   simp only [Sem.run_bind,qQ,Result.andThen_ok,Sem.run_pure]
                 · simp only [Instr.buildSlice,Sem.run_bind,hu,Result.andThen_ok,kb cS,Sem.run_ite]
                   rw [if_neg xz]
                   simp only [Sem.run_pure,Result.andThen_ok,if_neg ao,an]
                   rw [lo]
                   simp only [Sem.run_bind,qQ,Result.andThen_ok,Sem.run_pure]
               · simp only [Rel]
                 exact ⟨_,eB,Nat.le_refl _,by simp⟩
               · simpa using (b6 w).2 aP hle eB
   | _=>rw [cg] at he;cases he
set_option maxHeartbeats 2000000 in
theorem SR {E:Env} {h aa:ag} {call:eO} {o:Oper} {aR:Nat} {r:cB} {a:Act} {v:V} (bH:iN o=true) (he:(hq P o).run call r h=.val v aa) (k:gm E aR r a):
 ∃m:Sem Value,execOp a.eval o=(do pure (.value (←m)))∧GY P E m v h aa:=by
 obtain ⟨dst,op,type,pos,after,guard⟩:=o
 cases op<;>simp only [iN] at bH<;>try (cases bH;done)
 all_goals simp only [hq] at he
 case alloc t=>
  refine ⟨Instr.alloc t true (.tuple #[]),rfl,?_⟩
  cases aI:bj P t with
  | none=>rw [aI] at he;simp [dj.none] at he
  | some aO=>
    rw [aI] at he
    simp only at he
    cases aV:aO.zero with
    | none=>rw [aV] at he;simp [dj.none] at he
    | some z=>
      rw [aV] at he
      simp only at he
      cases aX:gq h z.cells with
      | none=>rw [aX] at he;cases he
      | some ab=>
        rw [aX] at he
        simp only [jq,bh.val.injEq] at he;obtain ⟨rfl,rfl⟩:=he
        obtain ⟨x,an,nK,_⟩:=ux (P:=P) (E:=E) aI aV ⟨#[],fun _ _=>0,0,default,#[]⟩
        obtain ⟨eu,bF,bz,b6⟩:=E6 (P:=P) nK aX t
        refine ⟨eu,bF,bz,fun w=>⟨.pointer (some ⟨w.heap.size,0,none⟩),.cells x.cells t,?_,fun aP hle eB=>⟨?_,?_⟩⟩⟩
        · have:=(b6 w).1
          simp only [Array.toArray_toList] at this
          simp only [Instr.alloc,Sem.run_bind,an,Result.andThen_ok,newVar,this,Sem.run_pure]
        · simp only [Rel];exact ⟨_,eB,by simp⟩
        · simpa using (b6 w).2 aP hle eB
 case box t x=>
  refine ⟨Instr.box t (a.eval x),rfl,?_⟩
  obtain ⟨a1,he⟩:=ow he
  cases aX:gq h ((c' x).run r).cells with
  | none=>rw [aX] at he;cases he
  | some ab=>
    rw [aX] at he
    simp only [jq,bh.val.injEq] at he;obtain ⟨rfl,rfl⟩:=he
    have aB:=(eX k x).cells (fun e=>by rw [e] at a1;cases a1)
    obtain ⟨eu,bF,bz,b6⟩:=E6 (P:=P) aB aX t
    refine ⟨eu,bF,bz,fun w=>⟨.pointer (some ⟨w.heap.size,0,none⟩),.cells (a.eval x).cells t,?_,fun aP hle eB=>⟨?_,?_⟩⟩⟩
    · have:=(b6 w).1
      simp only [Array.toArray_toList] at this
      simp only [Instr.box,Sem.run_bind,newVar,this,Result.andThen_ok,Sem.run_pure]
    · simp only [Rel];exact ⟨_,eB,by simp⟩
    · simpa using (b6 w).2 aP hle eB
 case buildSlice t n bX=>
  refine ⟨Instr.buildSlice t n (bX.map fun (i,x)=>(i,a.eval x)),rfl,?_⟩
  rw [Fs]
  exact QI (AY k bX.toList) he
 case makeMap t x=>
  cases x with
  | some _=>cases bH
  | none=>
    refine ⟨Instr.makeMap t none,rfl,?_⟩
    simp only [pZ,vE] at he
    cases aI:bj P t with
    | none=>rw [aI] at he;cases he
    | some aO=>
      rw [aI] at he
      simp only at he
      cases ah:Nat.beq (fS aO.bG) 3 with
      | false=>rw [ah] at he;cases he
      | true=>
        rw [ah] at he
        simp only [cond_true,nW,vM] at he
        simp only [bh.val.injEq] at he
        obtain ⟨rfl,rfl⟩:=he
        refine ⟨_,rfl,trivial,fun w=>⟨.map (some w.heap.size),.map #[] 0,?_,fun aP hle eB=>⟨?_,fun B du=>?_⟩⟩⟩
        · simp only [Instr.makeMap,Sem.run_bind,run_newObj,Result.andThen_ok,Sem.run_pure]
        · simp only [Rel];exact ⟨_,eB,rfl⟩
        · exact ⟨_,#[],eB,du,by simp,rfl⟩
def Fr.hold (F:Fr) (b:aN) (k:cp):Fr:=⟨F.w,fun bN=>if bN=b then some k else F.j_ bN⟩
def Fr.free (F:Fr) (b:aN):Fr:=⟨F.w,fun bN=>if bN=b then none else F.j_ bN⟩
theorem bQ.hold {F:Fr} {E:Env} {h:ag} {w:World} (s:bQ F E h w) (k:cp):bQ (F.hold (ak h.next) k) E (h.new k) w:=by
 have fv:=s.fresh h.next (Nat.le_refl _)
 refine ⟨fun b ah=>?_,fun b bK al=>?_,fun b bN p nY ab af aL bo jd=>?_,fun i ax=>s.fresh i (Nat.le_of_succ_le ax),s.frame,s.laid,fun b p n cs st ab aL=>s.base b p n cs st (by
  have fb:ak h.next≠b:=fun e=>by rw [←e,fv] at aL;cases aL
  rwa [ag.dT,if_neg fb] at ab) aL⟩
 · simp only [Fr.hold] at ah
   by_cases aM:b=ak h.next
   · rw [if_pos aM] at ah;cases ah
   · rw [if_neg aM] at ah
     rw [ag.dT,if_neg (fun e=>aM e.symm)]
     exact s.a_ b ah
 · simp only [Fr.hold] at al
   by_cases aM:b=ak h.next
   · rw [if_pos aM] at al
     cases al
     exact ⟨by rw [ag.dT,if_pos aM.symm],by rw [aM];exact fv,h.next,Nat.lt_succ_self _,aM⟩
   · rw [if_neg aM] at al
     obtain ⟨aG,az,i,aW,bZ⟩:=s.o6 b bK al
     exact ⟨by rw [ag.dT,if_neg (fun e=>aM e.symm)];exact aG,az,i,Nat.lt_succ_of_lt aW,bZ⟩
 · have fb:ak h.next≠b:=fun e=>by rw [←e,fv] at aL;cases aL
   have gf:ak h.next≠bN:=fun e=>by rw [←e,fv] at bo;cases bo
   rw [ag.dT,if_neg fb] at ab
   rw [ag.dT,if_neg gf] at af
   exact s.inj b bN p nY ab af aL bo jd
theorem bQ.link {F:Fr} {E:Env} {h:ag} {w:World} (s:bQ F E h w) {b:aN} {k:cp} (aH:F.j_ b=some k) {o:Obj}
 (jI:h0 F.w.heap.size (E.put b ⟨w.heap.size,0,0⟩) {w with heap:=w.heap.push o} b k):
 E.le (E.put b ⟨w.heap.size,0,0⟩)∧bQ (F.free b) (E.put b ⟨w.heap.size,0,0⟩) h {w with heap:=w.heap.push o}:=by
 obtain ⟨al,fv,i0,aeG,s'⟩:=s.o6 b k aH
 have hle:E.le (E.put b ⟨w.heap.size,0,0⟩):=Env.q7 fv
 have eB:E.put b ⟨w.heap.size,0,0⟩ b=some ⟨w.heap.size,0,0⟩:=by unfold Env.put;rw [if_pos rfl]
 have hold:∀bN,bN≠b→E.put b ⟨w.heap.size,0,0⟩ bN=E bN:=by intro bN ah;unfold Env.put;rw [if_neg ah]
 have nC:∀bN q,E bN=some q→(h.get bN)≠.dead→q.a_<w.heap.size:=by
  intro bN q aM bE
  have ah:=s.at aM
  cases a1:h.get bN with
  | dead=>exact absurd a1 bE
  | view n cs=>rw [a1] at ah;obtain ⟨_,dm,c,el,b3,e,_,cv,_⟩:=ah;rw [e] at aM;cases aM;exact (Array.getElem?_eq_some_iff.1 cv).1
  | cells n cs cw st=>rw [a1] at ah;obtain ⟨_,dm,c,el,b3,e,_,cv,_⟩:=ah;rw [e] at aM;cases aM;exact (Array.getElem?_eq_some_iff.1 cv).1
  | iter st pos=>rw [a1] at ah;obtain ⟨dm,e,_,_,cv⟩:=ah;rw [e] at aM;cases aM;exact (Array.getElem?_eq_some_iff.1 cv).1
  | mp es clock=>rw [a1] at ah;obtain ⟨dm,a,e,_,cv,_⟩:=ah;rw [e] at aM;cases aM;exact (Array.getElem?_eq_some_iff.1 cv).1
 refine ⟨hle,fun bN eI=>?_,fun bN bK eK=>?_,fun cJ ct b_ b1 ab af aL bo jd=>?_,fun i ax=>?_,⟨s.frame.os,s.frame.tape,s.frame.output,?_,fun j bC=>?_⟩,s.laid,fun cJ b_ n cs st ab aL=>by
  by_cases ed:cJ=b
  · subst ed;rw [eB] at aL;cases aL;rfl
  · rw [hold cJ ed] at aL;exact s.base _ _ _ _ _ ab aL⟩
 · by_cases aM:bN=b
   · subst aM;rw [al];exact jI
   · simp only [Fr.free,if_neg aM] at eI
     have ao:=(s.a_ bN eI).mono hle
     by_cases bE:h.get bN=.dead
     · rw [bE];trivial
     · refine h0.fx ao fun q nJ=>?_
       rw [hold bN aM] at nJ
       have:=nC bN q nJ bE
       simp only [Array.getElem?_push]
       rw [if_neg (by omega)]
 · simp only [Fr.free] at eK
   by_cases aM:bN=b
   · rw [if_pos aM] at eK;cases eK
   · rw [if_neg aM] at eK
     obtain ⟨aG,az,aW⟩:=s.o6 bN bK eK
     exact ⟨aG,by rw [hold bN aM];exact az,aW⟩
 · by_cases ed:cJ=b<;>by_cases fu:ct=b
   · exact ed.trans fu.symm
   · subst ed
     rw [eB] at aL;cases aL
     rw [hold ct fu] at bo
     have:=nC ct b1 bo (fun e=>by rw [e] at af;cases af)
     simp only at jd
     omega
   · subst fu
     rw [eB] at bo;cases bo
     rw [hold cJ ed] at aL
     have:=nC cJ b_ aL (fun e=>by rw [e] at ab;cases ab)
     simp only at jd
     omega
   · rw [hold cJ ed] at aL
     rw [hold ct fu] at bo
     exact s.inj cJ ct b_ b1 ab af aL bo jd
 · rw [hold _ (fun e=>?_)]
   · exact s.fresh i ax
   · rw [s'] at e
     have:=l6 e
     omega
 · have:=s.frame.size
   simp only [Array.size_push,Fr.free]
   omega
 · have ab:=s.frame.size
   simp only [Fr.free,Array.getElem?_push]
   rw [if_neg (by simp only [Fr.free] at bC;omega)]
   exact s.frame.block j bC
end
end Go.Proofs.YtjbiefneffiogaaGreat.ba
namespace Go.Proofs.YtjbiefneffiogaaGreat.ba
variable [Lay]
open Go Go.RowKit
section
variable {P:Program}
def jt (es:List h1) (gC:cB) (i:Nat):cB:=
 match es[i]? with
 | some e=>e.r
 | none=>gC
theorem zZ (e:h1) (es:List h1) (au:ag) (i:Nat):dB (e::es) au (i+1)=dB es au i:=by simp [dB]
theorem Bc (e:h1) (es:List h1) (gC:cB) (i:Nat):jt (e::es) gC (i+1)=jt es gC i:=by simp [jt]
theorem F1 {aR:Nat} {all:Array Oper} {call:eO}:∀{l:List Oper} {r gC:cB} {h au:ag} {es:List h1},(p8 P aR all l).run call r h=.ok es gC au→
 es.length=l.length∧dB es au 0=h∧jt es gC 0=r∧∀j o,l[j]? =some o→∃e,es[j]? =some e∧(gn P aR all o).run call e.r e.h=.val e.v (dB es au (j+1))∧jt es gC (j+1)=(kv o.dst).run e.r e.v
 | [],r,gC,h,au,es,he=>by
   simp only [p8,yO.ok.injEq] at he
   obtain ⟨rfl,rfl,rfl⟩:=he
   exact ⟨rfl,rfl,rfl,fun j o bt=>by simp at bt⟩
 | o::os,r,gC,h,au,es,he=>by
   simp only [p8,Oe] at he
   cases ab:(gn P aR all o).run call r h with
   | fail=>rw [ab] at he;cases he
   | val v cv=>
     rw [ab] at he
     simp only at he
     cases af:(p8 P aR all os).run call ((kv o.dst).run r v) cv with
     | fail=>rw [af] at he;cases he
     | ok aei bf aK=>
       rw [af] at he
       simp only [yO.ok.injEq] at he
       obtain ⟨rfl,rfl,rfl⟩:=he
       obtain ⟨aG,az,aW,bZ⟩:=F1 af
       refine ⟨by simp [aG],by simp [dB],by simp [jt],fun j dI bt=>?_⟩
       cases j with
       | zero=>
         simp only [List.getElem?_cons_zero,Option.some.injEq] at bt
         subst bt
         exact ⟨⟨r,h,v⟩,rfl,by rw [zZ,az];exact ab,by rw [Bc,aW]⟩
       | succ j=>
         obtain ⟨e,b_,b1,cy⟩:=bZ j dI (by simpa using bt)
         exact ⟨e,by simpa using b_,by rw [zZ];exact b1,by rw [Bc];exact cy⟩
theorem TJ {aR:Nat} {d:Option Nat} (bE:iD aR d=true) {r:cB} {v:V} {t:Nat} (aI:t≤top):T.get .bad (ak t) ((kv d).run r v)=if d=some t then v else T.get .bad (ak t) r:=by
 cases d with
 | none=>simp [kv]
 | some d=>
   simp only [iD,Bool.and_eq_true,Nat.blt_eq,Nat.ble_eq] at bE
   simp only [kv,T.mE,Option.some.injEq]
   by_cases h:d=t
   · subst h;simp
   · rw [if_neg (fun e=>h (l6 e)),if_neg h]
theorem uW {aR:Nat} {all:Array Oper} {o:Oper} {call:eO} {r:cB} {h aa:ag} {v:V} (he:(gn P aR all o).run call r h=.val v aa):iD aR o.dst=true∧p5 (fs all o)=true:=by
 unfold gn at he
 cases aA:(iD aR o.dst&&p5 (fs all o)) with
 | false=>rw [aA] at he;simp [dj.none] at he
 | true=>simpa using aA
theorem On {r:cB} {rs:List Nat} (bk:p5 rs=true) {t:Nat} (aI:t≤top):T.get .bad (ak t) (jv r rs)=if t ∈ rs then T.get .bad (ak t) r else .bad:=by
 induction rs with
 | nil=>simp [jv]
 | cons u rs bb=>
   simp only [p5,List.all_cons,Bool.and_eq_true,Nat.ble_eq] at bk
   simp only [jv,T.mE,List.mem_cons]
   by_cases h:u=t
   · subst h;simp
   · rw [if_neg (fun e=>h (l6 e)),bb bk.2]
     have aa:¬t=u:=fun e=>h e.symm
     simp [aa]
theorem zt {aJ:Fr} {E:Env} {h aa:ag} {w:World} {call:eO} (dU:i' P) (je:jS P call) (iI:kd P call) {all:Array Oper} {i:Nat} {o:Oper} (ax:all[i]? =some o) {aR:Nat} {r:cB} {a:Act} {v:V}
 (he:(gn P aR all o).run call r h=.val v aa) (tp:a.tmps.size=aR) (xn:a.defers=[]) (Ek:∀t ∈ fs all o,Rel E (T.get .bad (ak t) r) (a.tmps.getD t undef)) (s:bQ aJ E h w)
 {K:Act→World→Prop} {Q:Exit→Act→World→Prop} (cV:∀aP x aC,E.le aP→Rel aP v x→bQ aJ aP aa aC→K (a.put o.dst x) aC):wpOp P all Q i K a w:=by
 obtain ⟨bE,bk⟩:=uW he
 have k:gm E aR (jv r (fs all o)) a:=⟨tp,xn,fun t aI=>by
  rw [On bk aI]
  by_cases hm:t ∈ fs all o
  · rw [if_pos hm];exact Ek t hm
  · rw [if_neg hm];simp [Rel]⟩
 unfold gn at he
 rw [show (iD aR o.dst&&p5 (fs all o))=true from by rw [bE,bk];rfl] at he
 simp only [cond_true] at he
 have wanted:(hq P o).run call (jv r (fs all o)) h=.val v aa→Region.wanted o (yielded all a.tmps)=true→wpOp P all Q i K a w:=by
  intro ab hw
  simp only [wpOp,ax,hw,if_true]
  left
  exact Jw dU je iI ab k s cV
 have yB:bh.val (.tuple []) h=bh.val v aa→Region.wanted o (yielded all a.tmps)=false→wpOp P all Q i K a w:=by
  intro ab hw
  simp only [bh.val.injEq] at ab
  obtain ⟨rfl,rfl⟩:=ab
  simp only [wpOp,ax,hw,Bool.false_eq_true,if_false]
  exact cV E undef w (Env.le.refl E) (by simp only [Rel];exact ⟨#[],rfl,rfl⟩) s
 cases a1:o.guard with
 | none=>
   rw [a1] at he
   exact wanted he (by simp [Region.wanted,a1])
 | some q5=>
   obtain ⟨j,want⟩:=q5
   rw [a1] at he
   simp only at he
   cases bC:all[j]? with
   | none=>rw [bC] at he;simp [dj.none] at he
   | some g=>
     rw [bC] at he
     simp only at he
     cases jf:g.dst with
     | none=>rw [jf] at he;simp [dj.none] at he
     | some d=>
       rw [jf] at he
       simp only at he
       cases aA:(Nat.blt d aR&&Nat.ble d top) with
       | false=>rw [aA] at he;simp [dj.none] at he
       | true=>
         rw [aA] at he
         simp only [cond_true,lQ,nw] at he
         simp only [Bool.and_eq_true,Nat.blt_eq,Nat.ble_eq] at aA
         obtain ⟨bF,bz⟩:=Du k bC jf aA.1 aA.2
         cases a6:T.get .bad (ak d) (jv r (fs all o))<;>rw [a6] at he<;>simp only at he<;>try (cases he;done)
         · rename_i b
           have br:=bF b a6
           cases ah:(bif want then b else !b) with
           | true=>
             rw [ah] at he
             simp only [cond_true] at he
             refine wanted he ?_
             simp only [Region.wanted,a1,br]
             cases want<;>cases b<;>simp_all
           | false=>
             rw [ah] at he
             simp only [cond_false] at he
             refine yB he ?_
             simp only [Region.wanted,a1,br]
             cases want<;>cases b<;>simp_all
         · rename_i ad
           have br:=bz ad a6
           refine yB he ?_
           simp only [Region.wanted,a1,br]
           rfl
theorem w6 {aR:Nat} {all:Array Oper} {o:Oper} {call:eO} {r:cB} {h aa:ag} {v:V} (aM:ht P o.op=false) (he:(gn P aR all o).run call r h=.val v aa):
 aa=h∧(looks o.op=false→∀H,(gn P aR all o).run call r H=.val v H):=by
 obtain ⟨bE,bk⟩:=uW he
 have b5:(iD aR o.dst&&p5 (fs all o))=true:=by rw [bE,bk];rfl
 have key:gn P aR all o=(match o.guard with
  | none=>⟨lQ none (hq P o) (fs all o)⟩
  | some (j,want)=>match all[j]? with
    | some g=>match g.dst with
      | some d=>bif Nat.blt d aR&&Nat.ble d top then ⟨lQ (some (nw (ak d),want)) (hq P o) (fs all o)⟩ else dj.none
      | none=>dj.none
    | none=>dj.none):=by
  unfold gn;rw [b5];rfl
 rw [key] at he ⊢
 cases a1:o.guard with
 | none=>
   rw [a1] at he
   exact ⟨Jv aM he,fun aB H=>Ju aM aB he H⟩
 | some q5=>
   obtain ⟨j,want⟩:=q5
   rw [a1] at he
   simp only at he ⊢
   cases bC:all[j]? with
   | none=>rw [bC] at he;simp [dj.none] at he
   | some g=>
     rw [bC] at he
     simp only at he ⊢
     cases jf:g.dst with
     | none=>rw [jf] at he;simp [dj.none] at he
     | some d=>
       rw [jf] at he
       simp only at he ⊢
       cases aA:(Nat.blt d aR&&Nat.ble d top) with
       | false=>rw [aA] at he;simp [dj.none] at he
       | true=>
         rw [aA] at he
         simp only [cond_true,lQ] at he ⊢
         cases a6:(nw (ak d)).run (jv r (fs all o))<;>rw [a6] at he<;>simp only at he ⊢<;>try (cases he;done)
         · rename_i b
           cases ah:(bif want then b else !b)<;>rw [ah] at he<;>simp only [cond_true,cond_false] at he ⊢
           · simp only [bh.val.injEq] at he ⊢
             exact ⟨he.2.symm,fun _ H=>⟨he.1,trivial⟩⟩
           · exact ⟨Jv aM he,fun aB H=>Ju aM aB he H⟩
         · simp only [bh.val.injEq] at he ⊢
           exact ⟨he.2.symm,fun _ H=>⟨he.1,trivial⟩⟩
theorem G' {op:dj} {call:eO} {es:List h1} {au:ag} {r:cB} {v:V}:∀{fh:List Nat},zb op call es au r v fh=true→∀s ∈ fh,∃aa,op.run call r (dB es au s)=.val v aa
 | [],_,s,h=>by simp at h
 | gY::fh,he,s,hm=>by
   simp only [zb,Bool.and_eq_true] at he
   simp only [List.mem_cons] at hm
   rcases hm with rfl | hm
   · have ab:=he.1
     cases aT:op.run call r (dB es au s) with
     | fail=>rw [aT] at ab;cases ab
     | val dE aa=>
       rw [aT] at ab
       rw [Td ab]
       exact ⟨aa,rfl⟩
   · exact G' he.2 s hm
theorem Hb {aR:Nat} {all:Array Oper} {dH aU fc:List Nat} {call:eO} {es:List h1} {au:ag}:∀{l:List Oper} {i:Nat},(uP P aR all dH aU fc i l).run call es au=true→
 ∀j o,l[j]? =some o→looks o.op=true→ht P o.op=false→∃e,es[posOf aU (i+j)]? =some e∧∀s ∈ fc,tP P dH all.toList aU (i+j) ((dH[i+j]?).getD 0) s=true→∃aa,(gn P aR all o).run call e.r (dB es au s)=.val e.v aa
 | [],_,_,j,o,bt,_,_=>by simp at bt
 | dI::os,i,he,j,o,bt,aB,aM=>by
   simp only [uP] at he
   cases j with
   | zero=>
     simp only [List.getElem?_cons_zero,Option.some.injEq] at bt
     subst bt
     rw [aB,aM] at he
     simp only [Bool.not_false,Bool.and_true,cond_true,Bool.and_eq_true,G_] at he
     have ab:=he.1
     cases qP:es[posOf aU i]? with
     | none=>rw [qP] at ab;cases ab
     | some e=>
       rw [qP] at ab
       refine ⟨e,rfl,fun s bk hm=>?_⟩
       exact G' ab s (List.mem_filter.2 ⟨bk,by simpa using hm⟩)
   | succ j=>
     have rest:(uP P aR all dH aU fc (i+1) os).run call es au=true:=by
      cases aA:(looks dI.op&&!ht P dI.op) with
      | false=>rw [aA] at he;exact he
      | true=>rw [aA] at he;simp only [cond_true,Bool.and_eq_true] at he;exact he.2
     have:=Hb rest j o (by simpa using bt) aB aM
     rw [show i + (j+1)=i+1+j from by omega]
     exact this
theorem EV {aU:List Nat}:∀{l:List Oper} {i j:Nat} {o:Oper},l[j]? =some o→gJ P o=true→posOf aU (i+j) ∈ ks P aU i l
 | [],_,j,o,h,_=>by simp at h
 | dI::os,i,j,o,h,he=>by
   simp only [ks]
   cases j with
   | zero=>
     simp only [List.getElem?_cons_zero,Option.some.injEq] at h
     subst h
     rw [he]
     simp
   | succ j=>
     have:=EV (aU:=aU) (i:=i+1) (by simpa using h) he
     rw [show i + (j+1)=i+1+j from by omega]
     cases gJ P dI with
     | true=>simp [this]
     | false=>exact this
theorem EU {aU:List Nat}:∀{l:List Oper} {i:Nat},i+l.length ∈ ks P aU i l
 | [],_=>by simp [ks]
 | o::os,i=>by
   have:=EU (aU:=aU) (l:=os) (i:=i+1)
   simp only [ks,List.length_cons]
   rw [show i + (os.length+1)=i+1+os.length from by omega]
   cases gJ P o with
   | true=>simp [this]
   | false=>exact this
theorem xS {aU:List Nat}:∀{l:List Oper} {i s:Nat},s ∈ ks P aU i l→s=i+l.length∨∃j o,l[j]? =some o∧gJ P o=true∧s=posOf aU (i+j)
 | [],i,s,h=>by simp only [ks,List.mem_singleton] at h;exact .inl (by simpa using h)
 | o::os,i,s,h=>by
   simp only [ks] at h
   have rest:s ∈ ks P aU (i+1) os→s=i + (o::os).length∨∃j dI,(o::os)[j]? =some dI∧gJ P dI=true∧s=posOf aU (i+j):=by
    intro h
    rcases xS h with h | ⟨j,dI,ab,af,aK⟩
    · exact .inl (by simp only [List.length_cons];omega)
    · exact .inr ⟨j+1,dI,by simpa using ab,af,by rw [aK];congr 1;omega⟩
   cases aA:gJ P o with
   | true=>
     rw [aA] at h
     simp only [cond_true,List.mem_cons] at h
     rcases h with h | h
     · exact .inr ⟨0,o,rfl,aA,h⟩
     · exact rest h
   | false=>rw [aA] at h;exact rest h
theorem SS {o:Oper} {call:eO} {r:cB} {h aa:ag} {v:V} (bH:iN o=true) (he:(hq P o).run call r h=.val v aa):∃k,aa=h.new k∧True:=by
 have cells:∀{ad:List V} {ab:ag},gq h ad=some ab→∃k,ab=h.new k∧True:=by
  intro ad ab he
  unfold gq at he
  obtain ⟨aA,he⟩:=fl he
  cases he
  exact ⟨_,rfl,trivial⟩
 obtain ⟨dst,op,type,pos,after,guard⟩:=o
 cases op<;>simp only [iN] at bH<;>try (cases bH;done)
 all_goals simp only [hq] at he
 case alloc t=>
  cases aI:bj P t with
  | none=>rw [aI] at he;simp [dj.none] at he
  | some aO=>
    rw [aI] at he
    simp only at he
    cases aV:aO.zero with
    | none=>rw [aV] at he;simp [dj.none] at he
    | some z=>
      rw [aV] at he
      simp only at he
      cases aX:gq h z.cells with
      | none=>rw [aX] at he;cases he
      | some ab=>
        rw [aX] at he
        simp only [jq,bh.val.injEq] at he;obtain ⟨_,rfl⟩:=he
        exact cells aX
 case box t x=>
  obtain ⟨a1,he⟩:=ow he
  cases aX:gq h ((c' x).run r).cells with
  | none=>rw [aX] at he;cases he
  | some ab=>
    rw [aX] at he
    simp only [jq,bh.val.injEq] at he;obtain ⟨_,rfl⟩:=he
    exact cells aX
 case buildSlice t n bX=>
  unfold sY at he
  cases aI:bj P t with
  | none=>rw [aI] at he;cases he
  | some aO=>
    rw [aI] at he
    simp only at he
    cases cg:aO.bG<;>rw [cg] at he<;>simp only at he<;>try (cases he;done)
    rename_i e
    cases cS:bj P e with
    | none=>rw [cS] at he;cases he
    | some bn=>
      rw [cS] at he
      simp only at he
      cases aV:bn.zero with
      | none=>rw [aV] at he;cases he
      | some z=>
        rw [aV] at he
        simp only at he
        cases aA:(Nat.ble (n * bn.size) 1000000&&Nat.beq z.cells.length bn.size) with
        | false=>rw [aA] at he;cases he
        | true=>
          rw [aA] at he
          simp only [cond_true] at he
          cases au:lT (fun i=>some (i * bn.size,bn.size)) (gr z.cells n) ((sn bX.toList).run r) with
          | none=>rw [au] at he;cases he
          | some cs=>
            rw [au] at he
            simp only at he
            cases aX:gq h cs with
            | none=>rw [aX] at he;cases he
            | some ab=>
              rw [aX] at he
              simp only [bh.val.injEq] at he
              obtain ⟨_,rfl⟩:=he
              exact cells aX
 case makeMap t x=>
  cases x with
  | some _=>cases bH
  | none=>
    simp only [pZ,vE] at he
    cases aI:bj P t with
    | none=>rw [aI] at he;cases he
    | some aO=>
      rw [aI] at he
      simp only at he
      cases ah:Nat.beq (fS aO.bG) 3 with
      | false=>rw [ah] at he;cases he
      | true=>
        rw [ah] at he
        simp only [cond_true,nW,vM] at he
        simp only [bh.val.injEq] at he
        exact ⟨_,he.2.symm,trivial⟩
theorem WI {o:Oper} (bH:iN o=true):ht P o.op=true:=by
 obtain ⟨dst,op,type,pos,after,guard⟩:=o
 cases op<;>simp only [iN] at bH<;>first | (cases bH;done) | rfl
theorem JD {aR:Nat} {all:Array Oper} {o:Oper} {call:eO} {r:cB} {h aa:ag} {v:V} (he:(gn P aR all o).run call r h=.val v aa):
 ((hq P o).run call (jv r (fs all o)) h=.val v aa∧∀E a,gm E aR (jv r (fs all o)) a→Region.wanted o (yielded all a.tmps)=true)∨
 (aa=h∧∀H,(gn P aR all o).run call r H=.val v H):=by
 obtain ⟨bE,bk⟩:=uW he
 have b5:(iD aR o.dst&&p5 (fs all o))=true:=by rw [bE,bk];rfl
 have key:gn P aR all o=(match o.guard with
  | none=>⟨lQ none (hq P o) (fs all o)⟩
  | some (j,want)=>match all[j]? with
    | some g=>match g.dst with
      | some d=>bif Nat.blt d aR&&Nat.ble d top then ⟨lQ (some (nw (ak d),want)) (hq P o) (fs all o)⟩ else dj.none
      | none=>dj.none
    | none=>dj.none):=by
  unfold gn;rw [b5];rfl
 rw [key] at he ⊢
 cases a1:o.guard with
 | none=>
   rw [a1] at he
   exact .inl ⟨he,fun E a _=>by simp [Region.wanted,a1]⟩
 | some q5=>
   obtain ⟨j,want⟩:=q5
   rw [a1] at he
   simp only at he ⊢
   cases bC:all[j]? with
   | none=>rw [bC] at he;simp [dj.none] at he
   | some g=>
     rw [bC] at he
     simp only at he ⊢
     cases jf:g.dst with
     | none=>rw [jf] at he;simp [dj.none] at he
     | some d=>
       rw [jf] at he
       simp only at he ⊢
       cases aA:(Nat.blt d aR&&Nat.ble d top) with
       | false=>rw [aA] at he;simp [dj.none] at he
       | true=>
         rw [aA] at he
         simp only [cond_true,lQ] at he ⊢
         have pD:=aA
         simp only [Bool.and_eq_true,Nat.blt_eq,Nat.ble_eq] at pD
         cases a6:(nw (ak d)).run (jv r (fs all o))<;>rw [a6] at he<;>simp only at he ⊢<;>try (cases he;done)
         · rename_i b
           cases ah:(bif want then b else !b)<;>rw [ah] at he<;>simp only [cond_true,cond_false] at he ⊢
           · simp only [bh.val.injEq] at he ⊢
             exact .inr ⟨he.2.symm,fun H=>⟨he.1,trivial⟩⟩
           · refine .inl ⟨he,fun E a k=>?_⟩
             obtain ⟨bF,_⟩:=Du k bC jf pD.1 pD.2
             have br:=bF b a6
             simp only [Region.wanted,a1,br]
             cases want<;>cases b<;>simp_all
         · simp only [bh.val.injEq] at he ⊢
           exact .inr ⟨he.2.symm,fun H=>⟨he.1,trivial⟩⟩
theorem JC {aR:Nat} {all:Array Oper} {o:Oper} {call:eO} {r:cB} {h aa:ag} {v:V} (bH:iN o=true) (he:(gn P aR all o).run call r h=.val v aa):
 (∃k,aa=h.new k∧True)∨(aa=h∧∀H,(gn P aR all o).run call r H=.val v H):=by
 rcases JD he with ⟨ab,_⟩ | ab
 · exact .inl (SS bH ab)
 · exact .inr ab
theorem S5 {F:Fr} {E:Env} {h aa H:ag} {w:World} {call:eO} {all:Array Oper} {i:Nat} {o:Oper} (ax:all[i]? =some o) (bH:iN o=true) {aR:Nat} {r:cB} {a:Act} {v:V}
 (he:(gn P aR all o).run call r h=.val v aa) (tp:a.tmps.size=aR) (xn:a.defers=[]) (Ek:∀t ∈ fs all o,Rel E (T.get .bad (ak t) r) (a.tmps.getD t undef)) (s:bQ F E H w)
 (D5:aa.next≠h.next) (aH:F.j_ (ak h.next)=some (aa.get (ak h.next)))
 {K:Act→World→Prop} {Q:Exit→Act→World→Prop} (cV:∀aP x aC,E.le aP→Rel aP v x→bQ (F.free (ak h.next)) aP H aC→K (a.put o.dst x) aC):wpOp P all Q i K a w:=by
 obtain ⟨bE,bk⟩:=uW he
 have k:gm E aR (jv r (fs all o)) a:=⟨tp,xn,fun t aI=>by
  rw [On bk aI]
  by_cases hm:t ∈ fs all o
  · rw [if_pos hm];exact Ek t hm
  · rw [if_neg hm];simp [Rel]⟩
 obtain ⟨ko,hw⟩:(hq P o).run call (jv r (fs all o)) h=.val v aa∧Region.wanted o (yielded all a.tmps)=true:=by
  rcases JD he with ⟨ab,af⟩ | ⟨ab,_⟩
  · exact ⟨ab,af E a k⟩
  · exact absurd (by rw [ab]) D5
 obtain ⟨m,an,eu,aG,az,aW⟩:=SR bH ko k
 simp only [wpOp,ax,hw,if_true]
 left
 obtain ⟨X,jP,b_,b1⟩:=aW w
 rw [aG,ag.dT,if_pos rfl] at aH
 have eB:E.put (ak h.next) ⟨w.heap.size,0,0⟩ (ak h.next)=some ⟨w.heap.size,0,0⟩:=by unfold Env.put;rw [if_pos rfl]
 have hle:E.le (E.put (ak h.next) ⟨w.heap.size,0,0⟩):=Env.q7 (s.o6 _ _ aH).2.1
 obtain ⟨bf,bV⟩:=b1 _ hle eB
 have eC:F.w.heap.size≤w.heap.size:=s.frame.size
 obtain ⟨_,h7⟩:=s.link aH (o:=jP) (bV _ eC)
 unfold Oper.wp
 rw [an,Sem.run_bind,b_]
 exact cV _ X _ hle bf h7
end
end Go.Proofs.YtjbiefneffiogaaGreat.ba
namespace Go.Proofs.YtjbiefneffiogaaGreat.ba
variable [Lay]
open Go Go.RowKit
theorem Jy {α:Type} (p q:α→Bool):∀(l:List α),(∀x ∈ l,q x=true→p x=true)→(∃x ∈ l,p x=true∧q x=false)→l.countP q<l.countP p
 | [],_,h=>by obtain ⟨x,an,_⟩:=h;simp at an
 | a::l,ab,af=>by
   have hle:l.countP q≤l.countP p:=List.countP_mono_left fun x an=>ab x (by simp [an])
   obtain ⟨x,an,aH,aM⟩:=af
   simp only [List.mem_cons] at an
   rcases an with rfl | an
   · rw [List.countP_cons,List.countP_cons,aH,aM]
     simp
     omega
   · have bb:=Jy p q l (fun y br=>ab y (by simp [br])) ⟨x,an,aH,aM⟩
     have bH:=ab a (by simp)
     rw [List.countP_cons,List.countP_cons]
     cases VC:q a with
     | true=>rw [bH VC];simp;omega
     | false=>simp;omega
theorem Hl (e:Edge):Region.binds .any e=sW e:=by
 unfold Region.binds sW
 cases e.ground<;>rfl
section
variable {P:Program}
theorem yb {order:List Nat}:∀{bX:List Nat} {k j p:Nat},ya order k bX=true→bX[j]? =some p→order[p]? =some (k+j)
 | [],_,j,p,_,h=>by simp at h
 | q::bX,k,j,p,aH,h=>by
   simp only [ya,Bool.and_eq_true] at aH
   cases j with
   | zero=>
     simp only [List.getElem?_cons_zero,Option.some.injEq] at h
     subst h
     have ab:=aH.1
     cases aM:order[q]? with
     | none=>rw [aM] at ab;cases ab
     | some i=>rw [aM] at ab;rw [Nat.beq_eq] at ab;rw [ab];rfl
   | succ j=>
     have:=yb aH.2 (show bX[j]? =some p by simpa using h)
     rw [this]
     congr 1
     omega
theorem vQ {ops:Array Oper}:∀{order:List Nat} {p i:Nat} {o:Oper},order[p]? =some i→ops[i]? =some o→(nX ops order)[p]? =some o
 | [],p,i,o,h,_=>by simp at h
 | x::xs,p,i,o,h,bt=>by
   cases p with
   | zero=>
     simp only [List.getElem?_cons_zero,Option.some.injEq] at h
     subst h
     simp [nX,bt]
   | succ p=>simpa [nX] using vQ (show xs[p]? =some i by simpa using h) bt
theorem Fj {ops:Array Oper}:∀{order:List Nat},(nX ops order).length=order.length
 | []=>rfl
 | x::xs=>by simp [nX,Fj (order:=xs)]
structure Cert (P:Program) (aR:Nat) (ops:Array Oper) (calls:Nat→eO) (es:List h1) (cj:cB) (ao:ag) (gC:cB) (au:ag) (fc:List Nat) (order aU:List Nat):Prop where
 len:es.length=ops.size
 lB:∀k,k<ops.size→posOf aU k<ops.size∧order[posOf aU k]? =some k
 sl:∀p,p<ops.size→∃i,i<ops.size∧posOf aU i=p
 ao:dB es au 0=ao
 cj:jt es gC 0=cj
 step:∀i o,ops[i]? =some o→∃e,es[posOf aU i]? =some e∧(gn P aR ops o).run (calls i) e.r e.h=.val e.v (dB es au (posOf aU i+1))∧jt es gC (posOf aU i+1)=(kv o.dst).run e.r e.v
 Ts:uX P ops aU=true
 ends:ops.size ∈ fc
 mem:∀j o,ops[j]? =some o→gJ P o=true→posOf aU j ∈ fc
 Og:∀s ∈ fc,s=ops.size∨∃k o,ops[k]? =some o∧gJ P o=true∧s=posOf aU k
 ask:∀j o,ops[j]? =some o→looks o.op=true→ht P o.op=false→∃e,es[posOf aU j]? =some e∧∀s ∈ fc,
  tP P (j8 [] ops.toList) ops.toList aU j (((j8 [] ops.toList)[j]?).getD 0) s=true→∃c aa,(jS P c∧kd P c)∧(gn P aR ops o).run c e.r (dB es au s)=.val e.v aa
variable {aR:Nat} {ops:Array Oper} {call:eO} {calls:Nat→eO} {es:List h1} {cj:cB} {ao:ag} {gC:cB} {au:ag} {fc:List Nat} {order aU:List Nat}
theorem Cert.yd (C:Cert P aR ops calls es cj ao gC au fc order aU) {k bK:Nat} (ab:k<ops.size) (af:bK<ops.size) (he:posOf aU k=posOf aU bK):k=bK:=by
 have a:=(C.lB k ab).2
 have b:=(C.lB bK af).2
 rw [he,b] at a
 cases a
 rfl
theorem Cert.zJ (C:Cert P aR ops calls es cj ao gC au fc order aU) {i:Nat} {o:Oper} (ax:ops[i]? =some o):∃j9,(j8 [] ops.toList)[i]? =some j9∧Mq i o=true∧
 ∀k ok,ops[k]? =some ok→∃mk,(j8 [] ops.toList)[k]? =some mk∧x_ i j9 (fs ops o) o.dst k mk ok (Nat.blt (posOf aU k) (posOf aU i))=true∧(ht P o.op=true→gJ P ok=true→posOf aU k<posOf aU i→kg j9 k=true):=by
 have au:=C.Ts
 unfold uX at au
 obtain ⟨j9,ab,af⟩:=Gr au i o (by simpa using ax)
 simp only [Nat.zero_add,Bool.and_eq_true] at af
 refine ⟨j9,ab,af.1,fun k ok al=>?_⟩
 obtain ⟨mk,bT,b8⟩:=Gr af.2 k ok (by simpa using al)
 simp only [Nat.zero_add,Bool.and_eq_true] at b8
 refine ⟨mk,bT,b8.1,fun aL bo aS=>?_⟩
 have fp:=b8.2
 rw [aL,bo,Bool.true_and,show Nat.blt (posOf aU k) (posOf aU i)=true from by rw [Nat.blt_eq];exact aS] at fp
 exact fp
theorem Cert.FG (C:Cert P aR ops calls es cj ao gC au fc order aU):∀p,p≤ops.size→∀t,t≤top→
 (∃k o e,posOf aU k<p∧ops[k]? =some o∧o.dst=some t∧es[posOf aU k]? =some e∧T.get .bad (ak t) (jt es gC p)=e.v)∨
 ((∀k o,posOf aU k<p→ops[k]? =some o→o.dst≠some t)∧T.get .bad (ak t) (jt es gC p)=T.get .bad (ak t) cj)
 | 0,_,t,aI=>.inr ⟨fun k o h=>by omega,by rw [C.cj]⟩
 | p+1,ax,t,aI=>by
   obtain ⟨i,aS,oV⟩:=C.sl p (by omega)
   have eA:ops[i]? =some ops[i]:=Array.getElem?_eq_getElem aS
   obtain ⟨e,ab,af,aK⟩:=C.step i ops[i] eA
   rw [oV] at ab af aK
   have VG:jt es gC p=e.r:=by simp [jt,ab]
   have eB:=TJ (r:=e.r) (v:=e.v) (uW af).1 aI
   rw [aK,eB]
   by_cases bE:ops[i].dst=some t
   · rw [if_pos bE]
     exact .inl ⟨i,_,e,by omega,eA,bE,by rw [oV];exact ab,rfl⟩
   · rw [if_neg bE,←VG]
     rcases Cert.FG C p (by omega) t aI with ⟨k,o,fH,aG,az,aW,bZ,dW⟩ | ⟨aG,az⟩
     · exact .inl ⟨k,o,fH,by omega,az,aW,bZ,dW⟩
     · refine .inr ⟨fun k o al bt=>?_,az⟩
       by_cases jG:k=i
       · subst jG;rw [eA] at bt;cases bt;exact bE
       · refine aG k o ?_ bt
         have qS:=(Array.getElem?_eq_some_iff.1 bt).1
         have:posOf aU k≠p:=fun e=>jG (C.yd qS aS (by rw [e,oV]))
         omega
def nameAt (es:List h1) (au:ag) (aU:List Nat) (k:Nat):aN:=ak (dB es au (posOf aU k)).next
noncomputable def wW (es:List h1) (au:ag) (aU:List Nat) (k:Nat):cp:=(dB es au (posOf aU k+1)).get (nameAt es au aU k)
def Made (es:List h1) (au:ag) (aU:List Nat) (k:Nat):Prop:=(dB es au (posOf aU k+1)).next≠(dB es au (posOf aU k)).next
def jV (ops:Array Oper) (es:List h1) (au:ag) (aU:List Nat) (cY:Array Bool) (s k:Nat):Prop:=
 ∃o,ops[k]? =some o∧(iN o=true∧Made es au aU k)∧¬cY.getD k false=true∧posOf aU k<s
structure Holds (aJ F:Fr) (es:List h1) (au:ag) (aU:List Nat) (D:Nat→Prop):Prop where
 w:F.w=aJ.w
 b4:∀b,(∀k,D k→nameAt es au aU k≠b)→F.j_ b=aJ.j_ b
 new:∀k,D k→F.j_ (nameAt es au aU k)=some (wW es au aU k)∧aJ.j_ (nameAt es au aU k)=none
 inj:∀k bK,D k→D bK→nameAt es au aU k=nameAt es au aU bK→k=bK
theorem Holds.congr {aJ F:Fr} {D GD:Nat→Prop} (H:Holds aJ F es au aU D) (h:∀k,GD k↔D k):Holds aJ F es au aU GD:=
 ⟨H.w,fun b ah=>H.b4 b fun k al=>ah k ((h k).2 al),fun k al=>H.new k ((h k).1 al),fun k bK al eK=>H.inj k bK ((h k).1 al) ((h bK).1 eK)⟩
theorem Holds.none {aJ F:Fr} {D:Nat→Prop} (H:Holds aJ F es au aU D) (h:∀k,¬D k):F=aJ:=by
 have:F.j_=aJ.j_:=funext fun b=>H.b4 b fun k al=>absurd al (h k)
 cases F;cases aJ
 have hw:=H.w
 simp only at this hw
 rw [this,hw]
theorem Cert.advance (C:Cert P aR ops calls es cj ao gC au fc order aU) {aJ:Fr} {cY:Array Bool} {E:Env} {w:World}:∀(d q:Nat),q+d=ops.size→(∀k o,ops[k]? =some o→iN o=true→q≤posOf aU k→¬cY.getD k false=true)→
 ∀F,Holds aJ F es au aU (jV ops es au aU cY q)→bQ F E (dB es au q) w→
 ∃s g3,s ∈ fc∧q≤s∧s≤ops.size∧(∀k o,ops[k]? =some o→gJ P o=true→q≤posOf aU k→s≤posOf aU k)∧Holds aJ g3 es au aU (jV ops es au aU cY s)∧bQ g3 E (dB es au s) w
 | 0,q,aM,_,F,H,S=>by
   have:q=ops.size:=by omega
   subst this
   exact ⟨ops.size,F,C.ends,Nat.le_refl _,Nat.le_refl _,fun k o _ _ h=>h,H,S⟩
 | d+1,q,aM,xF,F,H,S=>by
   obtain ⟨i,aS,oV⟩:=C.sl q (by omega)
   have eA:ops[i]? =some ops[i]:=Array.getElem?_eq_getElem aS
   cases xm:gJ P ops[i] with
   | true=>exact ⟨q,F,by rw [←oV];exact C.mem i _ eA xm,Nat.le_refl _,by omega,fun k o _ _ h=>h,H,S⟩
   | false=>
     obtain ⟨e,ab,af,aK⟩:=C.step i ops[i] eA
     rw [oV] at ab af
     have r4:dB es au q=e.h:=by simp [dB,ab]
     have only:∀k o,ops[k]? =some o→posOf aU k=q→k=i:=fun k o al aH=>C.yd (Array.getElem?_eq_some_iff.1 al).1 aS (by rw [aH,oV])
     have fin:∀g3,Holds aJ g3 es au aU (jV ops es au aU cY (q+1))→bQ g3 E (dB es au (q+1)) w→
      ∃s g3,s ∈ fc∧q≤s∧s≤ops.size∧(∀k o,ops[k]? =some o→gJ P o=true→q≤posOf aU k→s≤posOf aU k)∧Holds aJ g3 es au aU (jV ops es au aU cY s)∧bQ g3 E (dB es au s) w:=by
      intro g3 hJ fN
      obtain ⟨s,mc,bF,bz,b6,fP,jD,mC⟩:=Cert.advance C d (q+1) (by omega) (fun k o ab af aK=>xF k o ab af (by omega)) g3 hJ fN
      refine ⟨s,mc,bF,by omega,b6,fun k o al aA aH=>fP k o al aA ?_,jD,mC⟩
      by_cases Ef:posOf aU k=q
      · have:=only k o al Ef
        subst this
        rw [eA] at al;cases al
        rw [xm] at aA;cases aA
      · omega
     have pass:dB es au (q+1)=e.h→(iN ops[i]=true→¬Made es au aU i)→∃s g3,s ∈ fc∧q≤s∧s≤ops.size∧(∀k o,ops[k]? =some o→gJ P o=true→q≤posOf aU k→s≤posOf aU k)∧Holds aJ g3 es au aU (jV ops es au aU cY s)∧bQ g3 E (dB es au s) w:=by
      intro K5 ji
      rw [←r4] at K5
      refine fin F (H.congr fun k=>⟨?_,?_⟩) (by rw [K5];exact S)
      · rintro ⟨o,aG,az,aW,bZ⟩
        refine ⟨o,aG,az,aW,?_⟩
        have:posOf aU k≠q:=fun e=>by
         have:=only k o aG e
         subst this
         rw [eA] at aG;cases aG
         exact ji az.1 az.2
        omega
      · rintro ⟨o,aG,az,aW,bZ⟩
        exact ⟨o,aG,az,aW,by omega⟩
     cases bH:iN ops[i] with
     | true=>
      rcases JC bH af with ⟨eu,bT,b8⟩ | ⟨bT,_⟩
      ·
       have bk:=S.hold eu
       have aX:nameAt es au aU i=ak (dB es au q).next:=by unfold nameAt;rw [oV]
       have ah:wW es au aU i=eu:=by
        unfold wW
        rw [aX,oV,bT,r4,ag.dT,if_pos rfl]
       rw [r4,←bT] at bk
       have z':Made es au aU i:=by
        unfold Made
        rw [oV,bT,r4]
        exact Nat.succ_ne_self _
       have D8:¬cY.getD i false=true:=xF i _ eA bH (by omega)
       have C1:∀k,jV ops es au aU cY (q+1) k→k=i∨jV ops es au aU cY q k:=by
        rintro k ⟨o,aG,az,aW,bZ⟩
        by_cases Ef:posOf aU k=q
        · exact .inl (only k o aG Ef)
        · exact .inr ⟨o,aG,az,aW,by omega⟩
       have fresh:∀b Ar,F.j_ b=some Ar→b≠nameAt es au aU i:=by
        intro b Ar s_ heq
        obtain ⟨_,_,j,c3,kW⟩:=S.o6 b Ar s_
        rw [heq,aX] at kW
        rw [r4] at c3 kW
        have:=l6 kW
        omega
       have Lh:∀b,b≠nameAt es au aU i→(F.hold (ak e.h.next) eu).j_ b=F.j_ b:=by
        intro b KA
        rw [aX,r4] at KA
        simp only [Fr.hold,if_neg KA]
       have Qm:(F.hold (ak e.h.next) eu).j_ (nameAt es au aU i)=some eu:=by
        rw [aX,r4]
        simp only [Fr.hold,if_true]
       have ne:∀k,jV ops es au aU cY q k→nameAt es au aU k≠nameAt es au aU i:=fun k al=>fresh _ _ (H.new k al).1
       refine fin (F.hold (ak e.h.next) eu) ⟨H.w,fun b s_=>?_,fun k al=>?_,fun k bK al eK he=>?_⟩ bk
       · have s':b≠nameAt es au aU i:=fun e=>s_ i ⟨_,eA,⟨bH,z'⟩,D8,by omega⟩ e.symm
         rw [Lh b s']
         exact H.b4 b fun k al=>s_ k (by obtain ⟨o,aG,az,aW,bZ⟩:=al;exact ⟨o,aG,az,aW,by omega⟩)
       · rcases C1 k al with rfl | al
         · refine ⟨by rw [Qm,ah],?_⟩
           cases aH:aJ.j_ (nameAt es au aU k) with
           | none=>rfl
           | some Ar=>
             exfalso
             have:=H.b4 (nameAt es au aU k) fun bK eK=>ne bK eK
             rw [aH] at this
             exact fresh _ _ this rfl
         · rw [Lh _ (ne k al)]
           exact H.new k al
       · rcases C1 k al with rfl | al<;>rcases C1 bK eK with rfl | eK
         · rfl
         · exact absurd he.symm (ne bK eK)
         · exact absurd he (ne k al)
         · exact H.inj k bK al eK he
      · refine pass bT fun _ hm=>hm ?_
        rw [oV,bT,r4]
     | false=>
       have eL:ht P ops[i].op=false:=by
        unfold gJ at xm
        rw [bH] at xm
        simpa using xm
       exact pass (w6 eL af).1 fun h=>by rw [bH] at h;cases h
structure uy (P:Program) (aJ:Fr) (aR:Nat) (ops:Array Oper) (es:List h1) (cj:cB) (au:ag) (fc aU:List Nat) (kF:Env) (cY:Array Bool) (a:Act) (w:World):Prop where
 AA:cY.size=ops.size
 size:a.tmps.size=aR
 defers:a.defers=[]
 down:B5 ops fun k=>cY.getD k false=true
 main:∃E s F,kF.le E∧s ∈ fc∧s≤ops.size∧(∀k o,ops[k]? =some o→gJ P o=true→(cY.getD k false=true↔posOf aU k<s))∧
  (∀k o,ops[k]? =some o→iN o=true→cY.getD k false=true→posOf aU k<s)∧Holds aJ F es au aU (jV ops es au aU cY s)∧bQ F E (dB es au s) w∧
  ∀t,t≤top→(∃k o e,cY.getD k false=true∧ops[k]? =some o∧o.dst=some t∧es[posOf aU k]? =some e∧Rel E e.v (a.tmps.getD t undef))∨
   ((∀k o,cY.getD k false=true→ops[k]? =some o→o.dst≠some t)∧Rel E (T.get .bad (ak t) cj) (a.tmps.getD t undef))
theorem u9 {l:Array Bool} {i:Nat}:l.getD i false=true↔l[i]? =some true:=by
 rw [Array.getD_eq_getD_getElem?]
 cases l[i]? with
 | none=>simp
 | some b=>cases b<;>simp
theorem lV {l:Array Bool} {i k:Nat} (ax:i<l.size):(l.setIfInBounds i true).getD k false=true↔(k=i∨l.getD k false=true):=by
 rw [u9,u9,Array.getElem?_setIfInBounds]
 by_cases h:i=k
 · subst h;simp [ax]
 · have:¬k=i:=fun e=>h e.symm
   simp [h,this]
theorem S7 {aJ:Fr} (dU:i' P) (je:∀i,jS P (calls i)) (iI:∀i,kd P (calls i)) (C:Cert P aR ops calls es cj ao gC au fc order aU) {kF:Env} {cY:Array Bool} {a:Act} {w:World} (I:uy P aJ aR ops es cj au fc aU kF cY a w)
 {i:Nat} (ax:i ∈ Region.ready .any ops cY) {Q:Exit→Act→World→Prop} {K:Act→World→Prop} (cV:∀cc aC,uy P aJ aR ops es cj au fc aU kF (cY.setIfInBounds i true) cc aC→K cc aC):wpOp P ops Q i K a w:=by
 rw [mem_ready] at ax
 obtain ⟨E,s,F,xf,bk,vr,lX,kQ,kS,tn,vq⟩:=I.main
 obtain ⟨xF,o,eA,UG⟩:=ax
 have oP:i<ops.size:=(Array.getElem?_eq_some_iff.1 eA).1
 have pI:¬cY.getD i false=true:=by
  rw [u9]
  intro h
  rw [Array.getD_eq_getD_getElem?,h] at xF
  simp at xF
 have KP:=E0 I.down ops.toList [] (fun j=>by simp) (fun k m j al=>by simp at al)
 have Ks:B5 ops fun k=>cY.getD k false=true∨k=i:=by
  intro k ok e al b7 he ah
  rcases al with al | rfl
  · exact .inl (I.down k ok e al b7 he ah)
  · rw [eA] at b7;cases b7
    exact .inl (UG e (Array.mem_toList_iff.1 he) (by rw [Hl];exact ah))
 have Vh:=E0 Ks ops.toList [] (fun j=>by simp) (fun k m j al=>by simp at al)
 obtain ⟨j9,KQ,Eb,KX⟩:=C.zJ eA
 have DI:∀k,k≠i→kg j9 k=true→cY.getD k false=true:=by
  intro k al ah
  rcases Vh i j9 k KQ ah (.inr rfl) with h | h
  · exact h
  · exact absurd h al
 obtain ⟨e,qP,dy,aeR⟩:=C.step i o eA
 have mN:=(C.lB i oP).1
 have vi:=uW dy
 have fe:jt es gC (posOf aU i)=e.r:=by simp [jt,qP]
 have iq:dB es au (posOf aU i)=e.h:=by simp [dB,qP]
 have uniq:∀(k bK:Nat) (ok j':Oper) (t:Nat),ops[k]? =some ok→ops[bK]? =some j'→ok.dst=some t→j'.dst=some t→k=bK:=by
  intro k bK ok j' t ab af aK bM
  obtain ⟨mk,_,_,aH⟩:=C.zJ ab
  obtain ⟨mk',_,iL,_⟩:=aH bK j' af
  unfold x_ at iL
  rw [nq] at iL
  by_cases jg:k=bK
  · exact jg
  · rw [if_neg jg,bM,aK] at iL
    simp at iL
 have reads:∀t ∈ fs ops o,Rel E (T.get .bad (ak t) e.r) (a.tmps.getD t undef):=by
  intro t aI
  have Ae:t≤top:=by
   have:=List.all_eq_true.1 vi.2 t aI
   exact Nat.le_of_ble_eq_true this
  have Mw:∀(k:Nat) (ok:Oper),k≠i→ops[k]? =some ok→ok.dst=some t→∃mk,(j8 [] ops.toList)[k]? =some mk∧(posOf aU k<posOf aU i→kg j9 k=true)∧(¬posOf aU k<posOf aU i→kg mk i=true):=by
   intro k ok al b7 bE
   obtain ⟨mk,aG,az,_⟩:=KX k ok b7
   refine ⟨mk,aG,?_⟩
   unfold x_ at az
   rw [nq,if_neg (fun e=>al e.symm),bE] at az
   simp only [Bool.and_eq_true] at az
   have aW:=az.1
   rw [show (fs ops o).contains t=true from by simpa using aI] at aW
   simp only [cond_true] at aW
   refine ⟨fun aS=>?_,fun UU=>?_⟩
   · rw [show Nat.blt (posOf aU k) (posOf aU i)=true from by rw [Nat.blt_eq];exact aS] at aW
     exact aW
   · rw [show Nat.blt (posOf aU k) (posOf aU i)=false from by rw [←Bool.not_eq_true,Nat.blt_eq];exact UU] at aW
     exact aW
  rw [←fe]
  rcases C.FG (posOf aU i) (by omega) t Ae with ⟨k,ok,C9,aG,az,aW,bZ,dW⟩ | ⟨aG,az⟩
  · obtain ⟨mk,_,ff,_⟩:=Mw k ok (fun e=>by subst e;omega) az aW
    have Vd:=DI k (fun e=>by subst e;omega) (ff aG)
    rcases vq t Ae with ⟨bK,j',C',b_,b1,cy,gB,hV⟩ | ⟨b_,_⟩
    · have:=uniq k bK ok j' t az b1 aW cy
      subst this
      rw [bZ] at gB;cases gB
      rw [dW];exact hV
    · exact absurd aW (b_ k ok Vd az)
  · rcases vq t Ae with ⟨bK,j',C',b_,b1,cy,gB,hV⟩ | ⟨_,b1⟩
    · have jG:bK≠i:=fun e=>pI (e ▸ b_)
      obtain ⟨mk,nV,_,fT⟩:=Mw bK j' jG b1 cy
      by_cases aS:posOf aU bK<posOf aU i
      · exact absurd cy (aG bK j' aS b1)
      · exact absurd (KP bK mk i nV (fT aS) b_) pI
    · rw [az];exact b1
 have jH:i<cY.size:=by rw [I.AA];exact oP
 have after:∀(gY:Nat) (g3:Fr) (aP:Env) (x:Value) (aC:World),gY ∈ fc→gY≤ops.size→(∀k ok,ops[k]? =some ok→gJ P ok=true→((k=i∨cY.getD k false=true)↔posOf aU k<gY))→
  (∀k ok,ops[k]? =some ok→iN ok=true→(k=i∨cY.getD k false=true)→posOf aU k<gY)→
  Holds aJ g3 es au aU (jV ops es au aU (cY.setIfInBounds i true) gY)→E.le aP→Rel aP e.v x→bQ g3 aP (dB es au gY) aC→
  uy P aJ aR ops es cj au fc aU kF (cY.setIfInBounds i true) (a.put o.dst x) aC:=by
  intro gY g3 aP x aC kq VV nH Uo UW hle an VT
  refine ⟨by simp [I.AA],by cases h:o.dst<;>simp [Act.put,I.size],by cases h:o.dst<;>simp [Act.put,I.defers],?_,aP,gY,g3,xf.trans hle,kq,VV,fun k ok ab af=>by rw [lV jH];exact nH k ok ab af,
   fun k ok ab af aK=>Uo k ok ab af ((lV jH).1 aK),UW,VT,fun t aI=>?_⟩
  · intro k ok fH al b7 ko ah
    rw [lV jH] at al ⊢
    rcases Ks k ok fH al.symm b7 ko ah with h | h
    · exact .inr h
    · exact .inl h
  · by_cases bE:o.dst=some t
    · refine .inl ⟨i,o,e,by rw [lV jH];exact .inl rfl,eA,bE,qP,?_⟩
      have aS:t<a.tmps.size:=by
       have:=vi.1
       rw [bE] at this
       simp only [iD,Bool.and_eq_true,Nat.blt_eq] at this
       rw [I.size];exact this.1
      rw [bE]
      simp only [Act.put]
      rw [Array.getD_eq_getD_getElem?,Array.getElem?_setIfInBounds,if_pos rfl,if_pos aS]
      exact an
    · have eB:(a.put o.dst x).tmps.getD t undef=a.tmps.getD t undef:=by
       cases Vs:o.dst with
       | none=>rfl
       | some d=>
         simp only [Act.put]
         rw [Array.getD_eq_getD_getElem?,Array.getD_eq_getD_getElem?,Array.getElem?_setIfInBounds,if_neg (fun e=>bE (by rw [Vs,e]))]
      rw [eB]
      rcases vq t aI with ⟨k,ok,C9,b_,b1,cy,gB,hV⟩ | ⟨b_,b1⟩
      · exact .inl ⟨k,ok,C9,by rw [lV jH];exact .inr b_,b1,cy,gB,Rel.mono hle _ _ hV⟩
      · refine .inr ⟨fun k ok al b7=>?_,Rel.mono hle _ _ b1⟩
        rw [lV jH] at al
        rcases al with rfl | al
        · rw [eA] at b7;cases b7;exact bE
        · exact b_ k ok al b7
 have DO:¬(iN o=true∧Made es au aU i)→∀gY k,jV ops es au aU (cY.setIfInBounds i true) gY k↔jV ops es au aU cY gY k:=by
  intro bH gY k
  constructor
  · rintro ⟨ok,aG,az,aW,bZ⟩
    exact ⟨ok,aG,az,fun h=>aW ((lV jH).2 (.inr h)),bZ⟩
  · rintro ⟨ok,aG,az,aW,bZ⟩
    refine ⟨ok,aG,az,fun h=>?_,bZ⟩
    rcases (lV jH).1 h with rfl | h
    · rw [eA] at aG;cases aG;exact bH az
    · exact aW h
 have level:ht P o.op=true→s≤posOf aU i→s=posOf aU i∧iN o=false:=by
  intro mI hle
  rcases C.Og s bk with h | ⟨k,ok,bT,b8,fp⟩
  · omega
  · have Vp:¬cY.getD k false=true:=fun h=>by have:=(lX k ok bT b8).1 h;omega
    have qS:=(Array.getElem?_eq_some_iff.1 bT).1
    by_cases jG:k=i
    · subst jG
      rw [eA] at bT;cases bT
      refine ⟨fp,?_⟩
      unfold gJ at b8
      simpa [mI] using b8
    · have aS:posOf aU k<posOf aU i:=by
       have:posOf aU k≠posOf aU i:=fun e=>jG (C.yd qS oP e)
       omega
      obtain ⟨mk,_,_,aW⟩:=KX k ok bT
      exact absurd (DI k jG (aW mI b8 aS)) Vp
 cases mI:ht P o.op with
 | true=>
   cases bH:iN o with
   | true=>
     have aS:posOf aU i<s:=by
      rcases Nat.lt_or_ge (posOf aU i) s with h | h
      · exact h
      · have:=(level mI h).2
        rw [bH] at this;cases this
     by_cases hm:Made es au aU i
     case neg=>
      have El:(gn P aR ops o).run (calls i) e.r (dB es au s)=.val e.v (dB es au s):=by
       rcases JC bH dy with ⟨eu,bT,_⟩ | ⟨_,bT⟩
       · exact absurd (show Made es au aU i from by unfold Made;rw [bT,iq];exact Nat.succ_ne_self _) hm
       · exact bT _
      refine zt dU (je i) (iI i) eA El I.size I.defers reads tn fun aP x aC aG az aW=>cV _ _ (after s F aP x aC bk vr (fun k ok b7 iJ=>?_) (fun k ok b7 oR al=>?_) (kS.congr fun k=>DO (fun h=>hm h.2) s k) aG az aW)
      · constructor
        · rintro (rfl | h)
          · rw [eA] at b7;cases b7
            unfold gJ at iJ
            rw [bH] at iJ
            simp at iJ
          · exact (lX k ok b7 iJ).1 h
        · intro h
          exact .inr ((lX k ok b7 iJ).2 h)
      · rcases al with rfl | al
        · exact aS
        · exact kQ k ok b7 oR al
     have pC:jV ops es au aU cY s i:=⟨o,eA,⟨bH,hm⟩,pI,aS⟩
     have D5:(dB es au (posOf aU i+1)).next≠e.h.next:=by rw [←iq];exact hm
     have ji:nameAt es au aU i=ak e.h.next:=by unfold nameAt;rw [iq]
     have qW:=(kS.new i pC).1
     have ts:=(kS.new i pC).2
     have nC:wW es au aU i=(dB es au (posOf aU i+1)).get (ak e.h.next):=by unfold wW;rw [ji]
     rw [ji,nC] at qW
     refine S5 eA bH dy I.size I.defers reads tn D5 qW fun aP x aC aG az aW=>cV _ _ (after s (F.free (ak e.h.next)) aP x aC bk vr (fun k ok b7 iJ=>?_) (fun k ok b7 oR al=>?_) ?_ aG az aW)
     · constructor
       · rintro (rfl | h)
         · rw [eA] at b7;cases b7
           unfold gJ at iJ
           rw [bH] at iJ
           simp at iJ
         · exact (lX k ok b7 iJ).1 h
       · intro h
         exact .inr ((lX k ok b7 iJ).2 h)
     · rcases al with rfl | al
       · exact aS
       · exact kQ k ok b7 oR al
     · have sub:∀k,jV ops es au aU (cY.setIfInBounds i true) s k→jV ops es au aU cY s k∧k≠i:=by
        rintro k ⟨ok,aG,az,aW,bZ⟩
        refine ⟨⟨ok,aG,az,fun h=>aW ((lV jH).2 (.inr h)),bZ⟩,fun e=>aW ((lV jH).2 (.inl e))⟩
       refine ⟨kS.w,fun b ah=>?_,fun k al=>?_,fun k bK al eK=>kS.inj k bK (sub k al).1 (sub bK eK).1⟩
       · by_cases s':b=ak e.h.next
         · subst s'
           simp only [Fr.free,if_true]
           rw [←ji,ts]
         · simp only [Fr.free,if_neg s']
           refine kS.b4 b fun k al=>?_
           by_cases jG:k=i
           · subst jG;rw [ji];exact fun e=>s' e.symm
           · obtain ⟨ok,aG,az,aW,bZ⟩:=al
             refine ah k ⟨ok,aG,az,fun h=>?_,bZ⟩
             rcases (lV jH).1 h with h | h
             · exact jG h
             · exact aW h
       · obtain ⟨kU,jG⟩:=sub k al
         have eL:nameAt es au aU k≠ak e.h.next:=fun e=>jG (kS.inj k i kU pC (by rw [e,ji]))
         simp only [Fr.free,if_neg eL]
         exact kS.new k kU
   | false=>
     have Uu:gJ P o=true:=by unfold gJ;rw [mI,bH];rfl
     have VS:s≤posOf aU i:=by
      rcases Nat.lt_or_ge (posOf aU i) s with h | h
      · exact absurd ((lX i o eA Uu).2 h) pI
      · exact h
     have Ad:=(level mI VS).1
     rw [←iq,←Ad] at dy
     refine zt dU (je i) (iI i) eA dy I.size I.defers reads tn fun aP x aC aG az aW=>?_
     rw [Ad] at aW
     have Vc:∀k ok,ops[k]? =some ok→iN ok=true→posOf aU i+1≤posOf aU k→¬(cY.setIfInBounds i true).getD k false=true:=by
      intro k ok b7 oR aH h
      rcases (lV jH).1 h with rfl | h
      · omega
      · have:=kQ k ok b7 oR h
        omega
     have UZ:Holds aJ F es au aU (jV ops es au aU (cY.setIfInBounds i true) (posOf aU i+1)):=by
      refine kS.congr fun k=>?_
      rw [DO (fun h=>by rw [bH] at h;cases h.1)]
      constructor
      · rintro ⟨ok,dN,db,z3,z4⟩
        refine ⟨ok,dN,db,z3,?_⟩
        have qS:=(Array.getElem?_eq_some_iff.1 dN).1
        have:posOf aU k≠posOf aU i:=fun e=>by
         have:=C.yd qS oP e
         subst this
         rw [eA] at dN;cases dN
         rw [bH] at db;cases db.1
        omega
      · rintro ⟨ok,dN,db,z3,z4⟩
        exact ⟨ok,dN,db,z3,by omega⟩
     obtain ⟨gY,g3,bF,bz,b6,fP,jD,mC⟩:=C.advance (ops.size - (posOf aU i+1)) (posOf aU i+1) (by omega) Vc F UZ aW
     refine cV _ _ (after gY g3 aP x aC bF b6 (fun k ok b7 iJ=>?_) (fun k ok b7 oR al=>?_) jD aG az mC)
     · have qS:=(Array.getElem?_eq_some_iff.1 b7).1
       constructor
       · rintro (rfl | h)
         · omega
         · have:=(lX k ok b7 iJ).1 h
           omega
       · intro h
         by_cases jG:k=i
         · exact .inl jG
         · refine .inr ((lX k ok b7 iJ).2 ?_)
           rcases Nat.lt_or_ge (posOf aU k) s with cv | cv
           · exact cv
           · have eL:posOf aU k≠posOf aU i:=fun e=>jG (C.yd qS oP e)
             have:=fP k ok b7 iJ (by omega)
             omega
     · rcases al with rfl | al
       · omega
       · have:=kQ k ok b7 oR al
         omega
 | false=>
   have bH:iN o=false:=by
    cases h:iN o with
    | false=>rfl
    | true=>rw [WI h] at mI;cases mI
   obtain ⟨c,aA,El⟩:∃c,(jS P c∧kd P c)∧(gn P aR ops o).run c e.r (dB es au s)=.val e.v (dB es au s):=by
    cases fm:looks o.op with
    | false=>exact ⟨_,⟨je i,iI i⟩,(w6 mI dy).2 fm _⟩
    | true=>
      obtain ⟨fH,aG,az⟩:=C.ask i o eA fm mI
      rw [qP] at aG;cases aG
      obtain ⟨c,aa,aA,aW⟩:=az s bk (OW (by rw [LY];simp) fun k mk ok ab af=>by
       simp only [Nat.zero_add]
       have b7:ops[k]? =some ok:=by simpa using af
       cases xw:gJ P ok with
       | false=>rfl
       | true=>
         simp only [cond_true]
         cases r5:Nat.blt (posOf aU k) s with
         | true=>
           rw [Nat.blt_eq] at r5
           simp only [cond_true,Bool.not_eq_true']
           cases ah:kg mk i with
           | false=>rfl
           | true=>exact absurd (KP k mk i ab ah ((lX k ok b7 xw).2 r5)) pI
         | false=>
           have U8:¬posOf aU k<s:=by rw [←Nat.blt_eq,r5];simp
           simp only [cond_false,Bool.not_eq_true',KQ,Option.getD_some]
           cases ah:kg j9 k with
           | false=>rfl
           | true=>
             by_cases jG:k=i
             · subst jG
               rw [eA] at b7;cases b7
               unfold gJ at xw
               rw [mI] at xw;cases xw
             · exact absurd ((lX k ok b7 xw).1 (DI k jG ah)) U8)
      rw [(w6 mI aW).1] at aW
      exact ⟨c,aA,aW⟩
   refine zt dU aA.1 aA.2 eA El I.size I.defers reads tn fun aP x aC aG az aW=>cV _ _ (after s F aP x aC bk vr (fun k ok b7 iJ=>?_) (fun k ok b7 oR al=>?_) (kS.congr fun k=>DO (fun h=>by rw [bH] at h;cases h.1) s k) aG az aW)
   · constructor
     · rintro (rfl | h)
       · rw [eA] at b7;cases b7
         unfold gJ at iJ
         rw [mI] at iJ;cases iJ
       · exact (lX k ok b7 iJ).1 h
     · intro h
       exact .inr ((lX k ok b7 iJ).2 h)
   · rcases al with rfl | al
     · rw [eA] at b7;cases b7;rw [bH] at oR;cases oR
     · exact kQ k ok b7 oR al
theorem JF {aJ:Fr} (dU:i' P) (je:∀i,jS P (calls i)) (iI:∀i,kd P (calls i)) (C:Cert P aR ops calls es cj ao gC au fc order aU) {kF:Env} {Q:Exit→Act→World→Prop}
 (cU:∀aP cc aC,kF.le aP→gm aP aR gC cc→bQ aJ aP au aC→Q .normal cc aC):∀(fuel:Nat) (cY:Array Bool) (a:Act) (w:World),(List.range ops.size).countP (fun i=>!cY.getD i false)≤fuel→
 uy P aJ aR ops es cj au fc aU kF cY a w→wpAny P .any ops Q fuel cY a w:=by
 have done:∀(cY:Array Bool) (a:Act) (w:World),uy P aJ aR ops es cj au fc aU kF cY a w→Region.ready .any ops cY=[]→∀i,i<ops.size→cY.getD i false=true:=by
  intro cY a w I aT i
  induction i using Nat.strongRecOn with
  | _ i bb=>
    intro ax
    cases jH:cY.getD i false with
    | true=>rfl
    | false=>
      exfalso
      have eA:ops[i]? =some ops[i]:=Array.getElem?_eq_getElem ax
      obtain ⟨j9,_,Eb,_⟩:=C.zJ eA
      have:i ∈ Region.ready .any ops cY:=by
       rw [mem_ready]
       refine ⟨?_,ops[i],eA,fun e he ah=>?_⟩
       · have eC:i<cY.size:=by rw [I.AA];exact ax
         rw [Array.getD_eq_getD_getElem?,Array.getElem?_eq_getElem eC] at jH ⊢
         exact jH
       · have ab:=List.all_eq_true.1 Eb e (Array.mem_toList_iff.2 he)
         rw [Hl] at ah
         rw [ah] at ab
         simp only [Bool.not_true,Bool.false_or,Nat.blt_eq] at ab
         exact bb e.on ab (by omega)
      rw [aT] at this
      simp at this
 have finish:∀(cY:Array Bool) (a:Act) (w:World),uy P aJ aR ops es cj au fc aU kF cY a w→Region.ready .any ops cY=[]→Q .normal a w:=by
  intro cY a w I aT
  have kQ:=done cY a w I aT
  obtain ⟨E,s,F,xf,bk,vr,lX,_,kS,tn,vq⟩:=I.main
  have z1:dB es au ops.size=au:=by
   have:es[ops.size]? =none:=List.getElem?_eq_none (by rw [C.len];exact Nat.le_refl _)
   simp [dB,this]
  have K4:jt es gC ops.size=gC:=by
   have:es[ops.size]? =none:=List.getElem?_eq_none (by rw [C.len];exact Nat.le_refl _)
   simp [jt,this]
  have Ad:s=ops.size:=by
   rcases C.Og s bk with h | ⟨k,ok,bT,b8,fp⟩
   · exact h
   · have:=(lX k ok bT b8).1 (kQ k (Array.getElem?_eq_some_iff.1 bT).1)
     omega
  subst Ad
  have rY:F=aJ:=kS.none fun k al=>by
   obtain ⟨ok,aG,az,aW,bZ⟩:=al
   exact aW (kQ k (Array.getElem?_eq_some_iff.1 aG).1)
  subst rY
  rw [z1] at tn
  refine cU E a w xf ⟨I.size,I.defers,fun t aI=>?_⟩ tn
  have V5:∀(k bK:Nat) (ok j':Oper),ops[k]? =some ok→ops[bK]? =some j'→ok.dst=some t→j'.dst=some t→k=bK:=by
   intro k bK ok j' ab af aK bM
   obtain ⟨mk,_,_,aH⟩:=C.zJ ab
   obtain ⟨mk',_,iL,_⟩:=aH bK j' af
   unfold x_ at iL
   rw [nq] at iL
   by_cases jg:k=bK
   · exact jg
   · rw [if_neg jg,bM,aK] at iL
     simp at iL
  rcases C.FG ops.size (Nat.le_refl _) t aI with ⟨k,ok,C9,aG,az,aW,bZ,dW⟩ | ⟨aG,az⟩
  · rw [K4] at dW
    rcases vq t aI with ⟨bK,j',C',b_,b1,cy,gB,hV⟩ | ⟨b_,_⟩
    · have:=V5 k bK ok j' az b1 aW cy
      subst this
      rw [bZ] at gB;cases gB
      rw [dW];exact hV
    · exact absurd aW (b_ k ok (kQ k (Array.getElem?_eq_some_iff.1 az).1) az)
  · rw [K4] at az
    rcases vq t aI with ⟨bK,j',C',b_,b1,cy,gB,hV⟩ | ⟨_,b1⟩
    · exact absurd cy (aG bK j' (C.lB bK (Array.getElem?_eq_some_iff.1 b1).1).1 b1)
    · rw [az];exact b1
 intro fuel
 induction fuel with
 | zero=>
   intro cY a w aA I
   have kQ:∀i,i<ops.size→cY.getD i false=true:=by
    intro i ax
    have ao:(List.range ops.size).countP (fun i=>!cY.getD i false)=0:=by omega
    rw [List.countP_eq_zero] at ao
    simpa using ao i (List.mem_range.2 ax)
   have aT:Region.ready .any ops cY=[]:=by
    cases aM:Region.ready .any ops cY with
    | nil=>rfl
    | cons j bd=>
      exfalso
      have bC:j ∈ Region.ready .any ops cY:=by rw [aM];simp
      rw [mem_ready] at bC
      obtain ⟨ab,o,af,_⟩:=bC
      have:=kQ j (Array.getElem?_eq_some_iff.1 af).1
      rw [u9] at this
      rw [Array.getD_eq_getD_getElem?,this] at ab
      simp at ab
   exact ⟨aT,finish cY a w I aT⟩
 | succ fuel bb=>
   intro cY a w aA I
   refine ⟨fun aT=>finish cY a w I aT,fun i ax=>?_⟩
   refine S7 dU je iI C I ax fun cc aC Pj=>bb _ cc aC ?_ Pj
   have nG:=ax
   rw [mem_ready] at nG
   obtain ⟨ab,o,af,_⟩:=nG
   have oP:i<ops.size:=(Array.getElem?_eq_some_iff.1 af).1
   have jH:i<cY.size:=by rw [I.AA];exact oP
   have pI:cY.getD i false=false:=by
    rw [Array.getD_eq_getD_getElem?,Array.getElem?_eq_getElem jH] at ab ⊢
    exact ab
   have:=Jy (fun k=>!cY.getD k false) (fun k=>!(cY.setIfInBounds i true).getD k false) (List.range ops.size)
    (fun k _ al=>by
      simp only [Bool.not_eq_true'] at al ⊢
      cases aM:cY.getD k false with
      | false=>rfl
      | true=>
        have:=(lV (k:=k) jH).2 (.inr aM)
        rw [al] at this
        cases this)
    ⟨i,List.mem_range.2 oP,by simp [pI],by
      have:=(lV (k:=i) jH).2 (.inl rfl)
      simp [this]⟩
   omega
theorem S6 {aJ:Fr} {E:Env} {h aa:ag} {w:World} {id:Nat} (eY:P.follows .mixedOrders=true) (dU:i' P) (je:jS P call) (iI:kd P call) {r bI:cB} {a:Act}
 (he:(zu P aR ops).run call r h=.ok bI aa) (k:gm E aR r a) (s:bQ aJ E h w) {Q:Exit→Act→World→Prop}
 (cU:∀aP cc aC,E.le aP→gm aP aR bI cc→bQ aJ aP aa aC→Q .normal cc aC):(Code.region id ops true).wp P Q a w:=by
 unfold zu at he
 generalize x' P ops=order at he
 generalize AZ order 0 ops.toList=aU at he
 unfold JE at he
 cases au:(vS ops.size order aU&&uX P ops aU) with
 | false=>rw [au] at he;cases he
 | true=>
   rw [au] at he
   simp only [cond_true] at he
   simp only [Bool.and_eq_true] at au
   obtain ⟨pJ,vi⟩:=au
   unfold vS at pJ
   simp only [Bool.and_eq_true,Nat.beq_eq] at pJ
   obtain ⟨D9,Vr,D',D_⟩:=pJ
   have lB:∀k,k<ops.size→posOf aU k<ops.size∧order[posOf aU k]? =some k:=by
    intro k al
    have a1:aU[k]? =some (posOf aU k):=by
     unfold posOf
     rw [List.getElem?_eq_getElem (by omega)]
     rfl
    have:=yb D' a1
    rw [Nat.zero_add] at this
    exact ⟨by have:=(List.getElem?_eq_some_iff.1 this).1;omega,this⟩
   have sl:∀p,p<ops.size→∃i,i<ops.size∧posOf aU i=p:=by
    intro p aH
    have a1:order[p]? =some (order[p]'(by omega)):=List.getElem?_eq_getElem (by omega)
    have:=yb D_ a1
    rw [Nat.zero_add] at this
    refine ⟨order[p]'(by omega),by have:=(List.getElem?_eq_some_iff.1 this).1;omega,?_⟩
    unfold posOf
    rw [this]
    rfl
   have main:∀(q:BM),
    (∀es nE,(p8 P aR ops (nX ops order)).run call r h=.ok es bI nE→q.run call es nE=true→∀j o,ops[j]? =some o→looks o.op=true→ht P o.op=false→∃e,es[posOf aU j]? =some e∧∀s ∈ ks P aU 0 ops.toList,
      tP P (j8 [] ops.toList) ops.toList aU j (((j8 [] ops.toList)[j]?).getD 0) s=true→∃aa,(gn P aR ops o).run call e.r (dB es nE s)=.val e.v aa)→
    zv (p8 P aR ops (nX ops order)) q call r h=.ok bI aa→(Code.region id ops true).wp P Q a w:=by
    intro q DC dy
    unfold zv at dy
    cases cZ:(p8 P aR ops (nX ops order)).run call r h with
    | fail=>rw [cZ] at dy;cases dy
    | ok es Bl cv=>
      rw [cZ] at dy
      simp only at dy
      cases aM:q.run call es cv with
      | false=>rw [aM] at dy;cases dy
      | true=>
        rw [aM] at dy
        simp only [cond_true,pj.ok.injEq] at dy
        obtain ⟨rfl,rfl⟩:=dy
        obtain ⟨aG,az,aW,bZ⟩:=F1 cZ
        have C:Cert P aR ops (fun _=>call) es r h Bl cv (ks P aU 0 ops.toList) order aU:=
         ⟨by rw [aG,Fj,D9],lB,sl,az,aW,fun i o bt=>bZ _ o (vQ (lB i (Array.getElem?_eq_some_iff.1 bt).1).2 bt),vi,
           by simpa using EU (P:=P) (aU:=aU) (l:=ops.toList) (i:=0),
           fun j o ab af=>by simpa using EV (aU:=aU) (i:=0) (j:=j) (l:=ops.toList) (by simpa using ab) af,
           fun s bk=>by
            rcases xS bk with h | ⟨j,o,ab,af,aK⟩
            · exact .inl (by simpa using h)
            · exact .inr ⟨j,o,by simpa using ab,af,by simpa using aK⟩,
           fun j o ab af aK=>by
            obtain ⟨e,bF,bz⟩:=DC es cv cZ aM j o ab af aK
            exact ⟨e,bF,fun s bk hm=>by obtain ⟨aa,b6⟩:=bz s bk hm;exact ⟨_,aa,⟨je,iI⟩,b6⟩⟩⟩
        have fv:∀k,¬(Array.replicate ops.size false).getD k false=true:=by
         intro k
         rw [u9,Array.getElem?_replicate]
         split<;>simp
        have kS:Holds aJ aJ es cv aU (jV ops es cv aU (Array.replicate ops.size false) 0):=
         ⟨rfl,fun _ _=>rfl,fun k al=>(by obtain ⟨_,_,_,_,ao⟩:=al;omega),fun k bK al=>(by obtain ⟨_,_,_,_,ao⟩:=al;omega)⟩
        obtain ⟨gY,g3,bF,bz,b6,fP,jD,mC⟩:=C.advance ops.size 0 (by omega) (fun k o _ _ _=>fv k) aJ kS (E:=E) (w:={w with drawn:=w.drawn}) (by rw [az];exact s.same rfl rfl rfl rfl)
        refine wp_region_any eY (JF dU (fun _=>je) (fun _=>iI) C (kF:=E) cU ops.size _ a _ ?_ ?_)
        · exact Nat.le_trans List.countP_le_length (by simp)
        · refine ⟨by simp,k.size,k.defers,fun bK o e al=>absurd al (fv bK),E,gY,g3,Env.le.refl E,bF,b6,fun bK o ab af=>⟨fun h=>absurd h (fv bK),fun h=>by have:=fP bK o ab af (Nat.zero_le _);omega⟩,
           fun bK o _ _ h=>absurd h (fv bK),jD,?_,fun t aI=>.inr ⟨fun bK o al=>absurd al (fv bK),k.aj t aI⟩⟩
          exact mC.same rfl rfl rfl rfl
   cases aB:qw P ops.toList with
   | false=>
     rw [aB] at he
     have none:∀(l:List Oper),qw P l=false→∀(j:Nat) (o:Oper),l[j]? =some o→ht P o.op=false:=by
      intro l
      induction l with
      | nil=>intro _ j o h;simp at h
      | cons x l bb=>
        intro h j o bt
        simp only [qw,Bool.or_eq_false_iff] at h
        cases j with
        | zero=>simp only [List.getElem?_cons_zero,Option.some.injEq] at bt;subst bt;exact h.1
        | succ j=>exact bb h.2 j o (by simpa using bt)
     refine main _ (fun es nE cZ _ j o bt fm aM=>?_) he
     obtain ⟨aG,az,aW,bZ⟩:=F1 cZ
     have bC:=(Array.getElem?_eq_some_iff.1 bt).1
     obtain ⟨e,b_,b1,cy⟩:=bZ _ o (vQ (lB j bC).2 bt)
     refine ⟨e,b_,fun s bk _=>?_⟩
     have kq:s=ops.size:=by
      rcases xS bk with h | ⟨Ap,dI,ab,af,aK⟩
      · simpa using h
      · have:=none _ aB Ap dI ab
        unfold gJ at af
        rw [this] at af
        cases af
     have flat:∀d,d≤ops.size→dB es nE d=dB es nE 0:=by
      intro d
      induction d with
      | zero=>intro _;rfl
      | succ d bb=>
        intro bE
        obtain ⟨i,nF,nG⟩:=sl d (by omega)
        have eA:ops[i]? =some ops[i]:=Array.getElem?_eq_getElem nF
        obtain ⟨Ta,eE,di,_⟩:=bZ _ ops[i] (vQ (lB i nF).2 eA)
        rw [nG] at eE di
        have eL:ht P ops[i].op=false:=none _ aB i _ (by simp)
        rw [(w6 eL di).1,←bb (by omega)]
        simp [dB,eE]
     have Vz:=(lB j bC).1
     have:e.h=dB es nE s:=by rw [kq,flat ops.size (Nat.le_refl _),←flat (posOf aU j) (by omega)];simp [dB,b_]
     rw [←this]
     exact ⟨_,b1⟩
   | true=>
     rw [aB] at he
     refine main _ (fun es nE cZ aM j o bt fm VD=>?_) he
     have:=Hb aM j o (by simpa using bt) fm VD
     simpa using this
end
end Go.Proofs.YtjbiefneffiogaaGreat.ba
namespace Go.Proofs.YtjbiefneffiogaaGreat.ba
variable [Lay]
open Go Go.RowKit
def uq:cr→Exit
 | .normal=>.normal
 | .exit id=>.exit id
 | .ret=>.ret
def rK (C:Ctx):Prop:=
 ∀f p args h v aa,C.lC f=some p→p.run args h=.val v aa→(∃fn,C.P.funcs[f]? =some fn∧fn.body.isSome=true)∧∀(aJ:Fr) E w xs,bA E args xs→bQ aJ E h w→
  Calls C.P f xs.toArray w fun e aC=>∃aP x,e=.returned x∧E.le aP∧Rel aP v x∧bQ aJ aP aa aC
def BH (P:Program) (c:Code) (Q:Exit→Act→World→Prop) (a:Act) (w:World):Prop:=
 match c with
 | .loop x=>∀(b:Frame) (k:List Item) (cs:List Frame),∃e cc aC,Q e cc aC∧Arrives P (lone (b.at a (.code x::.inLoop x::k)) cs w) b k cs e cc aC
 | c=>c.wp P Q a w
theorem BH.wp {P:Program} {c:Code} {Q:Exit→Act→World→Prop} {a:Act} {w:World} (h:BH P c Q a w):c.wp P Q a w:=by
 cases c with
 | loop x=>
   intro b k cs
   obtain ⟨e,cc,aC,q,r⟩:=h b k cs
   exact ⟨e,cc,aC,q,.of_steps (.one step_loop) r⟩
 | _=>exact h
def GC (P:Program) (aR:Nat) (c:Code) (run:cB→ag→hH):Prop:=
 ∀(aJ:Fr) r h e bI aa,run r h=.ok e bI aa→∀E a w,gm E aR r a→bQ aJ E h w→∀Q:Exit→Act→World→Prop,
  (∀aP cc aC,E.le aP→gm aP aR bI cc→bQ aJ aP aa aC→Q (uq e) cc aC)→BH P c Q a w
def B8 (P:Program) (ex:ke):Prop:=∀aR c,GC P aR c (ex aR c)
def uh (tmps:Array Value):ResultVar→Sem Value
 | .tmp t=>pure (tmps.getD t undef)
 | .cell b t=>do loadVar t (←asAddr (tmps.getD b undef))
theorem Bh {P:Program} {aJ:Fr} {E:Env} {aR:Nat} {r:cB} {h:ag} {a:Act} {w:World} (k:gm E aR r a) (s:bQ aJ E h w):∀{l:List ResultVar} {ad:List V},(k8 P aR l).run r h=some ad→
 ∃xs,bA E ad xs∧(l.mapM (uh a.tmps)).run P w=.ok xs w
 | [],ad,he=>by
   simp only [k8,Option.some.injEq] at he
   subst he
   exact ⟨[],rfl,rfl⟩
 | .tmp t::l,ad,he=>by
   simp only [k8] at he
   cases aA:(Nat.ble t top&&Nat.blt t aR) with
   | false=>rw [aA] at he;cases he
   | true=>
     rw [aA] at he
     simp only [cond_true] at he
     simp only [Bool.and_eq_true,Nat.ble_eq] at aA
     cases aT:(k8 P aR l).run r h with
     | none=>rw [aT] at he;cases he
     | some us=>
       rw [aT] at he
       simp only [Option.some.injEq] at he
       subst he
       obtain ⟨xs,ab,af⟩:=Bh k s aT
       refine ⟨_::xs,by simp only [bA];exact ⟨_,_,rfl,k.aj t aA.1,ab⟩,?_⟩
       rw [List.mapM_cons,Sem.run_bind]
       simp only [uh,Sem.run_pure,Result.andThen_ok,Sem.run_bind,af]
 | .cell b t::l,ad,he=>by
   simp only [k8] at he
   cases aA:(Nat.ble b top&&Nat.blt b aR) with
   | false=>rw [aA] at he;cases he
   | true=>
     rw [aA] at he
     simp only [cond_true] at he
     simp only [Bool.and_eq_true,Nat.ble_eq] at aA
     cases a6:(tL P t).run h (T.get .bad (ak b) r) with
     | none=>rw [a6] at he;cases he
     | some v=>
       rw [a6] at he
       simp only at he
       cases aT:(k8 P aR l).run r h with
       | none=>rw [aT] at he;cases he
       | some us=>
         rw [aT] at he
         simp only [Option.some.injEq] at he
         subst he
         obtain ⟨xs,ab,af⟩:=Bh k s aT
         obtain ⟨Y,_,ey,A,pB,iH⟩:=LP (P:=P) s (k.aj b aA.1) a6
         refine ⟨Y::xs,by simp only [bA];exact ⟨_,_,rfl,ey,ab⟩,?_⟩
         rw [List.mapM_cons,Sem.run_bind]
         simp only [uh,pB,asAddr,Sem.run_bind,Sem.run_pure,Result.andThen_ok,iH,af]
theorem G9:∀(args:List V) (i:Nat) (t:cB) (j:Nat),i+args.length≤top+1→j≤top→
 T.get .bad (ak j) (sS i args t)=if i≤j∧j<i+args.length then (args[j-i]?).getD .bad else T.get .bad (ak j) t
 | [],i,t,j,_,_=>by
   have:¬(i≤j∧j<i):=by omega
   simp [sS,this]
 | v::ad,i,t,j,h,bC=>by
   simp only [List.length_cons] at h ⊢
   rw [sS,G9 ad _ _ _ (by omega) bC]
   by_cases ab:i+1≤j∧j<i+1+ad.length
   · rw [if_pos ab,if_pos (by omega)]
     have:j-i=(j - (i+1))+1:=by omega
     rw [this,List.getElem?_cons_succ]
   · rw [if_neg ab,T.mE]
     by_cases af:j=i
     · subst af;rw [if_pos rfl,if_pos (by omega)];simp
     · rw [if_neg (fun e=>af (l6 e).symm),if_neg (by omega)]
theorem Mr {E:Env} {ad:List V} {xs:List Value} (h:bA E ad xs) (fn:Func) (a:Act) (P:Program) (w:World)
 (aT:(fn.results.toList.mapM (uh a.tmps)).run P w=.ok xs w):∃x,(results fn a.tmps).run P w=.ok x w∧Rel E (oneOf ad) x:=by
 have ti:(fn.results.mapM (uh a.tmps)).run P w=.ok xs.toArray w:=by
  rw [Array.mapM_eq_mapM_toList,Sem.run_map,aT]
  rfl
 have xn:results fn a.tmps=(do
  let ad ←fn.results.mapM (uh a.tmps)
  pure (if h:ad.size=1 then ad[0] else .tuple ad)):=by
  unfold results
  have:(fun x=>match x with
   | ResultVar.tmp t=>(pure (a.tmps.getD t undef):Sem Value)
   | ResultVar.cell b t=>do loadVar t (←asAddr (a.tmps.getD b undef)))=uh a.tmps:=by
   funext x
   cases x<;>rfl
  rw [←this]
  rfl
 have sa:(results fn a.tmps).run P w=.ok (if h:xs.toArray.size=1 then xs.toArray[0] else .tuple xs.toArray) w:=by
  rw [xn,Sem.run_bind,ti]
  rfl
 refine ⟨_,sa,?_⟩
 match ad,h with
 | [],h=>
   simp only [bA] at h
   subst h
   simp only [oneOf,Rel]
   exact ⟨#[],rfl,rfl⟩
 | [v],h=>
   simp only [bA] at h
   obtain ⟨y,eU,rfl,br,rfl⟩:=h
   simpa [oneOf] using br
 | v::u::ad,h=>
   have aB:=h.length
   have eL:¬xs.toArray.size=1:=by simp at aB ⊢;omega
   rw [dif_neg eL]
   simp only [oneOf,Rel]
   exact ⟨_,rfl,by simpa using h⟩
section
variable {C:Ctx}
theorem J7 {f:FuncId} {ex:ke} {args:List V} {h aa:ag} {v:V} (he:(zM C.P f).run ex args h=.val v aa):∃fn,C.P.funcs[f]? =some fn∧fn.body.isSome=true:=by
 unfold zM at he
 cases au:C.P.funcs[f]? with
 | none=>rw [au] at he;cases he
 | some fn=>
   rw [au] at he
   simp only at he
   cases ah:fn.body with
   | none=>rw [ah] at he;cases he
   | some c=>exact ⟨fn,rfl,by rw [ah];rfl⟩
theorem R9 (il:rK C) (ex:ke):kd C.P (qE C ex):=by
 intro f args h v aa he
 trivial
theorem R' (il:rK C) (ex:ke) {f:FuncId} {args:List V} {h aa:ag} {v:V} (he:qE C ex f args h=.val v aa):∃fn,C.P.funcs[f]? =some fn∧fn.body.isSome=true:=by
 unfold qE Dg at he
 cases aH:C.lC f with
 | some p=>rw [aH] at he;exact (il f p args h v aa aH he).1
 | none=>rw [aH] at he;exact J7 he
theorem Jk (il:rK C) {ex:ke} (hex:B8 C.P ex):jS C.P (qE C ex):=by
 intro aJ f args h v aa he E w xs aB s
 unfold qE Dg at he
 cases aH:C.lC f with
 | some p=>rw [aH] at he;exact .inl ⟨(il f p args h v aa aH he).1,(il f p args h v aa aH he).2 aJ E w xs aB s⟩
 | none=>
   rw [aH] at he
   simp only at he
   refine .inl ⟨J7 he,?_⟩
   unfold zM at he
   cases au:C.P.funcs[f]? with
   | none=>rw [au] at he;cases he
   | some fn=>
     rw [au] at he
     simp only at he
     cases ah:fn.body with
     | none=>rw [ah] at he;cases he
     | some c=>
       rw [ah] at he
       simp only at he
       cases oU:Nat.ble fn.ntmps top with
       | false=>rw [oU] at he;cases he
       | true=>
         rw [oU] at he
         simp only [cond_true,J8] at he
         rw [Nat.ble_eq] at oU
         obtain ⟨DB,nD⟩:=ow he
         rw [Nat.ble_eq] at DB
         cases dy:ex fn.ntmps c (sS 0 args .e) h with
         | fail=>rw [dy] at nD;cases nD
         | ok e bI ab=>
           rw [dy] at nD
           simp only at nD
           have hlen:=aB.length
           have k:gm E fn.ntmps (sS 0 args .e) {tmps:=xs.toArray++Array.replicate (fn.ntmps-xs.toArray.size) undef,defers:=[]}:=by
            refine ⟨by simp;omega,rfl,fun t aI=>?_⟩
            rw [G9 _ _ _ _ (by omega) aI]
            by_cases aS:t<args.length
            · rw [if_pos (by omega),Nat.sub_zero,List.getElem?_eq_getElem aS]
              obtain ⟨y,br,ey⟩:=aB.get t args[t] (List.getElem?_eq_getElem aS)
              simp only [Option.getD_some]
              have:(xs.toArray++Array.replicate (fn.ntmps-xs.toArray.size) undef).getD t undef=y:=by
               rw [Array.getD_eq_getD_getElem?,Array.getElem?_append_left (by simp;omega)]
               simp [br]
              rw [this];exact ey
            · rw [if_neg (by omega)]
              simp [Rel]
           refine calls_of_wp au ah ?_
           have post:∀ad,(k8 C.P fn.ntmps fn.results.toList).run bI ab=some ad→oneOf ad=v→ab=aa→∀aP cc aC,E.le aP→gm aP fn.ntmps bI cc→bQ aJ aP ab aC→
            cc.defers=[]∧∃x,(results fn cc.tmps).run C.P aC=.ok x aC∧∃ec fE,Ending.returned x=.returned fE∧E.le ec∧Rel ec v fE∧bQ aJ ec aa aC:=by
            intro ad a6 r' U0 aP cc aC aG az aW
            obtain ⟨eU,b_,b1⟩:=Bh (P:=C.P) az aW a6
            obtain ⟨x,cy,gB⟩:=Mr b_ fn cc C.P aC b1
            exact ⟨az.defers,x,cy,aP,x,rfl,aG,r' ▸ gB,U0 ▸ aW⟩
           have fin:∀fH,e=fH→(fH=.normal∨fH=.ret)→(match (k8 C.P fn.ntmps fn.results.toList).run bI ab with
            | some ad=>bh.val (oneOf ad) ab
            | none=>.fail)=.val v aa→c.wp C.P (bodyPost C.P fn fun e aC=>∃aP x,e=.returned x∧E.le aP∧Rel aP v x∧bQ aJ aP aa aC) {tmps:=xs.toArray++Array.replicate (fn.ntmps-xs.toArray.size) undef,defers:=[]} w:=by
            intro fH UH kp sa
            subst UH
            cases a6:(k8 C.P fn.ntmps fn.results.toList).run bI ab with
            | none=>rw [a6] at sa;cases sa
            | some ad=>
              rw [a6] at sa
              simp only [bh.val.injEq] at sa
              refine (hex fn.ntmps c aJ _ _ _ _ _ dy E _ w k s _ fun aP cc aC aG az aW=>?_).wp
              have:=post ad a6 sa.1 sa.2 aP cc aC aG az aW
              rcases kp with rfl | rfl<;>exact this
           cases e with
           | normal=>exact fin _ rfl (.inl rfl) nD
           | ret=>exact fin _ rfl (.inr rfl) nD
           | exit id=>cases nD
theorem SG (eY:C.P.follows .mixedOrders=true) (dU:i' C.P) (il:rK C) {ex:ke} (hex:B8 C.P ex) (aR:Nat):∀c:Code,GC C.P aR c ((hp C aR c).run ex):=by
 have je:=Jk il hex
 have iI:=R9 il ex
 intro c
 induction c with
 | skip=>
   intro aJ r h e bI aa he E a w k s Q cU
   simp only [hp,hH.ok.injEq] at he
   obtain ⟨rfl,rfl,rfl⟩:=he
   exact wp_skip (cU E a w (Env.le.refl E) k s)
 | label l=>
   intro aJ r h e bI aa he E a w k s Q cU
   simp only [hp,hH.ok.injEq] at he
   obtain ⟨rfl,rfl,rfl⟩:=he
   exact wp_label (cU E a w (Env.le.refl E) k s)
 | exit id=>
   intro aJ r h e bI aa he E a w k s Q cU
   simp only [hp,hH.ok.injEq] at he
   obtain ⟨rfl,rfl,rfl⟩:=he
   exact wp_exit (cU E a w (Env.le.refl E) k s)
 | ret=>
   intro aJ r h e bI aa he E a w k s Q cU
   simp only [hp,hH.ok.injEq] at he
   obtain ⟨rfl,rfl,rfl⟩:=he
   exact wp_ret (cU E a w (Env.le.refl E) k s)
 | region id ops draw=>
   intro aJ r h e bI aa he E a w k s Q cU
   cases draw with
   | true=>
     simp only [hp,cond_true,Bd] at he
     cases aT:(zu C.P aR ops).run (qE C ex) r h with
     | fail=>rw [aT] at he;cases he
     | ok bf ab=>
       rw [aT] at he
       simp only [hH.ok.injEq] at he
       obtain ⟨rfl,rfl,rfl⟩:=he
       exact S6 eY dU je iI aT k s cU
   | false=>
     simp only [hp,cond_false,Bd] at he
     cases aT:(vR C.P aR ops ops.toList).run (qE C ex) r h with
     | fail=>rw [aT] at he;cases he
     | ok bf ab=>
       rw [aT] at he
       simp only [hH.ok.injEq] at he
       obtain ⟨rfl,rfl,rfl⟩:=he
       refine wp_region ?_
       have:=Mt (Q:=Q) dU je iI ops.toList 0 (fun j=>by simp) E r bf h ab a w aT k s cU
       rw [List.range_eq_range']
       simpa using this
 | seq x y tA tB=>
   intro aJ r h e bI aa he E a w k s Q cU
   simp only [hp,NV] at he
   cases aT:(hp C aR x).run ex r h with
   | fail=>rw [aT] at he;cases he
   | ok aL bf ab=>
     rw [aT] at he
     simp only at he
     refine wp_seq (tA aJ r h aL bf ab aT E a w k s _ fun aP cc aC aG az aW=>?_).wp
     cases aL with
     | normal=>exact (tB aJ bf ab e bI aa he aP cc aC az aW Q fun ec bJ di b_ b1 cy=>cU ec bJ di (aG.trans b_) b1 cy).wp
     | exit id=>simp only [hH.ok.injEq] at he;obtain ⟨rfl,rfl,rfl⟩:=he;exact cU aP cc aC aG az aW
     | ret=>simp only [hH.ok.injEq] at he;obtain ⟨rfl,rfl,rfl⟩:=he;exact cU aP cc aC aG az aW
 | cond c x y tA tB=>
   intro aJ r h e bI aa he E a w k s Q cU
   simp only [hp,Jr] at he
   have aA:=eX k c
   cases a6:(c' c).run r<;>rw [a6] at he aA<;>simp only at he<;>try (cases he;done)
   rename_i t
   simp only [Rel] at aA
   cases t with
   | true=>exact wp_cond_true aA (tA aJ r h e bI aa he E a w k s Q cU).wp
   | false=>exact wp_cond_false aA (tB aJ r h e bI aa he E a w k s Q cU).wp
 | block id x bb=>
   intro aJ r h e bI aa he E a w k s Q cU
   simp only [hp,Hn] at he
   cases aT:(hp C aR x).run ex r h with
   | fail=>rw [aT] at he;cases he
   | ok aL bf ab=>
     rw [aT] at he
     simp only at he
     refine wp_block (bb aJ r h aL bf ab aT E a w k s _ fun aP cc aC aG az aW=>?_).wp
     cases aL with
     | normal=>simp only [hH.ok.injEq] at he;obtain ⟨rfl,rfl,rfl⟩:=he;exact cU aP cc aC aG az aW
     | ret=>simp only [hH.ok.injEq] at he;obtain ⟨rfl,rfl,rfl⟩:=he;exact cU aP cc aC aG az aW
     | exit i=>
       simp only [nq] at he
       simp only [uq,Exit.inBlock]
       by_cases ax:i=id
       · rw [if_pos ax] at he ⊢
         simp only [hH.ok.injEq] at he;obtain ⟨rfl,rfl,rfl⟩:=he;exact cU aP cc aC aG az aW
       · rw [if_neg ax] at he ⊢
         simp only [hH.ok.injEq] at he;obtain ⟨rfl,rfl,rfl⟩:=he;exact cU aP cc aC aG az aW
 | loop x bb=>
   intro aJ r h e bI aa he E a w k s Q cU
   simp only [hp,LQ] at he
   cases aT:(hp C aR x).run ex r h with
   | fail=>rw [aT] at he;cases he
   | ok aL bf ab=>
     rw [aT] at he
     simp only at he
     intro b eu cs
     have body:=(bb aJ r h aL bf ab aT E a w k s
      (fun fH cc aC=>fH=uq aL∧∃aP,E.le aP∧gm aP aR bf cc∧bQ aJ aP ab aC) (fun aP cc aC aG az aW=>⟨rfl,aP,aG,az,aW⟩)).wp b (.inLoop x::eu) cs
     obtain ⟨bo,bJ,di,⟨rfl,ec,aG,az,aW⟩,oJ⟩:=body
     cases aL with
     | normal=>
       have next:=hex aR (.loop x) aJ bf ab e bI aa he ec bJ di az aW Q (fun n_ a4 m' t1 t2 t3=>cU n_ a4 m' (aG.trans t1) t2 t3)
       obtain ⟨c6,a3,iW,b_,b1⟩:=next b eu cs
       exact ⟨c6,a3,iW,b_,.of_steps (Steps.trans oJ (.one step_inLoop)) b1⟩
     | exit id=>
       simp only [hH.ok.injEq] at he;obtain ⟨rfl,rfl,rfl⟩:=he
       exact ⟨.exit id,bJ,di,cU ec bJ di aG az aW,.pass (x:=.inLoop x) rfl (fun _ _=>.inl (by simp)) oJ⟩
     | ret=>
       simp only [hH.ok.injEq] at he;obtain ⟨rfl,rfl,rfl⟩:=he
       exact ⟨.ret,bJ,di,cU ec bJ di aG az aW,.pass (x:=.inLoop x) rfl (fun _ _=>.inl (by simp)) oJ⟩
 | scope x bb=>
   intro aJ r h e bI aa he E a w k s Q cU
   simp only [hp] at he
   refine wp_scope_straight (bb aJ r h e bI aa he E a w k s _ fun aP cc aC aG az aW=>?_).wp
   have:=cU aP cc aC aG az aW
   cases e<;>exact this
 | rangeFunc f bX x y _ _=>intro aJ r h e bI aa he;simp [hp] at he
 | goto l=>intro aJ r h e bI aa he;simp [hp] at he
 | refuse adl=>intro aJ r h e bI aa he;simp [hp] at he
theorem JT (eY:C.P.follows .mixedOrders=true) (dU:i' C.P) (il:rK C):∀n,B8 C.P (exec C n)
 | 0=>fun aR c aJ r h e bI aa he=>by simp [exec] at he
 | n+1=>fun aR c=>SG eY dU il (JT eY dU il n) aR c
theorem R_ (eY:C.P.follows .mixedOrders=true) (dU:i' C.P) (il:rK C) (n:Nat):jS C.P (CZ C n):=Jk il (JT eY dU il n)
theorem N0 (w:World) (hw:Lay.ok w):bQ ⟨w,fun _=>none⟩ (fun _=>none) ag.empty w:=by
 refine ⟨fun b _=>?_,fun _ _ h=>(by cases h),(fun b bN p nY _ _ h=>by cases h),fun _ _=>rfl,Below.refl _ _,hw,(fun _ _ _ _ _ _ h=>by cases h)⟩
 have:ag.empty.get b=.dead:=by simp [ag.get,ag.empty]
 rw [this]
 trivial
theorem acS (eY:C.P.follows .mixedOrders=true) (dU:i' C.P) {w:World} (hw:Lay.ok w) (il:rK C) {n:Nat} {f:FuncId} (h:F6 C n f []=true):Calls C.P f #[] w fun e aC=>e=.returned (.bool true)∧Below w.heap.size w aC:=by
 unfold F6 at h
 cases aA:CZ C n f [] ag.empty with
 | fail=>rw [aA] at h;cases h
 | val v cv=>
   rw [aA] at h
   simp only at h
   cases v<;>simp only at h<;>try (cases h;done)
   subst h
   have iI:∃fn,C.P.funcs[f]? =some fn∧fn.body.isSome=true:=R' il _ aA
   rcases R_ eY dU il n ⟨w,fun _=>none⟩ f [] ag.empty _ cv aA (fun _=>none) w [] rfl (N0 w hw) with ⟨_,kn⟩ | ⟨aP,x,aC,aT,_⟩
   case inr=>
    obtain ⟨fn,ab,af⟩:=iI
    rw [FT dU ab af] at aT
    cases aT
   refine kn.mono fun e aC aM=>?_
   obtain ⟨aP,x,rfl,_,az,aW⟩:=aM
   simp only [Rel] at az
   subst az
   exact ⟨rfl,aW.frame⟩
end
end Go.Proofs.YtjbiefneffiogaaGreat.ba
namespace Go.Proofs.YtjbiefneffiogaaGreat.ba
variable [Lay]
open Go Go.RowKit
inductive aZ where
 | t (n:Nat)
 | c (v:V)
abbrev bD:=Nat→V
def aZ.a8 (r:bD):aZ→V
 | .t n=>r n
 | .c v=>v
def aZ.gH (r:bD):List aZ→List V
 | []=>[]
 | x::xs=>x.a8 r::aZ.gH r xs
def rx:Operand→aZ
 | .tmp t=>bif Nat.ble t top then .t t else .c .bad
 | .const v=>.c (ha v)
 | .func f=>.c (.func f [])
 | .global _=>.c .bad
def n1:List Operand→List aZ
 | []=>[]
 | x::xs=>rx x::n1 xs
def aZ.opt (r:bD):Option aZ→Option V
 | none=>none
 | some x=>some (x.a8 r)
def rk:Option Operand→Option aZ
 | none=>none
 | some x=>some (rx x)
inductive dO where
 | int (op:BinOp)
 | str (op:BinOp)
 | shl
 | shr
 | w' (neg:Bool)
 | kj (neg:Bool) (k:Nat)
 | other (op:BinOp) (t:TypeId)
noncomputable def dO.run (P:Program):dO→V→V→Option V
 | .int op=>(j5 op).run
 | .str op=>(rn op).run
 | .shl=>(uk true).run
 | .shr=>(uk false).run
 | .w' neg=>(iF neg py).run
 | .kj neg k=>(iF neg (gS k)).run
 | .other op t=>(ou P op t).run
inductive rA where
 | int (k:IntKind)
 | bytes
 | str
 | other (s d:TypeId)
noncomputable def rA.run (P:Program):rA→V→ag→bh
 | .int k=>fun x h=>x.dD .fail fun _ n=>.val (.int k (k.wrap n)) h
 | .bytes=>w1.run
 | .str=>mw.run
 | .other s d=>(pw P s d).run
inductive ep where
 | int | str | bool
def ep.eq:ep→ft
 | .int=>mA
 | .str=>oC
 | .bool=>py
inductive y5 where
 | arr (n:Nat)
 | str
 | slice
 | map
inductive G where
 | bad
 | fz (x:aZ)
 | pick (c a b:aZ)
 | new (z:List V)
 | box (x:aZ)
 | build (z:List V) (bX:List (Nat × Nat × aZ))
 | g6 (len size:Nat) (z:List V) (bX:List (Nat × Nat × aZ))
 | dq (x:aZ)
 | gd (size:Nat) (x:aZ)
 | st (size:Nat) (x y:aZ)
 | q9 (x:aZ)
 | bin (k:dO) (x y:aZ)
 | un (op:UnOp) (x:aZ)
 | hr (k:rA) (x:aZ)
 | fn (f:FuncId) (jz:List aZ)
 | tz (t:TypeId) (x:aZ)
 | xT (size:Nat) (z:List V) (l c:aZ)
 | um (x:aZ) (bU ax eo:Option aZ)
 | gZ (size:Nat) (x:aZ) (bU ax eo:Option aZ)
 | cf (off:Nat) (x:aZ)
 | s3 (off:Nat) (x:aZ)
 | s4 (off size:Nat) (x:aZ)
 | cl (size:Nat) (x i:aZ)
 | q1 (n size:Nat) (x i:aZ)
 | tE (x i:aZ)
 | hT (t:TypeId) (x i:aZ)
 | look (k:ep) (z:V) (ok:Bool) (x i:aZ)
 | dM (k:ep) (m i x:aZ)
 | o4 (x:Option aZ)
 | yl (x:aZ)
 | xY (x:aZ)
 | ext (x:aZ) (i:Nat)
 | call (f:FuncId) (args:List aZ)
 | ps (f:aZ) (args:List aZ)
 | len (k:y5) (x:aZ)
 | app (size:Nat) (s x:aZ)
 | copy (size:Nat) (d s:aZ)
 | gU (args:List aZ)
 | eo (args:List aZ)
 | zq (z:List V) (x:aZ)
def j1 (r:bD):List (Nat × Nat × aZ)→List (Nat × Nat × V)
 | []=>[]
 | (o,s,x)::bX=>(o,s,x.a8 r)::j1 r bX
def ij:List V→List (Nat × Nat × V)→Option (List V)
 | cells,[]=>some cells
 | cells,(off,size,v)::rest=>bif v.ek&&(Nat.beq v.cells.length size&&Nat.ble (off+v.cells.length) cells.length) then ij (qI cells off v.cells) rest else none
noncomputable def y5.run:y5→V→ag→bh
 | .arr n=>fun _ h=>.val (.int .i64 n) h
 | .str=>fun x h=>bh.of h ((nU .string).run x)
 | .slice=>fun x h=>bh.of h ((nU (.slice 0)).run x)
 | .map=>fun x h=>xR [x] h
noncomputable def G.run (P:Program) (g:G) (call:eO) (r:bD) (h:ag):bh:=
 match g with
 | .bad=>.fail
 | .fz x=>.val (x.a8 r) h
 | .pick c a b=>match c.a8 r with
   | .bool t=>.val (bif t then a.a8 r else b.a8 r) h
   | _=>.fail
 | .new z=>jq (.ptr (ak h.next) 0) (gq h z)
 | .box x=>bif (x.a8 r).ek then jq (.ptr (ak h.next) 0) (gq h (x.a8 r).cells) else .fail
 | .build z bX=>(match ij z (j1 r bX) with
   | some cs=>.val (.agg cs) h
   | none=>.fail)
 | .g6 n _ z bX=>match ij (gr z n) (j1 r bX) with
   | some cs=>(match gq h cs with
     | some aa=>.val (.slice (ak h.next) 0 n n) aa
     | none=>.fail)
   | none=>.fail
 | .dq x=>bh.of h (mW h (x.a8 r))
 | .gd n x=>bh.of h (mV n h (x.a8 r))
 | .st n x y=>jq .bad (yu n h (x.a8 r) (y.a8 r))
 | .q9 x=>bh.of h (sh (x.a8 r))
 | .bin k x y=>bh.of h (k.run P (x.a8 r) (y.a8 r))
 | .un op x=>bh.of h (qc op (x.a8 r))
 | .hr k x=>k.run P (x.a8 r) h
 | .fn f jz=>.val (.func f (aZ.gH r jz)) h
 | .tz t x=>.val (.iface t (x.a8 r)) h
 | .xT n z l c=>AD n z (l.a8 r) (c.a8 r) h
 | .um x bU ax dV=>bh.of h (k' (x.a8 r) (aZ.opt r bU) (aZ.opt r ax) (aZ.opt r dV))
 | .gZ n x bU ax dV=>bh.of h (match x.a8 r with
   | .aF=>v' (aZ.opt r bU) (aZ.opt r ax) (aZ.opt r dV)
   | .slice b off tK cap=>o' n b off tK cap (aZ.opt r bU) (aZ.opt r ax) (aZ.opt r dV)
   | .dp b off tK idx=>n3 n b off tK idx (aZ.opt r bU) (aZ.opt r ax) (aZ.opt r dV)
   | .gN b off mZ idx=>v_ b off mZ idx (aZ.opt r bU) (aZ.opt r ax) (aZ.opt r dV)
   | _=>none)
 | .cf off x=>bh.of h ((x.a8 r).l5 none fun b o=>some (.ptr b (o+off)))
 | .s3 off x=>bh.of h (match x.a8 r with
   | .agg cs=>cs[off]?
   | _=>none)
 | .s4 off n x=>bh.of h (match x.a8 r with
   | .agg cs=>some (.agg ((cs.drop off).take n))
   | _=>none)
 | .cl n x i=>bh.of h ((tC n).run (x.a8 r) (i.a8 r))
 | .q1 n s x i=>bh.of h ((q3 n s).run (x.a8 r) (i.a8 r))
 | .tE x i=>bh.of h (pL.run (x.a8 r) (i.a8 r))
 | .hT t x i=>bh.of h ((q4 P t).run (x.a8 r) (i.a8 r))
 | .look k z ok x i=>bh.of h (jL k.eq z ok h (x.a8 r) (i.a8 r))
 | .dM k m i x=>jq .bad (jR k.eq h (m.a8 r) (i.a8 r) (x.a8 r))
 | .o4 x=>nW (aZ.opt r x) h
 | .yl x=>(match x.a8 r with
   | .str s=>.val (.ptr (ak h.next) 0) (h.new (.iter s 0))
   | _=>.fail)
 | .xY x=>xV (x.a8 r) h
 | .ext x i=>(match x.a8 r with
   | .tuple ad=>bh.of h ad[i]?
   | _=>.fail)
 | .call f args=>call f (aZ.gH r args) h
 | .ps f args=>(f.a8 r).x4 fun g cs=>call g (aZ.gH r args++cs) h
 | .len k x=>k.run (x.a8 r) h
 | .app n s x=>kJ n (s.a8 r) (x.a8 r) h
 | .copy n d s=>copyV n (d.a8 r) (s.a8 r) h
 | .gU args=>bh.of h (ka (fun b a=>!Int.leB a b) (aZ.gH r args))
 | .eo args=>bh.of h (ka (fun b a=>!Int.leB b a) (aZ.gH r args))
 | .zq z x=>rR z (x.a8 r) h
def FM (P:Program) (op:BinOp) (t:TypeId):dO:=
 match op with
 | .shl=>.shl
 | .shr=>.shr
 | op=>match bj P t with
   | none=>.other op t
   | some aO=>match aO.bG with
     | .int _=>.int op
     | .string=>.str op
     | .bool=>(match op with
       | .eql=>.w' false
       | .neq=>.w' true
       | _=>.other op t)
     | .pointer _=>(match op with
       | .eql=>.kj false 1
       | .neq=>.kj true 1
       | _=>.other op t)
     | .slice _=>(match op with
       | .eql=>.kj false 2
       | .neq=>.kj true 2
       | _=>.other op t)
     | .map _ _=>(match op with
       | .eql=>.kj false 3
       | .neq=>.kj true 3
       | _=>.other op t)
     | .func _ _ _=>(match op with
       | .eql=>.kj false 4
       | .neq=>.kj true 4
       | _=>.other op t)
     | _=>.other op t
def FQ (P:Program) (op:BinOp) (t:TypeId) (lit:Bool):dO:=
 bif lit then (match bj P t with
  | some aO=>match aO.bG with
    | .interface _=>match op with
      | .eql=>.kj false 5
      | .neq=>.kj true 5
      | _=>.kj false 99
    | _=>.kj false 99
  | none=>.kj false 99) else FM P op t
def FO (P:Program) (s d:TypeId):rA:=
 match bj P s,bj P d with
 | some sv,some ns=>match ns.bG with
   | .int k=>.int k
   | .string=>match sv.bG with
     | .slice e=>match bj P e with
       | some bn=>match bn.bG with
         | .int .u8=>.str
         | _=>.other s d
       | none=>.other s d
     | _=>.other s d
   | .slice e=>match bj P e with
     | some bn=>match bn.bG with
       | .int .u8=>.bytes
       | _=>.other s d
     | none=>.other s d
   | _=>.other s d
 | _,_=>.other s d
def o7 (place:Nat→Option (Nat × Nat)):List (Nat × Operand)→Option (List (Nat × Nat × aZ))
 | []=>some []
 | (i,x)::bX=>match place i with
   | none=>none
   | some (off,size)=>match o7 place bX with
     | none=>none
     | some l=>some ((off,size,rx x)::l)
def NH (P:Program) (t:TypeId) (bX:List (Nat × Operand)):G:=
 match bj P t with
 | some aO=>match aO.zero with
   | some z=>match aO.bG with
     | .struct bw=>bif zH P bw.toList then (match o7 (u4 P bw) bX with
       | some l=>.build z.cells l
       | none=>.bad) else .bad
     | .array _ e=>match bj P e with
       | some bn=>(match o7 (fun i=>some (i * bn.size,bn.size)) bX with
         | some l=>.build z.cells l
         | none=>.bad)
       | none=>.bad
     | _=>.bad
   | none=>.bad
 | none=>.bad
def NK (P:Program) (t:TypeId) (len:Nat) (bX:List (Nat × Operand)):G:=
 match bj P t with
 | some aO=>match aO.bG with
   | .slice e=>match bj P e with
     | some bn=>match bn.zero with
       | some z=>bif Nat.ble (len * bn.size) 1000000&&Nat.beq z.cells.length bn.size then
          (match o7 (fun i=>some (i * bn.size,bn.size)) bX with
          | some l=>.g6 len bn.size z.cells l
          | none=>.bad) else .bad
       | none=>.bad
     | none=>.bad
   | _=>.bad
 | none=>.bad
def tH:TypeDesc→Option ep
 | .int _=>some .int
 | .string=>some .str
 | .bool=>some .bool
 | _=>none
def C4 (P:Program) (t:TypeId):Option (List V):=
 match bj P t with
 | some aO=>match aO.bG with
   | .slice e=>match bj P e with
     | some bn=>match bn.zero with
       | some z=>some z.cells
       | none=>none
     | none=>none
   | _=>none
 | none=>none
theorem SF (P:Program) (t:TypeId):w0 P t=C4 P t:=rfl
def FN (P:Program) (c:Call):G:=
 match c.callee with
 | .value (.func f)=>.call f (n1 c.args.toList)
 | .value x=>.ps (rx x) (n1 c.args.toList)
 | .invoke _ _=>.bad
 | .builtin b=>match b with
   | .len=>match c.argTypes.toList,c.args.toList with
     | [t],[x]=>(match bj P t with
       | some aO=>(match aO.bG with
         | .map _ _=>.len .map (rx x)
         | .array n _=>.len (.arr n) (rx x)
         | .string=>.len .str (rx x)
         | .slice _=>.len .slice (rx x)
         | _=>.bad)
       | none=>.bad)
     | _,_=>.bad
   | .append=>match c.argTypes.toList,c.args.toList with
     | [t,u],[s,x]=>(match bj P t,bj P u with
       | some aO,some rr=>(match rr.bG with
         | .int _=>.bad
         | _=>match aO.bG with
           | .slice e=>(match bj P e with
             | none=>.bad
             | some bn=>match bn.zero with
               | none=>.bad
               | some z=>bif Nat.ble 1 bn.size&&Nat.ble bn.bytes 4096&&Nat.beq z.cells.length bn.size then .app bn.size (rx s) (rx x) else .bad)
           | _=>.bad)
       | _,_=>.bad)
     | _,_=>.bad
   | .copy=>match c.argTypes.toList,c.args.toList with
     | t::_,[d,s]=>(match bj P t with
       | some aO=>(match aO.bG with
         | .slice e=>(match bj P e with
           | some bn=>.copy bn.size (rx d) (rx s)
           | none=>.bad)
         | _=>.bad)
       | none=>.bad)
     | _,_=>.bad
   | .min=>.gU (n1 c.args.toList)
   | .max=>.eo (n1 c.args.toList)
   | .clear=>match c.argTypes.toList,c.args.toList with
     | [t],[x]=>(match C4 P t with
       | some z=>.zq z (rx x)
       | none=>.bad)
     | _,_=>.bad
   | _=>.bad
def Bi (P:Program) (op:Op):G:=
 match op with
 | .move x=>.fz (rx x)
 | .assign x=>.fz (rx x)
 | .pick c a b=>.pick (rx c) (rx a) (rx b)
 | .alloc t=>(match bj P t with
   | some aO=>(match aO.zero with
     | some z=>.new z.cells
     | none=>.bad)
   | none=>.bad)
 | .box _ x=>.box (rx x)
 | .build t bX=>NH P t bX.toList
 | .buildSlice t n bX=>NK P t n bX.toList
 | .load t x=>(match bj P t with
   | none=>.bad
   | some aO=>bif aO.agg then .gd aO.size (rx x) else bif Nat.beq aO.size 1 then .dq (rx x) else .bad)
 | .store t x y=>(match bj P t with
   | none=>.bad
   | some aO=>.st aO.size (rx x) (rx y))
 | .nilCheck x=>.q9 (rx x)
 | .binOp op t x y _=>.bin (FQ P op t (pS x||pS y)) (rx x) (rx y)
 | .unOp op _ x=>.un op (rx x)
 | .convert s d x=>.hr (FO P s d) (rx x)
 | .makeFunc (.func f) first jz=>bif first.isEmpty then .fn f (n1 jz.toList) else .bad
 | .makeInterface t x=>(match bj P t with
   | some aO=>bif Nat.beq (fS aO.bG) 5 then .bad else .tz t (rx x)
   | none=>.bad)
 | .makeSlice t l c=>(match bj P t with
   | some aO=>(match aO.bG with
     | .slice e=>(match bj P e with
       | some bn=>(match bn.zero with
         | some z=>bif Nat.ble bn.bytes 4096 then .xT bn.size z.cells (rx l) (rx c) else .bad
         | none=>.bad)
       | none=>.bad)
     | _=>.bad)
   | none=>.bad)
 | .slice t x bU ax eo=>(match bj P t with
   | none=>.bad
   | some aO=>match aO.bG with
     | .string=>.um (rx x) (rk bU) (rk ax) (rk eo)
     | .slice e=>(match bj P e with
       | none=>.bad
       | some bn=>.gZ bn.size (rx x) (rk bU) (rk ax) (rk eo))
     | _=>.bad)
 | .fieldAddr t x i=>(match pz P t i with
   | none=>.bad
   | some f=>match bj P f.type with
     | none=>.bad
     | some lS=>bif Nat.beq lS.size 0 then .bad else .cf f.offset (rx x))
 | .field t x i=>(match pz P t i with
   | none=>.bad
   | some f=>match bj P f.type with
     | none=>.bad
     | some aO=>bif aO.agg then .s4 f.offset aO.size (rx x) else .s3 f.offset (rx x))
 | .indexAddr t x i=>(match bj P t with
   | none=>.bad
   | some aO=>match aO.bG with
     | .slice e=>(match bj P e with
       | none=>.bad
       | some bn=>.cl bn.size (rx x) (rx i))
     | .array n e=>(match bj P e with
       | none=>.bad
       | some bn=>.q1 n bn.size (rx x) (rx i))
     | _=>.bad)
 | .index t x i=>(match bj P t with
   | none=>.bad
   | some aO=>match aO.bG with
     | .string=>.tE (rx x) (rx i)
     | _=>.hT t (rx x) (rx i))
 | .range t x=>(match bj P t with
   | some aO=>(match aO.bG with
     | .string=>.yl (rx x)
     | _=>.bad)
   | none=>.bad)
 | .next it true=>.xY (rx it)
 | .lookup t x k ok=>(match bj P t with
   | some aO=>(match aO.bG with
     | .map bK e=>(match bj P bK with
       | some iO=>(match bj P e with
         | some bn=>(match bn.zero with
           | some z=>(match tH iO.bG with
             | some eu=>.look eu z ok (rx x) (rx k)
             | none=>.bad)
           | none=>.bad)
         | none=>.bad)
       | none=>.bad)
     | _=>.bad)
   | none=>.bad)
 | .mapUpdate t m k x | .insert t m k x=>(match bj P t with
   | some aO=>(match aO.bG with
     | .map bK _=>(match bj P bK with
       | some iO=>(match tH iO.bG with
         | some eu=>.dM eu (rx m) (rx k) (rx x)
         | none=>.bad)
       | none=>.bad)
     | _=>.bad)
   | none=>.bad)
 | .makeMap t x=>(match bj P t with
   | some aO=>bif Nat.beq (fS aO.bG) 3 then .o4 (rk x) else .bad
   | none=>.bad)
 | .extract x i=>.ext (rx x) i
 | .call c=>FN P c
 | _=>.bad
noncomputable def eM (c9:cB):bD:=fun t=>T.get .bad (ak t) c9
theorem gw (c9:cB) (x:Operand):(c' x).run c9=(rx x).a8 (eM c9):=by
 cases x with
 | tmp t=>
   simp only [c',rx]
   cases Nat.ble t top<;>rfl
 | const v=>rfl
 | func f=>rfl
 | global g=>rfl
theorem w_ (c9:cB):∀xs:List Operand,(rX xs).run c9=aZ.gH (eM c9) (n1 xs)
 | []=>rfl
 | x::xs=>by simp only [rX,n1,aZ.gH,gw,w_ c9 xs]
theorem Fk (c9:cB) (x:Option Operand):(pZ x).run c9=aZ.opt (eM c9) (rk x):=by
 cases x with
 | none=>rfl
 | some x=>simp only [pZ,rk,aZ.opt,gw]
theorem zI (c9:cB) {place:Nat→Option (Nat × Nat)}:∀{bX:List (Nat × Operand)} {l:List (Nat × Nat × aZ)},o7 place bX=some l→∀cells,lT place cells ((sn bX).run c9)=ij cells (j1 (eM c9) l)
 | [],l,h,cells=>by
   simp only [o7,Option.some.injEq] at h
   subst h
   rfl
 | (i,x)::bX,l,h,cells=>by
   simp only [o7] at h
   cases aH:place i with
   | none=>rw [aH] at h;cases h
   | some os=>
     obtain ⟨off,size⟩:=os
     rw [aH] at h
     simp only at h
     cases aB:o7 place bX with
     | none=>rw [aB] at h;cases h
     | some fJ=>
       rw [aB] at h
       simp only [Option.some.injEq] at h
       subst h
       simp only [sn,lT,aH,j1,ij,gw]
       cases ((rx x).a8 (eM c9)).ek&&(Nat.beq ((rx x).a8 (eM c9)).cells.length size&&Nat.ble (off + ((rx x).a8 (eM c9)).cells.length) cells.length) with
       | false=>rfl
       | true=>exact zI c9 aB _
section
variable {P:Program}
theorem abp (op:BinOp) (t:TypeId):(FM P op t).run P=(ou P op t).run:=by
 unfold FM ou
 cases op<;>first | rfl | skip
 all_goals
  cases aI:bj P t with
  | none=>simp only [dO.run];unfold ou;rw [aI]
  | some aO=>
    simp only
    cases hu:aO.bG<;>first | rfl | (simp only [dO.run];unfold ou;rw [aI];simp only [hu];done) | (simp only [dO.run];unfold oD hz;simp only [aI,hu];first | done | rfl)
theorem abt (op:BinOp) (t:TypeId) (lit:Bool):(FQ P op t lit).run P=(wU P op t lit).run:=by
 unfold FQ wU
 cases lit with
 | false=>simp only [cond_false];exact abp op t
 | true=>
   simp only [cond_true]
   cases bj P t with
   | none=>rfl
   | some aO=>
     simp only
     cases aO.bG<;>first | rfl | (cases op<;>rfl)
theorem abr (s d:TypeId):(FO P s d).run P=(pw P s d).run:=by
 unfold FO
 split
 · rename_i sv ns bk bE
   split
   · rename_i k hu
     simp only [rA.run];unfold pw;rw [bk,bE];simp only [hu]
   · rename_i hu
     split
     · rename_i e a6
       split
       · rename_i bn he
         split
         · rename_i hw
           simp only [rA.run];unfold pw;rw [bk,bE];simp only [hu,a6,he,hw]
         · rfl
       · rfl
     · rfl
   · rename_i e hu
     split
     · rename_i bn he
       split
       · rename_i hw
         simp only [rA.run];unfold pw;rw [bk,bE];simp only [hu,he,hw]
       · rfl
     · rfl
   · rfl
 · rfl
theorem EN {d:TypeDesc} {eu:ep} (h:tH d=some eu):tG d=true∧nQ d=eu.eq:=by
 cases d<;>simp only [tH] at h<;>first | (cases h;done) | (cases h;exact ⟨rfl,rfl⟩)
theorem abq {c:Call} {call:eO} {c9:cB} {h aa:ag} {v:V} (he:(FN P c).run P call (eM c9) h=.val v aa):(rQ P c).run call c9 h=.val v aa:=by
 unfold FN at he
 unfold rQ
 split at he
 · rename_i f aA
   rw [aA]
   simp only [G.run] at he
   simpa only [c',rW,V.x4,w_,List.append_nil] using he
 · rename_i x an aA
   rw [aA]
   simp only [G.run] at he
   simpa only [gw,w_] using he
 · cases he
 · rename_i b aA
   rw [aA]
   simp only [w_]
   cases b<;>simp only at he<;>try (cases he;done)
   case len=>
    split at he
    · rename_i t x aI an
      cases oX:bj P t with
      | none=>rw [oX] at he;cases he
      | some aO=>
        rw [oX] at he
        simp only at he
        simp only [qz,aI,oX,an,n1,aZ.gH]
        cases hu:aO.bG<;>rw [hu] at he<;>first | (cases he;done) | (simpa only [sb,cond_true,cond_false,G.run,y5.run,nU,bh.of] using he)
    · cases he
   case append=>
    split at he
    · rename_i t u s x aI an
      split at he
      · rename_i aO rr oX xM
        simp only [qz,aI,an,n1,aZ.gH,za,oX,xM]
        split at he
        · cases he
        · rename_i eL
          split at he
          · rename_i e cS
            cases fe:bj P e with
            | none=>rw [fe] at he;cases he
            | some bn=>
              rw [fe] at he
              simp only at he
              cases aV:bn.zero with
              | none=>rw [aV] at he;cases he
              | some z=>
                rw [aV] at he
                simp only at he
                cases ah:(Nat.ble 1 bn.size&&Nat.ble bn.bytes 4096&&Nat.beq z.cells.length bn.size) with
                | false=>rw [ah] at he;cases he
                | true=>
                  rw [ah] at he
                  simp only [cond_true,G.run] at he
                  cases V7:rr.bG<;>first
                   | (exact absurd V7 (eL _))
                   | (simp only [cS,fe,aV,ah,cond_true];exact he)
          · cases he
      · cases he
    · cases he
   case copy=>
    split at he
    · rename_i t cP d s aI an
      cases oX:bj P t with
      | none=>rw [oX] at he;cases he
      | some aO=>
        rw [oX] at he
        simp only at he
        split at he
        · rename_i e cS
          cases fe:bj P e with
          | none=>rw [fe] at he;cases he
          | some bn=>
            rw [fe] at he
            simp only [G.run] at he
            simp only [qz,aI,an,n1,aZ.gH,zs,oX,cS,fe]
            exact he
        · cases he
    · cases he
   case min=>exact he
   case max=>exact he
   case clear=>
    split at he
    · rename_i t x aI an
      cases aA:C4 P t with
      | none=>rw [aA] at he;cases he
      | some z=>
        rw [aA] at he
        simp only [G.run] at he
        simp only [qz,aI,an,n1,aZ.gH,SF,aA]
        exact he
    · cases he
theorem NI {o:Oper} {call:eO} {c9:cB} {h aa:ag} {v:V} (he:(Bi P o.op).run P call (eM c9) h=.val v aa):(hq P o).run call c9 h=.val v aa:=by
 obtain ⟨dst,op,type,pos,after,guard⟩:=o
 cases op<;>simp only [Bi] at he<;>try (cases he;done)
 all_goals simp only [hq]
 case move x=>simpa only [gw,G.run] using he
 case assign x=>simpa only [gw,G.run] using he
 case pick c a b=>
  simp only [gw,G.run] at he ⊢
  generalize (rx c).a8 (eM c9)=q at he ⊢
  cases q<;>exact he
 case alloc t=>
  cases aI:bj P t with
  | none=>rw [aI] at he;cases he
  | some aO=>
    rw [aI] at he
    simp only at he ⊢
    cases aV:aO.zero with
    | none=>rw [aV] at he;cases he
    | some z=>rw [aV] at he;exact he
 case box t x=>simpa only [gw,G.run] using he
 case build t bX=>
  unfold NH at he
  unfold zj
  cases aI:bj P t with
  | none=>rw [aI] at he;cases he
  | some aO=>
    rw [aI] at he
    simp only at he ⊢
    cases aV:aO.zero with
    | none=>rw [aV] at he;cases he
    | some z=>
      rw [aV] at he
      simp only at he ⊢
      cases hu:aO.bG<;>rw [hu] at he<;>simp only at he ⊢<;>try (cases he;done)
      · rename_i n e
        cases fe:bj P e with
        | none=>rw [fe] at he;cases he
        | some bn=>
          rw [fe] at he
          simp only at he ⊢
          cases aH:o7 (fun i=>some (i * bn.size,bn.size)) bX.toList with
          | none=>rw [aH] at he;cases he
          | some l=>
            rw [aH] at he
            simp only [G.run] at he
            rw [zI c9 aH]
            cases au:ij z.cells (j1 (eM c9) l) with
            | none=>rw [au] at he;cases he
            | some cs=>rw [au] at he;exact he
      · rename_i bw
        cases al:zH P bw.toList with
        | false=>rw [al] at he;cases he
        | true=>
          rw [al] at he
          simp only [cond_true] at he ⊢
          cases aH:o7 (u4 P bw) bX.toList with
          | none=>rw [aH] at he;cases he
          | some l=>
            rw [aH] at he
            simp only [G.run] at he
            rw [zI c9 aH]
            cases au:ij z.cells (j1 (eM c9) l) with
            | none=>rw [au] at he;cases he
            | some cs=>rw [au] at he;exact he
 case buildSlice t n bX=>
  unfold NK at he
  unfold sY
  cases aI:bj P t with
  | none=>rw [aI] at he;cases he
  | some aO=>
    rw [aI] at he
    simp only at he ⊢
    cases hu:aO.bG<;>rw [hu] at he<;>simp only at he ⊢<;>try (cases he;done)
    rename_i e
    cases fe:bj P e with
    | none=>rw [fe] at he;cases he
    | some bn=>
      rw [fe] at he
      simp only at he ⊢
      cases aV:bn.zero with
      | none=>rw [aV] at he;cases he
      | some z=>
        rw [aV] at he
        simp only at he ⊢
        cases ah:(Nat.ble (n * bn.size) 1000000&&Nat.beq z.cells.length bn.size) with
        | false=>rw [ah] at he;cases he
        | true=>
          rw [ah] at he
          simp only [cond_true] at he ⊢
          cases aH:o7 (fun i=>some (i * bn.size,bn.size)) bX.toList with
          | none=>rw [aH] at he;cases he
          | some l=>
            rw [aH] at he
            simp only [G.run] at he
            rw [zI c9 aH]
            exact he
 case load t x=>
  unfold tL
  cases aI:bj P t with
  | none=>rw [aI] at he;cases he
  | some aO=>
    rw [aI] at he
    simp only at he ⊢
    cases bH:aO.agg with
    | true=>rw [bH] at he;simpa only [cond_true,gw,G.run] using he
    | false=>
      rw [bH] at he
      simp only [cond_false] at he ⊢
      cases bk:Nat.beq aO.size 1 with
      | true=>rw [bk] at he;simpa only [cond_true,gw,G.run] using he
      | false=>rw [bk] at he;cases he
 case store t x y=>
  unfold yt
  cases aI:bj P t with
  | none=>rw [aI] at he;cases he
  | some aO=>rw [aI] at he;simpa only [gw,G.run] using he
 case nilCheck x=>simpa only [gw,G.run] using he
 case binOp op t x y t2=>simpa only [gw,G.run,abt] using he
 case unOp op t x=>simpa only [gw,G.run] using he
 case convert s d x=>simpa only [gw,G.run,abr] using he
 case makeFunc fn first jz=>
  cases fn<;>simp only at he<;>try (cases he;done)
  simp only
  cases au:first.isEmpty with
  | false=>rw [au] at he;cases he
  | true=>rw [au] at he;simpa only [cond_true,w_,G.run] using he
 case makeInterface t x=>
  cases aI:bj P t with
  | none=>rw [aI] at he;cases he
  | some aO=>
    rw [aI] at he
    simp only at he ⊢
    cases ah:Nat.beq (fS aO.bG) 5 with
    | true=>rw [ah] at he;cases he
    | false=>rw [ah] at he;simpa only [cond_false,gw,G.run] using he
 case makeSlice t l c=>
  unfold AB
  cases aI:bj P t with
  | none=>rw [aI] at he;cases he
  | some aO=>
    rw [aI] at he
    simp only at he ⊢
    cases hu:aO.bG<;>rw [hu] at he<;>simp only at he ⊢<;>try (cases he;done)
    rename_i e
    cases fe:bj P e with
    | none=>rw [fe] at he;cases he
    | some bn=>
      rw [fe] at he
      simp only at he ⊢
      cases aV:bn.zero with
      | none=>rw [aV] at he;cases he
      | some z=>
        rw [aV] at he
        simp only at he ⊢
        cases ah:Nat.ble bn.bytes 4096 with
        | false=>rw [ah] at he;cases he
        | true=>rw [ah] at he;simpa only [cond_true,gw,G.run] using he
 case slice t x bU ax dV=>
  unfold Br
  cases aI:bj P t with
  | none=>rw [aI] at he;cases he
  | some aO=>
    rw [aI] at he
    simp only at he ⊢
    cases hu:aO.bG<;>rw [hu] at he<;>simp only at he ⊢<;>try (cases he;done)
    · simpa only [gw,Fk,G.run] using he
    · rename_i e
      cases fe:bj P e with
      | none=>rw [fe] at he;cases he
      | some bn=>
        rw [fe] at he
        simp only [gw,Fk,G.run] at he ⊢
        generalize (rx x).a8 (eM c9)=q at he ⊢
        cases q<;>exact he
 case fieldAddr t x i=>
  unfold zF
  cases au:pz P t i with
  | none=>rw [au] at he;cases he
  | some f=>
    rw [au] at he
    simp only at he ⊢
    cases aI:bj P f.type with
    | none=>rw [aI] at he;cases he
    | some lS=>
      rw [aI] at he
      simp only at he ⊢
      cases ah:Nat.beq lS.size 0 with
      | true=>rw [ah] at he;cases he
      | false=>rw [ah] at he;simpa only [cond_false,gw,G.run] using he
 case field t x i=>
  unfold zG
  cases au:pz P t i with
  | none=>rw [au] at he;cases he
  | some f=>
    rw [au] at he
    simp only [rb] at he ⊢
    cases aI:bj P f.type with
    | none=>rw [aI] at he;cases he
    | some lS=>
      rw [aI] at he
      simp only at he ⊢
      cases ah:lS.agg with
      | true=>
        rw [ah] at he
        simp only [cond_true,gw,G.run] at he ⊢
        generalize (rx x).a8 (eM c9)=q at he ⊢
        cases q<;>exact he
      | false=>
        rw [ah] at he
        simp only [cond_false,gw,G.run] at he ⊢
        generalize (rx x).a8 (eM c9)=q at he ⊢
        cases q<;>exact he
 case indexAddr t x i=>
  unfold Am
  cases aI:bj P t with
  | none=>rw [aI] at he;cases he
  | some aO=>
    rw [aI] at he
    simp only at he ⊢
    cases hu:aO.bG<;>rw [hu] at he<;>simp only at he ⊢<;>try (cases he;done)
    all_goals
     rename_i e
     cases fe:bj P e with
     | none=>rw [fe] at he;cases he
     | some bn=>rw [fe] at he;simpa only [gw,G.run] using he
 case index t x i=>
  cases aI:bj P t with
  | none=>rw [aI] at he;cases he
  | some aO=>
    rw [aI] at he
    simp only at he
    cases hu:aO.bG<;>rw [hu] at he<;>simp only [G.run] at he
    case string=>
     unfold q4
     rw [aI]
     simp only [hu]
     simpa only [gw] using he
    all_goals simpa only [gw] using he
 case range t x=>
  unfold A'
  cases aI:bj P t with
  | none=>rw [aI] at he;cases he
  | some aO=>
    rw [aI] at he
    simp only at he ⊢
    cases hu:aO.bG<;>rw [hu] at he<;>simp only at he ⊢<;>try (cases he;done)
    simp only [gw,G.run] at he ⊢
    generalize (rx x).a8 (eM c9)=q at he ⊢
    cases q<;>exact he
 case next it b=>
  cases b<;>simp only at he<;>try (cases he;done)
  simpa only [gw,G.run] using he
 case lookup t x k ok=>
  unfold Az
  cases aI:bj P t with
  | none=>rw [aI] at he;cases he
  | some aO=>
    rw [aI] at he
    simp only at he ⊢
    cases hu:aO.bG<;>rw [hu] at he<;>simp only at he ⊢<;>try (cases he;done)
    rename_i bK e
    cases al:bj P bK with
    | none=>rw [al] at he;cases he
    | some iO=>
      rw [al] at he
      simp only at he ⊢
      cases fe:bj P e with
      | none=>rw [fe] at he;cases he
      | some bn=>
        rw [fe] at he
        simp only at he ⊢
        cases aV:bn.zero with
        | none=>rw [aV] at he;cases he
        | some z=>
          rw [aV] at he
          simp only at he ⊢
          cases jg:tH iO.bG with
          | none=>rw [jg] at he;cases he
          | some eu=>
            rw [jg] at he
            obtain ⟨aG,az⟩:=EN jg
            simp only [aG,az,cond_true]
            simpa only [gw,G.run] using he
 case mapUpdate t m k x=>
  unfold sB
  cases aI:bj P t with
  | none=>rw [aI] at he;cases he
  | some aO=>
    rw [aI] at he
    simp only at he ⊢
    cases hu:aO.bG<;>rw [hu] at he<;>simp only at he ⊢<;>try (cases he;done)
    rename_i bK e
    cases al:bj P bK with
    | none=>rw [al] at he;cases he
    | some iO=>
      rw [al] at he
      simp only at he ⊢
      cases jg:tH iO.bG with
      | none=>rw [jg] at he;cases he
      | some eu=>
        rw [jg] at he
        obtain ⟨aG,az⟩:=EN jg
        simp only [aG,az,cond_true]
        simpa only [gw,G.run] using he
 case insert t m k x=>
  unfold sB
  cases aI:bj P t with
  | none=>rw [aI] at he;cases he
  | some aO=>
    rw [aI] at he
    simp only at he ⊢
    cases hu:aO.bG<;>rw [hu] at he<;>simp only at he ⊢<;>try (cases he;done)
    rename_i bK e
    cases al:bj P bK with
    | none=>rw [al] at he;cases he
    | some iO=>
      rw [al] at he
      simp only at he ⊢
      cases jg:tH iO.bG with
      | none=>rw [jg] at he;cases he
      | some eu=>
        rw [jg] at he
        obtain ⟨aG,az⟩:=EN jg
        simp only [aG,az,cond_true]
        simpa only [gw,G.run] using he
 case makeMap t x=>
  unfold vE
  cases aI:bj P t with
  | none=>rw [aI] at he;cases he
  | some aO=>
    rw [aI] at he
    simp only at he ⊢
    cases ah:Nat.beq (fS aO.bG) 3 with
    | false=>rw [ah] at he;cases he
    | true=>rw [ah] at he;simpa only [cond_true,Fk,G.run] using he
 case extract x i=>
  simp only [gw,G.run] at he ⊢
  generalize (rx x).a8 (eM c9)=q at he ⊢
  cases q<;>exact he
 case call c=>exact abq he
end
end Go.Proofs.YtjbiefneffiogaaGreat.ba
namespace Go.Proofs.YtjbiefneffiogaaGreat.ba
variable [Lay]
open Go Go.RowKit
def ma (P:Program) (f:FuncId) (args:List V) (h:ag) (v:V) (aa:ag):Prop:=
 ((∃fn,P.funcs[f]? =some fn∧fn.body.isSome=true)∧∀(aJ:Fr) E w xs,bA E args xs→bQ aJ E h w→
   Calls P f xs.toArray w fun e aC=>∃aP x,e=.returned x∧E.le aP∧Rel aP v x∧bQ aJ aP aa aC)∨
 ∀(aJ:Fr) E w xs,bA E args xs→bQ aJ E h w→∃aP x aC,(callFunc f xs.toArray).run P w=.ok (.value x) aC∧E.le aP∧Rel aP v x∧bQ aJ aP aa aC
theorem ma.calls {P:Program} (dU:i' P) {f:FuncId} {args:List V} {h aa:ag} {v:V} (H:ma P f args h v aa) (ah:∃fn,P.funcs[f]? =some fn∧fn.body.isSome=true) (aJ:Fr) (E:Env) (w:World) (xs:List Value) (an:bA E args xs) (s:bQ aJ E h w):
 Calls P f xs.toArray w fun e aC=>∃aP x,e=.returned x∧E.le aP∧Rel aP v x∧bQ aJ aP aa aC:=by
 rcases H with ⟨_,H⟩ | H
 · exact H aJ E w xs an s
 · obtain ⟨aP,x,aC,aT,_⟩:=H aJ E w xs an s
   obtain ⟨fn,ab,af⟩:=ah
   rw [FT dU ab af] at aT
   cases aT
def bR (P:Program) (f:FuncId) (args:List V) (h:ag) (K:V→ag→Prop):Prop:=∃v aa,ma P f args h v aa∧K v aa
theorem bR.mono {P:Program} {f:FuncId} {args:List V} {h:ag} {K bg:V→ag→Prop} (c:bR P f args h K) (al:∀v aa,K v aa→bg v aa):bR P f args h bg:=by
 obtain ⟨v,aa,aG,az⟩:=c
 exact ⟨v,aa,aG,al v aa az⟩
def l4:eO:=fun _ _ _=>.fail
theorem AO (P:Program):jS P l4∧kd P l4:=
 ⟨fun _ f args h v aa he=>by simp [l4] at he,fun f args h v aa he=>by simp [l4] at he⟩
open Classical in
noncomputable def x9 (f:FuncId) (args:List V) (h:ag) (v:V) (aa:ag):eO:=
 fun f1 bB ab=>if f1=f∧bB=args∧ab=h then .val v aa else .fail
theorem Mu {P:Program} {f:FuncId} {args:List V} {h aa:ag} {v:V} (H:ma P f args h v aa):jS P (x9 f args h v aa)∧kd P (x9 f args h v aa):=by
 refine ⟨fun aJ f1 bB ab v1 jE he=>?_,fun f1 bB ab v1 jE he=>?_⟩
 · unfold x9 at he
   split at he
   · rename_i aA
     obtain ⟨rfl,rfl,rfl⟩:=aA
     simp only [bh.val.injEq] at he
     obtain ⟨rfl,rfl⟩:=he
     intro E w xs an s
     rcases H with H | H
     · exact .inl ⟨H.1,H.2 aJ E w xs an s⟩
     · exact .inr (H aJ E w xs an s)
   · cases he
 · trivial
theorem Mv {f:FuncId} {args:List V} {h aa:ag} {v:V}:x9 f args h v aa f args h=.val v aa:=by
 unfold x9
 rw [if_pos ⟨rfl,rfl,rfl⟩]
def bD.set (r:bD) (d:Option Nat) (v:V):bD:=
 match d with
 | none=>r
 | some d=>fun t=>if t=d then v else r t
def bD.trim (r:bD):List Nat→bD
 | [],_=>.bad
 | u::us,t=>if t=u then r t else bD.trim r us t
def bD.ar:List V→bD
 | [],_=>.bad
 | v::ad,t=>if t=0 then v else bD.ar ad (t-1)
noncomputable def yy (r:bD):List Nat→cB
 | []=>.e
 | t::cP=>T.put .bad (r t) (ak t) (yy r cP)
theorem Om (r:bD):∀cP:List Nat,eM (yy r cP)=bD.trim r cP
 | []=>by funext t;simp [eM,yy,bD.trim]
 | u::cP=>by
   funext t
   have bb:=congrFun (Om r cP) t
   simp only [eM] at bb
   simp only [eM,yy,bD.trim,T.mE]
   by_cases h:t=u
   · subst h;simp
   · rw [if_neg (fun e=>h (l6 e).symm),if_neg h]
     exact bb
theorem BA (c9:cB):∀cP:List Nat,eM (jv c9 cP)=bD.trim (eM c9) cP
 | []=>by funext t;simp [eM,jv,bD.trim]
 | u::cP=>by
   funext t
   have bb:=congrFun (BA c9 cP) t
   simp only [eM] at bb
   simp only [eM,jv,bD.trim,T.mE]
   by_cases h:t=u
   · subst h;simp
   · rw [if_neg (fun e=>h (l6 e).symm),if_neg h]
     exact bb
theorem BB {r:bD}:∀{cP:List Nat} {t:Nat},t ∈ cP→bD.trim r cP t=r t
 | [],t,h=>by simp at h
 | u::cP,t,h=>by
   simp only [bD.trim]
   by_cases hu:t=u
   · rw [if_pos hu]
   · rw [if_neg hu]
     simp only [List.mem_cons] at h
     exact BB (h.resolve_left hu)
theorem Oo {r:bD}:∀{cP:List Nat} {t:Nat},t ∉ cP→bD.trim r cP t=.bad
 | [],t,_=>rfl
 | u::cP,t,h=>by
   simp only [List.mem_cons,not_or] at h
   simp only [bD.trim]
   rw [if_neg h.1]
   exact Oo h.2
theorem MX (d:Option Nat) (c9:cB) (v:V):eM ((kv d).run c9 v)=(eM c9).set d v:=by
 cases d with
 | none=>rfl
 | some d=>
   funext t
   simp only [eM,kv,bD.set,T.mE]
   by_cases h:t=d
   · subst h;simp
   · rw [if_neg (fun e=>h (l6 e).symm),if_neg h]
def Out (aR:Nat) (r:bD):Prop:=∀t,aR≤t→r t=.bad
theorem Db {aR:Nat} {r:bD} (bt:Out aR r):∃c9,eM c9=r:=by
 refine ⟨yy r (List.range aR),?_⟩
 rw [Om]
 funext t
 by_cases h:t<aR
 · exact BB (List.mem_range.2 h)
 · rw [Oo (by simpa using h),bt t (by omega)]
theorem Out.set {aR:Nat} {r:bD} (bt:Out aR r) {d:Option Nat} (bE:iD aR d=true) (v:V):Out aR (r.set d v):=by
 intro t aI
 cases d with
 | none=>exact bt t aI
 | some d=>
   simp only [iD,Bool.and_eq_true,Nat.blt_eq] at bE
   simp only [bD.set]
   rw [if_neg (by omega)]
   exact bt t aI
structure kH (E:Env) (aR:Nat) (r:bD) (a:Act):Prop where
 size:a.tmps.size=aR
 defers:a.defers=[]
 aj:∀t,Rel E (r t) (a.tmps.getD t undef)
theorem kH.mono {E aP:Env} (h:E.le aP) {aR:Nat} {r:bD} {a:Act} (k:kH E aR r a):kH aP aR r a:=
 ⟨k.size,k.defers,fun t=>Rel.mono h _ _ (k.aj t)⟩
theorem kH.put {E aP:Env} (h:E.le aP) {aR:Nat} {r:bD} {a:Act} (k:kH E aR r a) {d:Option Nat} (bE:iD aR d=true) {v:V} {x:Value} (an:Rel aP v x):kH aP aR (r.set d v) (a.put d x):=by
 cases d with
 | none=>exact k.mono h
 | some d=>
   simp only [iD,Bool.and_eq_true,Nat.blt_eq] at bE
   refine ⟨by simp [Act.put,k.size],by simp [Act.put,k.defers],fun t=>?_⟩
   simp only [bD.set,Act.put]
   rw [Array.getD_eq_getD_getElem?,Array.getElem?_setIfInBounds]
   by_cases aI:t=d
   · subst aI
     rw [if_pos rfl,if_pos rfl,if_pos (by rw [k.size];exact bE.1)]
     exact an
   · rw [if_neg aI,if_neg (fun e=>aI e.symm),←Array.getD_eq_getD_getElem?]
     exact Rel.mono h _ _ (k.aj t)
noncomputable def G.wp (P:Program) (g:G) (r:bD) (h:ag) (K:V→ag→Prop):Prop:=
 match g with
 | .call f args=>bR P f (aZ.gH r args) h K
 | .ps f args=>∃g cs,f.a8 r=.func g cs∧bR P g (aZ.gH r args++cs) h K
 | g=>∃v aa,g.run P l4 r h=.val v aa∧K v aa
theorem G.wm {P:Program} {g:G} {r:bD} {h:ag} {K:V→ag→Prop} (H:g.wp P r h K):∃call v aa,(jS P call∧kd P call)∧g.run P call r h=.val v aa∧K v aa:=by
 cases g
 case call f args=>
  obtain ⟨v,aa,aG,az⟩:=H
  exact ⟨_,v,aa,Mu aG,Mv,az⟩
 case ps f args=>
  obtain ⟨g,cs,au,v,aa,aG,az⟩:=H
  refine ⟨_,v,aa,Mu aG,?_,az⟩
  simp only [G.run,au,V.x4]
  exact Mv
 all_goals
  obtain ⟨v,aa,aG,az⟩:=H
  exact ⟨l4,v,aa,AO P,aG,az⟩
structure bu where
 dst:Option Nat
 g:G
 TI:Option (Nat × Bool)
 rs:List Nat
def bu.bad:bu:=⟨none,.bad,none,[]⟩
def gate (v:V) (want:Bool) (A B:Prop):Prop:=
 match v with
 | .bool b=>(b=want→A)∧(b=!want→B)
 | .tuple _=>B
 | _=>False
noncomputable def bu.wp (P:Program) (o:bu) (r:bD) (h:ag) (K:bD→V→ag→Prop):Prop:=
 match o.TI with
 | none=>o.g.wp P (r.trim o.rs) h fun v aa=>K (r.set o.dst v) v aa
 | some (d,want)=>gate (r.trim o.rs d) want (o.g.wp P (r.trim o.rs) h fun v aa=>K (r.set o.dst v) v aa) (K (r.set o.dst (.tuple [])) (.tuple []) h)
def Bj (P:Program) (aR:Nat) (all:Array Oper) (o:Oper):bu:=
 bif iD aR o.dst&&p5 (fs all o) then
  match o.guard with
  | none=>⟨o.dst,Bi P o.op,none,fs all o⟩
  | some (j,want)=>match all[j]? with
    | some g=>match g.dst with
      | some d=>bif Nat.blt d aR&&Nat.ble d top then ⟨o.dst,Bi P o.op,some (d,want),fs all o⟩ else bu.bad
      | none=>bu.bad
    | none=>bu.bad
 else bu.bad
def rj (P:Program) (aR:Nat) (all:Array Oper):List Oper→List bu
 | []=>[]
 | o::os=>Bj P aR all o::rj P aR all os
theorem NJ (P:Program) (aR:Nat) (all:Array Oper):∀l:List Oper,rj P aR all l=l.map (Bj P aR all)
 | []=>rfl
 | o::os=>by simp [rj,NJ P aR all os]
theorem bu.ze {P:Program} {r:bD} {h:ag} {K:bD→V→ag→Prop}:¬bu.bad.wp P r h K:=by
 rintro ⟨v,aa,q,_⟩
 cases q
theorem bu.wm {P:Program} {aR:Nat} {all:Array Oper} {o:Oper} {r:bD} {h:ag} {K:bD→V→ag→Prop} (H:(Bj P aR all o).wp P r h K):
 ∃call v aa,(jS P call∧kd P call)∧iD aR o.dst=true∧K (r.set o.dst v) v aa∧∀c9,eM c9=r→(gn P aR all o).run call c9 h=.val v aa:=by
 unfold Bj at H
 cases aA:(iD aR o.dst&&p5 (fs all o)) with
 | false=>rw [aA] at H;exact absurd H bu.ze
 | true=>
   have bE:iD aR o.dst=true:=by simp only [Bool.and_eq_true] at aA;exact aA.1
   rw [aA] at H
   simp only [cond_true] at H
   cases a1:o.guard with
   | none=>
     rw [a1] at H
     obtain ⟨call,v,aa,aG,az,aW⟩:=G.wm H
     refine ⟨call,v,aa,aG,bE,aW,fun c9 eg=>?_⟩
     unfold gn
     rw [aA]
     simp only [cond_true,a1,lQ]
     refine NI ?_
     rw [BA,eg]
     exact az
   | some q5=>
     obtain ⟨j,want⟩:=q5
     rw [a1] at H
     simp only at H
     cases bC:all[j]? with
     | none=>rw [bC] at H;exact absurd H bu.ze
     | some g=>
       rw [bC] at H
       simp only at H
       cases jf:g.dst with
       | none=>rw [jf] at H;exact absurd H bu.ze
       | some d=>
         rw [jf] at H
         simp only at H
         cases ah:(Nat.blt d aR&&Nat.ble d top) with
         | false=>rw [ah] at H;exact absurd H bu.ze
         | true=>
           rw [ah] at H
           simp only [cond_true,bu.wp] at H
           have key:gn P aR all o=⟨lQ (some (nw (ak d),want)) (hq P o) (fs all o)⟩:=by
            unfold gn
            rw [aA]
            simp only [cond_true,a1,bC,jf,ah]
           have DQ:∀c9,eM c9=r→(nw (ak d)).run (jv c9 (fs all o))=r.trim (fs all o) d:=by
            intro c9 eg
            rw [←eg,←BA]
            rfl
           cases a6:r.trim (fs all o) d<;>rw [a6] at H<;>simp only [gate] at H
           case bool b=>
            by_cases KC:b=want
            · obtain ⟨call,v,aa,aG,az,aW⟩:=G.wm (H.1 KC)
              refine ⟨call,v,aa,aG,bE,aW,fun c9 eg=>?_⟩
              rw [key]
              simp only [lQ,DQ c9 eg,a6]
              rw [show (bif want then b else !b)=true from by subst KC;cases b<;>rfl]
              simp only [cond_true]
              refine NI ?_
              rw [BA,eg]
              exact az
            · have vc:b=!want:=by cases b<;>cases want<;>simp_all
              refine ⟨l4,.tuple [],h,AO P,bE,H.2 vc,fun c9 eg=>?_⟩
              rw [key]
              simp only [lQ,DQ c9 eg,a6]
              rw [show (bif want then b else !b)=false from by subst vc;cases want<;>rfl]
              rfl
           case tuple ad=>
            refine ⟨l4,.tuple [],h,AO P,bE,H,fun c9 eg=>?_⟩
            rw [key]
            simp only [lQ,DQ c9 eg,a6]
noncomputable def rv (P:Program):List bu→bD→ag→(bD→ag→Prop)→Prop
 | [],r,h,K=>K r h
 | o::os,r,h,K=>o.wp P r h fun bI _ aa=>rv P os bI aa K
structure fF where
 r:bD
 h:ag
 v:V
noncomputable def kD (P:Program):List bu→bD→ag→(List fF→bD→ag→Prop)→Prop
 | [],r,h,K=>K [] r h
 | o::os,r,h,K=>o.wp P r h fun bI v aa=>kD P os bI aa fun es gC au=>K (⟨r,h,v⟩::es) gC au
def vg (es:List fF) (au:ag) (i:Nat):ag:=
 match es[i]? with
 | some e=>e.h
 | none=>au
noncomputable def qx (P:Program) (o:Option bu) (e:Option fF) (es:List fF) (au:ag):List Nat→Prop
 | []=>True
 | s::fh=>(match o,e with
   | some o,some e=>o.wp P e.r (vg es au s) fun _ dE _=>dE=e.v
   | _,_=>False)∧qx P o e es au fh
noncomputable def oq (P:Program) (ops:List bu) (es:List fF) (au:ag):List (Nat × List Nat)→Prop
 | []=>True
 | (p,fh)::rest=>qx P ops[p]? es[p]? es au fh∧oq P ops es au rest
inductive bL where
 | bad
 | skip
 | aj (ops:List bu)
 | draw (ops:List bu) (asks:List (Nat × List Nat))
 | seq (a b:bL)
 | cond (c:aZ) (a b:bL)
 | block (id:Nat) (b:bL)
 | loop (b:bL)
 | exit (id:Nat)
 | ret
def uR (P:Program) (ops:List Oper) (dH aU fc:List Nat):Nat→List Oper→List (Nat × List Nat)
 | _,[]=>[]
 | i,o::os=>bif looks o.op&&!ht P o.op then
    (posOf aU i,fc.filter (tP P dH ops aU i ((dH[i]?).getD 0)))::uR P ops dH aU fc (i+1) os
   else uR P ops dH aU fc (i+1) os
def FP (P:Program) (aR:Nat) (ops:Array Oper) (order aU:List Nat):bL:=
 bif vS ops.size order aU&&uX P ops aU then
  .draw (rj P aR ops (nX ops order)) (bif qw P ops.toList then uR P ops.toList (j8 [] ops.toList) aU (ks P aU 0 ops.toList) 0 ops.toList else [])
 else .bad
def k9 (P:Program) (aR:Nat):Code→bL
 | .skip=>.skip
 | .label _=>.skip
 | .region _ ops draw=>bif draw then FP P aR ops (x' P ops) (AZ (x' P ops) 0 ops.toList) else .aj (rj P aR ops ops.toList)
 | .seq a b=>.seq (k9 P aR a) (k9 P aR b)
 | .cond c a b=>.cond (rx c) (k9 P aR a) (k9 P aR b)
 | .block id b=>.block id (k9 P aR b)
 | .loop b=>.loop (k9 P aR b)
 | .exit id=>.exit id
 | .ret=>.ret
 | .scope b=>k9 P aR b
 | _=>.bad
def cr.andThen:cr→Prop→Prop→Prop
 | .normal,A,_=>A
 | _,_,B=>B
def cr.leave (id:Nat):cr→cr
 | .exit i=>if i=id then .normal else .exit i
 | e=>e
noncomputable def hx (P:Program):bL→bD→ag→(cr→bD→ag→Prop)→Prop
 | .bad,_,_,_=>False
 | .skip,r,h,Q=>Q .normal r h
 | .aj ops,r,h,Q=>rv P ops r h (Q .normal)
 | .draw ops asks,r,h,Q=>kD P ops r h fun es gC au=>oq P ops es au asks∧Q .normal gC au
 | .seq a b,r,h,Q=>hx P a r h fun e bI aa=>e.andThen (hx P b bI aa Q) (Q e bI aa)
 | .cond c a b,r,h,Q=>match c.a8 r with
   | .bool t=>(t=true→hx P a r h Q)∧(t=false→hx P b r h Q)
   | _=>False
 | .block id b,r,h,Q=>hx P b r h fun e bI aa=>Q (e.leave id) bI aa
 | .loop b,r,h,Q=>∃(I:bD→ag→Prop) (μ:bD→ag→Nat),I r h∧∀r h,I r h→hx P b r h fun e bI aa=>e.andThen (I bI aa∧μ bI aa<μ r h) (Q e bI aa)
 | .exit id,r,h,Q=>Q (.exit id) r h
 | .ret,r,h,Q=>Q .ret r h
def B2 (P:Program) (aR:Nat) (c:Code) (r:bD) (h:ag) (e:cr) (bI:bD) (aa:ag):Prop:=
 ∀(aJ:Fr) E a w,kH E aR r a→bQ aJ E h w→∀Q:Exit→Act→World→Prop,
  (∀aP cc aC,E.le aP→kH aP aR bI cc→bQ aJ aP aa aC→Q (uq e) cc aC)→BH P c Q a w
section
variable {P:Program} {aR:Nat}
theorem OS (dU:i' P) {all:Array Oper}:∀(l:List Oper) (i:Nat),(∀j,l[j]? =all[i+j]?)→∀(r:bD) (h:ag) (K:bD→ag→Prop),Out aR r→rv P (rj P aR all l) r h K→
 ∃bI aa,K bI aa∧Out aR bI∧∀(aJ:Fr) E a w,kH E aR r a→bQ aJ E h w→∀Q:Exit→Act→World→Prop,
  (∀aP cc aC,E.le aP→kH aP aR bI cc→bQ aJ aP aa aC→Q .normal cc aC)→wpOps P all Q (List.range' i l.length) a w
 | [],i,_,r,h,K,bt,H=>by
   refine ⟨r,h,H,bt,fun aJ E a w k s Q cU=>?_⟩
   simp only [List.length_nil,List.range'_zero,wpOps]
   exact cU E a w (Env.le.refl E) k s
 | o::os,i,aB,r,h,K,bt,H=>by
   have ax:all[i]? =some o:=by have:=aB 0;simpa using this.symm
   simp only [rj,rv] at H
   obtain ⟨call,v,ab,aA,bE,H1,dy⟩:=bu.wm H
   obtain ⟨bV,af,aG,az,aW⟩:=OS dU os (i+1) (fun j=>by
    have:=aB (j+1)
    simp only [List.getElem?_cons_succ] at this
    rw [this]
    congr 1
    omega) _ ab K (bt.set bE v) H1
   refine ⟨bV,af,aG,az,fun aJ E a w k s Q cU=>?_⟩
   obtain ⟨c9,eg⟩:=Db bt
   rw [List.length_cons,List.range'_succ,wpOps_cons]
   refine zt dU aA.1 aA.2 ax (dy c9 eg) k.size k.defers (fun t _=>?_) s fun aP x aC b_ b1 cy=>?_
   · have:=congrFun eg t
     simp only [eM] at this
     rw [this]
     exact k.aj t
   · exact aW aJ aP _ aC (k.put b_ bE b1) cy Q fun ec bJ di dN db z3=>cU ec bJ di (b_.trans dN) db z3
noncomputable def Ol (e:h1):fF:=⟨eM e.r,e.h,e.v⟩
theorem UC (es:List h1) (au:ag) (i:Nat):vg (es.map Ol) au i=dB es au i:=by
 unfold vg dB
 rw [List.getElem?_map]
 cases es[i]? <;>rfl
theorem OR {all:Array Oper}:∀(l:List Oper) (ml:cB) (h:ag) (K:List fF→bD→ag→Prop),kD P (rj P aR all l) (eM ml) h K→Out aR (eM ml)→
 ∃es pn au,K (es.map Ol) (eM pn) au∧Out aR (eM pn)∧es.length=l.length∧dB es au 0=h∧jt es pn 0=ml∧
  ∀j o,l[j]? =some o→∃e call,es[j]? =some e∧(jS P call∧kd P call)∧(gn P aR all o).run call e.r e.h=.val e.v (dB es au (j+1))∧jt es pn (j+1)=(kv o.dst).run e.r e.v
 | [],ml,h,K,H,bt=>⟨[],ml,h,H,bt,rfl,rfl,rfl,fun j o bC=>by simp at bC⟩
 | o::os,ml,h,K,H,bt=>by
   simp only [rj,kD] at H
   obtain ⟨call,v,ab,aA,bE,H1,dy⟩:=bu.wm H
   rw [←MX] at H1
   obtain ⟨es,pn,au,aG,az,aW,bZ,dW,eT⟩:=OR os _ ab _ H1 (by rw [MX];exact bt.set bE v)
   refine ⟨⟨ml,h,v⟩::es,pn,au,aG,az,by simp [aW],by simp [dB],by simp [jt],fun j dI bC=>?_⟩
   cases j with
   | zero=>
     simp only [List.getElem?_cons_zero,Option.some.injEq] at bC
     subst bC
     exact ⟨⟨ml,h,v⟩,call,rfl,aA,by rw [zZ,bZ];exact dy ml rfl,by rw [Bc,dW]⟩
   | succ j=>
     obtain ⟨e,c,b_,b1,cy,gB⟩:=eT j dI (by simpa using bC)
     exact ⟨e,c,by simpa using b_,b1,by rw [zZ];exact cy,by rw [Bc];exact gB⟩
theorem Ha {o:Option bu} {e:Option fF} {es:List fF} {au:ag}:∀{fh:List Nat},qx P o e es au fh→∀s ∈ fh,∃dI fH,o=some dI∧e=some fH∧dI.wp P fH.r (vg es au s) fun _ dE _=>dE=fH.v
 | [],_,s,h=>by simp at h
 | gY::fh,H,s,hm=>by
   simp only [qx] at H
   simp only [List.mem_cons] at hm
   rcases hm with rfl | hm
   · cases o with
     | none=>exact H.1.elim
     | some o=>
       cases e with
       | none=>exact H.1.elim
       | some e=>exact ⟨o,e,rfl,rfl,H.1⟩
   · exact Ha H.2 s hm
theorem Hc {ops:List Oper} {dH aU fc:List Nat} {gs:List bu} {es:List fF} {au:ag}:∀{l:List Oper} {i:Nat},oq P gs es au (uR P ops dH aU fc i l)→∀j o,l[j]? =some o→looks o.op=true→ht P o.op=false→
 qx P gs[posOf aU (i+j)]? es[posOf aU (i+j)]? es au (fc.filter (tP P dH ops aU (i+j) ((dH[i+j]?).getD 0)))
 | [],i,_,j,o,h,_,_=>by simp at h
 | dI::os,i,H,j,o,h,ab,af=>by
   simp only [uR] at H
   cases j with
   | zero=>
     simp only [List.getElem?_cons_zero,Option.some.injEq] at h
     subst h
     rw [ab,af] at H
     simp only [Bool.not_false,Bool.and_true,cond_true,oq] at H
     exact H.1
   | succ j=>
     have hJ:oq P gs es au (uR P ops dH aU fc (i+1) os):=by
      cases aA:(looks dI.op&&!ht P dI.op) with
      | true=>rw [aA] at H;simp only [cond_true,oq] at H;exact H.2
      | false=>rw [aA] at H;exact H
     have:=Hc hJ j o (by simpa using h) ab af
     rw [show i+1+j=i + (j+1) from by omega] at this
     exact this
theorem S8 (oU:aR≤top) (eY:P.follows .mixedOrders=true) (dU:i' P) {id:Nat} {ops:Array Oper} {order aU:List Nat} {r:bD} {h:ag} {Q:cr→bD→ag→Prop} (bt:Out aR r)
 (H:hx P (FP P aR ops order aU) r h Q):∃bI aa,Q .normal bI aa∧Out aR bI∧B2 P aR (.region id ops true) r h .normal bI aa:=by
 unfold FP at H
 cases au:(vS ops.size order aU&&uX P ops aU) with
 | false=>rw [au] at H;exact H.elim
 | true=>
   rw [au] at H
   simp only [cond_true,hx] at H
   simp only [Bool.and_eq_true] at au
   obtain ⟨pJ,vi⟩:=au
   unfold vS at pJ
   simp only [Bool.and_eq_true,Nat.beq_eq] at pJ
   obtain ⟨D9,Vr,D',D_⟩:=pJ
   have lB:∀k,k<ops.size→posOf aU k<ops.size∧order[posOf aU k]? =some k:=by
    intro k al
    have a1:aU[k]? =some (posOf aU k):=by
     unfold posOf
     rw [List.getElem?_eq_getElem (by omega)]
     rfl
    have:=yb D' a1
    rw [Nat.zero_add] at this
    exact ⟨by have:=(List.getElem?_eq_some_iff.1 this).1;omega,this⟩
   have sl:∀p,p<ops.size→∃i,i<ops.size∧posOf aU i=p:=by
    intro p aH
    have a1:order[p]? =some (order[p]'(by omega)):=List.getElem?_eq_getElem (by omega)
    have:=yb D_ a1
    rw [Nat.zero_add] at this
    refine ⟨order[p]'(by omega),by have:=(List.getElem?_eq_some_iff.1 this).1;omega,?_⟩
    unfold posOf
    rw [this]
    rfl
   obtain ⟨ml,xh⟩:=Db bt
   rw [←xh] at H bt
   obtain ⟨es,pn,cv,⟨DD,cU⟩,z_,aG,az,aW,bZ⟩:=OR _ ml h _ H bt
   refine ⟨_,cv,cU,z_,fun aJ E a w k s iA Uj=>?_⟩
   have step:∀i:Nat,∃call,(jS P call∧kd P call)∧∀o,ops[i]? =some o→∃e,es[posOf aU i]? =some e∧(gn P aR ops o).run call e.r e.h=.val e.v (dB es cv (posOf aU i+1))∧jt es pn (posOf aU i+1)=(kv o.dst).run e.r e.v:=by
    intro i
    cases ax:ops[i]? with
    | none=>exact ⟨l4,AO P,fun o h=>by cases h⟩
    | some o=>
      obtain ⟨e,call,b_,b1,cy,gB⟩:=bZ _ o (vQ (lB i (Array.getElem?_eq_some_iff.1 ax).1).2 ax)
      exact ⟨call,b1,fun dI vo=>by cases vo;exact ⟨e,b_,cy,gB⟩⟩
   obtain ⟨calls,ve⟩:=Classical.axiomOfChoice step
   have DC:∀j o,ops[j]? =some o→looks o.op=true→ht P o.op=false→∃e,es[posOf aU j]? =some e∧∀s ∈ ks P aU 0 ops.toList,
    tP P (j8 [] ops.toList) ops.toList aU j (((j8 [] ops.toList)[j]?).getD 0) s=true→∃c aa,(jS P c∧kd P c)∧(gn P aR ops o).run c e.r (dB es cv s)=.val e.v aa:=by
    intro j o z7 fm UI
    have bC:=(Array.getElem?_eq_some_iff.1 z7).1
    obtain ⟨e,b_,b1,cy⟩:=(ve j).2 o z7
    refine ⟨e,b_,fun s bk hm=>?_⟩
    cases aB:qw P ops.toList with
    | true=>
      rw [aB] at DD
      simp only [cond_true] at DD
      have:=Hc DD j o (by simpa using z7) fm UI
      rw [Nat.zero_add] at this
      obtain ⟨dI,fH,dN,db,z3⟩:=Ha this s (List.mem_filter.2 ⟨bk,hm⟩)
      rw [NJ,List.getElem?_map,vQ (lB j bC).2 z7] at dN
      simp only [Option.map_some,Option.some.injEq] at dN
      rw [List.getElem?_map,b_] at db
      simp only [Option.map_some,Option.some.injEq] at db
      subst dN;subst db
      rw [UC] at z3
      obtain ⟨c,v,aa,kE,_,m_,qf⟩:=bu.wm z3
      have OU:=qf e.r rfl
      rw [show v=e.v from m_] at OU
      exact ⟨c,aa,kE,OU⟩
    | false=>
      have none:∀(l:List Oper),qw P l=false→∀(j:Nat) (o:Oper),l[j]? =some o→ht P o.op=false:=by
       intro l
       induction l with
       | nil=>intro _ j o h;simp at h
       | cons x l bb=>
         intro h j o bt
         simp only [qw,Bool.or_eq_false_iff] at h
         cases j with
         | zero=>simp only [List.getElem?_cons_zero,Option.some.injEq] at bt;subst bt;exact h.1
         | succ j=>exact bb h.2 j o (by simpa using bt)
      have kq:s=ops.size:=by
       rcases xS bk with h | ⟨Ap,dI,ab,af,aK⟩
       · simpa using h
       · have:=none _ aB Ap dI ab
         unfold gJ at af
         rw [this] at af
         cases af
      have flat:∀d,d≤ops.size→dB es cv d=dB es cv 0:=by
       intro d
       induction d with
       | zero=>intro _;rfl
       | succ d bb=>
         intro bE
         obtain ⟨i,nF,nG⟩:=sl d (by omega)
         have eA:ops[i]? =some ops[i]:=Array.getElem?_eq_getElem nF
         obtain ⟨Ta,eE,di,_⟩:=(ve i).2 ops[i] eA
         rw [nG] at eE di
         have eL:ht P ops[i].op=false:=none _ aB i _ (by simp)
         rw [(w6 eL di).1,←bb (by omega)]
         simp [dB,eE]
      have Vz:=(lB j bC).1
      have:e.h=dB es cv s:=by rw [kq,flat ops.size (Nat.le_refl _),←flat (posOf aU j) (by omega)];simp [dB,b_]
      rw [←this]
      exact ⟨_,_,(ve j).1,b1⟩
   have C:Cert P aR ops calls es ml h pn cv (ks P aU 0 ops.toList) order aU:=
    ⟨by rw [aG,Fj,D9],lB,sl,az,aW,fun i o eA=>(ve i).2 o eA,vi,
      by simpa using EU (P:=P) (aU:=aU) (l:=ops.toList) (i:=0),
      fun j o ab af=>by simpa using EV (aU:=aU) (i:=0) (j:=j) (l:=ops.toList) (by simpa using ab) af,
      fun s bk=>by
       rcases xS bk with h | ⟨j,o,ab,af,aK⟩
       · exact .inl (by simpa using h)
       · exact .inr ⟨j,o,by simpa using ab,af,by simpa using aK⟩,
      DC⟩
   have al:gm E aR ml a:=⟨k.size,k.defers,fun t _=>by
    have:=congrFun xh t
    simp only [eM] at this
    rw [this]
    exact k.aj t⟩
   have fv:∀k,¬(Array.replicate ops.size false).getD k false=true:=by
    intro k
    rw [u9,Array.getElem?_replicate]
    split<;>simp
   have kS:Holds aJ aJ es cv aU (jV ops es cv aU (Array.replicate ops.size false) 0):=
    ⟨rfl,fun _ _=>rfl,fun k al=>(by obtain ⟨_,_,_,_,ao⟩:=al;omega),fun k bK al=>(by obtain ⟨_,_,_,_,ao⟩:=al;omega)⟩
   obtain ⟨gY,g3,bF,bz,b6,fP,jD,mC⟩:=C.advance ops.size 0 (by omega) (fun k o _ _ _=>fv k) aJ kS (E:=E) (w:={w with drawn:=w.drawn}) (by rw [az];exact s.same rfl rfl rfl rfl)
   have fin:∀aP cc aC,E.le aP→gm aP aR pn cc→bQ aJ aP cv aC→iA .normal cc aC:=by
    intro aP cc aC dN db z3
    refine Uj aP cc aC dN ⟨db.size,db.defers,fun t=>?_⟩ z3
    by_cases aI:t≤top
    · exact db.aj t aI
    · have eC:=db.size
      rw [z_ t (by omega)]
      simp [Rel]
   refine wp_region_any eY (JF dU (fun i=>(ve i).1.1) (fun i=>(ve i).1.2) C (kF:=E) fin ops.size _ a _ ?_ ?_)
   · exact Nat.le_trans List.countP_le_length (by simp)
   · refine ⟨by simp,al.size,al.defers,fun bK o e al=>absurd al (fv bK),E,gY,g3,Env.le.refl E,bF,b6,fun bK o ab af=>⟨fun h=>absurd h (fv bK),fun h=>by have:=fP bK o ab af (Nat.zero_le _);omega⟩,
      fun bK o _ _ h=>absurd h (fv bK),jD,?_,fun t aI=>.inr ⟨fun bK o al=>absurd al (fv bK),al.aj t aI⟩⟩
     exact mC.same rfl rfl rfl rfl
theorem adp (oU:aR≤top) (eY:P.follows .mixedOrders=true) (dU:i' P):∀(c:Code) (r:bD) (h:ag) (Q:cr→bD→ag→Prop),Out aR r→hx P (k9 P aR c) r h Q→
 ∃e bI aa,Q e bI aa∧Out aR bI∧B2 P aR c r h e bI aa:=by
 intro c
 induction c with
 | skip=>
   intro r h Q bt H
   exact ⟨.normal,r,h,H,bt,fun aJ E a w k s iA cU=>wp_skip (cU E a w (Env.le.refl E) k s)⟩
 | label l=>
   intro r h Q bt H
   exact ⟨.normal,r,h,H,bt,fun aJ E a w k s iA cU=>wp_label (cU E a w (Env.le.refl E) k s)⟩
 | exit id=>
   intro r h Q bt H
   exact ⟨.exit id,r,h,H,bt,fun aJ E a w k s iA cU=>wp_exit (cU E a w (Env.le.refl E) k s)⟩
 | ret=>
   intro r h Q bt H
   exact ⟨.ret,r,h,H,bt,fun aJ E a w k s iA cU=>wp_ret (cU E a w (Env.le.refl E) k s)⟩
 | region id ops draw=>
   intro r h Q bt H
   cases draw with
   | true=>
     simp only [k9,cond_true] at H
     obtain ⟨bI,aa,aG,az,aW⟩:=S8 oU eY dU (id:=id) bt H
     exact ⟨.normal,bI,aa,aG,az,aW⟩
   | false=>
     simp only [k9,cond_false,hx] at H
     obtain ⟨bI,aa,aG,az,aW⟩:=OS dU ops.toList 0 (fun j=>by simp) r h _ bt H
     refine ⟨.normal,bI,aa,aG,az,fun aJ E a w k s iA cU=>?_⟩
     refine wp_region ?_
     have:=aW aJ E a w k s iA cU
     rw [List.range_eq_range']
     simpa using this
 | seq x y tA tB=>
   intro r h Q bt H
   simp only [k9,hx] at H
   obtain ⟨e,bf,ab,aG,az,aW⟩:=tA r h _ bt H
   cases e with
   | normal=>
     obtain ⟨e,bV,af,b_,b1,cy⟩:=tB bf ab Q az aG
     refine ⟨e,bV,af,b_,b1,fun aJ E a w k s iA cU=>?_⟩
     refine wp_seq (aW aJ E a w k s _ fun aP cc aC dN db z3=>?_).wp
     exact (cy aJ aP cc aC db z3 iA fun ec bJ di kE jx m_=>cU ec bJ di (dN.trans kE) jx m_).wp
   | exit i=>
     refine ⟨.exit i,bf,ab,aG,az,fun aJ E a w k s iA cU=>?_⟩
     refine wp_seq (aW aJ E a w k s _ fun aP cc aC dN db z3=>?_).wp
     exact cU aP cc aC dN db z3
   | ret=>
     refine ⟨.ret,bf,ab,aG,az,fun aJ E a w k s iA cU=>?_⟩
     refine wp_seq (aW aJ E a w k s _ fun aP cc aC dN db z3=>?_).wp
     exact cU aP cc aC dN db z3
 | cond c x y tA tB=>
   intro r h Q bt H
   simp only [k9,hx] at H
   cases a6:(rx c).a8 r<;>rw [a6] at H<;>simp only at H<;>try (exact H.elim)
   rename_i t
   have aA:∀E a,kH E aR r a→a.eval c=.bool t:=by
    intro E a k
    cases c with
    | tmp d=>
      simp only [rx] at a6
      cases ah:Nat.ble d top with
      | false=>rw [ah] at a6;simp [aZ.a8] at a6
      | true=>
        rw [ah] at a6
        simp only [cond_true,aZ.a8] at a6
        have:=k.aj d
        rw [a6] at this
        simp only [Rel] at this
        exact this
    | const v=>
      simp only [rx,aZ.a8] at a6
      have:=tZ E v
      rw [a6] at this
      simp only [Rel] at this
      exact this
    | func f=>simp [rx,aZ.a8] at a6
    | global g=>simp [rx,aZ.a8] at a6
   cases t with
   | true=>
     obtain ⟨e,bf,ab,aG,az,aW⟩:=tA r h Q bt (H.1 rfl)
     exact ⟨e,bf,ab,aG,az,fun aJ E a w k s iA cU=>wp_cond_true (aA E a k) (aW aJ E a w k s iA cU).wp⟩
   | false=>
     obtain ⟨e,bf,ab,aG,az,aW⟩:=tB r h Q bt (H.2 rfl)
     exact ⟨e,bf,ab,aG,az,fun aJ E a w k s iA cU=>wp_cond_false (aA E a k) (aW aJ E a w k s iA cU).wp⟩
 | block id x bb=>
   intro r h Q bt H
   simp only [k9,hx] at H
   obtain ⟨e,bf,ab,aG,az,aW⟩:=bb r h _ bt H
   refine ⟨e.leave id,bf,ab,aG,az,fun aJ E a w k s iA cU=>?_⟩
   refine wp_block (aW aJ E a w k s _ fun aP cc aC dN db z3=>?_).wp
   cases e with
   | normal=>exact cU aP cc aC dN db z3
   | ret=>exact cU aP cc aC dN db z3
   | exit i=>
     have:=cU aP cc aC dN db z3
     simp only [uq,Exit.inBlock]
     simp only [cr.leave] at this
     by_cases ax:i=id
     · rw [if_pos ax] at this ⊢;exact this
     · rw [if_neg ax] at this ⊢;exact this
 | loop x bb=>
   intro r h Q bt H
   simp only [k9,hx] at H
   obtain ⟨I,μ,Dy,VI⟩:=H
   have key:∀n r h,μ r h=n→I r h→Out aR r→∃e bI aa,Q e bI aa∧Out aR bI∧B2 P aR (.loop x) r h e bI aa:=by
    intro n
    induction n using Nat.strongRecOn with
    | _ n Wx=>
      intro r h aX Dy bt
      obtain ⟨e,bf,ab,aG,az,aW⟩:=bb r h _ bt (VI r h Dy)
      have body:∀(aJ:Fr) E a w,kH E aR r a→bQ aJ E h w→∀b eu cs,∃cc aC aP,E.le aP∧kH aP aR bf cc∧bQ aJ aP ab aC∧Arrives P (lone (b.at a (.code x::.inLoop x::eu)) cs w) b (.inLoop x::eu) cs (uq e) cc aC:=by
       intro aJ E a w k s b eu cs
       have:=(aW aJ E a w k s (fun fH cc aC=>fH=uq e∧∃aP,E.le aP∧kH aP aR bf cc∧bQ aJ aP ab aC) (fun aP cc aC aG az aW=>⟨rfl,aP,aG,az,aW⟩)).wp b (.inLoop x::eu) cs
       obtain ⟨bo,bJ,di,⟨rfl,ec,dN,db,z3⟩,oJ⟩:=this
       exact ⟨bJ,di,ec,dN,db,z3,oJ⟩
      cases e with
      | normal=>
        obtain ⟨Uf,aS⟩:=aG
        obtain ⟨bo,bV,af,b_,b1,cy⟩:=Wx (μ bf ab) (aX ▸ aS) bf ab rfl Uf az
        refine ⟨bo,bV,af,b_,b1,fun aJ E a w k s iA cU b eu cs=>?_⟩
        obtain ⟨bJ,di,ec,dN,db,z3,oJ⟩:=body aJ E a w k s b eu cs
        obtain ⟨c6,a3,iW,kE,jx⟩:=cy aJ ec bJ di db z3 iA (fun n_ a4 m' t1 t2 t3=>cU n_ a4 m' (dN.trans t1) t2 t3) b eu cs
        exact ⟨c6,a3,iW,kE,.of_steps (Steps.trans oJ (.one step_inLoop)) jx⟩
      | exit i=>
        refine ⟨.exit i,bf,ab,aG,az,fun aJ E a w k s iA cU b eu cs=>?_⟩
        obtain ⟨bJ,di,ec,dN,db,z3,oJ⟩:=body aJ E a w k s b eu cs
        exact ⟨.exit i,bJ,di,cU ec bJ di dN db z3,.pass (x:=.inLoop x) rfl (fun _ _=>.inl (by simp)) oJ⟩
      | ret=>
        refine ⟨.ret,bf,ab,aG,az,fun aJ E a w k s iA cU b eu cs=>?_⟩
        obtain ⟨bJ,di,ec,dN,db,z3,oJ⟩:=body aJ E a w k s b eu cs
        exact ⟨.ret,bJ,di,cU ec bJ di dN db z3,.pass (x:=.inLoop x) rfl (fun _ _=>.inl (by simp)) oJ⟩
   exact key _ r h rfl Dy bt
 | scope x bb=>
   intro r h Q bt H
   obtain ⟨e,bf,ab,aG,az,aW⟩:=bb r h Q bt H
   refine ⟨e,bf,ab,aG,az,fun aJ E a w k s iA cU=>?_⟩
   refine wp_scope_straight (aW aJ E a w k s _ fun aP cc aC dN db z3=>?_).wp
   have:=cU aP cc aC dN db z3
   cases e<;>exact this
 | rangeFunc f bX x y _ _=>intro r h Q bt H;exact H.elim
 | goto l=>intro r h Q bt H;exact H.elim
 | refuse adl=>intro r h Q bt H;exact H.elim
inductive wJ where
 | t (n:Nat)
 | ed (n:Nat)
 | pv (n size:Nat)
 | bad
def o9 (P:Program) (aR:Nat):List ResultVar→List wJ
 | []=>[]
 | .tmp t::rs=>(bif Nat.ble t top&&Nat.blt t aR then .t t else .bad)::o9 P aR rs
 | .cell a t::rs=>(bif Nat.ble a top&&Nat.blt a aR then (match bj P t with
   | none=>.bad
   | some aO=>bif aO.agg then .pv a aO.size else bif Nat.beq aO.size 1 then .ed a else .bad) else .bad)::o9 P aR rs
noncomputable def dS (r:bD) (h:ag):List wJ→Option (List V)
 | []=>some []
 | x::xs=>match (match x with
   | .t n=>some (r n)
   | .ed n=>mW h (r n)
   | .pv n size=>mV size h (r n)
   | .bad=>none) with
   | none=>none
   | some v=>match dS r h xs with
     | none=>none
     | some ad=>some (v::ad)
theorem zA {r:bD} {h:ag} {c9:cB} (eg:eM c9=r):∀{l:List ResultVar} {ad:List V},dS r h (o9 P aR l)=some ad→(k8 P aR l).run c9 h=some ad
 | [],ad,he=>by simpa [dS,o9,k8] using he
 | .tmp t::rs,ad,he=>by
   simp only [o9,dS] at he
   unfold k8
   cases aA:(Nat.ble t top&&Nat.blt t aR) with
   | false=>rw [aA] at he;simp at he
   | true=>
     rw [aA] at he
     simp only [cond_true] at he ⊢
     cases aT:dS r h (o9 P aR rs) with
     | none=>rw [aT] at he;cases he
     | some uv=>
       rw [aT] at he
       rw [zA eg aT]
       have:=congrFun eg t
       simp only [eM] at this
       rw [this]
       exact he
 | .cell a t::rs,ad,he=>by
   simp only [o9,dS] at he
   unfold k8
   cases aA:(Nat.ble a top&&Nat.blt a aR) with
   | false=>rw [aA] at he;simp at he
   | true=>
     rw [aA] at he
     simp only [cond_true] at he ⊢
     have K3:=congrFun eg a
     simp only [eM] at K3
     rw [K3]
     unfold tL
     cases aI:bj P t with
     | none=>rw [aI] at he;simp at he
     | some aO=>
       rw [aI] at he
       simp only at he ⊢
       cases Kx:aO.agg with
       | true=>
         rw [Kx] at he
         simp only [cond_true] at he ⊢
         cases aB:mV aO.size h (r a) with
         | none=>rw [aB] at he;cases he
         | some v=>
           rw [aB] at he
           simp only at he ⊢
           cases aT:dS r h (o9 P aR rs) with
           | none=>rw [aT] at he;cases he
           | some uv=>rw [aT] at he;rw [zA eg aT];exact he
       | false=>
         rw [Kx] at he
         simp only [cond_false] at he ⊢
         cases bk:Nat.beq aO.size 1 with
         | false=>rw [bk] at he;simp at he
         | true=>
           rw [bk] at he
           simp only [cond_true] at he ⊢
           cases aB:mW h (r a) with
           | none=>rw [aB] at he;cases he
           | some v=>
             rw [aB] at he
             simp only at he ⊢
             cases aT:dS r h (o9 P aR rs) with
             | none=>rw [aT] at he;cases he
             | some uv=>rw [aT] at he;rw [zA eg aT];exact he
theorem Ff:∀(l:List V) (t:Nat),bD.ar l t=(l[t]?).getD .bad
 | [],t=>by simp [bD.ar]
 | v::ad,t=>by
   simp only [bD.ar]
   cases t with
   | zero=>simp
   | succ t=>simp [Ff ad t]
def cr.ends:cr→Prop
 | .exit _=>False
 | _=>True
theorem SW (eY:P.follows .mixedOrders=true) (dU:i' P) {f:FuncId} {fn:Func} {c:Code} {args:List V} {h:ag} {K:V→ag→Prop} (au:P.funcs[f]? =some fn) (ah:fn.body=some c)
 (oU:Nat.ble fn.ntmps top=true) (DB:Nat.ble args.length fn.ntmps=true) {rc:bL} {Bl:List wJ} (xK:k9 P fn.ntmps c=rc) (VK:o9 P fn.ntmps fn.results.toList=Bl)
 (H:hx P rc (bD.ar args) h fun e r aa=>e.ends∧∃ad,dS r aa Bl=some ad∧K (oneOf ad) aa):bR P f args h K:=by
 subst xK VK
 rw [Nat.ble_eq] at oU DB
 have bt:Out fn.ntmps (bD.ar args):=by
  intro t aI
  rw [Ff,List.getElem?_eq_none (by omega)]
  rfl
 obtain ⟨e,bI,aa,⟨UJ,ad,Eu,cV⟩,z_,Uv⟩:=adp oU eY dU c _ h _ bt H
 refine ⟨oneOf ad,aa,.inl ⟨⟨fn,au,by rw [ah];rfl⟩,fun aJ E w xs an s=>?_⟩,cV⟩
 have hlen:=an.length
 have eC:xs.toArray.size≤fn.ntmps:=by simp;omega
 refine calls_of_wp au ah ?_
 have k:kH E fn.ntmps (bD.ar args) {tmps:=xs.toArray++Array.replicate (fn.ntmps-xs.toArray.size) undef,defers:=[]}:=by
  refine ⟨by simp;omega,rfl,fun t=>?_⟩
  rw [Ff]
  cases a1:args[t]? with
  | none=>simp [Rel]
  | some v=>
    obtain ⟨y,br,aT⟩:=an.get t v a1
    simp only [Option.getD_some]
    have tq:t<xs.length:=(List.getElem?_eq_some_iff.1 br).1
    rw [Array.getD_eq_getD_getElem?,Array.getElem?_append_left (by simpa using tq)]
    simp only [List.getElem?_toArray,br,Option.getD_some]
    exact aT
 have fin:∀aP cc aC,E.le aP→kH aP fn.ntmps bI cc→bQ aJ aP aa aC→cc.defers=[]∧∃v,(results fn cc.tmps).run P aC=.ok v aC∧(∃ec x,Ending.returned v=.returned x∧E.le ec∧Rel ec (oneOf ad) x∧bQ aJ ec aa aC):=by
  intro aP cc aC aG az aW
  obtain ⟨c9,eg⟩:=Db z_
  have al:gm aP fn.ntmps c9 cc:=⟨az.size,az.defers,fun t _=>by
   have:=congrFun eg t
   simp only [eM] at this
   rw [this]
   exact az.aj t⟩
  obtain ⟨eU,Wm,Wn⟩:=Bh al aW (zA eg Eu)
  obtain ⟨x,et,lv⟩:=Mr Wm fn cc P aC Wn
  exact ⟨az.defers,x,et,aP,x,rfl,aG,lv,aW⟩
 refine (Uv aJ E _ w k s _ fun aP cc aC aG az aW=>?_).wp
 have:=fin aP cc aC aG az aW
 cases e with
 | normal=>exact this
 | ret=>exact this
 | exit i=>exact UJ.elim
end
end Go.Proofs.YtjbiefneffiogaaGreat.ba
namespace Go.Proofs.YtjbiefneffiogaaGreat.ba
variable [Lay]
open Go Go.RowKit
section
variable {α:Type} (d:α)
theorem T.vW (x y:α):∀(p:aN) (t:T α),T.put d x p (T.put d y p t)=T.put d x p t
 | .z,t=>by cases t<;>rfl
 | .l p,t=>by
   cases t with
   | e=>exact congrArg (fun q=>T.n d q .e) (T.vW x y p .e)
   | n v l r=>exact congrArg (fun q=>T.n v q r) (T.vW x y p l)
 | .r p,t=>by
   cases t with
   | e=>exact congrArg (fun q=>T.n d .e q) (T.vW x y p .e)
   | n v l r=>exact congrArg (fun q=>T.n v l q) (T.vW x y p r)
theorem T.put_comm (x y:α):∀(p q:aN) (t:T α),p≠q→T.put d x p (T.put d y q t)=T.put d y q (T.put d x p t)
 | .z,.z,t,h=>absurd rfl h
 | .z,.l q,t,_=>by cases t<;>rfl
 | .z,.r q,t,_=>by cases t<;>rfl
 | .l p,.z,t,_=>by cases t<;>rfl
 | .r p,.z,t,_=>by cases t<;>rfl
 | .l p,.r q,t,_=>by cases t<;>rfl
 | .r p,.l q,t,_=>by cases t<;>rfl
 | .l p,.l q,t,h=>by
   have aa:p≠q:=fun e=>h (by rw [e])
   cases t with
   | e=>exact congrArg (fun s=>T.n d s .e) (T.put_comm x y p q .e aa)
   | n v l r=>exact congrArg (fun s=>T.n v s r) (T.put_comm x y p q l aa)
 | .r p,.r q,t,h=>by
   have aa:p≠q:=fun e=>h (by rw [e])
   cases t with
   | e=>exact congrArg (fun s=>T.n d .e s) (T.put_comm x y p q .e aa)
   | n v l r=>exact congrArg (fun s=>T.n v l s) (T.put_comm x y p q r aa)
end
theorem gg (i j:Nat):(ak i=ak j)=(i=j):=by
 apply propext
 exact ⟨l6,fun h=>by rw [h]⟩
theorem aaS (ad:List V):∀(i off:Nat) (x:V) (t:T V),i<off→T.put .bad x (ak i) (fC t off ad)=fC (T.put .bad x (ak i) t) off ad:=by
 induction ad with
 | nil=>intro i off x t _;rfl
 | cons v ad bb=>
   intro i off x t h
   simp only [fC]
   rw [bb i (off+1) x _ (by omega),T.put_comm _ _ _ _ _ _ (fun e=>by rw [gg] at e;omega)]
def hd (ad:List V) (off:Nat) (ws:List V):List V:=ad.take off++ws++ad.drop (off+ws.length)
theorem MZ:∀(ad:List V) (base i:Nat) (x:V) (t:T V),i<ad.length→T.put .bad x (ak (base+i)) (fC t base ad)=fC t base (ad.set i x)
 | [],_,i,_,_,h=>by simp at h
 | v::ad,base,i,x,t,h=>by
   cases i with
   | zero=>
     simp only [fC,Nat.add_zero,List.set]
     rw [aaS ad base (base+1) x _ (by omega),T.vW]
   | succ i=>
     simp only [fC,List.set]
     have:=MZ ad (base+1) i x (T.put .bad v (ak base) t) (by simpa using h)
     rw [show base + (i+1)=base+1+i from by omega]
     exact this
theorem NY (ad:List V) (off:Nat) (w:V) (ws:List V) (h:off<ad.length):hd (ad.set off w) (off+1) ws=hd ad off (w::ws):=by
 unfold hd
 have ab:(ad.set off w).take (off+1)=ad.take off++[w]:=by
  rw [List.take_succ_eq_append_getElem (by simpa using h)]
  simp [List.take_set_of_le]
 have af:(ad.set off w).drop (off+1+ws.length)=ad.drop (off + (w::ws).length):=by
  rw [List.drop_set_of_lt (by omega)]
  congr 1
  simp
  omega
 rw [ab,af]
 simp
theorem sx (ad:List V) (off:Nat) (ws:List V) (h:off+ws.length≤ad.length):(hd ad off ws).length=ad.length:=by
 unfold hd
 simp
 omega
theorem Fw:∀(ws ad:List V) (off:Nat),off+ws.length≤ad.length→fC (fC .e 0 ad) off ws=fC .e 0 (hd ad off ws)
 | [],ad,off,h=>by simp [fC,hd]
 | w::ws,ad,off,h=>by
   simp only [List.length_cons] at h
   simp only [fC]
   have ab:=MZ ad 0 off w .e (by omega)
   rw [Nat.zero_add] at ab
   rw [ab,Fw ws (ad.set off w) (off+1) (by simp;omega),NY ad off w ws (by omega)]
theorem zQ (ad:List V):∀(off i:Nat) (t:T V),T.get .bad (ak (off+i)) (fC t off ad)=if i<ad.length then (ad[i]?).getD .bad else T.get .bad (ak (off+i)) t:=by
 induction ad with
 | nil=>intro off i t;simp [fC]
 | cons v ad bb=>
   intro off i t
   simp only [fC]
   cases i with
   | zero=>
     have:∀(ws:List V) (o:Nat) (s:T V),off<o→T.get .bad (ak off) (fC s o ws)=T.get .bad (ak off) s:=by
      intro ws
      induction ws with
      | nil=>intro o s _;rfl
      | cons w ws Wy=>
        intro o s bt
        simp only [fC]
        rw [Wy (o+1) _ (by omega),T.mE,if_neg (fun e=>by rw [gg] at e;omega)]
     rw [Nat.add_zero,this ad (off+1) _ (by omega),T.mE]
     simp
   | succ i=>
     have:=bb (off+1) i (T.put .bad v (ak off) t)
     rw [show off+1+i=off + (i+1) from by omega] at this
     rw [this,T.mE]
     have eL:¬ak off=ak (off + (i+1)):=fun e=>by rw [gg] at e;omega
     rw [if_neg eL]
     simp
theorem xd (ad:List V):∀(n i:Nat),i+n≤ad.length→kl (fC .e 0 ad) i n=(ad.drop i).take n
 | 0,i,h=>by simp [kl]
 | n+1,i,h=>by
   simp only [kl]
   have ab:=zQ ad 0 i .e
   rw [Nat.zero_add] at ab
   rw [ab,if_pos (by omega),xd ad n (i+1) (by omega)]
   have bE:ad.drop i=ad[i]::ad.drop (i+1):=List.drop_eq_getElem_cons (by omega)
   rw [bE,List.take_succ_cons]
   simp [List.getElem?_eq_getElem (by omega:i<ad.length)]
noncomputable def cp.ar (ad:List V) (cw:Nat) (st:Bool):cp:=.cells ad.length (fC .e 0 ad) cw st
noncomputable def cp.ro (ad:List V):cp:=.view ad.length (fC .e 0 ad)
def Rd (h:ag) (b:aN) (ad:List V):Prop:=h.get b=.ro ad∨∃cw st,h.get b=.ar ad cw st
def Own (h:ag) (b:aN) (ad:List V) (cw:Nat) (st:Bool):Prop:=h.get b=.ar ad cw st
theorem Rd.m5 {α:Type} {h:ag} {b:aN} {ad:List V} (H:Rd h b ad) (d:α) (f:Nat→T V→α):(h.get b).m5 d f=f ad.length (fC .e 0 ad):=by
 rcases H with H | ⟨_,_,H⟩<;>rw [H]<;>rfl
theorem Own.lay {h:ag} {b:aN} {ad:List V} {cw:Nat} {st:Bool} (H:Own h b ad cw st) {off:Nat} {ws:List V} (bt:off+ws.length≤ad.length) (ab:fg ws=true):
 lay h b off ws=some (h.set b (.ar (hd ad off ws) cw st)):=by
 unfold ba.lay
 rw [show h.get b=.cells ad.length (fC .e 0 ad) cw st from H]
 simp only [cp.on]
 rw [show Nat.ble (off+ws.length) ad.length=true from by rw [Nat.ble_eq];exact bt,ab]
 simp only [Bool.and_true,cond_true,Option.some.injEq,cp.ar]
 rw [sx ad off ws bt,Fw ws ad off bt]
theorem ZF {h:ag} {ad:List V} (aB:ad.length≤top):gq h ad=some (h.new (.ar ad 0 false)):=by
 unfold gq
 rw [show Nat.ble ad.length top=true from by rw [Nat.ble_eq];exact aB]
 rfl
theorem vL {h:ag} {ad:List V} {cw:Nat} {st:Bool} (aB:ad.length≤top) (he:1≤cw):jN h ad cw st=some (h.new (.ar ad cw st)):=by
 unfold jN
 rw [show Nat.ble ad.length top=true from by rw [Nat.ble_eq];exact aB,show Nat.ble 1 cw=true from by rw [Nat.ble_eq];exact he]
 rfl
theorem cH (h:ag) (k:cp):(h.new k).next=h.next+1:=rfl
theorem fA (h:ag) (b:aN) (k:cp):(h.set b k).next=h.next:=rfl
end Go.Proofs.YtjbiefneffiogaaGreat.ba
namespace Go.Proofs.YtjbiefneffiogaaGreat.ba
variable [Lay]
open Go Go.RowKit
section
variable {P:Program} {r:bD} {h:ag}
theorem abZ (r:bD) (d:Nat) (v:V) (t:Nat):bD.set r (some d) v t=if t=d then v else r t:=(rfl)
theorem ab0 (r:bD) (v:V):bD.set r none v=r:=(rfl)
theorem acR (r:bD) (u:Nat) (us:List Nat) (t:Nat):bD.trim r (u::us) t=if t=u then r t else bD.trim r us t:=(rfl)
theorem ZV (v:V) (ad:List V):bD.ar (v::ad) 0=v:=(rfl)
theorem ZW (v:V) (ad:List V) (t:Nat):bD.ar (v::ad) (t+1)=bD.ar ad t:=by simp [bD.ar]
theorem zB (r:bD) (n:Nat):aZ.a8 r (.t n)=r n:=(rfl)
theorem u2 (r:bD) (v:V):aZ.a8 r (.c v)=v:=(rfl)
theorem Mg {d:Option Nat} {g:G} {rs:List Nat} {K:bD→V→ag→Prop}:bu.wp P ⟨d,g,none,rs⟩ r h K=g.wp P (r.trim rs) h fun v aa=>K (r.set d v) v aa:=(rfl)
theorem Me {d:Option Nat} {g:G} {j:Nat} {want:Bool} {rs:List Nat} {K:bD→V→ag→Prop}:bu.wp P ⟨d,g,some (j,want),rs⟩ r h K=
 gate (r.trim rs j) want (g.wp P (r.trim rs) h fun v aa=>K (r.set d v) v aa) (K (r.set d (.tuple [])) (.tuple []) h):=(rfl)
variable {K:V→ag→Prop}
theorem oB (k:IntKind):lk k k=true:=by cases k<;>rfl
theorem mS (a b:Int):Int.leB a b=decide (a≤b):=o2 a b
theorem mz (a b:Int):Int.hR a b=decide (a=b):=by rw [oA];rfl
variable (k:IntKind) (a b:Int)
theorem WQ:(dO.int .add).run P (.int k a) (.int k b)=some (.int k (k.wrap (a+b))):=by simp [dO.run,j5,nN,V.dD,oB]
theorem XW:(dO.int .sub).run P (.int k a) (.int k b)=some (.int k (k.wrap (a-b))):=by simp [dO.run,j5,nN,V.dD,oB]
theorem XC:(dO.int .mul).run P (.int k a) (.int k b)=some (.int k (k.wrap (a * b))):=by simp [dO.run,j5,nN,V.dD,oB]
theorem XM (ah:b≠0):(dO.int .quo).run P (.int k a) (.int k b)=some (.int k (k.wrap (a.tdiv b))):=by simp [dO.run,j5,tD,V.dD,oB,mz,ah]
theorem XO (ah:b≠0):(dO.int .rem).run P (.int k a) (.int k b)=some (.int k (a.tmod b)):=by simp [dO.run,j5,tD,V.dD,oB,mz,ah]
theorem Xb:(dO.int .eql).run P (.int k a) (.int k b)=some (.bool (decide (a=b))):=by simp [dO.run,j5,l1,V.dD,oB,mz]
theorem XF:(dO.int .neq).run P (.int k a) (.int k b)=some (.bool (!decide (a=b))):=by simp [dO.run,j5,l1,V.dD,oB,mz]
theorem Xy:(dO.int .lss).run P (.int k a) (.int k b)=some (.bool (decide (a<b))):=by
 simp [dO.run,j5,l1,V.dD,oB,mS]
 rw [Bool.eq_iff_iff];simp
theorem Xv:(dO.int .leq).run P (.int k a) (.int k b)=some (.bool (decide (a≤b))):=by simp [dO.run,j5,l1,V.dD,oB,mS]
theorem Xj:(dO.int .gtr).run P (.int k a) (.int k b)=some (.bool (decide (b<a))):=by
 simp [dO.run,j5,l1,V.dD,oB,mS]
 rw [Bool.eq_iff_iff];simp
theorem Xi:(dO.int .geq).run P (.int k a) (.int k b)=some (.bool (decide (b≤a))):=by simp [dO.run,j5,l1,V.dD,oB,mS]
theorem WS (x y:Bool):(dO.w' false).run P (.bool x) (.bool y)=some (.bool (x == y)):=by simp [dO.run,iF,w9,py]
theorem WW (x y:Bool):(dO.w' true).run P (.bool x) (.bool y)=some (.bool (!(x == y))):=by simp [dO.run,iF,w9,py]
theorem acY (x:Bool):qc .not (.bool x)=some (.bool (!x)):=(rfl)
theorem acX:qc .neg (.int k a)=some (.int k (k.wrap (0-a))):=(rfl)
theorem wrap_i64 {n:Int} (ab:-9223372036854775808≤n) (af:n≤9223372036854775807):IntKind.i64.wrap n=n:=by
 exact Go.IntWalk.i64_in n ⟨ab,af⟩
end
section
variable {P:Program} {r:bD} {h:ag} {Q:cr→bD→ag→Prop}
theorem R7 {ops:List bu}:hx P (.aj ops) r h Q=rv P ops r h (Q .normal):=(rfl)
theorem R8 {a b:bL}:hx P (.seq a b) r h Q=hx P a r h fun e bI aa=>e.andThen (hx P b bI aa Q) (Q e bI aa):=(rfl)
theorem acL {A B:Prop}:cr.andThen .normal A B=A:=(rfl)
theorem acM {A B:Prop}:cr.andThen .ret A B=B:=(rfl)
theorem acK {A B:Prop} {i:Nat}:cr.andThen (.exit i) A B=B:=(rfl)
theorem Y0 {id:Nat}:cr.leave id .normal=.normal:=(rfl)
theorem Y1 {id:Nat}:cr.leave id .ret=.ret:=(rfl)
theorem YZ {id i:Nat}:cr.leave id (.exit i)=if i=id then .normal else .exit i:=(rfl)
end
end Go.Proofs.YtjbiefneffiogaaGreat.ba
