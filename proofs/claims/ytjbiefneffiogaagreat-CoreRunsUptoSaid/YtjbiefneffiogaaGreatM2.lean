/- The abstract machine and its walks (a verified interpreter of the model's code: plain definitions and lemmas, no condition). Printed by a program from longer texts: names made short. -/
import Derived.Test.YtjbiefneffiogaaGreatM1
import Derived.Scope
import Derived.IntWalk
set_option linter.unusedSectionVars false
set_option linter.unusedSimpArgs false
set_option linter.unusedVariables false
namespace Go.Proofs.YtjbiefneffiogaaGreat.bA
variable [Lay]
open Go Go.RowKit
section
variable {P:Program}
def lq (P:Program) (call:gr):Prop:=
 ∀(aZ:Fr) f args h v aa,call f args h=.val v aa→∀E w xs,bY E args xs→ck aZ E h w→
  ((∃fn,P.funcs[f]? =some fn∧fn.body.isSome=true)∧Calls P f xs.toArray w fun e aW=>∃ba x,e=.returned x∧E.le ba∧Rel ba v x∧ck aZ ba aa aW)∨
  ∃ba x aW,(callFunc f xs.toArray).run P w=.ok (.value x) aW∧E.le ba∧Rel ba v x∧ck aZ ba aa aW
theorem jl {o:Oper} {a:Act} {w:World} {aZ:Fr} {E:Env} {aa:aj} {v:V} {m:Sem Value} {K:Act→World→Prop} {Q:Exit→Act→World→Prop}
 (az:execOp a.eval o=(do pure (.value (←m)))) (g:eY aZ P E w m v aa) (dh:∀ba x aW,E.le ba→Rel ba v x→ck aZ ba aa aW→K (a.put o.dst x) aW):o.wp P a w K Q:=by
 obtain ⟨Z,aW,ba,ae,ak,aC,bq⟩:=g
 unfold Oper.wp
 rw [az,Sem.run_bind,ae]
 exact dh ba Z aW ak aC bq
theorem DA {E:Env} {bc:Nat} {r:dc} {a:Act} (k:hH E bc r a):∀l:List (Nat × Operand),su E ((uM l).run r) (l.map fun (i,x)=>(i,a.eval x))
 | []=>rfl
 | (i,x)::l=>by
   simp only [uM,List.map,su]
   exact ⟨_,_,rfl,gF k x,DA k l⟩
theorem Dy {E:Env} {bc:Nat} {r:dc} {a:Act} (k:hH E bc r a) (x:Option Operand):ji E ((rZ x).run r) (x.map a.eval):=by
 cases x with
 | none=>rfl
 | some x=>simp only [rZ,ji,Option.map];exact ⟨_,rfl,gF k x⟩
theorem adg {v:V} {f:a6→Nat→bH} {r:V} {h:aj} (he:v.oe .fail f=.val r h):∃b off,v=.ptr b off∧f b off=.val r h:=by
 cases v<;>simp only [V.oe] at he<;>first
  | (cases he;done)
  | exact ⟨_,_,rfl,he⟩
theorem acW {aZ:Fr} {E:Env} {h aa:aj} {w:World} (s:ck aZ E h w) {x v:V} {X:Value} {ty:TypeId} (az:Rel E x X) (he:Aw x h=.val v aa):eY aZ P E w (Instr.next X true ty) v aa:=by
 unfold Aw at he
 obtain ⟨b,off,rfl,ae⟩:=adg he
 have ah:=s.at (p:=_) (by simp only [Rel] at az;exact az.choose_spec.1)
 cases bp:h.get b with
 | dead=>rw [bp] at ae;cases ae
 | view _ _=>rw [bp] at ae;cases ae
 | cells _ _ _ _=>rw [bp] at ae;cases ae
 | mp _ _=>rw [bp] at ae;cases ae
 | iter st pos=>
   rw [bp] at ae ah
   simp only at ae
   obtain ⟨al,ak⟩:=qn ae
   rw [Nat.beq_eq] at al
   subst al
   obtain ⟨p,aT,dJ,xJ,c4⟩:=ah
   simp only [Rel] at az
   obtain ⟨q,a2,rfl⟩:=az
   rw [aT] at a2;cases a2
   have ny:(getObj p.bb).run P w=.ok (.stringIter ⟨⟨st⟩⟩ pos) w:=by simp only [getObj,Sem.run,c4]
   have gd:(⟨⟨st⟩⟩:ByteArray).size=st.length:=rfl
   cases aX:Nat.blt pos st.length with
   | true=>
     rw [aX] at ak
     simp only [cond_true,bH.val.injEq] at ak
     obtain ⟨rfl,rfl⟩:=ak
     rw [Nat.blt_eq] at aX
     let dP:Obj:=.stringIter ⟨⟨st⟩⟩ (pos + (zr st pos).2)
     let aW:World:={w with heap:=w.heap.setIfInBounds p.bb dP}
     have G7:=(Array.getElem?_eq_some_iff.1 c4).1
     have Y6:(setObj p.bb dP).run P w=.ok () aW:=by simp only [setObj,Sem.run,c4];rfl
     refine ⟨.tuple #[.bool true,goInt pos,.int .i32 (zr st pos).1],aW,E,?_,Env.le.refl E,?_,s.set (p:=p) (by rw [bp];rfl) aT dJ (by simp [aW]) (fun j bS=>?_) rfl rfl rfl (fun _ _ _ e=>by cases e) ?_⟩
     · simp only [Instr.next,xJ,Sem.run_bind,ny,Result.andThen_ok,gd,if_pos aX]
       have:(Utf8.decode (⟨⟨st⟩⟩:ByteArray) pos)=zr st pos:=rfl
       simp only [this]
       rw [Y6]
       rfl
     · simp only [Rel,bY]
       exact ⟨_,rfl,_,_,rfl,rfl,_,_,rfl,rfl,_,_,rfl,rfl,rfl⟩
     · simp only [aW,Array.getElem?_setIfInBounds]
       rw [if_neg (fun e=>bS e.symm)]
     · exact ⟨p,aT,dJ,xJ,by simp [aW,G7,dP]⟩
   | false=>
     rw [aX] at ak
     simp only [cond_false,bH.val.injEq] at ak
     obtain ⟨rfl,rfl⟩:=ak
     have rD:¬pos<st.length:=by rw [←Nat.blt_eq,aX];simp
     refine eY.plain (Z:=.tuple #[.bool false]) s ?_ ?_
     · simp only [Instr.next,xJ,Sem.run_bind,ny,Result.andThen_ok,gd,if_neg rD,Sem.run_pure]
     · simp only [Rel,bY]
       exact ⟨_,rfl,_,_,rfl,rfl,rfl⟩
theorem aej {aZ:Fr} {E:Env} {h aa:aj} {w:World} (s:ck aZ E h w) {t:TypeId} {x v:V} {X:Value} (az:Rel E x X) (he:(DH P t).run x h=.val v aa):eY aZ P E w (Instr.range t X) v aa:=by
 unfold DH at he
 cases aJ:bJ P t with
 | none=>rw [aJ] at he;cases he
 | some a_=>
   rw [aJ] at he
   simp only at he
   have hu:=h_ aJ
   cases cR:a_.b5 with
   | string=>
     rw [cR] at he hu
     simp only at he
     cases x<;>simp only at he<;>try (cases he;done)
     rename_i st
     simp only [bH.val.injEq] at he
     obtain ⟨rfl,rfl⟩:=he
     have:=az.tr;subst this
     have gb:=s.fresh h.next (Nat.le_refl _)
     have fW:E.put (ao h.next) ⟨w.heap.size,0,0⟩ (ao h.next)=some ⟨w.heap.size,0,0⟩:=by unfold Env.put;rw [if_pos rfl]
     refine ⟨.pointer (some ⟨w.heap.size,0,none⟩),{w with heap:=w.heap.push (.stringIter ⟨⟨st⟩⟩ 0)},_,?_,Env.s7 (p:=⟨w.heap.size,0,0⟩) gb,?_,s.alloc 0 ?_⟩
     · simp only [Instr.range,Sem.run_bind,hu,Result.andThen_ok,Sem.run_pure,run_newObj]
     · simp only [Rel];exact ⟨_,fW,by simp⟩
     · exact ⟨_,fW,s.frame.size,rfl,by simp⟩
   | _=>rw [cR] at he;cases he
theorem SV {aZ:Fr} {E:Env} {h aa:aj} {w:World} (s:ck aZ E h w) {t u:TypeId} {x y v:V} {X Y:Value} {ty:TypeId}
 (he:(BY P t u).run x y h=.val v aa) (az:Rel E x X) (bK:Rel E y Y):eY aZ P E w (Builtin.append_ #[t,u] ty #[X,Y]) v aa:=by
 unfold BY at he
 cases aJ:bJ P t with
 | none=>rw [aJ] at he;cases he
 | some a_=>
   cases hu:bJ P u with
   | none=>rw [aJ,hu] at he;cases he
   | some tt=>
     rw [aJ,hu] at he
     simp only at he
     have main:(∀k,tt.b5≠.int k)→(match a_.b5 with
      | .slice e=>match bJ P e with
        | none=>(⟨fun _ _ _=>.fail⟩:Bm)
        | some bO=>match bO.zero with
          | none=>⟨fun _ _ _=>.fail⟩
          | some z=>bif Nat.ble 1 bO.size&&Nat.ble bO.bytes 4096&&Nat.beq z.cells.length bO.size then ⟨l6 bO.size⟩ else ⟨fun _ _ _=>.fail⟩
      | _=>⟨fun _ _ _=>.fail⟩).run x y h=.val v aa→eY aZ P E w (Builtin.append_ #[t,u] ty #[X,Y]) v aa:=by
      intro GW he
      cases cR:a_.b5 with
      | slice e=>
        rw [cR] at he
        simp only at he
        cases dy:bJ P e with
        | none=>rw [dy] at he;cases he
        | some bO=>
          rw [dy] at he
          simp only at he
          cases bI:bO.zero with
          | none=>rw [bI] at he;cases he
          | some z=>
            rw [bI] at he
            simp only at he
            cases aD:(Nat.ble 1 bO.size&&Nat.ble bO.bytes 4096&&Nat.beq z.cells.length bO.size) with
            | false=>rw [aD] at he;cases he
            | true=>
              rw [aD] at he
              simp only [cond_true] at he
              simp only [Bool.and_eq_true,Nat.ble_eq,Nat.beq_eq] at aD
              obtain ⟨uW,Hu,_,vU⟩:=wU (P:=P) (E:=E) dy bI w
              refine SX s ⟨fun w=>?_,⟨tt.b5,fun w=>h_ hu w,GW⟩,fun w=>lT dy w,fun w=>QY dy w,⟨uW,Hu,by rw [vU];exact aD.2⟩,aD.1.1,aD.1.2⟩ he az bK
              have:=h_ aJ w
              rw [cR] at this
              exact this
      | _=>rw [cR] at he;cases he
     cases Af:tt.b5 with
     | int k=>rw [Af] at he;cases he
     | _=>rw [Af] at he;exact main (by rw [Af];simp) he
theorem V9 {aZ:Fr} {E:Env} {h aa:aj} {w:World} (s:ck aZ E h w) {t:TypeId} {rest:List TypeId} {x y v:V} {X Y:Value} {ty:TypeId}
 (he:(Ce P t).run x y h=.val v aa) (az:Rel E x X) (bK:Rel E y Y):eY aZ P E w (Builtin.copy_ (t::rest).toArray ty #[X,Y]) v aa:=by
 unfold Ce at he
 cases aJ:bJ P t with
 | none=>rw [aJ] at he;cases he
 | some a_=>
   rw [aJ] at he
   simp only at he
   cases cR:a_.b5 with
   | slice e=>
     rw [cR] at he
     simp only at he
     cases dy:bJ P e with
     | none=>rw [dy] at he;cases he
     | some bO=>
       rw [dy] at he
       simp only at he
       exact V' s (fun w=>by have:=h_ aJ w;rw [cR] at this;exact this) (fun w=>lT dy w) he az bK
   | _=>rw [cR] at he;cases he
theorem VU {aZ:Fr} {E:Env} {h aa:aj} {w:World} (s:ck aZ E h w) {t:TypeId} {x v:V} {X:Value} {ty:TypeId} {z:List V} (aD:zn P t=some z)
 (he:tR z x h=.val v aa) (az:Rel E x X):eY aZ P E w (Builtin.clear_ #[t] ty #[X]) v aa:=by
 unfold zn at aD
 cases aJ:bJ P t with
 | none=>rw [aJ] at aD;cases aD
 | some a_=>
   rw [aJ] at aD
   simp only at aD
   cases cR:a_.b5 with
   | slice e=>
     rw [cR] at aD
     simp only at aD
     cases dy:bJ P e with
     | none=>rw [dy] at aD;cases aD
     | some bO=>
       rw [dy] at aD
       simp only at aD
       cases bI:bO.zero with
       | none=>rw [bI] at aD;cases aD
       | some z0=>
         rw [bI] at aD
         simp only [Option.some.injEq] at aD
         subst aD
         have hu:∀w,(underlying t).run P w=.ok (.slice e) w:=fun w=>by have:=h_ aJ w;rw [cR] at this;exact this
         obtain ⟨z,C4,ZC,OS⟩:=wU (P:=P) (E:=E) dy bI w
         have nothing:∀a c,X=.slice a 0 c→v=.tuple []→aa=h→eY aZ P E w (Builtin.clear_ #[t] ty #[X]) v aa:=by
          intro a c gN bk c4
          subst gN bk c4
          refine ⟨.tuple #[],w,E,?_,Env.le.refl E,?_,s⟩
          · cases a<;>simp [Builtin.clear_,Sem.run_bind,hu,Result.andThen_ok,Sem.run_pure]
          · simp only [Rel];exact ⟨_,rfl,rfl⟩
         have Rb:∀(b:a6) (off n c:Nat) (p:nO),E b=some p→X=.slice (some ⟨p.bb,p.base+off,none⟩) n c→(bif Nat.beq n 0 then (bH.val (.tuple []) h) else (match lay h b off (hP z0.cells n) with
          | some aa=>bH.val (.tuple []) aa
          | none=>.fail))=.val v aa→eY aZ P E w (Builtin.clear_ #[t] ty #[X]) v aa:=by
          intro b off n c p aT gN he
          cases n with
          | zero=>
            simp only [Nat.beq_refl,cond_true,bH.val.injEq] at he
            exact nothing _ _ gN he.1.symm he.2.symm
          | succ n=>
            simp only [show Nat.beq (n+1) 0=false from rfl,cond_false] at he
            cases aK:lay h b off (hP z0.cells (n+1)) with
            | none=>rw [aK] at he;cases he
            | some ae=>
              rw [aK] at he
              simp only [bH.val.injEq] at he
              obtain ⟨rfl,rfl⟩:=he
              obtain ⟨aW,bF,bz⟩:=x4 (P:=P) s (DL ZC (n+1)) aK aT
              subst gN
              refine ⟨.tuple #[],aW,E,?_,Env.le.refl E,?_,bz⟩
              · simp only [Builtin.clear_,Sem.run_bind,List.getElem?_toArray,List.getElem?_cons_zero,hu,C4,Result.andThen_ok]
                have:(storeCells ⟨p.bb,p.base+off,none⟩ (Builtin.zeroCells z.cells (n+1)).toList).run P w=.ok () aW:=bF
                simp [this,Sem.run_pure,Result.andThen_ok]
              · simp only [Rel];exact ⟨_,rfl,rfl⟩
         unfold tR at he
         cases x<;>simp only at he<;>try (cases he;done)
         · simp only [Rel] at az
           obtain ⟨p,bF,bz,cL⟩:=az
           exact Rb _ _ _ _ p bF cL he
         · simp only [Rel] at az
           obtain ⟨p,bF,bz,cL⟩:=az
           exact Rb _ _ _ _ p bF cL he
         · simp only [Rel] at az
           obtain ⟨a,c,rfl⟩:=az
           simp only [bH.val.injEq] at he
           exact nothing _ _ rfl he.1.symm he.2.symm
         · simp only [Rel] at az
           simp only [bH.val.injEq] at he
           exact nothing _ _ az he.1.symm he.2.symm
   | _=>rw [cR] at aD;cases aD
theorem Vy {E:Env} {t:TypeId} {a_:pA} {x v:V} {X:Value} {ty:TypeId} (aJ:bJ P t=some a_) (aM:HH a_.b5=true) (he:FD x=some v) (az:Rel E x X) (w:World):
 ∃Z,(Builtin.cap_ #[t] ty #[X]).run P w=.ok Z w∧Rel E v Z:=by
 cases cR:a_.b5 with
 | slice e=>
   have hu:∀w,(underlying t).run P w=.ok (.slice e) w:=fun w=>by have:=h_ aJ w;rw [cR] at this;exact this
   cases x<;>simp only [FD] at he<;>try (cases he;done)
   · simp only [Rel] at az
     obtain ⟨p,_,_,rfl⟩:=az
     cases he
     refine ⟨_,?_,rfl⟩
     simp [Builtin.cap_,Sem.run_bind,hu,Result.andThen_ok,Sem.run_pure]
     rfl
   · simp only [Rel] at az
     subst az
     cases he
     refine ⟨_,?_,rfl⟩
     simp [Builtin.cap_,Sem.run_bind,hu,Result.andThen_ok,Sem.run_pure]
     rfl
 | _=>rw [cR] at aM;cases aM
theorem A' {α:Type} (a:Array α):a.toList.toArray=a:=by simp
theorem Tw {aZ:Fr} {E:Env} {h aa:aj} {w:World} (s:ck aZ E h w) {b:Builtin} {dt:Array TypeId} {args:List V} {xs:List Value} {v:V} {ty:TypeId} {cs:Array Bool} (aK:bY E args xs)
 (he:(sz P b dt.toList).run args h=.val v aa):∃m:Sem Value,Go.builtin b dt ty cs xs.toArray=(do pure (.value (←m)))∧eY aZ P E w m v aa:=by
 have one:∀{x:V},bY E [x] xs→∃X,xs=[X]∧Rel E x X:=by
  intro x h
  simp only [bY] at h
  obtain ⟨y,gE,rfl,bK,rfl⟩:=h
  exact ⟨y,rfl,bK⟩
 have two:∀{x y:V},bY E [x,y] xs→∃X Y,xs=[X,Y]∧Rel E x X∧Rel E y Y:=by
  intro x y h
  simp only [bY] at h
  obtain ⟨X,_,rfl,gN,Y,_,rfl,jS,rfl⟩:=h
  exact ⟨X,Y,rfl,gN,jS⟩
 cases b<;>simp only [sz] at he<;>try (simp [hn.none] at he;done)
 · -- append
   cases hv:dt.toList with
   | nil=>rw [hv] at he;simp [hn.none] at he
   | cons t ts=>
     rw [hv] at he
     cases ts with
     | nil=>simp [hn.none] at he
     | cons u agH=>
       cases agH with
       | cons _ _=>simp [hn.none] at he
       | nil=>
         simp only at he
         match args,he,aK with
         | [x,y],he,aK=>
           obtain ⟨X,Y,rfl,gN,jS⟩:=two aK
           have e:dt=#[t,u]:=by rw [←A' dt,hv]
           exact ⟨_,rfl,by rw [e];exact SV s he gN jS⟩
         | [],he,_=>cases he
         | [_],he,_=>cases he
         | _::_::_::_,he,_=>cases he
 · -- cap
   cases hv:dt.toList with
   | nil=>rw [hv] at he;simp [hn.none] at he
   | cons t ts=>
     rw [hv] at he
     cases ts with
     | cons _ _=>simp [hn.none] at he
     | nil=>
       simp only at he
       cases aJ:bJ P t with
       | none=>rw [aJ] at he;simp [hn.none] at he
       | some a_=>
         rw [aJ] at he
         simp only at he
         cases aM:HH a_.b5 with
         | false=>rw [aM] at he;simp [hn.none] at he
         | true=>
           rw [aM] at he
           simp only [cond_true] at he
           match args,he,aK with
           | [x],he,aK=>
             obtain ⟨X,rfl,gN⟩:=one aK
             have e:dt=#[t]:=by rw [←A' dt,hv]
             obtain ⟨fV,rfl⟩:=bH.j_ he
             obtain ⟨Z,hJ,fp⟩:=Vy (P:=P) (ty:=ty) aJ aM fV gN w
             exact ⟨_,rfl,by rw [e];exact eY.plain s hJ fp⟩
           | [],he,_=>cases he
           | _::_::_,he,_=>cases he
 · -- clear
   cases hv:dt.toList with
   | nil=>rw [hv] at he;simp [hn.none] at he
   | cons t ts=>
     rw [hv] at he
     cases ts with
     | cons _ _=>simp [hn.none] at he
     | nil=>
       simp only at he
       cases aD:zn P t with
       | none=>rw [aD] at he;simp [hn.none] at he
       | some z=>
         rw [aD] at he
         simp only at he
         match args,he,aK with
         | [x],he,aK=>
           obtain ⟨X,rfl,gN⟩:=one aK
           have e:dt=#[t]:=by rw [←A' dt,hv]
           exact ⟨_,rfl,by rw [e];exact VU s aD he gN⟩
         | [],he,_=>cases he
         | _::_::_,he,_=>cases he
 · -- copy
   cases hv:dt.toList with
   | nil=>rw [hv] at he;simp [hn.none] at he
   | cons t ts=>
     rw [hv] at he
     simp only at he
     match args,he,aK with
     | [x,y],he,aK=>
       obtain ⟨X,Y,rfl,gN,jS⟩:=two aK
       have e:dt=(t::ts).toArray:=by rw [←A' dt,hv]
       exact ⟨_,rfl,by rw [e];exact V9 s he gN jS⟩
     | [],he,_=>cases he
     | [_],he,_=>cases he
     | _::_::_::_,he,_=>cases he
 · -- len
   cases hv:dt.toList with
   | nil=>rw [hv] at he;simp [hn.none] at he
   | cons t ts=>
     rw [hv] at he
     cases ts with
     | cons _ _=>simp [hn.none] at he
     | nil=>
       simp only at he
       cases aJ:bJ P t with
       | none=>rw [aJ] at he;simp [hn.none] at he
       | some a_=>
         rw [aJ] at he
         simp only at he
         match args,he,aK with
         | [x],he,aK=>
           obtain ⟨X,rfl,gN⟩:=one aK
           have e:dt=[t].toArray:=by rw [←A' dt,hv]
           cases hm:uw a_.b5 with
           | true=>
             rw [hm] at he
             exact ⟨_,rfl,by rw [e];exact ab' s aJ hm gN ty [] he⟩
           | false=>
             rw [hm] at he
             simp only [cond_false] at he
             obtain ⟨fV,rfl⟩:=bH.j_ he
             obtain ⟨Z,hJ,fp⟩:=ab_ (P:=P) aJ fV gN ty [] w
             exact ⟨_,rfl,by rw [e];exact eY.plain s hJ fp⟩
         | [],he,_=>cases hm:uw a_.b5<;>rw [hm] at he<;>cases he
         | _::_::_,he,_=>cases hm:uw a_.b5<;>rw [hm] at he<;>cases he
 · -- max
   obtain ⟨fV,rfl⟩:=bH.j_ he
   clear he
   cases args with
   | nil=>cases fV
   | cons x args=>
     simp only [lQ] at fV
     obtain ⟨k,a,rfl,ae⟩:=kO fV
     simp only [bY] at aK
     obtain ⟨X,gE,rfl,gN,aK⟩:=aK
     have:=gN.kr;subst this
     obtain ⟨Z,hJ,fp⟩:=Iq (P:=P) false args gE k a v aK ae w
     exact ⟨_,rfl,eY.plain (Z:=Z) s (by simpa [Builtin.max_] using hJ) fp⟩
 · -- min
   obtain ⟨fV,rfl⟩:=bH.j_ he
   clear he
   cases args with
   | nil=>cases fV
   | cons x args=>
     simp only [lQ] at fV
     obtain ⟨k,a,rfl,ae⟩:=kO fV
     simp only [bY] at aK
     obtain ⟨X,gE,rfl,gN,aK⟩:=aK
     have:=gN.kr;subst this
     obtain ⟨Z,hJ,fp⟩:=Iq (P:=P) true args gE k a v aK ae w
     exact ⟨_,rfl,eY.plain (Z:=Z) s (by simpa [Builtin.min_] using hJ) fp⟩
end
end Go.Proofs.YtjbiefneffiogaaGreat.bA
namespace Go.Proofs.YtjbiefneffiogaaGreat.bA
variable [Lay]
open Go Go.RowKit
section
variable {P:Program}
def kE (P:Program):Prop:=∀(f:FuncId) (fn:Func),P.funcs[f]? =some fn→(fn.name == "runtime.NumGoroutine")=false
theorem IM (e0:kE P) {f:FuncId} {fn:Func} (av:P.funcs[f]? =some fn) (ah:fn.body.isSome=true) (args:Array Value) (w:World):(callFunc f args).run P w=.ok (.enter f args) w:=by
 have eF:fn.body.isNone=false:=by cases h:fn.body with | none=>rw [h] at ah;cases ah | some c=>rfl
 simp only [callFunc,Sem.run_bind,run_program,Result.andThen_ok,av]
 rw [if_neg (by rw [e0 f fn av];simp)]
 simp [eF]
theorem Pu {α β:Type} (f:α→β) (a:Array α):a.map f=(a.toList.map f).toArray:=by
 apply Array.ext'
 simp
theorem Ip (ρ:Operand→Value) (ct:Array (Nat × Operand)):(ct.map fun (i,x)=>(i,ρ x))=(ct.toList.map fun (i,x)=>(i,ρ x)).toArray:=by
 apply Array.ext'
 simp
def lY (P:Program) (call:gr):Prop:=∀f args h v aa,call f args h=.val v aa→True
set_option maxHeartbeats 2000000 in
theorem M6 {aZ:Fr} {E:Env} {h aa:aj} {w:World} {call:gr} (e0:kE P) (kI:lq P call) (kj:lY P call) {o:Oper} {bc:Nat} {r:dc} {a:Act} {v:V}
 (he:(ja P o).run call r h=.val v aa) (k:hH E bc r a) (s:ck aZ E h w) {K:Act→World→Prop} {Q:Exit→Act→World→Prop}
 (dh:∀ba x aW,E.le ba→Rel ba v x→ck aZ ba aa aW→K (a.put o.dst x) aW):o.wp P a w K Q:=by
 obtain ⟨dst,op,type,pos,after,guard⟩:=o
 cases op<;>simp only [ja] at he<;>try (simp [eA.none] at he;done)
 case move x=>
  simp only [bH.val.injEq] at he;obtain ⟨rfl,rfl⟩:=he
  exact jl (m:=pure (a.eval x)) rfl (eY.plain s rfl (gF k x)) dh
 case assign x=>
  simp only [bH.val.injEq] at he;obtain ⟨rfl,rfl⟩:=he
  exact jl (m:=pure (a.eval x)) rfl (eY.plain s rfl (gF k x)) dh
 case pick c x y=>
  have aD:=gF k c
  generalize (en c).run r=RL at he aD
  cases RL<;>simp only at he<;>try (cases he;done)
  rename_i t
  simp only [bH.val.injEq] at he;obtain ⟨rfl,rfl⟩:=he
  simp only [Rel] at aD
  refine jl (m:=do pure (if ←asBool (a.eval c) then a.eval x else a.eval y)) (by simp only [execOp,bind_assoc,pure_bind]) (eY.plain (Z:=if t then a.eval x else a.eval y) s ?_ ?_) dh
  · rw [aD];rfl
  · cases t
    · exact gF k y
    · exact gF k x
 case alloc t=>
  cases aJ:bJ P t with
  | none=>rw [aJ] at he;simp [eA.none] at he
  | some a_=>
    rw [aJ] at he
    simp only at he
    cases bI:a_.zero with
    | none=>rw [bI] at he;simp [eA.none] at he
    | some z=>
      rw [bI] at he
      simp only at he
      cases a7:hO h z.cells with
      | none=>rw [a7] at he;cases he
      | some ae=>
        rw [a7] at he
        simp only [kP,bH.val.injEq] at he;obtain ⟨rfl,rfl⟩:=he
        obtain ⟨x,az,rK,_⟩:=wU (P:=P) (E:=E) aJ bI w
        obtain ⟨ba,bF,bz,cL,gy⟩:=Dp (P:=P) s rK a7 t
        have F7:(newRow t x.cells).run P w=.ok ⟨w.heap.size,0,none⟩ {w with heap:=w.heap.push (.cells x.cells t)}:=by simpa using cL
        have F8:ck aZ ba ae {w with heap:=w.heap.push (.cells x.cells t)}:=by simpa using gy
        exact jl (m:=Instr.alloc t true (.tuple #[])) rfl ⟨.pointer (some ⟨w.heap.size,0,none⟩),_,ba,by simp only [Instr.alloc,Sem.run_bind,az,Result.andThen_ok,newVar,F7,Sem.run_pure],bF,by simp only [Rel];exact ⟨_,bz,by simp⟩,F8⟩ dh
 case box t x=>
  obtain ⟨bp,he⟩:=qn he
  cases a7:hO h ((en x).run r).cells with
  | none=>rw [a7] at he;cases he
  | some ae=>
    rw [a7] at he
    simp only [kP,bH.val.injEq] at he;obtain ⟨rfl,rfl⟩:=he
    have aK:=(gF k x).cells (fun e=>by rw [e] at bp;cases bp)
    obtain ⟨ba,bF,bz,cL,gy⟩:=Dp (P:=P) s aK a7 t
    have F7:(newRow t (a.eval x).cells).run P w=.ok ⟨w.heap.size,0,none⟩ {w with heap:=w.heap.push (.cells (a.eval x).cells t)}:=by simpa using cL
    have F8:ck aZ ba ae {w with heap:=w.heap.push (.cells (a.eval x).cells t)}:=by simpa using gy
    exact jl (m:=Instr.box t (a.eval x)) rfl ⟨.pointer (some ⟨w.heap.size,0,none⟩),_,ba,by simp only [Instr.box,Sem.run_bind,newVar,F7,Result.andThen_ok,Sem.run_pure],bF,by simp only [Rel];exact ⟨_,bz,by simp⟩,F8⟩ dh
 case build t ct=>
  obtain ⟨fV,rfl⟩:=bH.j_ he
  clear he
  obtain ⟨Z,hJ,fp⟩:=Ts (P:=P) (DA k ct.toList) fV w
  refine jl (m:=Instr.build t (ct.map fun (i,x)=>(i,a.eval x))) rfl (eY.plain (Z:=Z) s ?_ fp) dh
  rw [Ip];exact hJ
 case buildSlice t n ct=>
  refine jl (m:=Instr.buildSlice t n (ct.map fun (i,x)=>(i,a.eval x))) rfl ?_ dh
  rw [Ip]
  exact Tu s (DA k ct.toList) he
 case load t x=>
  obtain ⟨fV,rfl⟩:=bH.j_ he
  clear he
  obtain ⟨Y,jS,fp,_⟩:=Pp (P:=P) s (gF k x) fV
  exact jl (m:=Instr.loadAt t (a.eval x)) rfl (eY.plain s jS fp) dh
 case store t x y=>
  cases dq:(A7 P t).run h ((en x).run r) ((en y).run r) with
  | none=>rw [dq] at he;cases he
  | some ae=>
    rw [dq] at he
    simp only [kP,bH.val.injEq] at he;obtain ⟨rfl,rfl⟩:=he
    obtain ⟨aW,eS,mg⟩:=agq (P:=P) s (gF k x) (gF k y) dq
    unfold Oper.wp
    have:execOp a.eval ⟨dst,.store t x y,type,pos,after,guard⟩=(do Instr.storeAt t (a.eval x) (a.eval y);pure .skip):=rfl
    rw [this,Sem.run_bind,eS]
    exact dh E undef aW (Env.le.refl E) (by simp [Rel]) mg
 case nilCheck x=>
  obtain ⟨fV,rfl⟩:=bH.j_ he
  clear he
  have az:=gF k x
  generalize (en x).run r=Bc at fV az
  have ny:∀X,Rel E Bc X→(match X with
   | .pointer none | .nilIface | .nilFunc=>(runtimePanic .nilDeref:Sem Next)
   | .func (.method name) first captured=>
     match (first[0]? :Option Value) with
     | some .nilIface=>runtimePanic .nilDeref
     | some (.iface t w)=>do
       if (←nilAhead ((←program).types.size+Made.depth) t w name) != some false then
        unsupported (.noEntry "op/nilCheck.the method's receiver behind this interface value is a nil pointer, or cannot be seen to be none, and the arguments act or may panic (ledger 612)")
       pure (.value (.func (.method name) first captured))
     | _=>pure (.value (.func (.method name) first captured))
   | x=>pure (.value x))=pure (.value X)∧v=Bc:=by
   intro X gN
   cases Bc<;>simp only [uE] at fV<;>try (cases fV;done)
   all_goals simp only [Option.some.injEq] at fV
   all_goals simp only [Rel] at gN
   · obtain ⟨p,_,rfl⟩:=gN;exact ⟨rfl,fV.symm⟩
   · obtain ⟨p,rfl,_⟩:=gN;exact ⟨rfl,fV.symm⟩
   · obtain ⟨p,rfl,_⟩:=gN;exact ⟨rfl,fV.symm⟩
  obtain ⟨ae,rfl⟩:=ny _ az
  exact jl (m:=pure (a.eval x)) (by simp only [execOp];rw [pure_bind];exact ae) (eY.plain s rfl az) dh
 case binOp op t x y u=>
  obtain ⟨fV,rfl⟩:=bH.j_ he
  clear he
  obtain ⟨Z,hJ,fp⟩:=Tp (P:=P) (m7:=x) (m8:=y) fV (gF k x) (gF k y) w
  exact jl rfl (eY.plain s hJ fp) dh
 case unOp op t x=>
  obtain ⟨fV,rfl⟩:=bH.j_ he
  clear he
  obtain ⟨Z,hJ,fp⟩:=agO (P:=P) fV (gF k x) w
  exact jl (m:=Op.unary op (a.eval x)) rfl (eY.plain s hJ fp) dh
 case convert t u x=>exact jl (m:=convert t u (a.eval x)) rfl (V5 s he (gF k x)) dh
 case makeInterface t x=>
  cases aJ:bJ P t with
  | none=>rw [aJ] at he;simp [eA.none] at he
  | some a_=>
    rw [aJ] at he
    simp only at he
    cases ah:Nat.beq (hy a_.b5) 5 with
    | true=>rw [ah] at he;simp [eA.none] at he
    | false=>
      rw [ah] at he
      simp only [cond_false,bH.val.injEq] at he;obtain ⟨rfl,rfl⟩:=he
      refine jl (m:=Instr.makeInterface t (a.eval x)) rfl (eY.plain (Z:=.iface t (a.eval x)) s ?_ ?_) dh
      · have hu:=h_ aJ w
        simp only [Instr.makeInterface,Sem.run_bind,hu,Result.andThen_ok]
        cases cR:a_.b5<;>first
         | rfl
         | (rw [cR] at ah;simp [hy] at ah)
      · simp only [Rel];exact ⟨_,rfl,gF k x⟩
 case makeFunc fn first k2=>
  cases fn<;>simp only at he<;>try (simp [eA.none] at he;done)
  rename_i f
  cases av:first.isEmpty with
  | false=>rw [av] at he;simp [eA.none] at he
  | true=>
    rw [av] at he
    simp only [cond_true,bH.val.injEq] at he;obtain ⟨rfl,rfl⟩:=he
    have X5:first=#[]:=by simpa using av
    subst X5
    refine jl (m:=Instr.makeFunc (.func f) #[] (k2.map a.eval)) (by simp [execOp]) (eY.plain s rfl ?_) dh
    simp only [Rel]
    exact ⟨_,rfl,by rw [Pu];simpa using Cm k k2.toList⟩
 case makeSlice t l c=>exact jl (m:=Instr.makeSlice t (a.eval l) (a.eval c)) rfl (acx s (gF k l) (gF k c) he) dh
 case slice t x cq aG fE=>
  obtain ⟨fV,rfl⟩:=bH.j_ he
  clear he
  obtain ⟨Z,hJ,fp⟩:=af7 (P:=P) fV (gF k x) (Dy k cq) (Dy k aG) (Dy k fE) w
  exact jl (m:=Instr.sliceAt t (a.eval x) (cq.map a.eval) (aG.map a.eval) (fE.map a.eval)) rfl (eY.plain s hJ fp) dh
 case fieldAddr t x i=>
  obtain ⟨fV,rfl⟩:=bH.j_ he
  clear he
  obtain ⟨Z,hJ,fp⟩:=WC (P:=P) fV (gF k x) w
  exact jl (m:=Instr.fieldAt t (a.eval x) i) rfl (eY.plain s hJ fp) dh
 case field t x i=>
  obtain ⟨fV,rfl⟩:=bH.j_ he
  clear he
  obtain ⟨Z,hJ,fp⟩:=WD (P:=P) fV (gF k x) w
  exact jl (m:=Instr.field t (a.eval x) i) rfl (eY.plain s hJ fp) dh
 case indexAddr t x i=>
  obtain ⟨fV,rfl⟩:=bH.j_ he
  clear he
  obtain ⟨Z,hJ,fp⟩:=ZL (P:=P) fV (gF k x) (gF k i) w
  exact jl (m:=Instr.indexAt t (a.eval x) (a.eval i)) rfl (eY.plain s hJ fp) dh
 case index t x i=>
  obtain ⟨fV,rfl⟩:=bH.j_ he
  clear he
  obtain ⟨Z,hJ,fp⟩:=ZM (P:=P) fV (gF k x) (gF k i) w
  exact jl (m:=Instr.index t (a.eval x) (a.eval i)) rfl (eY.plain s hJ fp) dh
 case range t x=>exact jl (m:=Instr.range t (a.eval x)) rfl (aej s (gF k x) he) dh
 case next it x0=>
  cases x0<;>simp only at he<;>try (simp [eA.none] at he;done)
  exact jl (m:=Instr.next (a.eval it) true type) rfl (acW s (gF k it) he) dh
 case lookup t x y ok=>
  obtain ⟨fV,rfl⟩:=bH.j_ he
  clear he
  obtain ⟨Z,hJ,fp⟩:=acp (P:=P) s (gF k x) (gF k y) fV
  exact jl (m:=Instr.lookup t (a.eval x) (a.eval y) ok) rfl (eY.plain s hJ fp) dh
 case mapUpdate t m y x=>
  cases dq:(uT P t).run h ((en m).run r) ((en y).run r) ((en x).run r) with
  | none=>rw [dq] at he;cases he
  | some ae=>
    rw [dq] at he
    simp only [kP,bH.val.injEq] at he;obtain ⟨rfl,rfl⟩:=he
    obtain ⟨aW,eS,mg⟩:=RC (P:=P) s (gF k m) (gF k y) (gF k x) dq
    unfold Oper.wp
    have:execOp a.eval ⟨dst,.mapUpdate t m y x,type,pos,after,guard⟩=(do Instr.mapUpdate t (a.eval m) (a.eval y) (a.eval x);pure .skip):=rfl
    rw [this,Sem.run_bind,eS]
    exact dh E undef aW (Env.le.refl E) (by simp [Rel]) mg
 case insert t m y x=>
  cases dq:(uT P t).run h ((en m).run r) ((en y).run r) ((en x).run r) with
  | none=>rw [dq] at he;cases he
  | some ae=>
    rw [dq] at he
    simp only [kP,bH.val.injEq] at he;obtain ⟨rfl,rfl⟩:=he
    obtain ⟨aW,eS,mg⟩:=RC (P:=P) s (gF k m) (gF k y) (gF k x) dq
    unfold Oper.wp
    have:execOp a.eval ⟨dst,.insert t m y x,type,pos,after,guard⟩=(do Instr.mapUpdate t (a.eval m) (a.eval y) (a.eval x);pure .skip):=rfl
    rw [this,Sem.run_bind,eS]
    exact dh E undef aW (Env.le.refl E) (by simp [Rel]) mg
 case makeMap t x=>exact jl (m:=Instr.makeMap t (x.map a.eval)) rfl (acw s (Dy k x) he) dh
 case extract x i=>
  have az:=gF k x
  generalize (en x).run r=Bc at he az
  cases Bc<;>simp only at he<;>try (cases he;done)
  obtain ⟨fV,rfl⟩:=bH.j_ he
  clear he
  simp only [Rel] at az
  obtain ⟨arr,gN,aK⟩:=az
  obtain ⟨y,bK,fp⟩:=aK.get i v fV
  refine jl (m:=Instr.extract (a.eval x) i) rfl (eY.plain (Z:=y) s ?_ fp) dh
  rw [gN]
  have:arr[i]? =some y:=by simpa using bK
  simp only [Instr.extract,this,Sem.run_pure]
 case call c=>
  obtain ⟨callee,args,types⟩:=c
  cases callee with
  | invoke _ _=>simp [tQ,eA.none] at he
  | builtin b=>
    simp only [tQ] at he
    obtain ⟨cs,hg⟩:∃cs,execOp a.eval ⟨dst,.call ⟨.builtin b,args,types⟩,type,pos,after,guard⟩=Go.builtin b types type cs (args.map a.eval):=by
     simp only [execOp,resolve,pure_bind,invoke]
     exact ⟨_,rfl⟩
    obtain ⟨m,hm,bp⟩:=Tw (P:=P) (ty:=type) (cs:=cs) s (Cm k args.toList) he
    refine jl (m:=m) ?_ bp dh
    rw [hg,←hm,Pu]
  | value f=>
    simp only [tQ] at he
    have av:=gF k f
    generalize aiu:(en f).run r=agV at he av
    cases agV<;>simp only [V.AH] at he<;>try (cases he;done)
    rename_i g cs
    simp only [Rel] at av
    obtain ⟨k2,gN,aK⟩:=av
    have XJ:=(Cm k args.toList).append aK
    have N_:=kI _ _ _ _ _ _ he E w _ XJ s
    unfold Oper.wp
    have hex:execOp a.eval ⟨dst,.call ⟨.value f,args,types⟩,type,pos,after,guard⟩=callFunc g (args.map a.eval++k2):=by
     simp only [execOp,resolve,gN,Deferred.ofValue,pure_bind,invoke]
     simp
    have e:args.map a.eval++k2=(args.toList.map a.eval++k2.toList).toArray:=by
     apply Array.ext';simp
    rw [hex,e]
    rcases N_ with ⟨⟨fn,vB,ah⟩,aD⟩ | ⟨ba,x,aW,bd,aQ,aB,a'⟩
    case inr=>
     rw [bd]
     exact dh ba x aW aQ aB a'
    rw [IM e0 vB ah]
    simp only [Oper.upon]
    refine aD.mono fun e aW a2=>?_
    obtain ⟨ba,x,rfl,aQ,aB,a'⟩:=a2
    exact dh ba x aW aQ aB a'
end
end Go.Proofs.YtjbiefneffiogaaGreat.bA
namespace Go.Proofs.YtjbiefneffiogaaGreat.bA
variable [Lay]
open Go Go.RowKit
section
variable {P:Program}
theorem Gb {E:Env} {bc:Nat} {r:dc} {a:Act} (k:hH E bc r a) {all:Array Oper} {j:Nat} {g:Oper} {d:Nat} (bS:all[j]? =some g) (cc:g.dst=some d) (XR:d<bc) (XS:d≤top):
 (∀b,T.get .bad (ao d) r=.bool b→yielded all a.tmps j=some b)∧(∀ai,T.get .bad (ao d) r=.tuple ai→yielded all a.tmps j=none):=by
 have bd:=k.ag d XS
 have aX:d<a.tmps.size:=by rw [k.size];exact XR
 have he:a.tmps[d]? =some (a.tmps.getD d undef):=by simp [Array.getD_eq_getD_getElem?,aX]
 refine ⟨fun b ah=>?_,fun ai ah=>?_⟩
 · rw [ah] at bd
   simp only [Rel] at bd
   simp only [yielded,bS,Option.bind,cc,he,bd]
 · rw [ah] at bd
   simp only [Rel] at bd
   obtain ⟨arr,bd,_⟩:=bd
   simp only [yielded,bS,Option.bind,cc,he,bd]
theorem adB {op:eA} {put:y5} {call:gr} {r bT:dc} {h aa:aj} (he:AL op put call r h=.ok bT aa):∃v,op.run call r h=.val v aa∧bT=put.run r v:=by
 unfold AL at he
 cases bD:op.run call r h with
 | fail=>rw [bD] at he;cases he
 | val v ae=>
   rw [bD] at he
   simp only [ri.ok.injEq] at he
   obtain ⟨rfl,rfl⟩:=he
   exact ⟨v,rfl,rfl⟩
theorem adA {aZ:Fr} {E:Env} {h aa:aj} {w:World} {call:gr} (e0:kE P) (kI:lq P call) (kj:lY P call) {all:Array Oper} {i:Nat} {o:Oper} (aG:all[i]? =some o) {bc:Nat} {r bT:dc} {a:Act}
 (he:(Dx P bc all o).run call r h=.ok bT aa) (k:hH E bc r a) (s:ck aZ E h w) {K:Act→World→Prop} {Q:Exit→Act→World→Prop}
 (dh:∀ba cI aW,E.le ba→hH ba bc bT cI→ck aZ ba aa aW→K cI aW):wpOp P all Q i K a w:=by
 unfold Dx at he
 cases cc:kf bc o.dst with
 | false=>rw [cc] at he;cases he
 | true=>
   rw [cc] at he
   simp only [cond_true] at he
   have wanted:∀(aU:dc),AL (ja P o) (mo o.dst) call r h=.ok aU aa→aU=bT→Region.wanted o (yielded all a.tmps)=true→wpOp P all Q i K a w:=by
    intro aU ae e hw
    subst e
    obtain ⟨v,bk,rfl⟩:=adB ae
    simp only [wpOp,aG,hw,if_true]
    left
    exact M6 e0 kI kj bk k s fun ba x aW aQ aB a'=>dh ba _ aW aQ ((k.mono aQ).put cc aB) a'
   have Bb:bT=(mo o.dst).run r (.tuple [])→aa=h→Region.wanted o (yielded all a.tmps)=false→wpOp P all Q i K a w:=by
    intro aI bh hw
    subst aI bh
    simp only [wpOp,aG,hw,Bool.false_eq_true,if_false]
    exact dh E _ w (Env.le.refl E) (k.put cc (by simp only [Rel];exact ⟨#[],rfl,rfl⟩)) s
   cases bp:o.guard with
   | none=>
     rw [bp] at he
     exact wanted bT he rfl (by simp [Region.wanted,bp])
   | some s4=>
     obtain ⟨j,want⟩:=s4
     rw [bp] at he
     simp only at he
     cases bS:all[j]? with
     | none=>rw [bS] at he;cases he
     | some g=>
       rw [bS] at he
       simp only at he
       cases j8:g.dst with
       | none=>rw [j8] at he;cases he
       | some d=>
         rw [j8] at he
         simp only at he
         cases aD:(Nat.blt d bc&&Nat.ble d top) with
         | false=>rw [aD] at he;cases he
         | true=>
           rw [aD] at he
           simp only [cond_true,NV,pJ] at he
           simp only [Bool.and_eq_true,Nat.blt_eq,Nat.ble_eq] at aD
           obtain ⟨bF,bz⟩:=Gb k bS j8 aD.1 aD.2
           cases bk:T.get .bad (ao d) r<;>rw [bk] at he<;>simp only at he<;>try (cases he;done)
           · rename_i b
             have bK:=bF b bk
             cases ah:(bif want then b else !b) with
             | true=>
               rw [ah] at he
               simp only [cond_true] at he
               refine wanted bT he rfl ?_
               simp only [Region.wanted,bp,bK]
               cases want<;>cases b<;>simp_all
             | false=>
               rw [ah] at he
               simp only [cond_false,ri.ok.injEq] at he
               refine Bb he.1.symm he.2.symm ?_
               simp only [Region.wanted,bp,bK]
               cases want<;>cases b<;>simp_all
           · rename_i ai
             have bK:=bz ai bk
             simp only [ri.ok.injEq] at he
             refine Bb he.1.symm he.2.symm ?_
             simp only [Region.wanted,bp,bK]
             rfl
theorem P1 {aZ:Fr} {call:gr} (e0:kE P) (kI:lq P call) (kj:lY P call) {all:Array Oper} {bc:Nat} {Q:Exit→Act→World→Prop}:∀(l:List Oper) (i:Nat),(∀j,l[j]? =all[i+j]?)→
 ∀(E:Env) (r bT:dc) (h aa:aj) (a:Act) (w:World),(yk P bc all l).run call r h=.ok bT aa→hH E bc r a→ck aZ E h w→
 (∀ba cI aW,E.le ba→hH ba bc bT cI→ck aZ ba aa aW→Q .normal cI aW)→wpOps P all Q (List.range' i l.length) a w
 | [],i,_,E,r,bT,h,aa,a,w,he,k,s,dD=>by
   simp only [yk,ri.ok.injEq] at he
   obtain ⟨rfl,rfl⟩:=he
   simp only [List.length_nil,List.range'_zero,wpOps]
   exact dD E a w (Env.le.refl E) k s
 | o::os,i,aK,E,r,bT,h,aa,a,w,he,k,s,dD=>by
   simp only [yk,Q6] at he
   have aG:all[i]? =some o:=by have:=aK 0;simpa using this.symm
   cases ae:(Dx P bc all o).run call r h with
   | fail=>rw [ae] at he;cases he
   | ok aU X_=>
     rw [ae] at he
     simp only at he
     rw [List.length_cons,List.range'_succ,wpOps_cons]
     refine adA e0 kI kj aG ae k s fun ba cI aW aQ aB a'=>?_
     refine P1 e0 kI kj os (i+1) (fun j=>?_) ba aU bT X_ aa cI aW he aB a' fun eP b3 dw ca b' cE=>dD eP b3 dw (aQ.trans ca) b' cE
     have:=aK (j+1)
     simp only [List.getElem?_cons_succ] at this
     rw [this]
     congr 1
     omega
end
end Go.Proofs.YtjbiefneffiogaaGreat.bA
namespace Go.Proofs.YtjbiefneffiogaaGreat.bA
variable [Lay]
open Go Go.RowKit
theorem a6.qq:∀{p q:a6},a6.jE p q=true→p=q
 | .z,.z,_=>rfl
 | .l p,.l q,h=>by rw [a6.qq (p:=p) (q:=q) h]
 | .r p,.r q,h=>by rw [a6.qq (p:=p) (q:=q) h]
 | .z,.l _,h=>by cases h
 | .z,.r _,h=>by cases h
 | .l _,.z,h=>by cases h
 | .l _,.r _,h=>by cases h
 | .r _,.z,h=>by cases h
 | .r _,.l _,h=>by cases h
theorem No {a b:V} (h:Cj a b=true):a=b:=by
 cases a<;>cases b<;>simp only [Cj] at h<;>first
  | rfl
  | (cases h;done)
  | (rename_i x y;cases x<;>cases y<;>simp_all;done)
  | (rename_i k x l y
     simp only [Bool.and_eq_true] at h
     have ae:=zv h.1
     have ak:=h.2
     rw [qq,beq_iff_eq] at ak
     rw [ae,ak];done)
  | (rw [xo,beq_iff_eq] at h;rw [h];done)
  | (simp only [Bool.and_eq_true,Nat.beq_eq] at h
     obtain ⟨ae,ak,aC,bq⟩:=h
     rw [a6.qq ae,ak,aC,bq];done)
  | (simp only [Bool.and_eq_true,Nat.beq_eq] at h
     rw [a6.qq h.1,h.2];done)
  | (rw [a6.qq h];done)
  | (simp only [Bool.and_eq_true,Nat.beq_eq,List.isEmpty_iff] at h
     obtain ⟨ae,ak,aC⟩:=h
     rw [ae,ak,aC];done)
  | (simp only [Bool.and_eq_true,List.isEmpty_iff] at h
     rw [h.1,h.2];done)
theorem FR {f:V→V→Bool} (av:∀a b,f a b=true→a=b):∀{a b:List V},xx f a b=true→a=b
 | [],[],_=>rfl
 | [],_::_,h=>by cases h
 | _::_,[],h=>by cases h
 | a::x,b::y,h=>by
   simp only [xx] at h
   cases ae:f a b with
   | false=>rw [ae] at h;cases h
   | true=>
     rw [ae] at h
     rw [av a b ae,FR av h]
theorem Tn {c x:Bool} (h:(bif c then x else false)=true):c=true∧x=true:=by
 cases c with
 | false=>cases h
 | true=>exact ⟨rfl,h⟩
theorem Np:∀(d:Nat) (a b:V),vj d a b=true→a=b
 | 0,a,b,h=>No h
 | d+1,a,b,h=>by
   have bN:=Np d
   cases a<;>simp only [vj] at h<;>first
    | exact No h
    | (cases b<;>simp only at h<;>first
        | (cases h;done)
        | rfl
        | (rw [FR bN h];done)
        | (obtain ⟨ae,ak⟩:=Tn h
           rw [Nat.beq_eq] at ae
           rw [ae]
           first
            | rw [FR bN ak]
            | rw [bN _ _ ak]))
theorem Wr {a b:V} (h:Nn a b=true):a=b:=Np 5 a b h
theorem zf (m i:Nat):l8 m i=m.testBit i:=by
 rw [Nat.testBit_eq_decide_div_mod_eq]
 unfold l8
 have e:Nat.mod (Nat.shiftRight m i) 2=m / 2 ^ i % 2:=by
  show (m >>> i) % 2=_
  rw [Nat.shiftRight_eq_div_pow]
 rw [e,Bool.eq_iff_iff,Nat.beq_eq,decide_eq_true_eq]
theorem HW {e2:List Nat} {i:Nat}:∀{es:List Edge},l8 (uD e2 es) i=true→∃e ∈ es,vf e=true∧(e.on=i∨l8 ((e2[e.on]?).getD 0) i=true)
 | [],h=>by simp [uD,zf] at h
 | e::es,h=>by
   simp only [uD] at h
   cases ah:vf e with
   | false=>
     rw [ah] at h
     obtain ⟨fT,ae,ak⟩:=HW (es:=es) h
     exact ⟨fT,by simp [ae],ak⟩
   | true=>
     rw [ah] at h
     simp only [cond_true,zf] at h
     have aa:((1 <<< e.on||| (e2[e.on]?).getD 0)||| uD e2 es).testBit i=true:=h
     rw [Nat.testBit_or,Nat.testBit_or,Bool.or_eq_true,Bool.or_eq_true] at aa
     rcases aa with (ae | ae) | ae
     · refine ⟨e,by simp,ah,.inl ?_⟩
       rw [Nat.testBit_shiftLeft] at ae
       simp only [Bool.and_eq_true,decide_eq_true_eq] at ae
       have:=ae.2
       rw [Nat.testBit_one_eq_true_iff_self_eq_zero] at this
       omega
     · exact ⟨e,by simp,ah,.inr (by rw [zf];exact ae)⟩
     · rw [←zf] at ae
       obtain ⟨fT,aQ,aB⟩:=HW (es:=es) ae
       exact ⟨fT,by simp [aQ],aB⟩
def El (ops:Array Oper) (L:Nat→Prop):Prop:=∀k o e,L k→ops[k]? =some o→e ∈ o.after.toList→vf e=true→L e.on
theorem HX {ops:Array Oper} {L:Nat→Prop} (CF:El ops L):∀(os:List Oper) (e2:List Nat),(∀j,os[j]? =ops[e2.length+j]?)→
 (∀k m i,e2[k]? =some m→l8 m i=true→L k→L i)→∀k m i,(lI e2 os)[k]? =some m→l8 m i=true→L k→L i
 | [],e2,_,h,k,m,i,an,ah,bW=>h k m i an ah bW
 | o::os,e2,um,h,k,m,i,an,ah,bW=>by
   simp only [lI] at an
   refine HX CF os (e2++[uD e2 o.after.toList]) (fun j=>?_) (fun k m i an ah bW=>?_) k m i an ah bW
   · have:=um (j+1)
     simp only [List.getElem?_cons_succ] at this
     rw [this]
     congr 1
     simp
     omega
   · by_cases aX:k<e2.length
     · rw [List.getElem?_append_left aX] at an
       exact h k m i an ah bW
     · rw [List.getElem?_append_right (by omega)] at an
       have nz:k-e2.length=0:=by
        cases bI:k-e2.length with
        | zero=>rfl
        | succ n=>rw [bI] at an;simp at an
       rw [nz] at an
       simp only [List.getElem?_cons_zero,Option.some.injEq] at an
       subst an
       have Yl:k=e2.length:=by omega
       have bD:ops[k]? =some o:=by have:=um 0;simp only [List.getElem?_cons_zero,Nat.add_zero] at this;rw [Yl];exact this.symm
       obtain ⟨e,he,Gq,kp⟩:=HW ah
       have N2:=CF k o e bW bD he Gq
       rcases kp with rfl | kp
       · exact N2
       · cases hm:e2[e.on]? with
         | none=>rw [hm] at kp;simp [zf] at kp
         | some oa=>rw [hm] at kp;exact h e.on oa i hm kp N2
theorem Jk {f:Nat→Nat→Oper→Bool}:∀{k:Nat} {ms:List Nat} {os:List Oper},uX f k ms os=true→∀j o,os[j]? =some o→∃m,ms[j]? =some m∧f (k+j) m o=true
 | _,_,[],_,j,o,h=>by simp at h
 | _,[],_::_,h,_,_,_=>by cases h
 | k,m::ms,dP::os,h,j,o,bD=>by
   simp only [uX,Bool.and_eq_true] at h
   cases j with
   | zero=>simp only [List.getElem?_cons_zero,Option.some.injEq] at bD;subst bD;exact ⟨m,rfl,h.1⟩
   | succ j=>
     obtain ⟨oa,ae,ak⟩:=Jk h.2 j o (by simpa using bD)
     exact ⟨oa,by simpa using ae,by rw [show k + (j+1)=k+1+j from by omega];exact ak⟩
theorem R0 {f:Nat→Nat→Oper→Bool}:∀{k:Nat} {ms:List Nat} {os:List Oper},ms.length=os.length→(∀j m o,ms[j]? =some m→os[j]? =some o→f (k+j) m o=true)→uX f k ms os=true
 | _,[],[],_,_=>rfl
 | _,[],_::_,h,_=>by simp at h
 | _,_::_,[],h,_=>by simp at h
 | k,m::ms,o::os,h,av=>by
   simp only [uX,Bool.and_eq_true]
   refine ⟨av 0 m o rfl rfl,R0 (by simpa using h) fun j oa dP ae ak=>?_⟩
   have:=av (j+1) oa dP (by simpa using ae) (by simpa using ak)
   rw [show k+1+j=k + (j+1) from by omega]
   exact this
theorem Pv:∀(os:List Oper) (e2:List Nat),(lI e2 os).length=e2.length+os.length
 | [],e2=>rfl
 | o::os,e2=>by simp [lI,Pv os];omega
section
variable {P:Program}
theorem M5 {o:Oper} {call:gr} {r:dc} {h aa:aj} {v:V} (a2:jg P o.op=false) (he:(ja P o).run call r h=.val v aa):aa=h:=by
 obtain ⟨dst,op,type,pos,after,guard⟩:=o
 cases op<;>simp only [jg] at a2<;>try (cases a2;done)
 all_goals simp only [ja] at he
 case convert s d x=>
  unfold rr at he
  cases aM:bJ P s with
  | none=>rw [aM] at he;cases he
  | some uQ=>
    cases cc:bJ P d with
    | none=>rw [cc] at a2;cases a2
    | some pF=>
      rw [aM,cc] at he
      rw [cc] at a2
      simp only at he a2
      cases hu:pF.b5 with
      | int k=>
        rw [hu] at he
        obtain ⟨cf,n,_,ae⟩:=AI he
        simp only [bH.val.injEq] at ae
        exact ae.2.symm
      | slice e=>rw [hu] at a2;cases a2
      | string=>
        rw [hu] at he
        simp only at he
        have other:∀x:V,(match x with
         | .str s=>bH.val (.str s) h
         | .int _ n=>.val (.str (Utf8.encode n).data.toList) h
         | _=>.fail)=.val v aa→aa=h:=by
         intro x he
         cases x<;>simp only at he<;>first
          | (cases he;done)
          | (simp only [bH.val.injEq] at he;exact he.2.symm)
        cases OK:uQ.b5 with
        | slice e=>
          rw [OK] at he
          simp only at he
          cases dy:bJ P e with
          | none=>rw [dy] at he;cases he
          | some bO=>
            rw [dy] at he
            simp only at he
            have agu:∀b off len,q3 b off len h=.val v aa→aa=h:=by
             intro b off len he
             unfold q3 at he
             cases bp:h.get b<;>rw [bp] at he<;>simp only [cT.po] at he<;>try (cases he;done)
             all_goals
              obtain ⟨_,ak⟩:=qn he
              cases Zb:pt (ma _ off len)<;>rw [Zb] at ak<;>first
               | (cases ak;done)
               | (simp only [bH.val.injEq] at ak;exact ak.2.symm)
            cases gX:bO.b5 with
            | int Am=>
              rw [gX] at he
              cases Am<;>simp only at he<;>try (cases he;done)
              simp only [nT] at he
              cases az:(en x).run r<;>rw [az] at he<;>simp only at he<;>first
               | (cases he;done)
               | exact agu _ _ _ he
               | (simp only [bH.val.injEq] at he;exact he.2.symm)
            | _=>rw [gX] at he;cases he
        | _=>rw [OK] at he;exact other _ he
      | _=>rw [hu] at he;cases he
 case call c=>
  obtain ⟨callee,args,types⟩:=c
  cases callee<;>simp only at a2<;>try (cases a2;done)
  rename_i b
  simp only [tQ] at he
  cases b<;>simp only at a2<;>try (cases a2;done)
  · simp only [sz] at he
    cases hv:types.toList with
    | nil=>rw [hv] at he;simp [hn.none] at he
    | cons t dt=>
      cases dt with
      | cons _ _=>rw [hv] at he;simp [hn.none] at he
      | nil=>
        rw [hv] at he
        simp only at he
        cases aJ:bJ P t with
        | none=>rw [aJ] at he;simp [hn.none] at he
        | some a_=>
          rw [aJ] at he
          rw [hv] at a2
          simp only [HG,aJ] at a2
          simp only [a2,cond_false] at he
          split at he
          · exact (bH.j_ he).2
          · cases he
  · exact (bH.j_ he).2
  · exact (bH.j_ he).2
 case move=>simp only [bH.val.injEq] at he;exact he.2.symm
 case assign=>simp only [bH.val.injEq] at he;exact he.2.symm
 case pick c a b=>
  split at he
  · simp only [bH.val.injEq] at he;exact he.2.symm
  · cases he
 case makeFunc fn first k2=>
  cases fn<;>simp only at he<;>try (simp [eA.none] at he;done)
  cases av:first.isEmpty<;>rw [av] at he
  · simp [eA.none] at he
  · simp only [cond_true,bH.val.injEq] at he;exact he.2.symm
 case makeInterface t x=>
  cases aJ:bJ P t with
  | none=>rw [aJ] at he;simp [eA.none] at he
  | some a_=>
    rw [aJ] at he
    simp only at he
    cases ah:Nat.beq (hy a_.b5) 5<;>rw [ah] at he
    · simp only [cond_false,bH.val.injEq] at he;exact he.2.symm
    · simp [eA.none] at he
 case extract x i=>
  split at he
  · exact (bH.j_ he).2
  · cases he
 all_goals exact (bH.j_ he).2
theorem bH.AF {h aa:aj} {x:Option V} {v:V} (he:bH.of h x=.val v aa) (H:aj):bH.of H x=.val v H:=by
 rw [(bH.j_ he).1];rfl
theorem M4 {o:Oper} {call:gr} {r:dc} {h aa:aj} {v:V} (a2:jg P o.op=false) (aK:looks o.op=false) (he:(ja P o).run call r h=.val v aa) (H:aj):(ja P o).run call r H=.val v H:=by
 obtain ⟨dst,op,type,pos,after,guard⟩:=o
 cases op<;>simp only [jg] at a2<;>try (cases a2;done)
 all_goals simp only [looks] at aK<;>try (cases aK;done)
 all_goals simp only [ja] at he ⊢
 case call c=>
  obtain ⟨callee,args,types⟩:=c
  cases callee<;>simp only at a2<;>try (cases a2;done)
  rename_i b
  simp only [tQ] at he ⊢
  cases b<;>simp only at a2<;>try (cases a2;done)
  · simp only [sz] at he ⊢
    cases hv:types.toList with
    | nil=>rw [hv] at he;simp [hn.none] at he
    | cons t dt=>
      cases dt with
      | cons _ _=>rw [hv] at he;simp [hn.none] at he
      | nil=>
        rw [hv] at he
        simp only at he ⊢
        cases aJ:bJ P t with
        | none=>rw [aJ] at he;simp [hn.none] at he
        | some a_=>
          rw [aJ] at he
          rw [hv] at a2
          simp only [HG,aJ] at a2
          simp only [a2,cond_false] at he ⊢
          split at he
          · exact bH.AF he H
          · cases he
  · exact bH.AF he H
  · exact bH.AF he H
 case move=>simp only [bH.val.injEq] at he;rw [he.1]
 case assign=>simp only [bH.val.injEq] at he;rw [he.1]
 case pick c a b=>
  split at he
  · simp only [bH.val.injEq] at he;rw [he.1]
  · cases he
 case makeFunc fn first k2=>
  cases fn<;>simp only at he ⊢<;>try (simp [eA.none] at he;done)
  cases av:first.isEmpty<;>rw [av] at he
  · simp [eA.none] at he
  · simp only [cond_true,bH.val.injEq] at he ⊢;exact ⟨he.1,trivial⟩
 case makeInterface t x=>
  cases aJ:bJ P t with
  | none=>rw [aJ] at he;simp [eA.none] at he
  | some a_=>
    rw [aJ] at he
    simp only at he ⊢
    cases ah:Nat.beq (hy a_.b5) 5<;>rw [ah] at he
    · simp only [cond_false,bH.val.injEq] at he ⊢;exact ⟨he.1,trivial⟩
    · simp [eA.none] at he
 case extract x i=>
  split at he
  · exact bH.AF he H
  · cases he
 all_goals exact bH.AF he H
end
end Go.Proofs.YtjbiefneffiogaaGreat.bA
namespace Go.Proofs.YtjbiefneffiogaaGreat.bA
variable [Lay]
open Go Go.RowKit
section
variable {P:Program}
def JI (P:Program) (E:Env) (m:Sem Value) (v:V) (h aa:aj):Prop:=
 ∃k,aa=h.new k∧True∧∀w,∃X j',m.run P w=.ok X {w with heap:=w.heap.push j'}∧
  ∀ba,E.le ba→ba (ao h.next)=some ⟨w.heap.size,0,0⟩→Rel ba v X∧∀B,B≤w.heap.size→jM B ba {w with heap:=w.heap.push j'} (ao h.next) k
theorem H6 {E:Env} {h aa:aj} {ai:List V} {l:List Value} (aK:bY E ai l) (he:hO h ai=some aa) (t:TypeId):
 ∃k,aa=h.new k∧True∧∀w,(newRow t l.toArray).run P w=.ok ⟨w.heap.size,0,none⟩ {w with heap:=w.heap.push (.cells l.toArray t)}∧
  ∀ba,E.le ba→ba (ao h.next)=some ⟨w.heap.size,0,0⟩→∀B,B≤w.heap.size→jM B ba {w with heap:=w.heap.push (.cells l.toArray t)} (ao h.next) k:=by
 unfold hO at he
 obtain ⟨aD,he⟩:=g0 he
 rw [Nat.ble_eq] at aD
 cases he
 refine ⟨_,rfl,trivial,fun w=>⟨by simp [newRow],fun ba hle fW B dJ=>?_⟩⟩
 have:=Cx (bY.mono hle _ _ aK) aD #[]
 rw [Array.append_empty] at this
 exact ⟨aD,_,_,t,(0,0),fW,dJ,by simp,.inr (Nat.le_refl _),fun _=>rfl,fun h=>absurd rfl h,this⟩
theorem Tv {E:Env} {h aa:aj} {t:TypeId} {n:Nat} {ct:List (Nat × V)} {mr:List (Nat × Value)} {v:V} (aT:su E ct mr) (he:(vh P t n).run ct h=.val v aa):
 JI P E (Instr.buildSlice t n mr.toArray) v h aa:=by
 unfold vh at he
 cases aJ:bJ P t with
 | none=>rw [aJ] at he;cases he
 | some a_=>
   rw [aJ] at he
   simp only at he
   have hu:=h_ aJ
   cases cR:a_.b5 with
   | slice e=>
     rw [cR] at he hu
     simp only at he
     cases dy:bJ P e with
     | none=>rw [dy] at he;cases he
     | some bO=>
       rw [dy] at he
       simp only at he
       cases bI:bO.zero with
       | none=>rw [bI] at he;cases he
       | some z=>
         rw [bI] at he
         simp only at he
         cases aD:(Nat.ble (n * bO.size) 1000000&&Nat.beq z.cells.length bO.size) with
         | false=>rw [aD] at he;cases he
         | true=>
           rw [aD] at he
           simp only [cond_true] at he
           simp only [Bool.and_eq_true,Nat.ble_eq,Nat.beq_eq] at aD
           cases av:nX (fun i=>some (i * bO.size,bO.size)) (hP z.cells n) ct with
           | none=>rw [av] at he;cases he
           | some cs=>
             rw [av] at he
             simp only at he
             cases a7:hO h cs with
             | none=>rw [a7] at he;cases he
             | some ae=>
               rw [a7] at he
               simp only [bH.val.injEq] at he
               obtain ⟨rfl,rfl⟩:=he
               obtain ⟨x,az,rK,vU⟩:=wU (P:=P) (E:=E) dy bI ⟨#[],fun _ _=>0,0,default,#[]⟩
               have vV:x.cells.size=bO.size:=by rw [vU,aD.2]
               have vM:=DL rK n
               rw [vV] at vM
               obtain ⟨b,nv,je⟩:=zA (a:=(Array.range (n * bO.size)).map (x.cells[· % x.cells.size]!)) aT (by rw [vV];exact vM) av
               obtain ⟨k,bF,bz,cL⟩:=H6 (P:=P) je a7 e
               refine ⟨k,bF,bz,fun w=>⟨.slice (some ⟨w.heap.size,0,none⟩) n n,.cells b e,?_,fun ba hle fW=>⟨?_,?_⟩⟩⟩
               · have z2:¬16777216<n * bO.size:=by omega
                 have sP:(newRow e b).run P w=.ok ⟨w.heap.size,0,none⟩ {w with heap:=w.heap.push (.cells b e)}:=by simpa using (cL w).1
                 by_cases al:n * bO.size=0
                 · have Gn:Instr.fill (fun i=>some (i * bO.size,bO.size)) ((Array.range (n * bO.size)).map ((#[]:Array Value)[· % 0]!)) mr=some b:=by
                    have aI:(Array.range (n * bO.size)).map ((#[]:Array Value)[· % 0]!)=(Array.range (n * bO.size)).map (x.cells[· % x.cells.size]!):=by
                     rw [al];simp
                    rw [aI];exact nv
                   have Gp:Instr.fill (fun i=>some (i * bO.size,bO.size)) ((Array.range (n * bO.size)).map (fun x=>(#[]:Array Value)[x % (#[]:Array Value).size]!)) mr=some b:=Gn
                   simp only [Instr.buildSlice,Sem.run_bind,hu,Result.andThen_ok,lT dy,Sem.run_ite]
                   rw [if_neg z2]
                   simp only [Sem.run_pure,Result.andThen_ok,if_pos al]
                   rw [Gp]
                   simp only [Sem.run_bind,sP,Result.andThen_ok,Sem.run_pure]
                 · simp only [Instr.buildSlice,Sem.run_bind,hu,Result.andThen_ok,lT dy,Sem.run_ite]
                   rw [if_neg z2]
                   simp only [Sem.run_pure,Result.andThen_ok,if_neg al,az]
                   rw [nv]
                   simp only [Sem.run_bind,sP,Result.andThen_ok,Sem.run_pure]
               · simp only [Rel]
                 exact ⟨_,fW,Nat.le_refl _,by simp⟩
               · simpa using (cL w).2 ba hle fW
   | _=>rw [cR] at he;cases he
set_option maxHeartbeats 2000000 in
theorem V7 {E:Env} {h aa:aj} {call:gr} {o:Oper} {bc:Nat} {r:dc} {a:Act} {v:V} (bU:ks o=true) (he:(ja P o).run call r h=.val v aa) (k:hH E bc r a):
 ∃m:Sem Value,execOp a.eval o=(do pure (.value (←m)))∧JI P E m v h aa:=by
 obtain ⟨dst,op,type,pos,after,guard⟩:=o
 cases op<;>simp only [ks] at bU<;>try (cases bU;done)
 all_goals simp only [ja] at he
 case alloc t=>
  refine ⟨Instr.alloc t true (.tuple #[]),rfl,?_⟩
  cases aJ:bJ P t with
  | none=>rw [aJ] at he;simp [eA.none] at he
  | some a_=>
    rw [aJ] at he
    simp only at he
    cases bI:a_.zero with
    | none=>rw [bI] at he;simp [eA.none] at he
    | some z=>
      rw [bI] at he
      simp only at he
      cases a7:hO h z.cells with
      | none=>rw [a7] at he;cases he
      | some ae=>
        rw [a7] at he
        simp only [kP,bH.val.injEq] at he;obtain ⟨rfl,rfl⟩:=he
        obtain ⟨x,az,rK,_⟩:=wU (P:=P) (E:=E) aJ bI ⟨#[],fun _ _=>0,0,default,#[]⟩
        obtain ⟨fv,bF,bz,cL⟩:=H6 (P:=P) rK a7 t
        refine ⟨fv,bF,bz,fun w=>⟨.pointer (some ⟨w.heap.size,0,none⟩),.cells x.cells t,?_,fun ba hle fW=>⟨?_,?_⟩⟩⟩
        · have:=(cL w).1
          simp only [Array.toArray_toList] at this
          simp only [Instr.alloc,Sem.run_bind,az,Result.andThen_ok,newVar,this,Sem.run_pure]
        · simp only [Rel];exact ⟨_,fW,by simp⟩
        · simpa using (cL w).2 ba hle fW
 case box t x=>
  refine ⟨Instr.box t (a.eval x),rfl,?_⟩
  obtain ⟨bp,he⟩:=qn he
  cases a7:hO h ((en x).run r).cells with
  | none=>rw [a7] at he;cases he
  | some ae=>
    rw [a7] at he
    simp only [kP,bH.val.injEq] at he;obtain ⟨rfl,rfl⟩:=he
    have aK:=(gF k x).cells (fun e=>by rw [e] at bp;cases bp)
    obtain ⟨fv,bF,bz,cL⟩:=H6 (P:=P) aK a7 t
    refine ⟨fv,bF,bz,fun w=>⟨.pointer (some ⟨w.heap.size,0,none⟩),.cells (a.eval x).cells t,?_,fun ba hle fW=>⟨?_,?_⟩⟩⟩
    · have:=(cL w).1
      simp only [Array.toArray_toList] at this
      simp only [Instr.box,Sem.run_bind,newVar,this,Result.andThen_ok,Sem.run_pure]
    · simp only [Rel];exact ⟨_,fW,by simp⟩
    · simpa using (cL w).2 ba hle fW
 case buildSlice t n ct=>
  refine ⟨Instr.buildSlice t n (ct.map fun (i,x)=>(i,a.eval x)),rfl,?_⟩
  rw [Ip]
  exact Tv (DA k ct.toList) he
 case makeMap t x=>
  cases x with
  | some _=>cases bU
  | none=>
    refine ⟨Instr.makeMap t none,rfl,?_⟩
    simp only [rZ,x8] at he
    cases aJ:bJ P t with
    | none=>rw [aJ] at he;cases he
    | some a_=>
      rw [aJ] at he
      simp only at he
      cases ah:Nat.beq (hy a_.b5) 3 with
      | false=>rw [ah] at he;cases he
      | true=>
        rw [ah] at he
        simp only [cond_true,qQ,yc] at he
        simp only [bH.val.injEq] at he
        obtain ⟨rfl,rfl⟩:=he
        refine ⟨_,rfl,trivial,fun w=>⟨.map (some w.heap.size),.map #[] 0,?_,fun ba hle fW=>⟨?_,fun B dJ=>?_⟩⟩⟩
        · simp only [Instr.makeMap,Sem.run_bind,run_newObj,Result.andThen_ok,Sem.run_pure]
        · simp only [Rel];exact ⟨_,fW,rfl⟩
        · exact ⟨_,#[],fW,dJ,by simp,rfl⟩
def Fr.hold (F:Fr) (b:a6) (k:cT):Fr:=⟨F.w,fun b1=>if b1=b then some k else F.lP b1⟩
def Fr.free (F:Fr) (b:a6):Fr:=⟨F.w,fun b1=>if b1=b then none else F.lP b1⟩
theorem ck.hold {F:Fr} {E:Env} {h:aj} {w:World} (s:ck F E h w) (k:cT):ck (F.hold (ao h.next) k) E (h.new k) w:=by
 have gb:=s.fresh h.next (Nat.le_refl _)
 refine ⟨fun b ah=>?_,fun b cf an=>?_,fun b b1 p nD ae ak aI bh kH=>?_,fun i aG=>s.fresh i (Nat.le_of_succ_le aG),s.frame,s.laid,fun b p n cs st ae aI=>s.base b p n cs st (by
  have dE:ao h.next≠b:=fun e=>by rw [←e,gb] at aI;cases aI
  rwa [aj.eB,if_neg dE] at ae) aI⟩
 · simp only [Fr.hold] at ah
   by_cases a2:b=ao h.next
   · rw [if_pos a2] at ah;cases ah
   · rw [if_neg a2] at ah
     rw [aj.eB,if_neg (fun e=>a2 e.symm)]
     exact s.bb b ah
 · simp only [Fr.hold] at an
   by_cases a2:b=ao h.next
   · rw [if_pos a2] at an
     cases an
     exact ⟨by rw [aj.eB,if_pos a2.symm],by rw [a2];exact gb,h.next,Nat.lt_succ_self _,a2⟩
   · rw [if_neg a2] at an
     obtain ⟨aQ,aB,i,a',cn⟩:=s.qU b cf an
     exact ⟨by rw [aj.eB,if_neg (fun e=>a2 e.symm)];exact aQ,aB,i,Nat.lt_succ_of_lt a',cn⟩
 · have dE:ao h.next≠b:=fun e=>by rw [←e,gb] at aI;cases aI
   have e6:ao h.next≠b1:=fun e=>by rw [←e,gb] at bh;cases bh
   rw [aj.eB,if_neg dE] at ae
   rw [aj.eB,if_neg e6] at ak
   exact s.inj b b1 p nD ae ak aI bh kH
theorem ck.link {F:Fr} {E:Env} {h:aj} {w:World} (s:ck F E h w) {b:a6} {k:cT} (aT:F.lP b=some k) {o:Obj}
 (k_:jM F.w.heap.size (E.put b ⟨w.heap.size,0,0⟩) {w with heap:=w.heap.push o} b k):
 E.le (E.put b ⟨w.heap.size,0,0⟩)∧ck (F.free b) (E.put b ⟨w.heap.size,0,0⟩) h {w with heap:=w.heap.push o}:=by
 obtain ⟨an,gb,i0,aie,vv⟩:=s.qU b k aT
 have hle:E.le (E.put b ⟨w.heap.size,0,0⟩):=Env.s7 gb
 have fW:E.put b ⟨w.heap.size,0,0⟩ b=some ⟨w.heap.size,0,0⟩:=by unfold Env.put;rw [if_pos rfl]
 have hold:∀b1,b1≠b→E.put b ⟨w.heap.size,0,0⟩ b1=E b1:=by intro b1 ah;unfold Env.put;rw [if_neg ah]
 have pO:∀b1 q,E b1=some q→(h.get b1)≠.dead→q.bb<w.heap.size:=by
  intro b1 q a2 cc
  have ah:=s.at a2
  cases bp:h.get b1 with
  | dead=>exact absurd bp cc
  | view n cs=>rw [bp] at ah;obtain ⟨_,hk,c,el,cF,e,_,c4,_⟩:=ah;rw [e] at a2;cases a2;exact (Array.getElem?_eq_some_iff.1 c4).1
  | cells n cs c3 st=>rw [bp] at ah;obtain ⟨_,hk,c,el,cF,e,_,c4,_⟩:=ah;rw [e] at a2;cases a2;exact (Array.getElem?_eq_some_iff.1 c4).1
  | iter st pos=>rw [bp] at ah;obtain ⟨hk,e,_,_,c4⟩:=ah;rw [e] at a2;cases a2;exact (Array.getElem?_eq_some_iff.1 c4).1
  | mp es clock=>rw [bp] at ah;obtain ⟨hk,a,e,_,c4,_⟩:=ah;rw [e] at a2;cases a2;exact (Array.getElem?_eq_some_iff.1 c4).1
 refine ⟨hle,fun b1 eF=>?_,fun b1 cf ef=>?_,fun b0 cG ca b' ae ak aI bh kH=>?_,fun i aG=>?_,⟨s.frame.os,s.frame.tape,s.frame.output,?_,fun j bS=>?_⟩,s.laid,fun b0 ca n cs st ae aI=>by
  by_cases cl:b0=b
  · subst cl;rw [fW] at aI;cases aI;rfl
  · rw [hold b0 cl] at aI;exact s.base _ _ _ _ _ ae aI⟩
 · by_cases a2:b1=b
   · subst a2;rw [an];exact k_
   · simp only [Fr.free,if_neg a2] at eF
     have al:=(s.bb b1 eF).mono hle
     by_cases cc:h.get b1=.dead
     · rw [cc];trivial
     · refine jM.hi al fun q pW=>?_
       rw [hold b1 a2] at pW
       have:=pO b1 q pW cc
       simp only [Array.getElem?_push]
       rw [if_neg (by omega)]
 · simp only [Fr.free] at ef
   by_cases a2:b1=b
   · rw [if_pos a2] at ef;cases ef
   · rw [if_neg a2] at ef
     obtain ⟨aQ,aB,a'⟩:=s.qU b1 cf ef
     exact ⟨aQ,by rw [hold b1 a2];exact aB,a'⟩
 · by_cases cl:b0=b<;>by_cases dr:cG=b
   · exact cl.trans dr.symm
   · subst cl
     rw [fW] at aI;cases aI
     rw [hold cG dr] at bh
     have:=pO cG b' bh (fun e=>by rw [e] at ak;cases ak)
     simp only at kH
     omega
   · subst dr
     rw [fW] at bh;cases bh
     rw [hold b0 cl] at aI
     have:=pO b0 ca aI (fun e=>by rw [e] at ae;cases ae)
     simp only at kH
     omega
   · rw [hold b0 cl] at aI
     rw [hold cG dr] at bh
     exact s.inj b0 cG ca b' ae ak aI bh kH
 · rw [hold _ (fun e=>?_)]
   · exact s.fresh i aG
   · rw [vv] at e
     have:=og e
     omega
 · have:=s.frame.size
   simp only [Array.size_push,Fr.free]
   omega
 · have ae:=s.frame.size
   simp only [Fr.free,Array.getElem?_push]
   rw [if_neg (by simp only [Fr.free] at bS;omega)]
   exact s.frame.block j bS
end
end Go.Proofs.YtjbiefneffiogaaGreat.bA
namespace Go.Proofs.YtjbiefneffiogaaGreat.bA
variable [Lay]
open Go Go.RowKit
section
variable {P:Program}
def kR (es:List jN) (h1:dc) (i:Nat):dc:=
 match es[i]? with
 | some e=>e.r
 | none=>h1
theorem CM (e:jN) (es:List jN) (av:aj) (i:Nat):eW (e::es) av (i+1)=eW es av i:=by simp [eW]
theorem DJ (e:jN) (es:List jN) (h1:dc) (i:Nat):kR (e::es) h1 (i+1)=kR es h1 i:=by simp [kR]
theorem I0 {bc:Nat} {all:Array Oper} {call:gr}:∀{l:List Oper} {r h1:dc} {h av:aj} {es:List jN},(r5 P bc all l).run call r h=.ok es h1 av→
 es.length=l.length∧eW es av 0=h∧kR es h1 0=r∧∀j o,l[j]? =some o→∃e,es[j]? =some e∧(hI P bc all o).run call e.r e.h=.val e.v (eW es av (j+1))∧kR es h1 (j+1)=(mo o.dst).run e.r e.v
 | [],r,h1,h,av,es,he=>by
   simp only [r5,Bp.ok.injEq] at he
   obtain ⟨rfl,rfl,rfl⟩:=he
   exact ⟨rfl,rfl,rfl,fun j o bD=>by simp at bD⟩
 | o::os,r,h1,h,av,es,he=>by
   simp only [r5,Rn] at he
   cases ae:(hI P bc all o).run call r h with
   | fail=>rw [ae] at he;cases he
   | val v c4=>
     rw [ae] at he
     simp only at he
     cases ak:(r5 P bc all os).run call ((mo o.dst).run r v) c4 with
     | fail=>rw [ak] at he;cases he
     | ok ah0 aU aC=>
       rw [ak] at he
       simp only [Bp.ok.injEq] at he
       obtain ⟨rfl,rfl,rfl⟩:=he
       obtain ⟨aQ,aB,a',cn⟩:=I0 ak
       refine ⟨by simp [aQ],by simp [eW],by simp [kR],fun j dP bD=>?_⟩
       cases j with
       | zero=>
         simp only [List.getElem?_cons_zero,Option.some.injEq] at bD
         subst bD
         exact ⟨⟨r,h,v⟩,rfl,by rw [CM,aB];exact ae,by rw [DJ,a']⟩
       | succ j=>
         obtain ⟨e,ca,b',cE⟩:=cn j dP (by simpa using bD)
         exact ⟨e,by simpa using ca,by rw [CM];exact b',by rw [DJ];exact cE⟩
theorem W4 {bc:Nat} {d:Option Nat} (cc:kf bc d=true) {r:dc} {v:V} {t:Nat} (aJ:t≤top):T.get .bad (ao t) ((mo d).run r v)=if d=some t then v else T.get .bad (ao t) r:=by
 cases d with
 | none=>simp [mo]
 | some d=>
   simp only [kf,Bool.and_eq_true,Nat.blt_eq,Nat.ble_eq] at cc
   simp only [mo,T.oT,Option.some.injEq]
   by_cases h:d=t
   · subst h;simp
   · rw [if_neg (fun e=>h (og e)),if_neg h]
theorem xq {bc:Nat} {all:Array Oper} {o:Oper} {call:gr} {r:dc} {h aa:aj} {v:V} (he:(hI P bc all o).run call r h=.val v aa):kf bc o.dst=true∧r2 (g5 all o)=true:=by
 unfold hI at he
 cases aD:(kf bc o.dst&&r2 (g5 all o)) with
 | false=>rw [aD] at he;simp [eA.none] at he
 | true=>simpa using aD
theorem Rx {r:dc} {rs:List Nat} (aM:r2 rs=true) {t:Nat} (aJ:t≤top):T.get .bad (ao t) (kT r rs)=if t ∈ rs then T.get .bad (ao t) r else .bad:=by
 induction rs with
 | nil=>simp [kT]
 | cons u rs bN=>
   simp only [r2,List.all_cons,Bool.and_eq_true,Nat.ble_eq] at aM
   simp only [kT,T.oT,List.mem_cons]
   by_cases h:u=t
   · subst h;simp
   · rw [if_neg (fun e=>h (og e)),bN aM.2]
     have aa:¬t=u:=fun e=>h e.symm
     simp [aa]
theorem Cf {aZ:Fr} {E:Env} {h aa:aj} {w:World} {call:gr} (e0:kE P) (kI:lq P call) (kj:lY P call) {all:Array Oper} {i:Nat} {o:Oper} (aG:all[i]? =some o) {bc:Nat} {r:dc} {a:Act} {v:V}
 (he:(hI P bc all o).run call r h=.val v aa) (vO:a.tmps.size=bc) (zO:a.defers=[]) (G_:∀t ∈ g5 all o,Rel E (T.get .bad (ao t) r) (a.tmps.getD t undef)) (s:ck aZ E h w)
 {K:Act→World→Prop} {Q:Exit→Act→World→Prop} (dh:∀ba x aW,E.le ba→Rel ba v x→ck aZ ba aa aW→K (a.put o.dst x) aW):wpOp P all Q i K a w:=by
 obtain ⟨cc,aM⟩:=xq he
 have k:hH E bc (kT r (g5 all o)) a:=⟨vO,zO,fun t aJ=>by
  rw [Rx aM aJ]
  by_cases hm:t ∈ g5 all o
  · rw [if_pos hm];exact G_ t hm
  · rw [if_neg hm];simp [Rel]⟩
 unfold hI at he
 rw [show (kf bc o.dst&&r2 (g5 all o))=true from by rw [cc,aM];rfl] at he
 simp only [cond_true] at he
 have wanted:(ja P o).run call (kT r (g5 all o)) h=.val v aa→Region.wanted o (yielded all a.tmps)=true→wpOp P all Q i K a w:=by
  intro ae hw
  simp only [wpOp,aG,hw,if_true]
  left
  exact M6 e0 kI kj ae k s dh
 have Bb:bH.val (.tuple []) h=bH.val v aa→Region.wanted o (yielded all a.tmps)=false→wpOp P all Q i K a w:=by
  intro ae hw
  simp only [bH.val.injEq] at ae
  obtain ⟨rfl,rfl⟩:=ae
  simp only [wpOp,aG,hw,Bool.false_eq_true,if_false]
  exact dh E undef w (Env.le.refl E) (by simp only [Rel];exact ⟨#[],rfl,rfl⟩) s
 cases bp:o.guard with
 | none=>
   rw [bp] at he
   exact wanted he (by simp [Region.wanted,bp])
 | some s4=>
   obtain ⟨j,want⟩:=s4
   rw [bp] at he
   simp only at he
   cases bS:all[j]? with
   | none=>rw [bS] at he;simp [eA.none] at he
   | some g=>
     rw [bS] at he
     simp only at he
     cases j8:g.dst with
     | none=>rw [j8] at he;simp [eA.none] at he
     | some d=>
       rw [j8] at he
       simp only at he
       cases aD:(Nat.blt d bc&&Nat.ble d top) with
       | false=>rw [aD] at he;simp [eA.none] at he
       | true=>
         rw [aD] at he
         simp only [cond_true,nU,pJ] at he
         simp only [Bool.and_eq_true,Nat.blt_eq,Nat.ble_eq] at aD
         obtain ⟨bF,bz⟩:=Gb k bS j8 aD.1 aD.2
         cases bk:T.get .bad (ao d) (kT r (g5 all o))<;>rw [bk] at he<;>simp only at he<;>try (cases he;done)
         · rename_i b
           have bK:=bF b bk
           cases ah:(bif want then b else !b) with
           | true=>
             rw [ah] at he
             simp only [cond_true] at he
             refine wanted he ?_
             simp only [Region.wanted,bp,bK]
             cases want<;>cases b<;>simp_all
           | false=>
             rw [ah] at he
             simp only [cond_false] at he
             refine Bb he ?_
             simp only [Region.wanted,bp,bK]
             cases want<;>cases b<;>simp_all
         · rename_i ai
           have bK:=bz ai bk
           refine Bb he ?_
           simp only [Region.wanted,bp,bK]
           rfl
theorem zt {bc:Nat} {all:Array Oper} {o:Oper} {call:gr} {r:dc} {h aa:aj} {v:V} (a2:jg P o.op=false) (he:(hI P bc all o).run call r h=.val v aa):
 aa=h∧(looks o.op=false→∀H,(hI P bc all o).run call r H=.val v H):=by
 obtain ⟨cc,aM⟩:=xq he
 have bZ:(kf bc o.dst&&r2 (g5 all o))=true:=by rw [cc,aM];rfl
 have key:hI P bc all o=(match o.guard with
  | none=>⟨nU none (ja P o) (g5 all o)⟩
  | some (j,want)=>match all[j]? with
    | some g=>match g.dst with
      | some d=>bif Nat.blt d bc&&Nat.ble d top then ⟨nU (some (pJ (ao d),want)) (ja P o) (g5 all o)⟩ else eA.none
      | none=>eA.none
    | none=>eA.none):=by
  unfold hI;rw [bZ];rfl
 rw [key] at he ⊢
 cases bp:o.guard with
 | none=>
   rw [bp] at he
   exact ⟨M5 a2 he,fun aK H=>M4 a2 aK he H⟩
 | some s4=>
   obtain ⟨j,want⟩:=s4
   rw [bp] at he
   simp only at he ⊢
   cases bS:all[j]? with
   | none=>rw [bS] at he;simp [eA.none] at he
   | some g=>
     rw [bS] at he
     simp only at he ⊢
     cases j8:g.dst with
     | none=>rw [j8] at he;simp [eA.none] at he
     | some d=>
       rw [j8] at he
       simp only at he ⊢
       cases aD:(Nat.blt d bc&&Nat.ble d top) with
       | false=>rw [aD] at he;simp [eA.none] at he
       | true=>
         rw [aD] at he
         simp only [cond_true,nU] at he ⊢
         cases bk:(pJ (ao d)).run (kT r (g5 all o))<;>rw [bk] at he<;>simp only at he ⊢<;>try (cases he;done)
         · rename_i b
           cases ah:(bif want then b else !b)<;>rw [ah] at he<;>simp only [cond_true,cond_false] at he ⊢
           · simp only [bH.val.injEq] at he ⊢
             exact ⟨he.2.symm,fun _ H=>⟨he.1,trivial⟩⟩
           · exact ⟨M5 a2 he,fun aK H=>M4 a2 aK he H⟩
         · simp only [bH.val.injEq] at he ⊢
           exact ⟨he.2.symm,fun _ H=>⟨he.1,trivial⟩⟩
theorem JY {op:eA} {call:gr} {es:List jN} {av:aj} {r:dc} {v:V}:∀{gY:List Nat},BZ op call es av r v gY=true→∀s ∈ gY,∃aa,op.run call r (eW es av s)=.val v aa
 | [],_,s,h=>by simp at h
 | ir::gY,he,s,hm=>by
   simp only [BZ,Bool.and_eq_true] at he
   simp only [List.mem_cons] at hm
   rcases hm with rfl | hm
   · have ae:=he.1
     cases bd:op.run call r (eW es av s) with
     | fail=>rw [bd] at ae;cases ae
     | val dg aa=>
       rw [bd] at ae
       rw [Wr ae]
       exact ⟨aa,rfl⟩
   · exact JY he.2 s hm
theorem J1 {bc:Nat} {all:Array Oper} {e2 bo gW:List Nat} {call:gr} {es:List jN} {av:aj}:∀{l:List Oper} {i:Nat},(xl P bc all e2 bo gW i l).run call es av=true→
 ∀j o,l[j]? =some o→looks o.op=true→jg P o.op=false→∃e,es[posOf bo (i+j)]? =some e∧∀s ∈ gW,wq P e2 all.toList bo (i+j) ((e2[i+j]?).getD 0) s=true→∃aa,(hI P bc all o).run call e.r (eW es av s)=.val e.v aa
 | [],_,_,j,o,bD,_,_=>by simp at bD
 | dP::os,i,he,j,o,bD,aK,a2=>by
   simp only [xl] at he
   cases j with
   | zero=>
     simp only [List.getElem?_cons_zero,Option.some.injEq] at bD
     subst bD
     rw [aK,a2] at he
     simp only [Bool.not_false,Bool.and_true,cond_true,Bool.and_eq_true,JZ] at he
     have ae:=he.1
     cases sN:es[posOf bo i]? with
     | none=>rw [sN] at ae;cases ae
     | some e=>
       rw [sN] at ae
       refine ⟨e,rfl,fun s aM hm=>?_⟩
       exact JY ae s (List.mem_filter.2 ⟨aM,by simpa using hm⟩)
   | succ j=>
     have rest:(xl P bc all e2 bo gW (i+1) os).run call es av=true:=by
      cases aD:(looks dP.op&&!jg P dP.op) with
      | false=>rw [aD] at he;exact he
      | true=>rw [aD] at he;simp only [cond_true,Bool.and_eq_true] at he;exact he.2
     have:=J1 rest j o (by simpa using bD) aK a2
     rw [show i + (j+1)=i+1+j from by omega]
     exact this
theorem HS {bo:List Nat}:∀{l:List Oper} {i j:Nat} {o:Oper},l[j]? =some o→h9 P o=true→posOf bo (i+j) ∈ mm P bo i l
 | [],_,j,o,h,_=>by simp at h
 | dP::os,i,j,o,h,he=>by
   simp only [mm]
   cases j with
   | zero=>
     simp only [List.getElem?_cons_zero,Option.some.injEq] at h
     subst h
     rw [he]
     simp
   | succ j=>
     have:=HS (bo:=bo) (i:=i+1) (by simpa using h) he
     rw [show i + (j+1)=i+1+j from by omega]
     cases h9 P dP with
     | true=>simp [this]
     | false=>exact this
theorem HR {bo:List Nat}:∀{l:List Oper} {i:Nat},i+l.length ∈ mm P bo i l
 | [],_=>by simp [mm]
 | o::os,i=>by
   have:=HR (bo:=bo) (l:=os) (i:=i+1)
   simp only [mm,List.length_cons]
   rw [show i + (os.length+1)=i+1+os.length from by omega]
   cases h9 P o with
   | true=>simp [this]
   | false=>exact this
theorem Ap {bo:List Nat}:∀{l:List Oper} {i s:Nat},s ∈ mm P bo i l→s=i+l.length∨∃j o,l[j]? =some o∧h9 P o=true∧s=posOf bo (i+j)
 | [],i,s,h=>by simp only [mm,List.mem_singleton] at h;exact .inl (by simpa using h)
 | o::os,i,s,h=>by
   simp only [mm] at h
   have rest:s ∈ mm P bo (i+1) os→s=i + (o::os).length∨∃j dP,(o::os)[j]? =some dP∧h9 P dP=true∧s=posOf bo (i+j):=by
    intro h
    rcases Ap h with h | ⟨j,dP,ae,ak,aC⟩
    · exact .inl (by simp only [List.length_cons];omega)
    · exact .inr ⟨j+1,dP,by simpa using ae,ak,by rw [aC];congr 1;omega⟩
   cases aD:h9 P o with
   | true=>
     rw [aD] at h
     simp only [cond_true,List.mem_cons] at h
     rcases h with h | h
     · exact .inr ⟨0,o,rfl,aD,h⟩
     · exact rest h
   | false=>rw [aD] at h;exact rest h
theorem V8 {o:Oper} {call:gr} {r:dc} {h aa:aj} {v:V} (bU:ks o=true) (he:(ja P o).run call r h=.val v aa):∃k,aa=h.new k∧True:=by
 have cells:∀{ai:List V} {ae:aj},hO h ai=some ae→∃k,ae=h.new k∧True:=by
  intro ai ae he
  unfold hO at he
  obtain ⟨aD,he⟩:=g0 he
  cases he
  exact ⟨_,rfl,trivial⟩
 obtain ⟨dst,op,type,pos,after,guard⟩:=o
 cases op<;>simp only [ks] at bU<;>try (cases bU;done)
 all_goals simp only [ja] at he
 case alloc t=>
  cases aJ:bJ P t with
  | none=>rw [aJ] at he;simp [eA.none] at he
  | some a_=>
    rw [aJ] at he
    simp only at he
    cases bI:a_.zero with
    | none=>rw [bI] at he;simp [eA.none] at he
    | some z=>
      rw [bI] at he
      simp only at he
      cases a7:hO h z.cells with
      | none=>rw [a7] at he;cases he
      | some ae=>
        rw [a7] at he
        simp only [kP,bH.val.injEq] at he;obtain ⟨_,rfl⟩:=he
        exact cells a7
 case box t x=>
  obtain ⟨bp,he⟩:=qn he
  cases a7:hO h ((en x).run r).cells with
  | none=>rw [a7] at he;cases he
  | some ae=>
    rw [a7] at he
    simp only [kP,bH.val.injEq] at he;obtain ⟨_,rfl⟩:=he
    exact cells a7
 case buildSlice t n ct=>
  unfold vh at he
  cases aJ:bJ P t with
  | none=>rw [aJ] at he;cases he
  | some a_=>
    rw [aJ] at he
    simp only at he
    cases cR:a_.b5<;>rw [cR] at he<;>simp only at he<;>try (cases he;done)
    rename_i e
    cases dy:bJ P e with
    | none=>rw [dy] at he;cases he
    | some bO=>
      rw [dy] at he
      simp only at he
      cases bI:bO.zero with
      | none=>rw [bI] at he;cases he
      | some z=>
        rw [bI] at he
        simp only at he
        cases aD:(Nat.ble (n * bO.size) 1000000&&Nat.beq z.cells.length bO.size) with
        | false=>rw [aD] at he;cases he
        | true=>
          rw [aD] at he
          simp only [cond_true] at he
          cases av:nX (fun i=>some (i * bO.size,bO.size)) (hP z.cells n) ((uM ct.toList).run r) with
          | none=>rw [av] at he;cases he
          | some cs=>
            rw [av] at he
            simp only at he
            cases a7:hO h cs with
            | none=>rw [a7] at he;cases he
            | some ae=>
              rw [a7] at he
              simp only [bH.val.injEq] at he
              obtain ⟨_,rfl⟩:=he
              exact cells a7
 case makeMap t x=>
  cases x with
  | some _=>cases bU
  | none=>
    simp only [rZ,x8] at he
    cases aJ:bJ P t with
    | none=>rw [aJ] at he;cases he
    | some a_=>
      rw [aJ] at he
      simp only at he
      cases ah:Nat.beq (hy a_.b5) 3 with
      | false=>rw [ah] at he;cases he
      | true=>
        rw [ah] at he
        simp only [cond_true,qQ,yc] at he
        simp only [bH.val.injEq] at he
        exact ⟨_,he.2.symm,trivial⟩
theorem ZU {o:Oper} (bU:ks o=true):jg P o.op=true:=by
 obtain ⟨dst,op,type,pos,after,guard⟩:=o
 cases op<;>simp only [ks] at bU<;>first | (cases bU;done) | rfl
theorem Nc {bc:Nat} {all:Array Oper} {o:Oper} {call:gr} {r:dc} {h aa:aj} {v:V} (he:(hI P bc all o).run call r h=.val v aa):
 ((ja P o).run call (kT r (g5 all o)) h=.val v aa∧∀E a,hH E bc (kT r (g5 all o)) a→Region.wanted o (yielded all a.tmps)=true)∨
 (aa=h∧∀H,(hI P bc all o).run call r H=.val v H):=by
 obtain ⟨cc,aM⟩:=xq he
 have bZ:(kf bc o.dst&&r2 (g5 all o))=true:=by rw [cc,aM];rfl
 have key:hI P bc all o=(match o.guard with
  | none=>⟨nU none (ja P o) (g5 all o)⟩
  | some (j,want)=>match all[j]? with
    | some g=>match g.dst with
      | some d=>bif Nat.blt d bc&&Nat.ble d top then ⟨nU (some (pJ (ao d),want)) (ja P o) (g5 all o)⟩ else eA.none
      | none=>eA.none
    | none=>eA.none):=by
  unfold hI;rw [bZ];rfl
 rw [key] at he ⊢
 cases bp:o.guard with
 | none=>
   rw [bp] at he
   exact .inl ⟨he,fun E a _=>by simp [Region.wanted,bp]⟩
 | some s4=>
   obtain ⟨j,want⟩:=s4
   rw [bp] at he
   simp only at he ⊢
   cases bS:all[j]? with
   | none=>rw [bS] at he;simp [eA.none] at he
   | some g=>
     rw [bS] at he
     simp only at he ⊢
     cases j8:g.dst with
     | none=>rw [j8] at he;simp [eA.none] at he
     | some d=>
       rw [j8] at he
       simp only at he ⊢
       cases aD:(Nat.blt d bc&&Nat.ble d top) with
       | false=>rw [aD] at he;simp [eA.none] at he
       | true=>
         rw [aD] at he
         simp only [cond_true,nU] at he ⊢
         have nw:=aD
         simp only [Bool.and_eq_true,Nat.blt_eq,Nat.ble_eq] at nw
         cases bk:(pJ (ao d)).run (kT r (g5 all o))<;>rw [bk] at he<;>simp only at he ⊢<;>try (cases he;done)
         · rename_i b
           cases ah:(bif want then b else !b)<;>rw [ah] at he<;>simp only [cond_true,cond_false] at he ⊢
           · simp only [bH.val.injEq] at he ⊢
             exact .inr ⟨he.2.symm,fun H=>⟨he.1,trivial⟩⟩
           · refine .inl ⟨he,fun E a k=>?_⟩
             obtain ⟨bF,_⟩:=Gb k bS j8 nw.1 nw.2
             have bK:=bF b bk
             simp only [Region.wanted,bp,bK]
             cases want<;>cases b<;>simp_all
         · simp only [bH.val.injEq] at he ⊢
           exact .inr ⟨he.2.symm,fun H=>⟨he.1,trivial⟩⟩
theorem Nb {bc:Nat} {all:Array Oper} {o:Oper} {call:gr} {r:dc} {h aa:aj} {v:V} (bU:ks o=true) (he:(hI P bc all o).run call r h=.val v aa):
 (∃k,aa=h.new k∧True)∨(aa=h∧∀H,(hI P bc all o).run call r H=.val v H):=by
 rcases Nc he with ⟨ae,_⟩ | ae
 · exact .inl (V8 bU ae)
 · exact .inr ae
theorem Wh {F:Fr} {E:Env} {h aa H:aj} {w:World} {call:gr} {all:Array Oper} {i:Nat} {o:Oper} (aG:all[i]? =some o) (bU:ks o=true) {bc:Nat} {r:dc} {a:Act} {v:V}
 (he:(hI P bc all o).run call r h=.val v aa) (vO:a.tmps.size=bc) (zO:a.defers=[]) (G_:∀t ∈ g5 all o,Rel E (T.get .bad (ao t) r) (a.tmps.getD t undef)) (s:ck F E H w)
 (GS:aa.next≠h.next) (aT:F.lP (ao h.next)=some (aa.get (ao h.next)))
 {K:Act→World→Prop} {Q:Exit→Act→World→Prop} (dh:∀ba x aW,E.le ba→Rel ba v x→ck (F.free (ao h.next)) ba H aW→K (a.put o.dst x) aW):wpOp P all Q i K a w:=by
 obtain ⟨cc,aM⟩:=xq he
 have k:hH E bc (kT r (g5 all o)) a:=⟨vO,zO,fun t aJ=>by
  rw [Rx aM aJ]
  by_cases hm:t ∈ g5 all o
  · rw [if_pos hm];exact G_ t hm
  · rw [if_neg hm];simp [Rel]⟩
 obtain ⟨mc,hw⟩:(ja P o).run call (kT r (g5 all o)) h=.val v aa∧Region.wanted o (yielded all a.tmps)=true:=by
  rcases Nc he with ⟨ae,ak⟩ | ⟨ae,_⟩
  · exact ⟨ae,ak E a k⟩
  · exact absurd (by rw [ae]) GS
 obtain ⟨m,az,fv,aQ,aB,a'⟩:=V7 bU mc k
 simp only [wpOp,aG,hw,if_true]
 left
 obtain ⟨X,j',ca,b'⟩:=a' w
 rw [aQ,aj.eB,if_pos rfl] at aT
 have fW:E.put (ao h.next) ⟨w.heap.size,0,0⟩ (ao h.next)=some ⟨w.heap.size,0,0⟩:=by unfold Env.put;rw [if_pos rfl]
 have hle:E.le (E.put (ao h.next) ⟨w.heap.size,0,0⟩):=Env.s7 (s.qU _ _ aT).2.1
 obtain ⟨aU,bm⟩:=b' _ hle fW
 have gd:F.w.heap.size≤w.heap.size:=s.frame.size
 obtain ⟨_,g8⟩:=s.link aT (o:=j') (bm _ gd)
 unfold Oper.wp
 rw [az,Sem.run_bind,ca]
 exact dh _ X _ hle aU g8
end
end Go.Proofs.YtjbiefneffiogaaGreat.bA
namespace Go.Proofs.YtjbiefneffiogaaGreat.bA
variable [Lay]
open Go Go.RowKit
theorem M9 {α:Type} (p q:α→Bool):∀(l:List α),(∀x ∈ l,q x=true→p x=true)→(∃x ∈ l,p x=true∧q x=false)→l.countP q<l.countP p
 | [],_,h=>by obtain ⟨x,az,_⟩:=h;simp at az
 | a::l,ae,ak=>by
   have hle:l.countP q≤l.countP p:=List.countP_mono_left fun x az=>ae x (by simp [az])
   obtain ⟨x,az,aT,a2⟩:=ak
   simp only [List.mem_cons] at az
   rcases az with rfl | az
   · rw [List.countP_cons,List.countP_cons,aT,a2]
     simp
     omega
   · have bN:=M9 p q l (fun y bK=>ae y (by simp [bK])) ⟨x,az,aT,a2⟩
     have bU:=ae a (by simp)
     rw [List.countP_cons,List.countP_cons]
     cases YN:q a with
     | true=>rw [bU YN];simp;omega
     | false=>simp;omega
theorem Kb (e:Edge):Region.binds .any e=vf e:=by
 unfold Region.binds vf
 cases e.ground<;>rfl
section
variable {P:Program}
theorem AS {order:List Nat}:∀{ct:List Nat} {k j p:Nat},AR order k ct=true→ct[j]? =some p→order[p]? =some (k+j)
 | [],_,j,p,_,h=>by simp at h
 | q::ct,k,j,p,aT,h=>by
   simp only [AR,Bool.and_eq_true] at aT
   cases j with
   | zero=>
     simp only [List.getElem?_cons_zero,Option.some.injEq] at h
     subst h
     have ae:=aT.1
     cases a2:order[q]? with
     | none=>rw [a2] at ae;cases ae
     | some i=>rw [a2] at ae;rw [Nat.beq_eq] at ae;rw [ae];rfl
   | succ j=>
     have:=AS aT.2 (show ct[j]? =some p by simpa using h)
     rw [this]
     congr 1
     omega
theorem yj {ops:Array Oper}:∀{order:List Nat} {p i:Nat} {o:Oper},order[p]? =some i→ops[i]? =some o→(p4 ops order)[p]? =some o
 | [],p,i,o,h,_=>by simp at h
 | x::xs,p,i,o,h,bD=>by
   cases p with
   | zero=>
     simp only [List.getElem?_cons_zero,Option.some.injEq] at h
     subst h
     simp [p4,bD]
   | succ p=>simpa [p4] using yj (show xs[p]? =some i by simpa using h) bD
theorem Ij {ops:Array Oper}:∀{order:List Nat},(p4 ops order).length=order.length
 | []=>rfl
 | x::xs=>by simp [p4,Ij (order:=xs)]
structure Cert (P:Program) (bc:Nat) (ops:Array Oper) (calls:Nat→gr) (es:List jN) (bl:dc) (al:aj) (h1:dc) (av:aj) (gW:List Nat) (order bo:List Nat):Prop where
 len:es.length=ops.size
 nE:∀k,k<ops.size→posOf bo k<ops.size∧order[posOf bo k]? =some k
 uK:∀p,p<ops.size→∃i,i<ops.size∧posOf bo i=p
 al:eW es av 0=al
 bl:kR es h1 0=bl
 step:∀i o,ops[i]? =some o→∃e,es[posOf bo i]? =some e∧(hI P bc ops o).run (calls i) e.r e.h=.val e.v (eW es av (posOf bo i+1))∧kR es h1 (posOf bo i+1)=(mo o.dst).run e.r e.v
 WJ:xr P ops bo=true
 ends:ops.size ∈ gW
 mem:∀j o,ops[j]? =some o→h9 P o=true→posOf bo j ∈ gW
 Rp:∀s ∈ gW,s=ops.size∨∃k o,ops[k]? =some o∧h9 P o=true∧s=posOf bo k
 ask:∀j o,ops[j]? =some o→looks o.op=true→jg P o.op=false→∃e,es[posOf bo j]? =some e∧∀s ∈ gW,
  wq P (lI [] ops.toList) ops.toList bo j (((lI [] ops.toList)[j]?).getD 0) s=true→∃c aa,(lq P c∧lY P c)∧(hI P bc ops o).run c e.r (eW es av s)=.val e.v aa
variable {bc:Nat} {ops:Array Oper} {call:gr} {calls:Nat→gr} {es:List jN} {bl:dc} {al:aj} {h1:dc} {av:aj} {gW:List Nat} {order bo:List Nat}
theorem Cert.AV (C:Cert P bc ops calls es bl al h1 av gW order bo) {k cf:Nat} (ae:k<ops.size) (ak:cf<ops.size) (he:posOf bo k=posOf bo cf):k=cf:=by
 have a:=(C.nE k ae).2
 have b:=(C.nE cf ak).2
 rw [he,b] at a
 cases a
 rfl
theorem Cert.Ct (C:Cert P bc ops calls es bl al h1 av gW order bo) {i:Nat} {o:Oper} (aG:ops[i]? =some o):∃lK,(lI [] ops.toList)[i]? =some lK∧PX i o=true∧
 ∀k ok,ops[k]? =some ok→∃mk,(lI [] ops.toList)[k]? =some mk∧AQ i lK (g5 ops o) o.dst k mk ok (Nat.blt (posOf bo k) (posOf bo i))=true∧(jg P o.op=true→h9 P ok=true→posOf bo k<posOf bo i→l8 lK k=true):=by
 have av:=C.WJ
 unfold xr at av
 obtain ⟨lK,ae,ak⟩:=Jk av i o (by simpa using aG)
 simp only [Nat.zero_add,Bool.and_eq_true] at ak
 refine ⟨lK,ae,ak.1,fun k ok an=>?_⟩
 obtain ⟨mk,bQ,cB⟩:=Jk ak.2 k ok (by simpa using an)
 simp only [Nat.zero_add,Bool.and_eq_true] at cB
 refine ⟨mk,bQ,cB.1,fun aI bh aX=>?_⟩
 have fX:=cB.2
 rw [aI,bh,Bool.true_and,show Nat.blt (posOf bo k) (posOf bo i)=true from by rw [Nat.blt_eq];exact aX] at fX
 exact fX
theorem Cert.Iz (C:Cert P bc ops calls es bl al h1 av gW order bo):∀p,p≤ops.size→∀t,t≤top→
 (∃k o e,posOf bo k<p∧ops[k]? =some o∧o.dst=some t∧es[posOf bo k]? =some e∧T.get .bad (ao t) (kR es h1 p)=e.v)∨
 ((∀k o,posOf bo k<p→ops[k]? =some o→o.dst≠some t)∧T.get .bad (ao t) (kR es h1 p)=T.get .bad (ao t) bl)
 | 0,_,t,aJ=>.inr ⟨fun k o h=>by omega,by rw [C.bl]⟩
 | p+1,aG,t,aJ=>by
   obtain ⟨i,aX,qE⟩:=C.uK p (by omega)
   have fC:ops[i]? =some ops[i]:=Array.getElem?_eq_getElem aX
   obtain ⟨e,ae,ak,aC⟩:=C.step i ops[i] fC
   rw [qE] at ae ak aC
   have YR:kR es h1 p=e.r:=by simp [kR,ae]
   have fW:=W4 (r:=e.r) (v:=e.v) (xq ak).1 aJ
   rw [aC,fW]
   by_cases cc:ops[i].dst=some t
   · rw [if_pos cc]
     exact .inl ⟨i,_,e,by omega,fC,cc,by rw [qE];exact ae,rfl⟩
   · rw [if_neg cc,←YR]
     rcases Cert.Iz C p (by omega) t aJ with ⟨k,o,fT,aQ,aB,a',cn,ea⟩ | ⟨aQ,aB⟩
     · exact .inl ⟨k,o,fT,by omega,aB,a',cn,ea⟩
     · refine .inr ⟨fun k o an bD=>?_,aB⟩
       by_cases k8:k=i
       · subst k8;rw [fC] at bD;cases bD;exact cc
       · refine aQ k o ?_ bD
         have sR:=(Array.getElem?_eq_some_iff.1 bD).1
         have:posOf bo k≠p:=fun e=>k8 (C.AV sR aX (by rw [e,qE]))
         omega
def nameAt (es:List jN) (av:aj) (bo:List Nat) (k:Nat):a6:=ao (eW es av (posOf bo k)).next
noncomputable def zg (es:List jN) (av:aj) (bo:List Nat) (k:Nat):cT:=(eW es av (posOf bo k+1)).get (nameAt es av bo k)
def Made (es:List jN) (av:aj) (bo:List Nat) (k:Nat):Prop:=(eW es av (posOf bo k+1)).next≠(eW es av (posOf bo k)).next
def lv (ops:Array Oper) (es:List jN) (av:aj) (bo:List Nat) (dO:Array Bool) (s k:Nat):Prop:=
 ∃o,ops[k]? =some o∧(ks o=true∧Made es av bo k)∧¬dO.getD k false=true∧posOf bo k<s
structure Holds (aZ F:Fr) (es:List jN) (av:aj) (bo:List Nat) (D:Nat→Prop):Prop where
 w:F.w=aZ.w
 b6:∀b,(∀k,D k→nameAt es av bo k≠b)→F.lP b=aZ.lP b
 new:∀k,D k→F.lP (nameAt es av bo k)=some (zg es av bo k)∧aZ.lP (nameAt es av bo k)=none
 inj:∀k cf,D k→D cf→nameAt es av bo k=nameAt es av bo cf→k=cf
theorem Holds.congr {aZ F:Fr} {D Jo:Nat→Prop} (H:Holds aZ F es av bo D) (h:∀k,Jo k↔D k):Holds aZ F es av bo Jo:=
 ⟨H.w,fun b ah=>H.b6 b fun k an=>ah k ((h k).2 an),fun k an=>H.new k ((h k).1 an),fun k cf an ef=>H.inj k cf ((h k).1 an) ((h cf).1 ef)⟩
theorem Holds.none {aZ F:Fr} {D:Nat→Prop} (H:Holds aZ F es av bo D) (h:∀k,¬D k):F=aZ:=by
 have:F.lP=aZ.lP:=funext fun b=>H.b6 b fun k an=>absurd an (h k)
 cases F;cases aZ
 have hw:=H.w
 simp only at this hw
 rw [this,hw]
theorem Cert.advance (C:Cert P bc ops calls es bl al h1 av gW order bo) {aZ:Fr} {dO:Array Bool} {E:Env} {w:World}:∀(d q:Nat),q+d=ops.size→(∀k o,ops[k]? =some o→ks o=true→q≤posOf bo k→¬dO.getD k false=true)→
 ∀F,Holds aZ F es av bo (lv ops es av bo dO q)→ck F E (eW es av q) w→
 ∃s iy,s ∈ gW∧q≤s∧s≤ops.size∧(∀k o,ops[k]? =some o→h9 P o=true→q≤posOf bo k→s≤posOf bo k)∧Holds aZ iy es av bo (lv ops es av bo dO s)∧ck iy E (eW es av s) w
 | 0,q,a2,_,F,H,S=>by
   have:q=ops.size:=by omega
   subst this
   exact ⟨ops.size,F,C.ends,Nat.le_refl _,Nat.le_refl _,fun k o _ _ h=>h,H,S⟩
 | d+1,q,a2,z',F,H,S=>by
   obtain ⟨i,aX,qE⟩:=C.uK q (by omega)
   have fC:ops[i]? =some ops[i]:=Array.getElem?_eq_getElem aX
   cases zN:h9 P ops[i] with
   | true=>exact ⟨q,F,by rw [←qE];exact C.mem i _ fC zN,Nat.le_refl _,by omega,fun k o _ _ h=>h,H,S⟩
   | false=>
     obtain ⟨e,ae,ak,aC⟩:=C.step i ops[i] fC
     rw [qE] at ae ak
     have uh:eW es av q=e.h:=by simp [eW,ae]
     have only:∀k o,ops[k]? =some o→posOf bo k=q→k=i:=fun k o an aT=>C.AV (Array.getElem?_eq_some_iff.1 an).1 aX (by rw [aT,qE])
     have fin:∀iy,Holds aZ iy es av bo (lv ops es av bo dO (q+1))→ck iy E (eW es av (q+1)) w→
      ∃s iy,s ∈ gW∧q≤s∧s≤ops.size∧(∀k o,ops[k]? =some o→h9 P o=true→q≤posOf bo k→s≤posOf bo k)∧Holds aZ iy es av bo (lv ops es av bo dO s)∧ck iy E (eW es av s) w:=by
      intro iy jx c1
      obtain ⟨s,ow,bF,bz,cL,gy,ik,oS⟩:=Cert.advance C d (q+1) (by omega) (fun k o ae ak aC=>z' k o ae ak (by omega)) iy jx c1
      refine ⟨s,ow,bF,by omega,cL,fun k o an aD aT=>gy k o an aD ?_,ik,oS⟩
      by_cases G6:posOf bo k=q
      · have:=only k o an G6
        subst this
        rw [fC] at an;cases an
        rw [zN] at aD;cases aD
      · omega
     have pass:eW es av (q+1)=e.h→(ks ops[i]=true→¬Made es av bo i)→∃s iy,s ∈ gW∧q≤s∧s≤ops.size∧(∀k o,ops[k]? =some o→h9 P o=true→q≤posOf bo k→s≤posOf bo k)∧Holds aZ iy es av bo (lv ops es av bo dO s)∧ck iy E (eW es av s) w:=by
      intro OH kL
      rw [←uh] at OH
      refine fin F (H.congr fun k=>⟨?_,?_⟩) (by rw [OH];exact S)
      · rintro ⟨o,aQ,aB,a',cn⟩
        refine ⟨o,aQ,aB,a',?_⟩
        have:posOf bo k≠q:=fun e=>by
         have:=only k o aQ e
         subst this
         rw [fC] at aQ;cases aQ
         exact kL aB.1 aB.2
        omega
      · rintro ⟨o,aQ,aB,a',cn⟩
        exact ⟨o,aQ,aB,a',by omega⟩
     cases bU:ks ops[i] with
     | true=>
      rcases Nb bU ak with ⟨fv,bQ,cB⟩ | ⟨bQ,_⟩
      ·
       have aM:=S.hold fv
       have a7:nameAt es av bo i=ao (eW es av q).next:=by unfold nameAt;rw [qE]
       have ah:zg es av bo i=fv:=by
        unfold zg
        rw [a7,qE,bQ,uh,aj.eB,if_pos rfl]
       rw [uh,←bQ] at aM
       have Oo:Made es av bo i:=by
        unfold Made
        rw [qE,bQ,uh]
        exact Nat.succ_ne_self _
       have GW:¬dO.getD i false=true:=z' i _ fC bU (by omega)
       have FE:∀k,lv ops es av bo dO (q+1) k→k=i∨lv ops es av bo dO q k:=by
        rintro k ⟨o,aQ,aB,a',cn⟩
        by_cases G6:posOf bo k=q
        · exact .inl (only k o aQ G6)
        · exact .inr ⟨o,aQ,aB,a',by omega⟩
       have fresh:∀b C_,F.lP b=some C_→b≠nameAt es av bo i:=by
        intro b C_ vw heq
        obtain ⟨_,_,j,bX,gT⟩:=S.qU b C_ vw
        rw [heq,a7] at gT
        rw [uh] at bX gT
        have:=og gT
        omega
       have OV:∀b,b≠nameAt es av bo i→(F.hold (ao e.h.next) fv).lP b=F.lP b:=by
        intro b N'
        rw [a7,uh] at N'
        simp only [Fr.hold,if_neg N']
       have S8:(F.hold (ao e.h.next) fv).lP (nameAt es av bo i)=some fv:=by
        rw [a7,uh]
        simp only [Fr.hold,if_true]
       have ne:∀k,lv ops es av bo dO q k→nameAt es av bo k≠nameAt es av bo i:=fun k an=>fresh _ _ (H.new k an).1
       refine fin (F.hold (ao e.h.next) fv) ⟨H.w,fun b vw=>?_,fun k an=>?_,fun k cf an ef he=>?_⟩ aM
       · have vv:b≠nameAt es av bo i:=fun e=>vw i ⟨_,fC,⟨bU,Oo⟩,GW,by omega⟩ e.symm
         rw [OV b vv]
         exact H.b6 b fun k an=>vw k (by obtain ⟨o,aQ,aB,a',cn⟩:=an;exact ⟨o,aQ,aB,a',by omega⟩)
       · rcases FE k an with rfl | an
         · refine ⟨by rw [S8,ah],?_⟩
           cases aT:aZ.lP (nameAt es av bo k) with
           | none=>rfl
           | some C_=>
             exfalso
             have:=H.b6 (nameAt es av bo k) fun cf ef=>ne cf ef
             rw [aT] at this
             exact fresh _ _ this rfl
         · rw [OV _ (ne k an)]
           exact H.new k an
       · rcases FE k an with rfl | an<;>rcases FE cf ef with rfl | ef
         · rfl
         · exact absurd he.symm (ne cf ef)
         · exact absurd he (ne k an)
         · exact H.inj k cf an ef he
      · refine pass bQ fun _ hm=>hm ?_
        rw [qE,bQ,uh]
     | false=>
       have g3:jg P ops[i].op=false:=by
        unfold h9 at zN
        rw [bU] at zN
        simpa using zN
       exact pass (zt g3 ak).1 fun h=>by rw [bU] at h;cases h
structure wV (P:Program) (aZ:Fr) (bc:Nat) (ops:Array Oper) (es:List jN) (bl:dc) (av:aj) (gW bo:List Nat) (kA:Env) (dO:Array Bool) (a:Act) (w:World):Prop where
 Dh:dO.size=ops.size
 size:a.tmps.size=bc
 defers:a.defers=[]
 down:El ops fun k=>dO.getD k false=true
 main:∃E s F,kA.le E∧s ∈ gW∧s≤ops.size∧(∀k o,ops[k]? =some o→h9 P o=true→(dO.getD k false=true↔posOf bo k<s))∧
  (∀k o,ops[k]? =some o→ks o=true→dO.getD k false=true→posOf bo k<s)∧Holds aZ F es av bo (lv ops es av bo dO s)∧ck F E (eW es av s) w∧
  ∀t,t≤top→(∃k o e,dO.getD k false=true∧ops[k]? =some o∧o.dst=some t∧es[posOf bo k]? =some e∧Rel E e.v (a.tmps.getD t undef))∨
   ((∀k o,dO.getD k false=true→ops[k]? =some o→o.dst≠some t)∧Rel E (T.get .bad (ao t) bl) (a.tmps.getD t undef))
theorem xD {l:Array Bool} {i:Nat}:l.getD i false=true↔l[i]? =some true:=by
 rw [Array.getD_eq_getD_getElem?]
 cases l[i]? with
 | none=>simp
 | some b=>cases b<;>simp
theorem nY {l:Array Bool} {i k:Nat} (aG:i<l.size):(l.setIfInBounds i true).getD k false=true↔(k=i∨l.getD k false=true):=by
 rw [xD,xD,Array.getElem?_setIfInBounds]
 by_cases h:i=k
 · subst h;simp [aG]
 · have:¬k=i:=fun e=>h e.symm
   simp [h,this]
theorem Wj {aZ:Fr} (e0:kE P) (kI:∀i,lq P (calls i)) (kj:∀i,lY P (calls i)) (C:Cert P bc ops calls es bl al h1 av gW order bo) {kA:Env} {dO:Array Bool} {a:Act} {w:World} (I:wV P aZ bc ops es bl av gW bo kA dO a w)
 {i:Nat} (aG:i ∈ Region.ready .any ops dO) {Q:Exit→Act→World→Prop} {K:Act→World→Prop} (dh:∀cI aW,wV P aZ bc ops es bl av gW bo kA (dO.setIfInBounds i true) cI aW→K cI aW):wpOp P ops Q i K a w:=by
 rw [mem_ready] at aG
 obtain ⟨E,s,F,zG,aM,ur,n1,js,mX,vN,xU⟩:=I.main
 obtain ⟨z',o,fC,XX⟩:=aG
 have oY:i<ops.size:=(Array.getElem?_eq_some_iff.1 fC).1
 have rF:¬dO.getD i false=true:=by
  rw [xD]
  intro h
  rw [Array.getD_eq_getD_getElem?,h] at z'
  simp at z'
 have On:=HX I.down ops.toList [] (fun j=>by simp) (fun k m j an=>by simp at an)
 have N0:El ops fun k=>dO.getD k false=true∨k=i:=by
  intro k ok e an cb he ah
  rcases an with an | rfl
  · exact .inl (I.down k ok e an cb he ah)
  · rw [fC] at cb;cases cb
    exact .inl (XX e (Array.mem_toList_iff.1 he) (by rw [Kb];exact ah))
 have Yu:=HX N0 ops.toList [] (fun j=>by simp) (fun k m j an=>by simp at an)
 obtain ⟨lK,Oq,nA,Oz⟩:=C.Ct fC
 have Gs:∀k,k≠i→l8 lK k=true→dO.getD k false=true:=by
  intro k an ah
  rcases Yu i lK k Oq ah (.inr rfl) with h | h
  · exact h
  · exact absurd h an
 obtain ⟨e,sN,eS,ais⟩:=C.step i o fC
 have qF:=(C.nE i oY).1
 have xO:=xq eS
 have gX:kR es h1 (posOf bo i)=e.r:=by simp [kR,sN]
 have j9:eW es av (posOf bo i)=e.h:=by simp [eW,sN]
 have uniq:∀(k cf:Nat) (ok lO:Oper) (t:Nat),ops[k]? =some ok→ops[cf]? =some lO→ok.dst=some t→lO.dst=some t→k=cf:=by
  intro k cf ok lO t ae ak aC bq
  obtain ⟨mk,_,_,aT⟩:=C.Ct ae
  obtain ⟨mk',_,kq,_⟩:=aT cf lO ak
  unfold AQ at kq
  rw [pE] at kq
  by_cases gG:k=cf
  · exact gG
  · rw [if_neg gG,bq,aC] at kq
    simp at kq
 have reads:∀t ∈ g5 ops o,Rel E (T.get .bad (ao t) e.r) (a.tmps.getD t undef):=by
  intro t aJ
  have CY:t≤top:=by
   have:=List.all_eq_true.1 xO.2 t aJ
   exact Nat.le_of_ble_eq_true this
  have P4:∀(k:Nat) (ok:Oper),k≠i→ops[k]? =some ok→ok.dst=some t→∃mk,(lI [] ops.toList)[k]? =some mk∧(posOf bo k<posOf bo i→l8 lK k=true)∧(¬posOf bo k<posOf bo i→l8 mk i=true):=by
   intro k ok an cb cc
   obtain ⟨mk,aQ,aB,_⟩:=Oz k ok cb
   refine ⟨mk,aQ,?_⟩
   unfold AQ at aB
   rw [pE,if_neg (fun e=>an e.symm),cc] at aB
   simp only [Bool.and_eq_true] at aB
   have a':=aB.1
   rw [show (g5 ops o).contains t=true from by simpa using aJ] at a'
   simp only [cond_true] at a'
   refine ⟨fun aX=>?_,fun Oh=>?_⟩
   · rw [show Nat.blt (posOf bo k) (posOf bo i)=true from by rw [Nat.blt_eq];exact aX] at a'
     exact a'
   · rw [show Nat.blt (posOf bo k) (posOf bo i)=false from by rw [←Bool.not_eq_true,Nat.blt_eq];exact Oh] at a'
     exact a'
  rw [←gX]
  rcases C.Iz (posOf bo i) (by omega) t CY with ⟨k,ok,FO,aQ,aB,a',cn,ea⟩ | ⟨aQ,aB⟩
  · obtain ⟨mk,_,dz,_⟩:=P4 k ok (fun e=>by subst e;omega) aB a'
    have Yq:=Gs k (fun e=>by subst e;omega) (dz aQ)
    rcases xU t CY with ⟨cf,lO,FP,ca,b',cE,fR,fN⟩ | ⟨ca,_⟩
    · have:=uniq k cf ok lO t aB b' a' cE
      subst this
      rw [cn] at fR;cases fR
      rw [ea];exact fN
    · exact absurd a' (ca k ok Yq aB)
  · rcases xU t CY with ⟨cf,lO,FP,ca,b',cE,fR,fN⟩ | ⟨_,b'⟩
    · have k8:cf≠i:=fun e=>rF (e ▸ ca)
      obtain ⟨mk,uC,_,fi⟩:=P4 cf lO k8 b' cE
      by_cases aX:posOf bo cf<posOf bo i
      · exact absurd cE (aQ cf lO aX b')
      · exact absurd (On cf mk i uC (fi aX) ca) rF
    · rw [aB];exact b'
 have k9:i<dO.size:=by rw [I.Dh];exact oY
 have after:∀(ir:Nat) (iy:Fr) (ba:Env) (x:Value) (aW:World),ir ∈ gW→ir≤ops.size→(∀k ok,ops[k]? =some ok→h9 P ok=true→((k=i∨dO.getD k false=true)↔posOf bo k<ir))→
  (∀k ok,ops[k]? =some ok→ks ok=true→(k=i∨dO.getD k false=true)→posOf bo k<ir)→
  Holds aZ iy es av bo (lv ops es av bo (dO.setIfInBounds i true) ir)→E.le ba→Rel ba e.v x→ck iy ba (eW es av ir) aW→
  wV P aZ bc ops es bl av gW bo kA (dO.setIfInBounds i true) (a.put o.dst x) aW:=by
  intro ir iy ba x aW mg Y5 n0 XH X' hle az Y4
  refine ⟨by simp [I.Dh],by cases h:o.dst<;>simp [Act.put,I.size],by cases h:o.dst<;>simp [Act.put,I.defers],?_,ba,ir,iy,zG.trans hle,mg,Y5,fun k ok ae ak=>by rw [nY k9];exact n0 k ok ae ak,
   fun k ok ae ak aC=>XH k ok ae ak ((nY k9).1 aC),X',Y4,fun t aJ=>?_⟩
  · intro k ok fT an cb mc ah
    rw [nY k9] at an ⊢
    rcases N0 k ok fT an.symm cb mc ah with h | h
    · exact .inr h
    · exact .inl h
  · by_cases cc:o.dst=some t
    · refine .inl ⟨i,o,e,by rw [nY k9];exact .inl rfl,fC,cc,sN,?_⟩
      have aX:t<a.tmps.size:=by
       have:=xO.1
       rw [cc] at this
       simp only [kf,Bool.and_eq_true,Nat.blt_eq] at this
       rw [I.size];exact this.1
      rw [cc]
      simp only [Act.put]
      rw [Array.getD_eq_getD_getElem?,Array.getElem?_setIfInBounds,if_pos rfl,if_pos aX]
      exact az
    · have fW:(a.put o.dst x).tmps.getD t undef=a.tmps.getD t undef:=by
       cases YE:o.dst with
       | none=>rfl
       | some d=>
         simp only [Act.put]
         rw [Array.getD_eq_getD_getElem?,Array.getD_eq_getD_getElem?,Array.getElem?_setIfInBounds,if_neg (fun e=>cc (by rw [YE,e]))]
      rw [fW]
      rcases xU t aJ with ⟨k,ok,FO,ca,b',cE,fR,fN⟩ | ⟨ca,b'⟩
      · exact .inl ⟨k,ok,FO,by rw [nY k9];exact .inr ca,b',cE,fR,Rel.mono hle _ _ fN⟩
      · refine .inr ⟨fun k ok an cb=>?_,Rel.mono hle _ _ b'⟩
        rw [nY k9] at an
        rcases an with rfl | an
        · rw [fC] at cb;cases cb;exact cc
        · exact ca k ok an cb
 have Gx:¬(ks o=true∧Made es av bo i)→∀ir k,lv ops es av bo (dO.setIfInBounds i true) ir k↔lv ops es av bo dO ir k:=by
  intro bU ir k
  constructor
  · rintro ⟨ok,aQ,aB,a',cn⟩
    exact ⟨ok,aQ,aB,fun h=>a' ((nY k9).2 (.inr h)),cn⟩
  · rintro ⟨ok,aQ,aB,a',cn⟩
    refine ⟨ok,aQ,aB,fun h=>?_,cn⟩
    rcases (nY k9).1 h with rfl | h
    · rw [fC] at aQ;cases aQ;exact bU aB
    · exact a' h
 have level:jg P o.op=true→s≤posOf bo i→s=posOf bo i∧ks o=false:=by
  intro oX hle
  rcases C.Rp s aM with h | ⟨k,ok,bQ,cB,fX⟩
  · omega
  · have YA:¬dO.getD k false=true:=fun h=>by have:=(n1 k ok bQ cB).1 h;omega
    have sR:=(Array.getElem?_eq_some_iff.1 bQ).1
    by_cases k8:k=i
    · subst k8
      rw [fC] at bQ;cases bQ
      refine ⟨fX,?_⟩
      unfold h9 at cB
      simpa [oX] using cB
    · have aX:posOf bo k<posOf bo i:=by
       have:posOf bo k≠posOf bo i:=fun e=>k8 (C.AV sR oY e)
       omega
      obtain ⟨mk,_,_,a'⟩:=Oz k ok bQ
      exact absurd (Gs k k8 (a' oX cB aX)) YA
 cases oX:jg P o.op with
 | true=>
   cases bU:ks o with
   | true=>
     have aX:posOf bo i<s:=by
      rcases Nat.lt_or_ge (posOf bo i) s with h | h
      · exact h
      · have:=(level oX h).2
        rw [bU] at this;cases this
     by_cases hm:Made es av bo i
     case neg=>
      have Hc:(hI P bc ops o).run (calls i) e.r (eW es av s)=.val e.v (eW es av s):=by
       rcases Nb bU eS with ⟨fv,bQ,_⟩ | ⟨_,bQ⟩
       · exact absurd (show Made es av bo i from by unfold Made;rw [bQ,j9];exact Nat.succ_ne_self _) hm
       · exact bQ _
      refine Cf e0 (kI i) (kj i) fC Hc I.size I.defers reads vN fun ba x aW aQ aB a'=>dh _ _ (after s F ba x aW aM ur (fun k ok cb kn=>?_) (fun k ok cb qC an=>?_) (mX.congr fun k=>Gx (fun h=>hm h.2) s k) aQ aB a')
      · constructor
        · rintro (rfl | h)
          · rw [fC] at cb;cases cb
            unfold h9 at kn
            rw [bU] at kn
            simp at kn
          · exact (n1 k ok cb kn).1 h
        · intro h
          exact .inr ((n1 k ok cb kn).2 h)
      · rcases an with rfl | an
        · exact aX
        · exact js k ok cb qC an
     have rz:lv ops es av bo dO s i:=⟨o,fC,⟨bU,hm⟩,rF,aX⟩
     have GS:(eW es av (posOf bo i+1)).next≠e.h.next:=by rw [←j9];exact hm
     have kL:nameAt es av bo i=ao e.h.next:=by unfold nameAt;rw [j9]
     have sV:=(mX.new i rz).1
     have o3:=(mX.new i rz).2
     have pO:zg es av bo i=(eW es av (posOf bo i+1)).get (ao e.h.next):=by unfold zg;rw [kL]
     rw [kL,pO] at sV
     refine Wh fC bU eS I.size I.defers reads vN GS sV fun ba x aW aQ aB a'=>dh _ _ (after s (F.free (ao e.h.next)) ba x aW aM ur (fun k ok cb kn=>?_) (fun k ok cb qC an=>?_) ?_ aQ aB a')
     · constructor
       · rintro (rfl | h)
         · rw [fC] at cb;cases cb
           unfold h9 at kn
           rw [bU] at kn
           simp at kn
         · exact (n1 k ok cb kn).1 h
       · intro h
         exact .inr ((n1 k ok cb kn).2 h)
     · rcases an with rfl | an
       · exact aX
       · exact js k ok cb qC an
     · have sub:∀k,lv ops es av bo (dO.setIfInBounds i true) s k→lv ops es av bo dO s k∧k≠i:=by
        rintro k ⟨ok,aQ,aB,a',cn⟩
        refine ⟨⟨ok,aQ,aB,fun h=>a' ((nY k9).2 (.inr h)),cn⟩,fun e=>a' ((nY k9).2 (.inl e))⟩
       refine ⟨mX.w,fun b ah=>?_,fun k an=>?_,fun k cf an ef=>mX.inj k cf (sub k an).1 (sub cf ef).1⟩
       · by_cases vv:b=ao e.h.next
         · subst vv
           simp only [Fr.free,if_true]
           rw [←kL,o3]
         · simp only [Fr.free,if_neg vv]
           refine mX.b6 b fun k an=>?_
           by_cases k8:k=i
           · subst k8;rw [kL];exact fun e=>vv e.symm
           · obtain ⟨ok,aQ,aB,a',cn⟩:=an
             refine ah k ⟨ok,aQ,aB,fun h=>?_,cn⟩
             rcases (nY k9).1 h with h | h
             · exact k8 h
             · exact a' h
       · obtain ⟨km,k8⟩:=sub k an
         have g3:nameAt es av bo k≠ao e.h.next:=fun e=>k8 (mX.inj k i km rz (by rw [e,kL]))
         simp only [Fr.free,if_neg g3]
         exact mX.new k km
   | false=>
     have XN:h9 P o=true:=by unfold h9;rw [oX,bU];rfl
     have Y3:s≤posOf bo i:=by
      rcases Nat.lt_or_ge (posOf bo i) s with h | h
      · exact absurd ((n1 i o fC XN).2 h) rF
      · exact h
     have CX:=(level oX Y3).1
     rw [←j9,←CX] at eS
     refine Cf e0 (kI i) (kj i) fC eS I.size I.defers reads vN fun ba x aW aQ aB a'=>?_
     rw [CX] at a'
     have Yp:∀k ok,ops[k]? =some ok→ks ok=true→posOf bo i+1≤posOf bo k→¬(dO.setIfInBounds i true).getD k false=true:=by
      intro k ok cb qC aT h
      rcases (nY k9).1 h with rfl | h
      · omega
      · have:=js k ok cb qC h
        omega
     have Ya:Holds aZ F es av bo (lv ops es av bo (dO.setIfInBounds i true) (posOf bo i+1)):=by
      refine mX.congr fun k=>?_
      rw [Gx (fun h=>by rw [bU] at h;cases h.1)]
      constructor
      · rintro ⟨ok,ff,e9,z3,z4⟩
        refine ⟨ok,ff,e9,z3,?_⟩
        have sR:=(Array.getElem?_eq_some_iff.1 ff).1
        have:posOf bo k≠posOf bo i:=fun e=>by
         have:=C.AV sR oY e
         subst this
         rw [fC] at ff;cases ff
         rw [bU] at e9;cases e9.1
        omega
      · rintro ⟨ok,ff,e9,z3,z4⟩
        exact ⟨ok,ff,e9,z3,by omega⟩
     obtain ⟨ir,iy,bF,bz,cL,gy,ik,oS⟩:=C.advance (ops.size - (posOf bo i+1)) (posOf bo i+1) (by omega) Yp F Ya a'
     refine dh _ _ (after ir iy ba x aW bF cL (fun k ok cb kn=>?_) (fun k ok cb qC an=>?_) ik aQ aB oS)
     · have sR:=(Array.getElem?_eq_some_iff.1 cb).1
       constructor
       · rintro (rfl | h)
         · omega
         · have:=(n1 k ok cb kn).1 h
           omega
       · intro h
         by_cases k8:k=i
         · exact .inl k8
         · refine .inr ((n1 k ok cb kn).2 ?_)
           rcases Nat.lt_or_ge (posOf bo k) s with c4 | c4
           · exact c4
           · have g3:posOf bo k≠posOf bo i:=fun e=>k8 (C.AV sR oY e)
             have:=gy k ok cb kn (by omega)
             omega
     · rcases an with rfl | an
       · omega
       · have:=js k ok cb qC an
         omega
 | false=>
   have bU:ks o=false:=by
    cases h:ks o with
    | false=>rfl
    | true=>rw [ZU h] at oX;cases oX
   obtain ⟨c,aD,Hc⟩:∃c,(lq P c∧lY P c)∧(hI P bc ops o).run c e.r (eW es av s)=.val e.v (eW es av s):=by
    cases fq:looks o.op with
    | false=>exact ⟨_,⟨kI i,kj i⟩,(zt oX eS).2 fq _⟩
    | true=>
      obtain ⟨fT,aQ,aB⟩:=C.ask i o fC fq oX
      rw [sN] at aQ;cases aQ
      obtain ⟨c,aa,aD,a'⟩:=aB s aM (R0 (by rw [Pv];simp) fun k mk ok ae ak=>by
       simp only [Nat.zero_add]
       have cb:ops[k]? =some ok:=by simpa using ak
       cases zY:h9 P ok with
       | false=>rfl
       | true=>
         simp only [cond_true]
         cases ui:Nat.blt (posOf bo k) s with
         | true=>
           rw [Nat.blt_eq] at ui
           simp only [cond_true,Bool.not_eq_true']
           cases ah:l8 mk i with
           | false=>rfl
           | true=>exact absurd (On k mk i ae ah ((n1 k ok cb zY).2 ui)) rF
         | false=>
           have Ym:¬posOf bo k<s:=by rw [←Nat.blt_eq,ui];simp
           simp only [cond_false,Bool.not_eq_true',Oq,Option.getD_some]
           cases ah:l8 lK k with
           | false=>rfl
           | true=>
             by_cases k8:k=i
             · subst k8
               rw [fC] at cb;cases cb
               unfold h9 at zY
               rw [oX] at zY;cases zY
             · exact absurd ((n1 k ok cb zY).1 (Gs k k8 ah)) Ym)
      rw [(zt oX a').1] at a'
      exact ⟨c,aD,a'⟩
   refine Cf e0 aD.1 aD.2 fC Hc I.size I.defers reads vN fun ba x aW aQ aB a'=>dh _ _ (after s F ba x aW aM ur (fun k ok cb kn=>?_) (fun k ok cb qC an=>?_) (mX.congr fun k=>Gx (fun h=>by rw [bU] at h;cases h.1) s k) aQ aB a')
   · constructor
     · rintro (rfl | h)
       · rw [fC] at cb;cases cb
         unfold h9 at kn
         rw [oX] at kn;cases kn
       · exact (n1 k ok cb kn).1 h
     · intro h
       exact .inr ((n1 k ok cb kn).2 h)
   · rcases an with rfl | an
     · rw [fC] at cb;cases cb;rw [bU] at qC;cases qC
     · exact js k ok cb qC an
theorem Nf {aZ:Fr} (e0:kE P) (kI:∀i,lq P (calls i)) (kj:∀i,lY P (calls i)) (C:Cert P bc ops calls es bl al h1 av gW order bo) {kA:Env} {Q:Exit→Act→World→Prop}
 (dD:∀ba cI aW,kA.le ba→hH ba bc h1 cI→ck aZ ba av aW→Q .normal cI aW):∀(fuel:Nat) (dO:Array Bool) (a:Act) (w:World),(List.range ops.size).countP (fun i=>!dO.getD i false)≤fuel→
 wV P aZ bc ops es bl av gW bo kA dO a w→wpAny P .any ops Q fuel dO a w:=by
 have done:∀(dO:Array Bool) (a:Act) (w:World),wV P aZ bc ops es bl av gW bo kA dO a w→Region.ready .any ops dO=[]→∀i,i<ops.size→dO.getD i false=true:=by
  intro dO a w I bd i
  induction i using Nat.strongRecOn with
  | _ i bN=>
    intro aG
    cases k9:dO.getD i false with
    | true=>rfl
    | false=>
      exfalso
      have fC:ops[i]? =some ops[i]:=Array.getElem?_eq_getElem aG
      obtain ⟨lK,_,nA,_⟩:=C.Ct fC
      have:i ∈ Region.ready .any ops dO:=by
       rw [mem_ready]
       refine ⟨?_,ops[i],fC,fun e he ah=>?_⟩
       · have gd:i<dO.size:=by rw [I.Dh];exact aG
         rw [Array.getD_eq_getD_getElem?,Array.getElem?_eq_getElem gd] at k9 ⊢
         exact k9
       · have ae:=List.all_eq_true.1 nA e (Array.mem_toList_iff.2 he)
         rw [Kb] at ah
         rw [ah] at ae
         simp only [Bool.not_true,Bool.false_or,Nat.blt_eq] at ae
         exact bN e.on ae (by omega)
      rw [bd] at this
      simp at this
 have finish:∀(dO:Array Bool) (a:Act) (w:World),wV P aZ bc ops es bl av gW bo kA dO a w→Region.ready .any ops dO=[]→Q .normal a w:=by
  intro dO a w I bd
  have js:=done dO a w I bd
  obtain ⟨E,s,F,zG,aM,ur,n1,_,mX,vN,xU⟩:=I.main
  have CN:eW es av ops.size=av:=by
   have:es[ops.size]? =none:=List.getElem?_eq_none (by rw [C.len];exact Nat.le_refl _)
   simp [eW,this]
  have OG:kR es h1 ops.size=h1:=by
   have:es[ops.size]? =none:=List.getElem?_eq_none (by rw [C.len];exact Nat.le_refl _)
   simp [kR,this]
  have CX:s=ops.size:=by
   rcases C.Rp s aM with h | ⟨k,ok,bQ,cB,fX⟩
   · exact h
   · have:=(n1 k ok bQ cB).1 (js k (Array.getElem?_eq_some_iff.1 bQ).1)
     omega
  subst CX
  have vr:F=aZ:=mX.none fun k an=>by
   obtain ⟨ok,aQ,aB,a',cn⟩:=an
   exact a' (js k (Array.getElem?_eq_some_iff.1 aQ).1)
  subst vr
  rw [CN] at vN
  refine dD E a w zG ⟨I.size,I.defers,fun t aJ=>?_⟩ vN
  have Zf:∀(k cf:Nat) (ok lO:Oper),ops[k]? =some ok→ops[cf]? =some lO→ok.dst=some t→lO.dst=some t→k=cf:=by
   intro k cf ok lO ae ak aC bq
   obtain ⟨mk,_,_,aT⟩:=C.Ct ae
   obtain ⟨mk',_,kq,_⟩:=aT cf lO ak
   unfold AQ at kq
   rw [pE] at kq
   by_cases gG:k=cf
   · exact gG
   · rw [if_neg gG,bq,aC] at kq
     simp at kq
  rcases C.Iz ops.size (Nat.le_refl _) t aJ with ⟨k,ok,FO,aQ,aB,a',cn,ea⟩ | ⟨aQ,aB⟩
  · rw [OG] at ea
    rcases xU t aJ with ⟨cf,lO,FP,ca,b',cE,fR,fN⟩ | ⟨ca,_⟩
    · have:=Zf k cf ok lO aB b' a' cE
      subst this
      rw [cn] at fR;cases fR
      rw [ea];exact fN
    · exact absurd a' (ca k ok (js k (Array.getElem?_eq_some_iff.1 aB).1) aB)
  · rw [OG] at aB
    rcases xU t aJ with ⟨cf,lO,FP,ca,b',cE,fR,fN⟩ | ⟨_,b'⟩
    · exact absurd cE (aQ cf lO (C.nE cf (Array.getElem?_eq_some_iff.1 b').1).1 b')
    · rw [aB];exact b'
 intro fuel
 induction fuel with
 | zero=>
   intro dO a w aD I
   have js:∀i,i<ops.size→dO.getD i false=true:=by
    intro i aG
    have al:(List.range ops.size).countP (fun i=>!dO.getD i false)=0:=by omega
    rw [List.countP_eq_zero] at al
    simpa using al i (List.mem_range.2 aG)
   have bd:Region.ready .any ops dO=[]:=by
    cases a2:Region.ready .any ops dO with
    | nil=>rfl
    | cons j bx=>
      exfalso
      have bS:j ∈ Region.ready .any ops dO:=by rw [a2];simp
      rw [mem_ready] at bS
      obtain ⟨ae,o,ak,_⟩:=bS
      have:=js j (Array.getElem?_eq_some_iff.1 ak).1
      rw [xD] at this
      rw [Array.getD_eq_getD_getElem?,this] at ae
      simp at ae
   exact ⟨bd,finish dO a w I bd⟩
 | succ fuel bN=>
   intro dO a w aD I
   refine ⟨fun bd=>finish dO a w I bd,fun i aG=>?_⟩
   refine Wj e0 kI kj C I aG fun cI aW R'=>bN _ cI aW ?_ R'
   have qB:=aG
   rw [mem_ready] at qB
   obtain ⟨ae,o,ak,_⟩:=qB
   have oY:i<ops.size:=(Array.getElem?_eq_some_iff.1 ak).1
   have k9:i<dO.size:=by rw [I.Dh];exact oY
   have rF:dO.getD i false=false:=by
    rw [Array.getD_eq_getD_getElem?,Array.getElem?_eq_getElem k9] at ae ⊢
    exact ae
   have:=M9 (fun k=>!dO.getD k false) (fun k=>!(dO.setIfInBounds i true).getD k false) (List.range ops.size)
    (fun k _ an=>by
      simp only [Bool.not_eq_true'] at an ⊢
      cases a2:dO.getD k false with
      | false=>rfl
      | true=>
        have:=(nY (k:=k) k9).2 (.inr a2)
        rw [an] at this
        cases this)
    ⟨i,List.mem_range.2 oY,by simp [rF],by
      have:=(nY (k:=i) k9).2 (.inl rfl)
      simp [this]⟩
   omega
theorem Wi {aZ:Fr} {E:Env} {h aa:aj} {w:World} {id:Nat} (eC:P.follows .mixedOrders=true) (e0:kE P) (kI:lq P call) (kj:lY P call) {r bT:dc} {a:Act}
 (he:(Cg P bc ops).run call r h=.ok bT aa) (k:hH E bc r a) (s:ck aZ E h w) {Q:Exit→Act→World→Prop}
 (dD:∀ba cI aW,E.le ba→hH ba bc bT cI→ck aZ ba aa aW→Q .normal cI aW):(Code.region id ops true).wp P Q a w:=by
 unfold Cg at he
 generalize AN P ops=order at he
 generalize DB order 0 ops.toList=bo at he
 unfold Nd at he
 cases av:(yl ops.size order bo&&xr P ops bo) with
 | false=>rw [av] at he;cases he
 | true=>
   rw [av] at he
   simp only [cond_true] at he
   simp only [Bool.and_eq_true] at av
   obtain ⟨rH,xO⟩:=av
   unfold yl at rH
   simp only [Bool.and_eq_true,Nat.beq_eq] at rH
   obtain ⟨GX,YD,GY,GZ⟩:=rH
   have nE:∀k,k<ops.size→posOf bo k<ops.size∧order[posOf bo k]? =some k:=by
    intro k an
    have bp:bo[k]? =some (posOf bo k):=by
     unfold posOf
     rw [List.getElem?_eq_getElem (by omega)]
     rfl
    have:=AS GY bp
    rw [Nat.zero_add] at this
    exact ⟨by have:=(List.getElem?_eq_some_iff.1 this).1;omega,this⟩
   have uK:∀p,p<ops.size→∃i,i<ops.size∧posOf bo i=p:=by
    intro p aT
    have bp:order[p]? =some (order[p]'(by omega)):=List.getElem?_eq_getElem (by omega)
    have:=AS GZ bp
    rw [Nat.zero_add] at this
    refine ⟨order[p]'(by omega),by have:=(List.getElem?_eq_some_iff.1 this).1;omega,?_⟩
    unfold posOf
    rw [this]
    rfl
   have main:∀(q:Ei),
    (∀es pQ,(r5 P bc ops (p4 ops order)).run call r h=.ok es bT pQ→q.run call es pQ=true→∀j o,ops[j]? =some o→looks o.op=true→jg P o.op=false→∃e,es[posOf bo j]? =some e∧∀s ∈ mm P bo 0 ops.toList,
      wq P (lI [] ops.toList) ops.toList bo j (((lI [] ops.toList)[j]?).getD 0) s=true→∃aa,(hI P bc ops o).run call e.r (eW es pQ s)=.val e.v aa)→
    Ch (r5 P bc ops (p4 ops order)) q call r h=.ok bT aa→(Code.region id ops true).wp P Q a w:=by
    intro q Gl eS
    unfold Ch at eS
    cases dq:(r5 P bc ops (p4 ops order)).run call r h with
    | fail=>rw [dq] at eS;cases eS
    | ok es DQ c4=>
      rw [dq] at eS
      simp only at eS
      cases a2:q.run call es c4 with
      | false=>rw [a2] at eS;cases eS
      | true=>
        rw [a2] at eS
        simp only [cond_true,ri.ok.injEq] at eS
        obtain ⟨rfl,rfl⟩:=eS
        obtain ⟨aQ,aB,a',cn⟩:=I0 dq
        have C:Cert P bc ops (fun _=>call) es r h DQ c4 (mm P bo 0 ops.toList) order bo:=
         ⟨by rw [aQ,Ij,GX],nE,uK,aB,a',fun i o bD=>cn _ o (yj (nE i (Array.getElem?_eq_some_iff.1 bD).1).2 bD),xO,
           by simpa using HR (P:=P) (bo:=bo) (l:=ops.toList) (i:=0),
           fun j o ae ak=>by simpa using HS (bo:=bo) (i:=0) (j:=j) (l:=ops.toList) (by simpa using ae) ak,
           fun s aM=>by
            rcases Ap aM with h | ⟨j,o,ae,ak,aC⟩
            · exact .inl (by simpa using h)
            · exact .inr ⟨j,o,by simpa using ae,ak,by simpa using aC⟩,
           fun j o ae ak aC=>by
            obtain ⟨e,bF,bz⟩:=Gl es c4 dq a2 j o ae ak aC
            exact ⟨e,bF,fun s aM hm=>by obtain ⟨aa,cL⟩:=bz s aM hm;exact ⟨_,aa,⟨kI,kj⟩,cL⟩⟩⟩
        have gb:∀k,¬(Array.replicate ops.size false).getD k false=true:=by
         intro k
         rw [xD,Array.getElem?_replicate]
         split<;>simp
        have mX:Holds aZ aZ es c4 bo (lv ops es c4 bo (Array.replicate ops.size false) 0):=
         ⟨rfl,fun _ _=>rfl,fun k an=>(by obtain ⟨_,_,_,_,al⟩:=an;omega),fun k cf an=>(by obtain ⟨_,_,_,_,al⟩:=an;omega)⟩
        obtain ⟨ir,iy,bF,bz,cL,gy,ik,oS⟩:=C.advance ops.size 0 (by omega) (fun k o _ _ _=>gb k) aZ mX (E:=E) (w:={w with drawn:=w.drawn}) (by rw [aB];exact s.same rfl rfl rfl rfl)
        refine wp_region_any eC (Nf e0 (fun _=>kI) (fun _=>kj) C (kA:=E) dD ops.size _ a _ ?_ ?_)
        · exact Nat.le_trans List.countP_le_length (by simp)
        · refine ⟨by simp,k.size,k.defers,fun cf o e an=>absurd an (gb cf),E,ir,iy,Env.le.refl E,bF,cL,fun cf o ae ak=>⟨fun h=>absurd h (gb cf),fun h=>by have:=gy cf o ae ak (Nat.zero_le _);omega⟩,
           fun cf o _ _ h=>absurd h (gb cf),ik,?_,fun t aJ=>.inr ⟨fun cf o an=>absurd an (gb cf),k.ag t aJ⟩⟩
          exact oS.same rfl rfl rfl rfl
   cases aK:sv P ops.toList with
   | false=>
     rw [aK] at he
     have none:∀(l:List Oper),sv P l=false→∀(j:Nat) (o:Oper),l[j]? =some o→jg P o.op=false:=by
      intro l
      induction l with
      | nil=>intro _ j o h;simp at h
      | cons x l bN=>
        intro h j o bD
        simp only [sv,Bool.or_eq_false_iff] at h
        cases j with
        | zero=>simp only [List.getElem?_cons_zero,Option.some.injEq] at bD;subst bD;exact h.1
        | succ j=>exact bN h.2 j o (by simpa using bD)
     refine main _ (fun es pQ dq _ j o bD fq a2=>?_) he
     obtain ⟨aQ,aB,a',cn⟩:=I0 dq
     have bS:=(Array.getElem?_eq_some_iff.1 bD).1
     obtain ⟨e,ca,b',cE⟩:=cn _ o (yj (nE j bS).2 bD)
     refine ⟨e,ca,fun s aM _=>?_⟩
     have mg:s=ops.size:=by
      rcases Ap aM with h | ⟨C9,dP,ae,ak,aC⟩
      · simpa using h
      · have:=none _ aK C9 dP ae
        unfold h9 at ak
        rw [this] at ak
        cases ak
     have flat:∀d,d≤ops.size→eW es pQ d=eW es pQ 0:=by
      intro d
      induction d with
      | zero=>intro _;rfl
      | succ d bN=>
        intro cc
        obtain ⟨i,pS,qB⟩:=uK d (by omega)
        have fC:ops[i]? =some ops[i]:=Array.getElem?_eq_getElem pS
        obtain ⟨Wn,dL,dw,_⟩:=cn _ ops[i] (yj (nE i pS).2 fC)
        rw [qB] at dL dw
        have g3:jg P ops[i].op=false:=none _ aK i _ (by simp)
        rw [(zt g3 dw).1,←bN (by omega)]
        simp [eW,dL]
     have YK:=(nE j bS).1
     have:e.h=eW es pQ s:=by rw [mg,flat ops.size (Nat.le_refl _),←flat (posOf bo j) (by omega)];simp [eW,ca]
     rw [←this]
     exact ⟨_,b'⟩
   | true=>
     rw [aK] at he
     refine main _ (fun es pQ dq a2 j o bD fq YO=>?_) he
     have:=J1 a2 j o (by simpa using bD) fq YO
     simpa using this
end
end Go.Proofs.YtjbiefneffiogaaGreat.bA
namespace Go.Proofs.YtjbiefneffiogaaGreat.bA
variable [Lay]
open Go Go.RowKit
def wM:cW→Exit
 | .normal=>.normal
 | .exit id=>.exit id
 | .ret=>.ret
def tG (C:Ctx):Prop:=
 ∀f p args h v aa,C.oh f=some p→p.run args h=.val v aa→(∃fn,C.P.funcs[f]? =some fn∧fn.body.isSome=true)∧∀(aZ:Fr) E w xs,bY E args xs→ck aZ E h w→
  Calls C.P f xs.toArray w fun e aW=>∃ba x,e=.returned x∧E.le ba∧Rel ba v x∧ck aZ ba aa aW
def Ee (P:Program) (c:Code) (Q:Exit→Act→World→Prop) (a:Act) (w:World):Prop:=
 match c with
 | .loop x=>∀(b:Frame) (k:List Item) (cs:List Frame),∃e cI aW,Q e cI aW∧Arrives P (lone (b.at a (.code x::.inLoop x::k)) cs w) b k cs e cI aW
 | c=>c.wp P Q a w
theorem Ee.wp {P:Program} {c:Code} {Q:Exit→Act→World→Prop} {a:Act} {w:World} (h:Ee P c Q a w):c.wp P Q a w:=by
 cases c with
 | loop x=>
   intro b k cs
   obtain ⟨e,cI,aW,q,r⟩:=h b k cs
   exact ⟨e,cI,aW,q,.of_steps (.one step_loop) r⟩
 | _=>exact h
def Jn (P:Program) (bc:Nat) (c:Code) (run:dc→aj→jm):Prop:=
 ∀(aZ:Fr) r h e bT aa,run r h=.ok e bT aa→∀E a w,hH E bc r a→ck aZ E h w→∀Q:Exit→Act→World→Prop,
  (∀ba cI aW,E.le ba→hH ba bc bT cI→ck aZ ba aa aW→Q (wM e) cI aW)→Ee P c Q a w
def Eo (P:Program) (ex:l0):Prop:=∀bc c,Jn P bc c (ex bc c)
def wG (tmps:Array Value):ResultVar→Sem Value
 | .tmp t=>pure (tmps.getD t undef)
 | .cell b t=>do loadVar t (←asAddr (tmps.getD b undef))
theorem DM {P:Program} {aZ:Fr} {E:Env} {bc:Nat} {r:dc} {h:aj} {a:Act} {w:World} (k:hH E bc r a) (s:ck aZ E h w):∀{l:List ResultVar} {ai:List V},(m' P bc l).run r h=some ai→
 ∃xs,bY E ai xs∧(l.mapM (wG a.tmps)).run P w=.ok xs w
 | [],ai,he=>by
   simp only [m',Option.some.injEq] at he
   subst he
   exact ⟨[],rfl,rfl⟩
 | .tmp t::l,ai,he=>by
   simp only [m'] at he
   cases aD:(Nat.ble t top&&Nat.blt t bc) with
   | false=>rw [aD] at he;cases he
   | true=>
     rw [aD] at he
     simp only [cond_true] at he
     simp only [Bool.and_eq_true,Nat.ble_eq] at aD
     cases bd:(m' P bc l).run r h with
     | none=>rw [bd] at he;cases he
     | some us=>
       rw [bd] at he
       simp only [Option.some.injEq] at he
       subst he
       obtain ⟨xs,ae,ak⟩:=DM k s bd
       refine ⟨_::xs,by simp only [bY];exact ⟨_,_,rfl,k.ag t aD.1,ae⟩,?_⟩
       rw [List.mapM_cons,Sem.run_bind]
       simp only [wG,Sem.run_pure,Result.andThen_ok,Sem.run_bind,ak]
 | .cell b t::l,ai,he=>by
   simp only [m'] at he
   cases aD:(Nat.ble b top&&Nat.blt b bc) with
   | false=>rw [aD] at he;cases he
   | true=>
     rw [aD] at he
     simp only [cond_true] at he
     simp only [Bool.and_eq_true,Nat.ble_eq] at aD
     cases bk:(wk P t).run h (T.get .bad (ao b) r) with
     | none=>rw [bk] at he;cases he
     | some v=>
       rw [bk] at he
       simp only at he
       cases bd:(m' P bc l).run r h with
       | none=>rw [bd] at he;cases he
       | some us=>
         rw [bd] at he
         simp only [Option.some.injEq] at he
         subst he
         obtain ⟨xs,ae,ak⟩:=DM k s bd
         obtain ⟨Y,_,fp,A,dC,jS⟩:=Pp (P:=P) s (k.ag b aD.1) bk
         refine ⟨Y::xs,by simp only [bY];exact ⟨_,_,rfl,fp,ae⟩,?_⟩
         rw [List.mapM_cons,Sem.run_bind]
         simp only [wG,dC,asAddr,Sem.run_bind,Sem.run_pure,Result.andThen_ok,jS,ak]
theorem JX:∀(args:List V) (i:Nat) (t:dc) (j:Nat),i+args.length≤top+1→j≤top→
 T.get .bad (ao j) (vc i args t)=if i≤j∧j<i+args.length then (args[j-i]?).getD .bad else T.get .bad (ao j) t
 | [],i,t,j,_,_=>by
   have:¬(i≤j∧j<i):=by omega
   simp [vc,this]
 | v::ai,i,t,j,h,bS=>by
   simp only [List.length_cons] at h ⊢
   rw [vc,JX ai _ _ _ (by omega) bS]
   by_cases ae:i+1≤j∧j<i+1+ai.length
   · rw [if_pos ae,if_pos (by omega)]
     have:j-i=(j - (i+1))+1:=by omega
     rw [this,List.getElem?_cons_succ]
   · rw [if_neg ae,T.oT]
     by_cases ak:j=i
     · subst ak;rw [if_pos rfl,if_pos (by omega)];simp
     · rw [if_neg (fun e=>ak (og e).symm),if_neg (by omega)]
theorem PY {E:Env} {ai:List V} {xs:List Value} (h:bY E ai xs) (fn:Func) (a:Act) (P:Program) (w:World)
 (bd:(fn.results.toList.mapM (wG a.tmps)).run P w=.ok xs w):∃x,(results fn a.tmps).run P w=.ok x w∧Rel E (oneOf ai) x:=by
 have vI:(fn.results.mapM (wG a.tmps)).run P w=.ok xs.toArray w:=by
  rw [Array.mapM_eq_mapM_toList,Sem.run_map,bd]
  rfl
 have zO:results fn a.tmps=(do
  let ai ←fn.results.mapM (wG a.tmps)
  pure (if h:ai.size=1 then ai[0] else .tuple ai)):=by
  unfold results
  have:(fun x=>match x with
   | ResultVar.tmp t=>(pure (a.tmps.getD t undef):Sem Value)
   | ResultVar.cell b t=>do loadVar t (←asAddr (a.tmps.getD b undef)))=wG a.tmps:=by
   funext x
   cases x<;>rfl
  rw [←this]
  rfl
 have uq:(results fn a.tmps).run P w=.ok (if h:xs.toArray.size=1 then xs.toArray[0] else .tuple xs.toArray) w:=by
  rw [zO,Sem.run_bind,vI]
  rfl
 refine ⟨_,uq,?_⟩
 match ai,h with
 | [],h=>
   simp only [bY] at h
   subst h
   simp only [oneOf,Rel]
   exact ⟨#[],rfl,rfl⟩
 | [v],h=>
   simp only [bY] at h
   obtain ⟨y,gE,rfl,bK,rfl⟩:=h
   simpa [oneOf] using bK
 | v::u::ai,h=>
   have aK:=h.length
   have g3:¬xs.toArray.size=1:=by simp at aK ⊢;omega
   rw [dif_neg g3]
   simp only [oneOf,Rel]
   exact ⟨_,rfl,by simpa using h⟩
section
variable {C:Ctx}
theorem NK {f:FuncId} {ex:l0} {args:List V} {h aa:aj} {v:V} (he:(Cw C.P f).run ex args h=.val v aa):∃fn,C.P.funcs[f]? =some fn∧fn.body.isSome=true:=by
 unfold Cw at he
 cases av:C.P.funcs[f]? with
 | none=>rw [av] at he;cases he
 | some fn=>
   rw [av] at he
   simp only at he
   cases ah:fn.body with
   | none=>rw [ah] at he;cases he
   | some c=>exact ⟨fn,rfl,by rw [ah];rfl⟩
theorem Vr (jH:tG C) (ex:l0):lY C.P (sD C ex):=by
 intro f args h v aa he
 trivial
theorem Vs (jH:tG C) (ex:l0) {f:FuncId} {args:List V} {h aa:aj} {v:V} (he:sD C ex f args h=.val v aa):∃fn,C.P.funcs[f]? =some fn∧fn.body.isSome=true:=by
 unfold sD F0 at he
 cases aT:C.oh f with
 | some p=>rw [aT] at he;exact (jH f p args h v aa aT he).1
 | none=>rw [aT] at he;exact NK he
theorem MR (jH:tG C) {ex:l0} (hex:Eo C.P ex):lq C.P (sD C ex):=by
 intro aZ f args h v aa he E w xs aK s
 unfold sD F0 at he
 cases aT:C.oh f with
 | some p=>rw [aT] at he;exact .inl ⟨(jH f p args h v aa aT he).1,(jH f p args h v aa aT he).2 aZ E w xs aK s⟩
 | none=>
   rw [aT] at he
   simp only at he
   refine .inl ⟨NK he,?_⟩
   unfold Cw at he
   cases av:C.P.funcs[f]? with
   | none=>rw [av] at he;cases he
   | some fn=>
     rw [av] at he
     simp only at he
     cases ah:fn.body with
     | none=>rw [ah] at he;cases he
     | some c=>
       rw [ah] at he
       simp only at he
       cases qD:Nat.ble fn.ntmps top with
       | false=>rw [qD] at he;cases he
       | true=>
         rw [qD] at he
         simp only [cond_true,NL] at he
         rw [Nat.ble_eq] at qD
         obtain ⟨Gk,pP⟩:=qn he
         rw [Nat.ble_eq] at Gk
         cases eS:ex fn.ntmps c (vc 0 args .e) h with
         | fail=>rw [eS] at pP;cases pP
         | ok e bT ae=>
           rw [eS] at pP
           simp only at pP
           have hlen:=aK.length
           have k:hH E fn.ntmps (vc 0 args .e) {tmps:=xs.toArray++Array.replicate (fn.ntmps-xs.toArray.size) undef,defers:=[]}:=by
            refine ⟨by simp;omega,rfl,fun t aJ=>?_⟩
            rw [JX _ _ _ _ (by omega) aJ]
            by_cases aX:t<args.length
            · rw [if_pos (by omega),Nat.sub_zero,List.getElem?_eq_getElem aX]
              obtain ⟨y,bK,fp⟩:=aK.get t args[t] (List.getElem?_eq_getElem aX)
              simp only [Option.getD_some]
              have:(xs.toArray++Array.replicate (fn.ntmps-xs.toArray.size) undef).getD t undef=y:=by
               rw [Array.getD_eq_getD_getElem?,Array.getElem?_append_left (by simp;omega)]
               simp [bK]
              rw [this];exact fp
            · rw [if_neg (by omega)]
              simp [Rel]
           refine calls_of_wp av ah ?_
           have post:∀ai,(m' C.P fn.ntmps fn.results.toList).run bT ae=some ai→oneOf ai=v→ae=aa→∀ba cI aW,E.le ba→hH ba fn.ntmps bT cI→ck aZ ba ae aW→
            cI.defers=[]∧∃x,(results fn cI.tmps).run C.P aW=.ok x aW∧∃eP fe,Ending.returned x=.returned fe∧E.le eP∧Rel eP v fe∧ck aZ eP aa aW:=by
            intro ai bk pT Yb ba cI aW aQ aB a'
            obtain ⟨gE,ca,b'⟩:=DM (P:=C.P) aB a' bk
            obtain ⟨x,cE,fR⟩:=PY ca fn cI C.P aW b'
            exact ⟨aB.defers,x,cE,ba,x,rfl,aQ,pT ▸ fR,Yb ▸ a'⟩
           have fin:∀fT,e=fT→(fT=.normal∨fT=.ret)→(match (m' C.P fn.ntmps fn.results.toList).run bT ae with
            | some ai=>bH.val (oneOf ai) ae
            | none=>.fail)=.val v aa→c.wp C.P (bodyPost C.P fn fun e aW=>∃ba x,e=.returned x∧E.le ba∧Rel ba v x∧ck aZ ba aa aW) {tmps:=xs.toArray++Array.replicate (fn.ntmps-xs.toArray.size) undef,defers:=[]} w:=by
            intro fT XY kp uq
            subst XY
            cases bk:(m' C.P fn.ntmps fn.results.toList).run bT ae with
            | none=>rw [bk] at uq;cases uq
            | some ai=>
              rw [bk] at uq
              simp only [bH.val.injEq] at uq
              refine (hex fn.ntmps c aZ _ _ _ _ _ eS E _ w k s _ fun ba cI aW aQ aB a'=>?_).wp
              have:=post ai bk uq.1 uq.2 ba cI aW aQ aB a'
              rcases kp with rfl | rfl<;>exact this
           cases e with
           | normal=>exact fin _ rfl (.inl rfl) pP
           | ret=>exact fin _ rfl (.inr rfl) pP
           | exit id=>cases pP
theorem VX (eC:C.P.follows .mixedOrders=true) (e0:kE C.P) (jH:tG C) {ex:l0} (hex:Eo C.P ex) (bc:Nat):∀c:Code,Jn C.P bc c ((i_ C bc c).run ex):=by
 have kI:=MR jH hex
 have kj:=Vr jH ex
 intro c
 induction c with
 | skip=>
   intro aZ r h e bT aa he E a w k s Q dD
   simp only [i_,jm.ok.injEq] at he
   obtain ⟨rfl,rfl,rfl⟩:=he
   exact wp_skip (dD E a w (Env.le.refl E) k s)
 | label l=>
   intro aZ r h e bT aa he E a w k s Q dD
   simp only [i_,jm.ok.injEq] at he
   obtain ⟨rfl,rfl,rfl⟩:=he
   exact wp_label (dD E a w (Env.le.refl E) k s)
 | exit id=>
   intro aZ r h e bT aa he E a w k s Q dD
   simp only [i_,jm.ok.injEq] at he
   obtain ⟨rfl,rfl,rfl⟩:=he
   exact wp_exit (dD E a w (Env.le.refl E) k s)
 | ret=>
   intro aZ r h e bT aa he E a w k s Q dD
   simp only [i_,jm.ok.injEq] at he
   obtain ⟨rfl,rfl,rfl⟩:=he
   exact wp_ret (dD E a w (Env.le.refl E) k s)
 | region id ops draw=>
   intro aZ r h e bT aa he E a w k s Q dD
   cases draw with
   | true=>
     simp only [i_,cond_true,DK] at he
     cases bd:(Cg C.P bc ops).run (sD C ex) r h with
     | fail=>rw [bd] at he;cases he
     | ok aU ae=>
       rw [bd] at he
       simp only [jm.ok.injEq] at he
       obtain ⟨rfl,rfl,rfl⟩:=he
       exact Wi eC e0 kI kj bd k s dD
   | false=>
     simp only [i_,cond_false,DK] at he
     cases bd:(yk C.P bc ops ops.toList).run (sD C ex) r h with
     | fail=>rw [bd] at he;cases he
     | ok aU ae=>
       rw [bd] at he
       simp only [jm.ok.injEq] at he
       obtain ⟨rfl,rfl,rfl⟩:=he
       refine wp_region ?_
       have:=P1 (Q:=Q) e0 kI kj ops.toList 0 (fun j=>by simp) E r aU h ae a w bd k s dD
       rw [List.range_eq_range']
       simpa using this
 | seq x y vZ v7=>
   intro aZ r h e bT aa he E a w k s Q dD
   simp only [i_,Q5] at he
   cases bd:(i_ C bc x).run ex r h with
   | fail=>rw [bd] at he;cases he
   | ok aI aU ae=>
     rw [bd] at he
     simp only at he
     refine wp_seq (vZ aZ r h aI aU ae bd E a w k s _ fun ba cI aW aQ aB a'=>?_).wp
     cases aI with
     | normal=>exact (v7 aZ aU ae e bT aa he ba cI aW aB a' Q fun eP b3 dw ca b' cE=>dD eP b3 dw (aQ.trans ca) b' cE).wp
     | exit id=>simp only [jm.ok.injEq] at he;obtain ⟨rfl,rfl,rfl⟩:=he;exact dD ba cI aW aQ aB a'
     | ret=>simp only [jm.ok.injEq] at he;obtain ⟨rfl,rfl,rfl⟩:=he;exact dD ba cI aW aQ aB a'
 | cond c x y vZ v7=>
   intro aZ r h e bT aa he E a w k s Q dD
   simp only [i_,MZ] at he
   have aD:=gF k c
   cases bk:(en c).run r<;>rw [bk] at he aD<;>simp only at he<;>try (cases he;done)
   rename_i t
   simp only [Rel] at aD
   cases t with
   | true=>exact wp_cond_true aD (vZ aZ r h e bT aa he E a w k s Q dD).wp
   | false=>exact wp_cond_false aD (v7 aZ r h e bT aa he E a w k s Q dD).wp
 | block id x bN=>
   intro aZ r h e bT aa he E a w k s Q dD
   simp only [i_,Kd] at he
   cases bd:(i_ C bc x).run ex r h with
   | fail=>rw [bd] at he;cases he
   | ok aI aU ae=>
     rw [bd] at he
     simp only at he
     refine wp_block (bN aZ r h aI aU ae bd E a w k s _ fun ba cI aW aQ aB a'=>?_).wp
     cases aI with
     | normal=>simp only [jm.ok.injEq] at he;obtain ⟨rfl,rfl,rfl⟩:=he;exact dD ba cI aW aQ aB a'
     | ret=>simp only [jm.ok.injEq] at he;obtain ⟨rfl,rfl,rfl⟩:=he;exact dD ba cI aW aQ aB a'
     | exit i=>
       simp only [pE] at he
       simp only [wM,Exit.inBlock]
       by_cases aG:i=id
       · rw [if_pos aG] at he ⊢
         simp only [jm.ok.injEq] at he;obtain ⟨rfl,rfl,rfl⟩:=he;exact dD ba cI aW aQ aB a'
       · rw [if_neg aG] at he ⊢
         simp only [jm.ok.injEq] at he;obtain ⟨rfl,rfl,rfl⟩:=he;exact dD ba cI aW aQ aB a'
 | loop x bN=>
   intro aZ r h e bT aa he E a w k s Q dD
   simp only [i_,Pq] at he
   cases bd:(i_ C bc x).run ex r h with
   | fail=>rw [bd] at he;cases he
   | ok aI aU ae=>
     rw [bd] at he
     simp only at he
     intro b fv cs
     have body:=(bN aZ r h aI aU ae bd E a w k s
      (fun fT cI aW=>fT=wM aI∧∃ba,E.le ba∧hH ba bc aU cI∧ck aZ ba ae aW) (fun ba cI aW aQ aB a'=>⟨rfl,ba,aQ,aB,a'⟩)).wp b (.inLoop x::fv) cs
     obtain ⟨bh,b3,dw,⟨rfl,eP,aQ,aB,a'⟩,qx⟩:=body
     cases aI with
     | normal=>
       have next:=hex bc (.loop x) aZ aU ae e bT aa he eP b3 dw aB a' Q (fun jZ a4 h2 t1 t2 t3=>dD jZ a4 h2 (aQ.trans t1) t2 t3)
       obtain ⟨cp,a3,hF,ca,b'⟩:=next b fv cs
       exact ⟨cp,a3,hF,ca,.of_steps (Steps.trans qx (.one step_inLoop)) b'⟩
     | exit id=>
       simp only [jm.ok.injEq] at he;obtain ⟨rfl,rfl,rfl⟩:=he
       exact ⟨.exit id,b3,dw,dD eP b3 dw aQ aB a',.pass (x:=.inLoop x) rfl (fun _ _=>.inl (by simp)) qx⟩
     | ret=>
       simp only [jm.ok.injEq] at he;obtain ⟨rfl,rfl,rfl⟩:=he
       exact ⟨.ret,b3,dw,dD eP b3 dw aQ aB a',.pass (x:=.inLoop x) rfl (fun _ _=>.inl (by simp)) qx⟩
 | scope x bN=>
   intro aZ r h e bT aa he E a w k s Q dD
   simp only [i_] at he
   refine wp_scope_straight (bN aZ r h e bT aa he E a w k s _ fun ba cI aW aQ aB a'=>?_).wp
   have:=dD ba cI aW aQ aB a'
   cases e<;>exact this
 | rangeFunc f ct x y _ _=>intro aZ r h e bT aa he;simp [i_] at he
 | goto l=>intro aZ r h e bT aa he;simp [i_] at he
 | refuse ag6=>intro aZ r h e bT aa he;simp [i_] at he
theorem Nv (eC:C.P.follows .mixedOrders=true) (e0:kE C.P) (jH:tG C):∀n,Eo C.P (exec C n)
 | 0=>fun bc c aZ r h e bT aa he=>by simp [exec] at he
 | n+1=>fun bc c=>VX eC e0 jH (Nv eC e0 jH n) bc c
theorem Vt (eC:C.P.follows .mixedOrders=true) (e0:kE C.P) (jH:tG C) (n:Nat):lq C.P (FC C n):=MR jH (Nv eC e0 jH n)
theorem Q9 (w:World) (hw:Lay.ok w):ck ⟨w,fun _=>none⟩ (fun _=>none) aj.empty w:=by
 refine ⟨fun b _=>?_,fun _ _ h=>(by cases h),(fun b b1 p nD _ _ h=>by cases h),fun _ _=>rfl,Below.refl _ _,hw,(fun _ _ _ _ _ _ h=>by cases h)⟩
 have:aj.empty.get b=.dead:=by simp [aj.get,aj.empty]
 rw [this]
 trivial
theorem agG (eC:C.P.follows .mixedOrders=true) (e0:kE C.P) {w:World} (hw:Lay.ok w) (jH:tG C) {n:Nat} {f:FuncId} (h:I5 C n f []=true):Calls C.P f #[] w fun e aW=>e=.returned (.bool true)∧Below w.heap.size w aW:=by
 unfold I5 at h
 cases aD:FC C n f [] aj.empty with
 | fail=>rw [aD] at h;cases h
 | val v c4=>
   rw [aD] at h
   simp only at h
   cases v<;>simp only at h<;>try (cases h;done)
   subst h
   have kj:∃fn,C.P.funcs[f]? =some fn∧fn.body.isSome=true:=Vs jH _ aD
   rcases Vt eC e0 jH n ⟨w,fun _=>none⟩ f [] aj.empty _ c4 aD (fun _=>none) w [] rfl (Q9 w hw) with ⟨_,kk⟩ | ⟨ba,x,aW,bd,_⟩
   case inr=>
    obtain ⟨fn,ae,ak⟩:=kj
    rw [IM e0 ae ak] at bd
    cases bd
   refine kk.mono fun e aW a2=>?_
   obtain ⟨ba,x,rfl,_,aB,a'⟩:=a2
   simp only [Rel] at aB
   subst aB
   exact ⟨rfl,a'.frame⟩
end
end Go.Proofs.YtjbiefneffiogaaGreat.bA
namespace Go.Proofs.YtjbiefneffiogaaGreat.bA
variable [Lay]
open Go Go.RowKit
inductive bs where
 | t (n:Nat)
 | c (v:V)
abbrev bV:=Nat→V
def bs.bu (r:bV):bs→V
 | .t n=>r n
 | .c v=>v
def bs.h7 (r:bV):List bs→List V
 | []=>[]
 | x::xs=>x.bu r::bs.h7 r xs
def rx:Operand→bs
 | .tmp t=>bif Nat.ble t top then .t t else .c .bad
 | .const v=>.c (iF v)
 | .func f=>.c (.func f [])
 | .global _=>.c .bad
def p8:List Operand→List bs
 | []=>[]
 | x::xs=>rx x::p8 xs
def bs.opt (r:bV):Option bs→Option V
 | none=>none
 | some x=>some (x.bu r)
def tm:Option Operand→Option bs
 | none=>none
 | some x=>some (rx x)
inductive eH where
 | int (op:BinOp)
 | str (op:BinOp)
 | shl
 | shr
 | zx (neg:Bool)
 | l' (neg:Bool) (k:Nat)
 | other (op:BinOp) (t:TypeId)
noncomputable def eH.run (P:Program):eH→V→V→Option V
 | .int op=>(lG op).run
 | .str op=>(tq op).run
 | .shl=>(wJ true).run
 | .shr=>(wJ false).run
 | .zx neg=>(kh neg ru).run
 | .l' neg k=>(kh neg (ij k)).run
 | .other op t=>(ql P op t).run
inductive tz where
 | int (k:IntKind)
 | bytes
 | str
 | other (s d:TypeId)
noncomputable def tz.run (P:Program):tz→V→aj→bH
 | .int k=>fun x h=>x.eX .fail fun _ n=>.val (.int k (k.wrap n)) h
 | .bytes=>zo.run
 | .str=>nT.run
 | .other s d=>(rr P s d).run
inductive fO where
 | int | str | bool
def fO.eq:fO→g6
 | .int=>oR
 | .str=>qt
 | .bool=>ru
inductive BU where
 | arr (n:Nat)
 | str
 | slice
 | map
inductive G where
 | bad
 | gQ (x:bs)
 | pick (c a b:bs)
 | new (z:List V)
 | box (x:bs)
 | build (z:List V) (ct:List (Nat × Nat × bs))
 | h5 (len size:Nat) (z:List V) (ct:List (Nat × Nat × bs))
 | b9 (x:bs)
 | gl (size:Nat) (x:bs)
 | st (size:Nat) (x y:bs)
 | s8 (x:bs)
 | bin (k:eH) (x y:bs)
 | un (op:UnOp) (x:bs)
 | jD (k:tz) (x:bs)
 | fn (f:FuncId) (k2:List bs)
 | vY (t:TypeId) (x:bs)
 | As (size:Nat) (z:List V) (l c:bs)
 | uR (x:bs) (cq aG fE:Option bs)
 | g_ (size:Nat) (x:bs) (cq aG fE:Option bs)
 | c2 (off:Nat) (x:bs)
 | vk (off:Nat) (x:bs)
 | vl (off size:Nat) (x:bs)
 | b_ (size:Nat) (x i:bs)
 | sX (n size:Nat) (x i:bs)
 | ux (x i:bs)
 | jh (t:TypeId) (x i:bs)
 | look (k:fO) (z:V) (ok:Bool) (x i:bs)
 | fk (k:fO) (m i x:bs)
 | rT (x:Option bs)
 | A0 (x:bs)
 | AA (x:bs)
 | ext (x:bs) (i:Nat)
 | call (f:FuncId) (args:List bs)
 | rq (f:bs) (args:List bs)
 | len (k:BU) (x:bs)
 | app (size:Nat) (s x:bs)
 | copy (size:Nat) (d s:bs)
 | gH (args:List bs)
 | fE (args:List bs)
 | Cc (z:List V) (x:bs)
def lD (r:bV):List (Nat × Nat × bs)→List (Nat × Nat × V)
 | []=>[]
 | (o,s,x)::ct=>(o,s,x.bu r)::lD r ct
def j6:List V→List (Nat × Nat × V)→Option (List V)
 | cells,[]=>some cells
 | cells,(off,size,v)::rest=>bif v.e3&&(Nat.beq v.cells.length size&&Nat.ble (off+v.cells.length) cells.length) then j6 (sJ cells off v.cells) rest else none
noncomputable def BU.run:BU→V→aj→bH
 | .arr n=>fun _ h=>.val (.int .i64 n) h
 | .str=>fun x h=>bH.of h ((p3 .string).run x)
 | .slice=>fun x h=>bH.of h ((p3 (.slice 0)).run x)
 | .map=>fun x h=>Ao [x] h
noncomputable def G.run (P:Program) (g:G) (call:gr) (r:bV) (h:aj):bH:=
 match g with
 | .bad=>.fail
 | .gQ x=>.val (x.bu r) h
 | .pick c a b=>match c.bu r with
   | .bool t=>.val (bif t then a.bu r else b.bu r) h
   | _=>.fail
 | .new z=>kP (.ptr (ao h.next) 0) (hO h z)
 | .box x=>bif (x.bu r).e3 then kP (.ptr (ao h.next) 0) (hO h (x.bu r).cells) else .fail
 | .build z ct=>(match j6 z (lD r ct) with
   | some cs=>.val (.agg cs) h
   | none=>.fail)
 | .h5 n _ z ct=>match j6 (hP z n) (lD r ct) with
   | some cs=>(match hO h cs with
     | some aa=>.val (.slice (ao h.next) 0 n n) aa
     | none=>.fail)
   | none=>.fail
 | .b9 x=>bH.of h (o8 h (x.bu r))
 | .gl n x=>bH.of h (o7 n h (x.bu r))
 | .st n x y=>kP .bad (A8 n h (x.bu r) (y.bu r))
 | .s8 x=>bH.of h (uE (x.bu r))
 | .bin k x y=>bH.of h (k.run P (x.bu r) (y.bu r))
 | .un op x=>bH.of h (r_ op (x.bu r))
 | .jD k x=>k.run P (x.bu r) h
 | .fn f k2=>.val (.func f (bs.h7 r k2)) h
 | .vY t x=>.val (.iface t (x.bu r)) h
 | .As n z l c=>Dj n z (l.bu r) (c.bu r) h
 | .uR x cq aG fY=>bH.of h (mx (x.bu r) (bs.opt r cq) (bs.opt r aG) (bs.opt r fY))
 | .g_ n x cq aG fY=>bH.of h (match x.bu r with
   | .ay=>wK (bs.opt r cq) (bs.opt r aG) (bs.opt r fY)
   | .slice b off wj cap=>p_ n b off wj cap (bs.opt r cq) (bs.opt r aG) (bs.opt r fY)
   | .ev b off wj idx=>pr n b off wj idx (bs.opt r cq) (bs.opt r aG) (bs.opt r fY)
   | .ia b off o_ idx=>yp b off o_ idx (bs.opt r cq) (bs.opt r aG) (bs.opt r fY)
   | _=>none)
 | .c2 off x=>bH.of h ((x.bu r).oe none fun b o=>some (.ptr b (o+off)))
 | .vk off x=>bH.of h (match x.bu r with
   | .agg cs=>cs[off]?
   | _=>none)
 | .vl off n x=>bH.of h (match x.bu r with
   | .agg cs=>some (.agg ((cs.drop off).take n))
   | _=>none)
 | .b_ n x i=>bH.of h ((v8 n).run (x.bu r) (i.bu r))
 | .sX n s x i=>bH.of h ((sZ n s).run (x.bu r) (i.bu r))
 | .ux x i=>bH.of h (qK.run (x.bu r) (i.bu r))
 | .jh t x i=>bH.of h ((s0 P t).run (x.bu r) (i.bu r))
 | .look k z ok x i=>bH.of h (ld k.eq z ok h (x.bu r) (i.bu r))
 | .fk k m i x=>kP .bad (lp k.eq h (m.bu r) (i.bu r) (x.bu r))
 | .rT x=>qQ (bs.opt r x) h
 | .A0 x=>(match x.bu r with
   | .str s=>.val (.ptr (ao h.next) 0) (h.new (.iter s 0))
   | _=>.fail)
 | .AA x=>Aw (x.bu r) h
 | .ext x i=>(match x.bu r with
   | .tuple ai=>bH.of h ai[i]?
   | _=>.fail)
 | .call f args=>call f (bs.h7 r args) h
 | .rq f args=>(f.bu r).AH fun g cs=>call g (bs.h7 r args++cs) h
 | .len k x=>k.run (x.bu r) h
 | .app n s x=>l6 n (s.bu r) (x.bu r) h
 | .copy n d s=>copyV n (d.bu r) (s.bu r) h
 | .gH args=>bH.of h (lQ (fun b a=>!Int.leB a b) (bs.h7 r args))
 | .fE args=>bH.of h (lQ (fun b a=>!Int.leB b a) (bs.h7 r args))
 | .Cc z x=>tR z (x.bu r) h
def IB (P:Program) (op:BinOp) (t:TypeId):eH:=
 match op with
 | .shl=>.shl
 | .shr=>.shr
 | op=>match bJ P t with
   | none=>.other op t
   | some a_=>match a_.b5 with
     | .int _=>.int op
     | .string=>.str op
     | .bool=>(match op with
       | .eql=>.zx false
       | .neq=>.zx true
       | _=>.other op t)
     | .pointer _=>(match op with
       | .eql=>.l' false 1
       | .neq=>.l' true 1
       | _=>.other op t)
     | .slice _=>(match op with
       | .eql=>.l' false 2
       | .neq=>.l' true 2
       | _=>.other op t)
     | .map _ _=>(match op with
       | .eql=>.l' false 3
       | .neq=>.l' true 3
       | _=>.other op t)
     | .func _ _ _=>(match op with
       | .eql=>.l' false 4
       | .neq=>.l' true 4
       | _=>.other op t)
     | _=>.other op t
def IF (P:Program) (op:BinOp) (t:TypeId) (lit:Bool):eH:=
 bif lit then (match bJ P t with
  | some a_=>match a_.b5 with
    | .interface _=>match op with
      | .eql=>.l' false 5
      | .neq=>.l' true 5
      | _=>.l' false 99
    | _=>.l' false 99
  | none=>.l' false 99) else IB P op t
def ID (P:Program) (s d:TypeId):tz:=
 match bJ P s,bJ P d with
 | some uQ,some pF=>match pF.b5 with
   | .int k=>.int k
   | .string=>match uQ.b5 with
     | .slice e=>match bJ P e with
       | some bO=>match bO.b5 with
         | .int .u8=>.str
         | _=>.other s d
       | none=>.other s d
     | _=>.other s d
   | .slice e=>match bJ P e with
     | some bO=>match bO.b5 with
       | .int .u8=>.bytes
       | _=>.other s d
     | none=>.other s d
   | _=>.other s d
 | _,_=>.other s d
def qV (place:Nat→Option (Nat × Nat)):List (Nat × Operand)→Option (List (Nat × Nat × bs))
 | []=>some []
 | (i,x)::ct=>match place i with
   | none=>none
   | some (off,size)=>match qV place ct with
     | none=>none
     | some l=>some ((off,size,rx x)::l)
def QL (P:Program) (t:TypeId) (ct:List (Nat × Operand)):G:=
 match bJ P t with
 | some a_=>match a_.zero with
   | some z=>match a_.b5 with
     | .struct bg=>bif Cr P bg.toList then (match qV (xA P bg) ct with
       | some l=>.build z.cells l
       | none=>.bad) else .bad
     | .array _ e=>match bJ P e with
       | some bO=>(match qV (fun i=>some (i * bO.size,bO.size)) ct with
         | some l=>.build z.cells l
         | none=>.bad)
       | none=>.bad
     | _=>.bad
   | none=>.bad
 | none=>.bad
def QO (P:Program) (t:TypeId) (len:Nat) (ct:List (Nat × Operand)):G:=
 match bJ P t with
 | some a_=>match a_.b5 with
   | .slice e=>match bJ P e with
     | some bO=>match bO.zero with
       | some z=>bif Nat.ble (len * bO.size) 1000000&&Nat.beq z.cells.length bO.size then
          (match qV (fun i=>some (i * bO.size,bO.size)) ct with
          | some l=>.h5 len bO.size z.cells l
          | none=>.bad) else .bad
       | none=>.bad
     | none=>.bad
   | _=>.bad
 | none=>.bad
def wc:TypeDesc→Option fO
 | .int _=>some .int
 | .string=>some .str
 | .bool=>some .bool
 | _=>none
def FH (P:Program) (t:TypeId):Option (List V):=
 match bJ P t with
 | some a_=>match a_.b5 with
   | .slice e=>match bJ P e with
     | some bO=>match bO.zero with
       | some z=>some z.cells
       | none=>none
     | none=>none
   | _=>none
 | none=>none
theorem VW (P:Program) (t:TypeId):zn P t=FH P t:=rfl
def IC (P:Program) (c:Call):G:=
 match c.callee with
 | .value (.func f)=>.call f (p8 c.args.toList)
 | .value x=>.rq (rx x) (p8 c.args.toList)
 | .invoke _ _=>.bad
 | .builtin b=>match b with
   | .len=>match c.argTypes.toList,c.args.toList with
     | [t],[x]=>(match bJ P t with
       | some a_=>(match a_.b5 with
         | .map _ _=>.len .map (rx x)
         | .array n _=>.len (.arr n) (rx x)
         | .string=>.len .str (rx x)
         | .slice _=>.len .slice (rx x)
         | _=>.bad)
       | none=>.bad)
     | _,_=>.bad
   | .append=>match c.argTypes.toList,c.args.toList with
     | [t,u],[s,x]=>(match bJ P t,bJ P u with
       | some a_,some tt=>(match tt.b5 with
         | .int _=>.bad
         | _=>match a_.b5 with
           | .slice e=>(match bJ P e with
             | none=>.bad
             | some bO=>match bO.zero with
               | none=>.bad
               | some z=>bif Nat.ble 1 bO.size&&Nat.ble bO.bytes 4096&&Nat.beq z.cells.length bO.size then .app bO.size (rx s) (rx x) else .bad)
           | _=>.bad)
       | _,_=>.bad)
     | _,_=>.bad
   | .copy=>match c.argTypes.toList,c.args.toList with
     | t::_,[d,s]=>(match bJ P t with
       | some a_=>(match a_.b5 with
         | .slice e=>(match bJ P e with
           | some bO=>.copy bO.size (rx d) (rx s)
           | none=>.bad)
         | _=>.bad)
       | none=>.bad)
     | _,_=>.bad
   | .min=>.gH (p8 c.args.toList)
   | .max=>.fE (p8 c.args.toList)
   | .clear=>match c.argTypes.toList,c.args.toList with
     | [t],[x]=>(match FH P t with
       | some z=>.Cc z (rx x)
       | none=>.bad)
     | _,_=>.bad
   | _=>.bad
def DN (P:Program) (op:Op):G:=
 match op with
 | .move x=>.gQ (rx x)
 | .assign x=>.gQ (rx x)
 | .pick c a b=>.pick (rx c) (rx a) (rx b)
 | .alloc t=>(match bJ P t with
   | some a_=>(match a_.zero with
     | some z=>.new z.cells
     | none=>.bad)
   | none=>.bad)
 | .box _ x=>.box (rx x)
 | .build t ct=>QL P t ct.toList
 | .buildSlice t n ct=>QO P t n ct.toList
 | .load t x=>(match bJ P t with
   | none=>.bad
   | some a_=>bif a_.agg then .gl a_.size (rx x) else bif Nat.beq a_.size 1 then .b9 (rx x) else .bad)
 | .store t x y=>(match bJ P t with
   | none=>.bad
   | some a_=>.st a_.size (rx x) (rx y))
 | .nilCheck x=>.s8 (rx x)
 | .binOp op t x y _=>.bin (IF P op t (rR x||rR y)) (rx x) (rx y)
 | .unOp op _ x=>.un op (rx x)
 | .convert s d x=>.jD (ID P s d) (rx x)
 | .makeFunc (.func f) first k2=>bif first.isEmpty then .fn f (p8 k2.toList) else .bad
 | .makeInterface t x=>(match bJ P t with
   | some a_=>bif Nat.beq (hy a_.b5) 5 then .bad else .vY t (rx x)
   | none=>.bad)
 | .makeSlice t l c=>(match bJ P t with
   | some a_=>(match a_.b5 with
     | .slice e=>(match bJ P e with
       | some bO=>(match bO.zero with
         | some z=>bif Nat.ble bO.bytes 4096 then .As bO.size z.cells (rx l) (rx c) else .bad
         | none=>.bad)
       | none=>.bad)
     | _=>.bad)
   | none=>.bad)
 | .slice t x cq aG fE=>(match bJ P t with
   | none=>.bad
   | some a_=>match a_.b5 with
     | .string=>.uR (rx x) (tm cq) (tm aG) (tm fE)
     | .slice e=>(match bJ P e with
       | none=>.bad
       | some bO=>.g_ bO.size (rx x) (tm cq) (tm aG) (tm fE))
     | _=>.bad)
 | .fieldAddr t x i=>(match rv P t i with
   | none=>.bad
   | some f=>match bJ P f.type with
     | none=>.bad
     | some nW=>bif Nat.beq nW.size 0 then .bad else .c2 f.offset (rx x))
 | .field t x i=>(match rv P t i with
   | none=>.bad
   | some f=>match bJ P f.type with
     | none=>.bad
     | some a_=>bif a_.agg then .vl f.offset a_.size (rx x) else .vk f.offset (rx x))
 | .indexAddr t x i=>(match bJ P t with
   | none=>.bad
   | some a_=>match a_.b5 with
     | .slice e=>(match bJ P e with
       | none=>.bad
       | some bO=>.b_ bO.size (rx x) (rx i))
     | .array n e=>(match bJ P e with
       | none=>.bad
       | some bO=>.sX n bO.size (rx x) (rx i))
     | _=>.bad)
 | .index t x i=>(match bJ P t with
   | none=>.bad
   | some a_=>match a_.b5 with
     | .string=>.ux (rx x) (rx i)
     | _=>.jh t (rx x) (rx i))
 | .range t x=>(match bJ P t with
   | some a_=>(match a_.b5 with
     | .string=>.A0 (rx x)
     | _=>.bad)
   | none=>.bad)
 | .next it true=>.AA (rx it)
 | .lookup t x k ok=>(match bJ P t with
   | some a_=>(match a_.b5 with
     | .map cf e=>(match bJ P cf with
       | some kt=>(match bJ P e with
         | some bO=>(match bO.zero with
           | some z=>(match wc kt.b5 with
             | some fv=>.look fv z ok (rx x) (rx k)
             | none=>.bad)
           | none=>.bad)
         | none=>.bad)
       | none=>.bad)
     | _=>.bad)
   | none=>.bad)
 | .mapUpdate t m k x | .insert t m k x=>(match bJ P t with
   | some a_=>(match a_.b5 with
     | .map cf _=>(match bJ P cf with
       | some kt=>(match wc kt.b5 with
         | some fv=>.fk fv (rx m) (rx k) (rx x)
         | none=>.bad)
       | none=>.bad)
     | _=>.bad)
   | none=>.bad)
 | .makeMap t x=>(match bJ P t with
   | some a_=>bif Nat.beq (hy a_.b5) 3 then .rT (tm x) else .bad
   | none=>.bad)
 | .extract x i=>.ext (rx x) i
 | .call c=>IC P c
 | _=>.bad
noncomputable def gm (ek:dc):bV:=fun t=>T.get .bad (ao t) ek
theorem hV (ek:dc) (x:Operand):(en x).run ek=(rx x).bu (gm ek):=by
 cases x with
 | tmp t=>
   simp only [en,rx]
   cases Nat.ble t top<;>rfl
 | const v=>rfl
 | func f=>rfl
 | global g=>rfl
theorem zy (ek:dc):∀xs:List Operand,(tX xs).run ek=bs.h7 (gm ek) (p8 xs)
 | []=>rfl
 | x::xs=>by simp only [tX,p8,bs.h7,hV,zy ek xs]
theorem Ik (ek:dc) (x:Option Operand):(rZ x).run ek=bs.opt (gm ek) (tm x):=by
 cases x with
 | none=>rfl
 | some x=>simp only [rZ,tm,bs.opt,hV]
theorem Cs (ek:dc) {place:Nat→Option (Nat × Nat)}:∀{ct:List (Nat × Operand)} {l:List (Nat × Nat × bs)},qV place ct=some l→∀cells,nX place cells ((uM ct).run ek)=j6 cells (lD (gm ek) l)
 | [],l,h,cells=>by
   simp only [qV,Option.some.injEq] at h
   subst h
   rfl
 | (i,x)::ct,l,h,cells=>by
   simp only [qV] at h
   cases aT:place i with
   | none=>rw [aT] at h;cases h
   | some os=>
     obtain ⟨off,size⟩:=os
     rw [aT] at h
     simp only at h
     cases aK:qV place ct with
     | none=>rw [aK] at h;cases h
     | some hL=>
       rw [aK] at h
       simp only [Option.some.injEq] at h
       subst h
       simp only [uM,nX,aT,lD,j6,hV]
       cases ((rx x).bu (gm ek)).e3&&(Nat.beq ((rx x).bu (gm ek)).cells.length size&&Nat.ble (off + ((rx x).bu (gm ek)).cells.length) cells.length) with
       | false=>rfl
       | true=>exact Cs ek aK _
section
variable {P:Program}
theorem aer (op:BinOp) (t:TypeId):(IB P op t).run P=(ql P op t).run:=by
 unfold IB ql
 cases op<;>first | rfl | skip
 all_goals
  cases aJ:bJ P t with
  | none=>simp only [eH.run];unfold ql;rw [aJ]
  | some a_=>
    simp only
    cases hu:a_.b5<;>first | rfl | (simp only [eH.run];unfold ql;rw [aJ];simp only [hu];done) | (simp only [eH.run];unfold qu jq;simp only [aJ,hu];first | done | rfl)
theorem aeu (op:BinOp) (t:TypeId) (lit:Bool):(IF P op t lit).run P=(ze P op t lit).run:=by
 unfold IF ze
 cases lit with
 | false=>simp only [cond_false];exact aer op t
 | true=>
   simp only [cond_true]
   cases bJ P t with
   | none=>rfl
   | some a_=>
     simp only
     cases a_.b5<;>first | rfl | (cases op<;>rfl)
theorem aet (s d:TypeId):(ID P s d).run P=(rr P s d).run:=by
 unfold ID
 split
 · rename_i uQ pF aM cc
   split
   · rename_i k hu
     simp only [tz.run];unfold rr;rw [aM,cc];simp only [hu]
   · rename_i hu
     split
     · rename_i e bk
       split
       · rename_i bO he
         split
         · rename_i hw
           simp only [tz.run];unfold rr;rw [aM,cc];simp only [hu,bk,he,hw]
         · rfl
       · rfl
     · rfl
   · rename_i e hu
     split
     · rename_i bO he
       split
       · rename_i hw
         simp only [tz.run];unfold rr;rw [aM,cc];simp only [hu,he,hw]
       · rfl
     · rfl
   · rfl
 · rfl
theorem HJ {d:TypeDesc} {fv:fO} (h:wc d=some fv):wb d=true∧p0 d=fv.eq:=by
 cases d<;>simp only [wc] at h<;>first | (cases h;done) | (cases h;exact ⟨rfl,rfl⟩)
theorem aes {c:Call} {call:gr} {ek:dc} {h aa:aj} {v:V} (he:(IC P c).run P call (gm ek) h=.val v aa):(tQ P c).run call ek h=.val v aa:=by
 unfold IC at he
 unfold tQ
 split at he
 · rename_i f aD
   rw [aD]
   simp only [G.run] at he
   simpa only [en,tW,V.AH,zy,List.append_nil] using he
 · rename_i x az aD
   rw [aD]
   simp only [G.run] at he
   simpa only [hV,zy] using he
 · cases he
 · rename_i b aD
   rw [aD]
   simp only [zy]
   cases b<;>simp only at he<;>try (cases he;done)
   case len=>
    split at he
    · rename_i t x aJ az
      cases qG:bJ P t with
      | none=>rw [qG] at he;cases he
      | some a_=>
        rw [qG] at he
        simp only at he
        simp only [sz,aJ,qG,az,p8,bs.h7]
        cases hu:a_.b5<;>rw [hu] at he<;>first | (cases he;done) | (simpa only [uw,cond_true,cond_false,G.run,BU.run,p3,bH.of] using he)
    · cases he
   case append=>
    split at he
    · rename_i t u s x aJ az
      split at he
      · rename_i a_ tt qG Af
        simp only [sz,aJ,az,p8,bs.h7,BY,qG,Af]
        split at he
        · cases he
        · rename_i g3
          split at he
          · rename_i e dy
            cases gX:bJ P e with
            | none=>rw [gX] at he;cases he
            | some bO=>
              rw [gX] at he
              simp only at he
              cases bI:bO.zero with
              | none=>rw [bI] at he;cases he
              | some z=>
                rw [bI] at he
                simp only at he
                cases ah:(Nat.ble 1 bO.size&&Nat.ble bO.bytes 4096&&Nat.beq z.cells.length bO.size) with
                | false=>rw [ah] at he;cases he
                | true=>
                  rw [ah] at he
                  simp only [cond_true,G.run] at he
                  cases Zg:tt.b5<;>first
                   | (exact absurd Zg (g3 _))
                   | (simp only [dy,gX,bI,ah,cond_true];exact he)
          · cases he
      · cases he
    · cases he
   case copy=>
    split at he
    · rename_i t dt d s aJ az
      cases qG:bJ P t with
      | none=>rw [qG] at he;cases he
      | some a_=>
        rw [qG] at he
        simp only at he
        split at he
        · rename_i e dy
          cases gX:bJ P e with
          | none=>rw [gX] at he;cases he
          | some bO=>
            rw [gX] at he
            simp only [G.run] at he
            simp only [sz,aJ,az,p8,bs.h7,Ce,qG,dy,gX]
            exact he
        · cases he
    · cases he
   case min=>exact he
   case max=>exact he
   case clear=>
    split at he
    · rename_i t x aJ az
      cases aD:FH P t with
      | none=>rw [aD] at he;cases he
      | some z=>
        rw [aD] at he
        simp only [G.run] at he
        simp only [sz,aJ,az,p8,bs.h7,VW,aD]
        exact he
    · cases he
theorem QM {o:Oper} {call:gr} {ek:dc} {h aa:aj} {v:V} (he:(DN P o.op).run P call (gm ek) h=.val v aa):(ja P o).run call ek h=.val v aa:=by
 obtain ⟨dst,op,type,pos,after,guard⟩:=o
 cases op<;>simp only [DN] at he<;>try (cases he;done)
 all_goals simp only [ja]
 case move x=>simpa only [hV,G.run] using he
 case assign x=>simpa only [hV,G.run] using he
 case pick c a b=>
  simp only [hV,G.run] at he ⊢
  generalize (rx c).bu (gm ek)=q at he ⊢
  cases q<;>exact he
 case alloc t=>
  cases aJ:bJ P t with
  | none=>rw [aJ] at he;cases he
  | some a_=>
    rw [aJ] at he
    simp only at he ⊢
    cases bI:a_.zero with
    | none=>rw [bI] at he;cases he
    | some z=>rw [bI] at he;exact he
 case box t x=>simpa only [hV,G.run] using he
 case build t ct=>
  unfold QL at he
  unfold B6
  cases aJ:bJ P t with
  | none=>rw [aJ] at he;cases he
  | some a_=>
    rw [aJ] at he
    simp only at he ⊢
    cases bI:a_.zero with
    | none=>rw [bI] at he;cases he
    | some z=>
      rw [bI] at he
      simp only at he ⊢
      cases hu:a_.b5<;>rw [hu] at he<;>simp only at he ⊢<;>try (cases he;done)
      · rename_i n e
        cases gX:bJ P e with
        | none=>rw [gX] at he;cases he
        | some bO=>
          rw [gX] at he
          simp only at he ⊢
          cases aT:qV (fun i=>some (i * bO.size,bO.size)) ct.toList with
          | none=>rw [aT] at he;cases he
          | some l=>
            rw [aT] at he
            simp only [G.run] at he
            rw [Cs ek aT]
            cases av:j6 z.cells (lD (gm ek) l) with
            | none=>rw [av] at he;cases he
            | some cs=>rw [av] at he;exact he
      · rename_i bg
        cases an:Cr P bg.toList with
        | false=>rw [an] at he;cases he
        | true=>
          rw [an] at he
          simp only [cond_true] at he ⊢
          cases aT:qV (xA P bg) ct.toList with
          | none=>rw [aT] at he;cases he
          | some l=>
            rw [aT] at he
            simp only [G.run] at he
            rw [Cs ek aT]
            cases av:j6 z.cells (lD (gm ek) l) with
            | none=>rw [av] at he;cases he
            | some cs=>rw [av] at he;exact he
 case buildSlice t n ct=>
  unfold QO at he
  unfold vh
  cases aJ:bJ P t with
  | none=>rw [aJ] at he;cases he
  | some a_=>
    rw [aJ] at he
    simp only at he ⊢
    cases hu:a_.b5<;>rw [hu] at he<;>simp only at he ⊢<;>try (cases he;done)
    rename_i e
    cases gX:bJ P e with
    | none=>rw [gX] at he;cases he
    | some bO=>
      rw [gX] at he
      simp only at he ⊢
      cases bI:bO.zero with
      | none=>rw [bI] at he;cases he
      | some z=>
        rw [bI] at he
        simp only at he ⊢
        cases ah:(Nat.ble (n * bO.size) 1000000&&Nat.beq z.cells.length bO.size) with
        | false=>rw [ah] at he;cases he
        | true=>
          rw [ah] at he
          simp only [cond_true] at he ⊢
          cases aT:qV (fun i=>some (i * bO.size,bO.size)) ct.toList with
          | none=>rw [aT] at he;cases he
          | some l=>
            rw [aT] at he
            simp only [G.run] at he
            rw [Cs ek aT]
            exact he
 case load t x=>
  unfold wk
  cases aJ:bJ P t with
  | none=>rw [aJ] at he;cases he
  | some a_=>
    rw [aJ] at he
    simp only at he ⊢
    cases bU:a_.agg with
    | true=>rw [bU] at he;simpa only [cond_true,hV,G.run] using he
    | false=>
      rw [bU] at he
      simp only [cond_false] at he ⊢
      cases aM:Nat.beq a_.size 1 with
      | true=>rw [aM] at he;simpa only [cond_true,hV,G.run] using he
      | false=>rw [aM] at he;cases he
 case store t x y=>
  unfold A7
  cases aJ:bJ P t with
  | none=>rw [aJ] at he;cases he
  | some a_=>rw [aJ] at he;simpa only [hV,G.run] using he
 case nilCheck x=>simpa only [hV,G.run] using he
 case binOp op t x y t2=>simpa only [hV,G.run,aeu] using he
 case unOp op t x=>simpa only [hV,G.run] using he
 case convert s d x=>simpa only [hV,G.run,aet] using he
 case makeFunc fn first k2=>
  cases fn<;>simp only at he<;>try (cases he;done)
  simp only
  cases av:first.isEmpty with
  | false=>rw [av] at he;cases he
  | true=>rw [av] at he;simpa only [cond_true,zy,G.run] using he
 case makeInterface t x=>
  cases aJ:bJ P t with
  | none=>rw [aJ] at he;cases he
  | some a_=>
    rw [aJ] at he
    simp only at he ⊢
    cases ah:Nat.beq (hy a_.b5) 5 with
    | true=>rw [ah] at he;cases he
    | false=>rw [ah] at he;simpa only [cond_false,hV,G.run] using he
 case makeSlice t l c=>
  unfold Di
  cases aJ:bJ P t with
  | none=>rw [aJ] at he;cases he
  | some a_=>
    rw [aJ] at he
    simp only at he ⊢
    cases hu:a_.b5<;>rw [hu] at he<;>simp only at he ⊢<;>try (cases he;done)
    rename_i e
    cases gX:bJ P e with
    | none=>rw [gX] at he;cases he
    | some bO=>
      rw [gX] at he
      simp only at he ⊢
      cases bI:bO.zero with
      | none=>rw [bI] at he;cases he
      | some z=>
        rw [bI] at he
        simp only at he ⊢
        cases ah:Nat.ble bO.bytes 4096 with
        | false=>rw [ah] at he;cases he
        | true=>rw [ah] at he;simpa only [cond_true,hV,G.run] using he
 case slice t x cq aG fY=>
  unfold DY
  cases aJ:bJ P t with
  | none=>rw [aJ] at he;cases he
  | some a_=>
    rw [aJ] at he
    simp only at he ⊢
    cases hu:a_.b5<;>rw [hu] at he<;>simp only at he ⊢<;>try (cases he;done)
    · simpa only [hV,Ik,G.run] using he
    · rename_i e
      cases gX:bJ P e with
      | none=>rw [gX] at he;cases he
      | some bO=>
        rw [gX] at he
        simp only [hV,Ik,G.run] at he ⊢
        generalize (rx x).bu (gm ek)=q at he ⊢
        cases q<;>exact he
 case fieldAddr t x i=>
  unfold Cp
  cases av:rv P t i with
  | none=>rw [av] at he;cases he
  | some f=>
    rw [av] at he
    simp only at he ⊢
    cases aJ:bJ P f.type with
    | none=>rw [aJ] at he;cases he
    | some nW=>
      rw [aJ] at he
      simp only at he ⊢
      cases ah:Nat.beq nW.size 0 with
      | true=>rw [ah] at he;cases he
      | false=>rw [ah] at he;simpa only [cond_false,hV,G.run] using he
 case field t x i=>
  unfold Cq
  cases av:rv P t i with
  | none=>rw [av] at he;cases he
  | some f=>
    rw [av] at he
    simp only [tc] at he ⊢
    cases aJ:bJ P f.type with
    | none=>rw [aJ] at he;cases he
    | some nW=>
      rw [aJ] at he
      simp only at he ⊢
      cases ah:nW.agg with
      | true=>
        rw [ah] at he
        simp only [cond_true,hV,G.run] at he ⊢
        generalize (rx x).bu (gm ek)=q at he ⊢
        cases q<;>exact he
      | false=>
        rw [ah] at he
        simp only [cond_false,hV,G.run] at he ⊢
        generalize (rx x).bu (gm ek)=q at he ⊢
        cases q<;>exact he
 case indexAddr t x i=>
  unfold C6
  cases aJ:bJ P t with
  | none=>rw [aJ] at he;cases he
  | some a_=>
    rw [aJ] at he
    simp only at he ⊢
    cases hu:a_.b5<;>rw [hu] at he<;>simp only at he ⊢<;>try (cases he;done)
    all_goals
     rename_i e
     cases gX:bJ P e with
     | none=>rw [gX] at he;cases he
     | some bO=>rw [gX] at he;simpa only [hV,G.run] using he
 case index t x i=>
  cases aJ:bJ P t with
  | none=>rw [aJ] at he;cases he
  | some a_=>
    rw [aJ] at he
    simp only at he
    cases hu:a_.b5<;>rw [hu] at he<;>simp only [G.run] at he
    case string=>
     unfold s0
     rw [aJ]
     simp only [hu]
     simpa only [hV] using he
    all_goals simpa only [hV] using he
 case range t x=>
  unfold DH
  cases aJ:bJ P t with
  | none=>rw [aJ] at he;cases he
  | some a_=>
    rw [aJ] at he
    simp only at he ⊢
    cases hu:a_.b5<;>rw [hu] at he<;>simp only at he ⊢<;>try (cases he;done)
    simp only [hV,G.run] at he ⊢
    generalize (rx x).bu (gm ek)=q at he ⊢
    cases q<;>exact he
 case next it b=>
  cases b<;>simp only at he<;>try (cases he;done)
  simpa only [hV,G.run] using he
 case lookup t x k ok=>
  unfold Dg
  cases aJ:bJ P t with
  | none=>rw [aJ] at he;cases he
  | some a_=>
    rw [aJ] at he
    simp only at he ⊢
    cases hu:a_.b5<;>rw [hu] at he<;>simp only at he ⊢<;>try (cases he;done)
    rename_i cf e
    cases an:bJ P cf with
    | none=>rw [an] at he;cases he
    | some kt=>
      rw [an] at he
      simp only at he ⊢
      cases gX:bJ P e with
      | none=>rw [gX] at he;cases he
      | some bO=>
        rw [gX] at he
        simp only at he ⊢
        cases bI:bO.zero with
        | none=>rw [bI] at he;cases he
        | some z=>
          rw [bI] at he
          simp only at he ⊢
          cases gG:wc kt.b5 with
          | none=>rw [gG] at he;cases he
          | some fv=>
            rw [gG] at he
            obtain ⟨aQ,aB⟩:=HJ gG
            simp only [aQ,aB,cond_true]
            simpa only [hV,G.run] using he
 case mapUpdate t m k x=>
  unfold uT
  cases aJ:bJ P t with
  | none=>rw [aJ] at he;cases he
  | some a_=>
    rw [aJ] at he
    simp only at he ⊢
    cases hu:a_.b5<;>rw [hu] at he<;>simp only at he ⊢<;>try (cases he;done)
    rename_i cf e
    cases an:bJ P cf with
    | none=>rw [an] at he;cases he
    | some kt=>
      rw [an] at he
      simp only at he ⊢
      cases gG:wc kt.b5 with
      | none=>rw [gG] at he;cases he
      | some fv=>
        rw [gG] at he
        obtain ⟨aQ,aB⟩:=HJ gG
        simp only [aQ,aB,cond_true]
        simpa only [hV,G.run] using he
 case insert t m k x=>
  unfold uT
  cases aJ:bJ P t with
  | none=>rw [aJ] at he;cases he
  | some a_=>
    rw [aJ] at he
    simp only at he ⊢
    cases hu:a_.b5<;>rw [hu] at he<;>simp only at he ⊢<;>try (cases he;done)
    rename_i cf e
    cases an:bJ P cf with
    | none=>rw [an] at he;cases he
    | some kt=>
      rw [an] at he
      simp only at he ⊢
      cases gG:wc kt.b5 with
      | none=>rw [gG] at he;cases he
      | some fv=>
        rw [gG] at he
        obtain ⟨aQ,aB⟩:=HJ gG
        simp only [aQ,aB,cond_true]
        simpa only [hV,G.run] using he
 case makeMap t x=>
  unfold x8
  cases aJ:bJ P t with
  | none=>rw [aJ] at he;cases he
  | some a_=>
    rw [aJ] at he
    simp only at he ⊢
    cases ah:Nat.beq (hy a_.b5) 3 with
    | false=>rw [ah] at he;cases he
    | true=>rw [ah] at he;simpa only [cond_true,Ik,G.run] using he
 case extract x i=>
  simp only [hV,G.run] at he ⊢
  generalize (rx x).bu (gm ek)=q at he ⊢
  cases q<;>exact he
 case call c=>exact aes he
end
end Go.Proofs.YtjbiefneffiogaaGreat.bA
namespace Go.Proofs.YtjbiefneffiogaaGreat.bA
variable [Lay]
open Go Go.RowKit
def lr (P:Program) (f:FuncId) (args:List V) (h:aj) (v:V) (aa:aj):Prop:=
 ((∃fn,P.funcs[f]? =some fn∧fn.body.isSome=true)∧∀(aZ:Fr) E w xs,bY E args xs→ck aZ E h w→
   Calls P f xs.toArray w fun e aW=>∃ba x,e=.returned x∧E.le ba∧Rel ba v x∧ck aZ ba aa aW)∨
 ∀(aZ:Fr) E w xs,bY E args xs→ck aZ E h w→∃ba x aW,(callFunc f xs.toArray).run P w=.ok (.value x) aW∧E.le ba∧Rel ba v x∧ck aZ ba aa aW
theorem lr.calls {P:Program} (e0:kE P) {f:FuncId} {args:List V} {h aa:aj} {v:V} (H:lr P f args h v aa) (ah:∃fn,P.funcs[f]? =some fn∧fn.body.isSome=true) (aZ:Fr) (E:Env) (w:World) (xs:List Value) (az:bY E args xs) (s:ck aZ E h w):
 Calls P f xs.toArray w fun e aW=>∃ba x,e=.returned x∧E.le ba∧Rel ba v x∧ck aZ ba aa aW:=by
 rcases H with ⟨_,H⟩ | H
 · exact H aZ E w xs az s
 · obtain ⟨ba,x,aW,bd,_⟩:=H aZ E w xs az s
   obtain ⟨fn,ae,ak⟩:=ah
   rw [IM e0 ae ak] at bd
   cases bd
def bB (P:Program) (f:FuncId) (args:List V) (h:aj) (K:V→aj→Prop):Prop:=∃v aa,lr P f args h v aa∧K v aa
theorem bB.mono {P:Program} {f:FuncId} {args:List V} {h:aj} {K aO:V→aj→Prop} (c:bB P f args h K) (an:∀v aa,K v aa→aO v aa):bB P f args h aO:=by
 obtain ⟨v,aa,aQ,aB⟩:=c
 exact ⟨v,aa,aQ,an v aa aB⟩
def od:gr:=fun _ _ _=>.fail
theorem Dt (P:Program):lq P od∧lY P od:=
 ⟨fun _ f args h v aa he=>by simp [od] at he,fun f args h v aa he=>by simp [od] at he⟩
open Classical in
noncomputable def AM (f:FuncId) (args:List V) (h:aj) (v:V) (aa:aj):gr:=
 fun f1 bw ae=>if f1=f∧bw=args∧ae=h then .val v aa else .fail
theorem P2 {P:Program} {f:FuncId} {args:List V} {h aa:aj} {v:V} (H:lr P f args h v aa):lq P (AM f args h v aa)∧lY P (AM f args h v aa):=by
 refine ⟨fun aZ f1 bw ae v1 dN he=>?_,fun f1 bw ae v1 dN he=>?_⟩
 · unfold AM at he
   split at he
   · rename_i aD
     obtain ⟨rfl,rfl,rfl⟩:=aD
     simp only [bH.val.injEq] at he
     obtain ⟨rfl,rfl⟩:=he
     intro E w xs az s
     rcases H with H | H
     · exact .inl ⟨H.1,H.2 aZ E w xs az s⟩
     · exact .inr (H aZ E w xs az s)
   · cases he
 · trivial
theorem P3 {f:FuncId} {args:List V} {h aa:aj} {v:V}:AM f args h v aa f args h=.val v aa:=by
 unfold AM
 rw [if_pos ⟨rfl,rfl,rfl⟩]
def bV.set (r:bV) (d:Option Nat) (v:V):bV:=
 match d with
 | none=>r
 | some d=>fun t=>if t=d then v else r t
def bV.trim (r:bV):List Nat→bV
 | [],_=>.bad
 | u::us,t=>if t=u then r t else bV.trim r us t
def bV.aq:List V→bV
 | [],_=>.bad
 | v::ai,t=>if t=0 then v else bV.aq ai (t-1)
noncomputable def A_ (r:bV):List Nat→dc
 | []=>.e
 | t::dt=>T.put .bad (r t) (ao t) (A_ r dt)
theorem Rw (r:bV):∀dt:List Nat,gm (A_ r dt)=bV.trim r dt
 | []=>by funext t;simp [gm,A_,bV.trim]
 | u::dt=>by
   funext t
   have bN:=congrFun (Rw r dt) t
   simp only [gm] at bN
   simp only [gm,A_,bV.trim,T.oT]
   by_cases h:t=u
   · subst h;simp
   · rw [if_neg (fun e=>h (og e).symm),if_neg h]
     exact bN
theorem D7 (ek:dc):∀dt:List Nat,gm (kT ek dt)=bV.trim (gm ek) dt
 | []=>by funext t;simp [gm,kT,bV.trim]
 | u::dt=>by
   funext t
   have bN:=congrFun (D7 ek dt) t
   simp only [gm] at bN
   simp only [gm,kT,bV.trim,T.oT]
   by_cases h:t=u
   · subst h;simp
   · rw [if_neg (fun e=>h (og e).symm),if_neg h]
     exact bN
theorem D8 {r:bV}:∀{dt:List Nat} {t:Nat},t ∈ dt→bV.trim r dt t=r t
 | [],t,h=>by simp at h
 | u::dt,t,h=>by
   simp only [bV.trim]
   by_cases hu:t=u
   · rw [if_pos hu]
   · rw [if_neg hu]
     simp only [List.mem_cons] at h
     exact D8 (h.resolve_left hu)
theorem Ry {r:bV}:∀{dt:List Nat} {t:Nat},t ∉ dt→bV.trim r dt t=.bad
 | [],t,_=>rfl
 | u::dt,t,h=>by
   simp only [List.mem_cons,not_or] at h
   simp only [bV.trim]
   rw [if_neg h.1]
   exact Ry h.2
theorem Qu (d:Option Nat) (ek:dc) (v:V):gm ((mo d).run ek v)=(gm ek).set d v:=by
 cases d with
 | none=>rfl
 | some d=>
   funext t
   simp only [gm,mo,bV.set,T.oT]
   by_cases h:t=d
   · subst h;simp
   · rw [if_neg (fun e=>h (og e).symm),if_neg h]
def Out (bc:Nat) (r:bV):Prop:=∀t,bc≤t→r t=.bad
theorem FU {bc:Nat} {r:bV} (bD:Out bc r):∃ek,gm ek=r:=by
 refine ⟨A_ r (List.range bc),?_⟩
 rw [Rw]
 funext t
 by_cases h:t<bc
 · exact D8 (List.mem_range.2 h)
 · rw [Ry (by simpa using h),bD t (by omega)]
theorem Out.set {bc:Nat} {r:bV} (bD:Out bc r) {d:Option Nat} (cc:kf bc d=true) (v:V):Out bc (r.set d v):=by
 intro t aJ
 cases d with
 | none=>exact bD t aJ
 | some d=>
   simp only [kf,Bool.and_eq_true,Nat.blt_eq] at cc
   simp only [bV.set]
   rw [if_neg (by omega)]
   exact bD t aJ
structure mL (E:Env) (bc:Nat) (r:bV) (a:Act):Prop where
 size:a.tmps.size=bc
 defers:a.defers=[]
 ag:∀t,Rel E (r t) (a.tmps.getD t undef)
theorem mL.mono {E ba:Env} (h:E.le ba) {bc:Nat} {r:bV} {a:Act} (k:mL E bc r a):mL ba bc r a:=
 ⟨k.size,k.defers,fun t=>Rel.mono h _ _ (k.ag t)⟩
theorem mL.put {E ba:Env} (h:E.le ba) {bc:Nat} {r:bV} {a:Act} (k:mL E bc r a) {d:Option Nat} (cc:kf bc d=true) {v:V} {x:Value} (az:Rel ba v x):mL ba bc (r.set d v) (a.put d x):=by
 cases d with
 | none=>exact k.mono h
 | some d=>
   simp only [kf,Bool.and_eq_true,Nat.blt_eq] at cc
   refine ⟨by simp [Act.put,k.size],by simp [Act.put,k.defers],fun t=>?_⟩
   simp only [bV.set,Act.put]
   rw [Array.getD_eq_getD_getElem?,Array.getElem?_setIfInBounds]
   by_cases aJ:t=d
   · subst aJ
     rw [if_pos rfl,if_pos rfl,if_pos (by rw [k.size];exact cc.1)]
     exact az
   · rw [if_neg aJ,if_neg (fun e=>aJ e.symm),←Array.getD_eq_getD_getElem?]
     exact Rel.mono h _ _ (k.ag t)
noncomputable def G.wp (P:Program) (g:G) (r:bV) (h:aj) (K:V→aj→Prop):Prop:=
 match g with
 | .call f args=>bB P f (bs.h7 r args) h K
 | .rq f args=>∃g cs,f.bu r=.func g cs∧bB P g (bs.h7 r args++cs) h K
 | g=>∃v aa,g.run P od r h=.val v aa∧K v aa
theorem G.yy {P:Program} {g:G} {r:bV} {h:aj} {K:V→aj→Prop} (H:g.wp P r h K):∃call v aa,(lq P call∧lY P call)∧g.run P call r h=.val v aa∧K v aa:=by
 cases g
 case call f args=>
  obtain ⟨v,aa,aQ,aB⟩:=H
  exact ⟨_,v,aa,P2 aQ,P3,aB⟩
 case rq f args=>
  obtain ⟨g,cs,av,v,aa,aQ,aB⟩:=H
  refine ⟨_,v,aa,P2 aQ,?_,aB⟩
  simp only [G.run,av,V.AH]
  exact P3
 all_goals
  obtain ⟨v,aa,aQ,aB⟩:=H
  exact ⟨od,v,aa,Dt P,aQ,aB⟩
structure br where
 dst:Option Nat
 g:G
 W2:Option (Nat × Bool)
 rs:List Nat
def br.bad:br:=⟨none,.bad,none,[]⟩
def gate (v:V) (want:Bool) (A B:Prop):Prop:=
 match v with
 | .bool b=>(b=want→A)∧(b=!want→B)
 | .tuple _=>B
 | _=>False
noncomputable def br.wp (P:Program) (o:br) (r:bV) (h:aj) (K:bV→V→aj→Prop):Prop:=
 match o.W2 with
 | none=>o.g.wp P (r.trim o.rs) h fun v aa=>K (r.set o.dst v) v aa
 | some (d,want)=>gate (r.trim o.rs d) want (o.g.wp P (r.trim o.rs) h fun v aa=>K (r.set o.dst v) v aa) (K (r.set o.dst (.tuple [])) (.tuple []) h)
def DO (P:Program) (bc:Nat) (all:Array Oper) (o:Oper):br:=
 bif kf bc o.dst&&r2 (g5 all o) then
  match o.guard with
  | none=>⟨o.dst,DN P o.op,none,g5 all o⟩
  | some (j,want)=>match all[j]? with
    | some g=>match g.dst with
      | some d=>bif Nat.blt d bc&&Nat.ble d top then ⟨o.dst,DN P o.op,some (d,want),g5 all o⟩ else br.bad
      | none=>br.bad
    | none=>br.bad
 else br.bad
def tk (P:Program) (bc:Nat) (all:Array Oper):List Oper→List br
 | []=>[]
 | o::os=>DO P bc all o::tk P bc all os
theorem QN (P:Program) (bc:Nat) (all:Array Oper):∀l:List Oper,tk P bc all l=l.map (DO P bc all)
 | []=>rfl
 | o::os=>by simp [tk,QN P bc all os]
theorem br.B2 {P:Program} {r:bV} {h:aj} {K:bV→V→aj→Prop}:¬br.bad.wp P r h K:=by
 rintro ⟨v,aa,q,_⟩
 cases q
theorem br.yy {P:Program} {bc:Nat} {all:Array Oper} {o:Oper} {r:bV} {h:aj} {K:bV→V→aj→Prop} (H:(DO P bc all o).wp P r h K):
 ∃call v aa,(lq P call∧lY P call)∧kf bc o.dst=true∧K (r.set o.dst v) v aa∧∀ek,gm ek=r→(hI P bc all o).run call ek h=.val v aa:=by
 unfold DO at H
 cases aD:(kf bc o.dst&&r2 (g5 all o)) with
 | false=>rw [aD] at H;exact absurd H br.B2
 | true=>
   have cc:kf bc o.dst=true:=by simp only [Bool.and_eq_true] at aD;exact aD.1
   rw [aD] at H
   simp only [cond_true] at H
   cases bp:o.guard with
   | none=>
     rw [bp] at H
     obtain ⟨call,v,aa,aQ,aB,a'⟩:=G.yy H
     refine ⟨call,v,aa,aQ,cc,a',fun ek cr=>?_⟩
     unfold hI
     rw [aD]
     simp only [cond_true,bp,nU]
     refine QM ?_
     rw [D7,cr]
     exact aB
   | some s4=>
     obtain ⟨j,want⟩:=s4
     rw [bp] at H
     simp only at H
     cases bS:all[j]? with
     | none=>rw [bS] at H;exact absurd H br.B2
     | some g=>
       rw [bS] at H
       simp only at H
       cases j8:g.dst with
       | none=>rw [j8] at H;exact absurd H br.B2
       | some d=>
         rw [j8] at H
         simp only at H
         cases ah:(Nat.blt d bc&&Nat.ble d top) with
         | false=>rw [ah] at H;exact absurd H br.B2
         | true=>
           rw [ah] at H
           simp only [cond_true,br.wp] at H
           have key:hI P bc all o=⟨nU (some (pJ (ao d),want)) (ja P o) (g5 all o)⟩:=by
            unfold hI
            rw [aD]
            simp only [cond_true,bp,bS,j8,ah]
           have Gy:∀ek,gm ek=r→(pJ (ao d)).run (kT ek (g5 all o))=r.trim (g5 all o) d:=by
            intro ek cr
            rw [←cr,←D7]
            rfl
           cases bk:r.trim (g5 all o) d<;>rw [bk] at H<;>simp only [gate] at H
           case bool b=>
            by_cases zM:b=want
            · obtain ⟨call,v,aa,aQ,aB,a'⟩:=G.yy (H.1 zM)
              refine ⟨call,v,aa,aQ,cc,a',fun ek cr=>?_⟩
              rw [key]
              simp only [nU,Gy ek cr,bk]
              rw [show (bif want then b else !b)=true from by subst zM;cases b<;>rfl]
              simp only [cond_true]
              refine QM ?_
              rw [D7,cr]
              exact aB
            · have qz:b=!want:=by cases b<;>cases want<;>simp_all
              refine ⟨od,.tuple [],h,Dt P,cc,H.2 qz,fun ek cr=>?_⟩
              rw [key]
              simp only [nU,Gy ek cr,bk]
              rw [show (bif want then b else !b)=false from by subst qz;cases want<;>rfl]
              rfl
           case tuple ai=>
            refine ⟨od,.tuple [],h,Dt P,cc,H,fun ek cr=>?_⟩
            rw [key]
            simp only [nU,Gy ek cr,bk]
noncomputable def tv (P:Program):List br→bV→aj→(bV→aj→Prop)→Prop
 | [],r,h,K=>K r h
 | o::os,r,h,K=>o.wp P r h fun bT _ aa=>tv P os bT aa K
structure hb where
 r:bV
 h:aj
 v:V
noncomputable def mC (P:Program):List br→bV→aj→(List hb→bV→aj→Prop)→Prop
 | [],r,h,K=>K [] r h
 | o::os,r,h,K=>o.wp P r h fun bT v aa=>mC P os bT aa fun es h1 av=>K (⟨r,h,v⟩::es) h1 av
def xN (es:List hb) (av:aj) (i:Nat):aj:=
 match es[i]? with
 | some e=>e.h
 | none=>av
noncomputable def sx (P:Program) (o:Option br) (e:Option hb) (es:List hb) (av:aj):List Nat→Prop
 | []=>True
 | s::gY=>(match o,e with
   | some o,some e=>o.wp P e.r (xN es av s) fun _ dg _=>dg=e.v
   | _,_=>False)∧sx P o e es av gY
noncomputable def qj (P:Program) (ops:List br) (es:List hb) (av:aj):List (Nat × List Nat)→Prop
 | []=>True
 | (p,gY)::rest=>sx P ops[p]? es[p]? es av gY∧qj P ops es av rest
inductive bE where
 | bad
 | skip
 | ag (ops:List br)
 | draw (ops:List br) (asks:List (Nat × List Nat))
 | seq (a b:bE)
 | cond (c:bs) (a b:bE)
 | block (id:Nat) (b:bE)
 | loop (b:bE)
 | exit (id:Nat)
 | ret
def xn (P:Program) (ops:List Oper) (e2 bo gW:List Nat):Nat→List Oper→List (Nat × List Nat)
 | _,[]=>[]
 | i,o::os=>bif looks o.op&&!jg P o.op then
    (posOf bo i,gW.filter (wq P e2 ops bo i ((e2[i]?).getD 0)))::xn P ops e2 bo gW (i+1) os
   else xn P ops e2 bo gW (i+1) os
def IE (P:Program) (bc:Nat) (ops:Array Oper) (order bo:List Nat):bE:=
 bif yl ops.size order bo&&xr P ops bo then
  .draw (tk P bc ops (p4 ops order)) (bif sv P ops.toList then xn P ops.toList (lI [] ops.toList) bo (mm P bo 0 ops.toList) 0 ops.toList else [])
 else .bad
def m_ (P:Program) (bc:Nat):Code→bE
 | .skip=>.skip
 | .label _=>.skip
 | .region _ ops draw=>bif draw then IE P bc ops (AN P ops) (DB (AN P ops) 0 ops.toList) else .ag (tk P bc ops ops.toList)
 | .seq a b=>.seq (m_ P bc a) (m_ P bc b)
 | .cond c a b=>.cond (rx c) (m_ P bc a) (m_ P bc b)
 | .block id b=>.block id (m_ P bc b)
 | .loop b=>.loop (m_ P bc b)
 | .exit id=>.exit id
 | .ret=>.ret
 | .scope b=>m_ P bc b
 | _=>.bad
def cW.andThen:cW→Prop→Prop→Prop
 | .normal,A,_=>A
 | _,_,B=>B
def cW.leave (id:Nat):cW→cW
 | .exit i=>if i=id then .normal else .exit i
 | e=>e
noncomputable def jk (P:Program):bE→bV→aj→(cW→bV→aj→Prop)→Prop
 | .bad,_,_,_=>False
 | .skip,r,h,Q=>Q .normal r h
 | .ag ops,r,h,Q=>tv P ops r h (Q .normal)
 | .draw ops asks,r,h,Q=>mC P ops r h fun es h1 av=>qj P ops es av asks∧Q .normal h1 av
 | .seq a b,r,h,Q=>jk P a r h fun e bT aa=>e.andThen (jk P b bT aa Q) (Q e bT aa)
 | .cond c a b,r,h,Q=>match c.bu r with
   | .bool t=>(t=true→jk P a r h Q)∧(t=false→jk P b r h Q)
   | _=>False
 | .block id b,r,h,Q=>jk P b r h fun e bT aa=>Q (e.leave id) bT aa
 | .loop b,r,h,Q=>∃(I:bV→aj→Prop) (μ:bV→aj→Nat),I r h∧∀r h,I r h→jk P b r h fun e bT aa=>e.andThen (I bT aa∧μ bT aa<μ r h) (Q e bT aa)
 | .exit id,r,h,Q=>Q (.exit id) r h
 | .ret,r,h,Q=>Q .ret r h
def Ek (P:Program) (bc:Nat) (c:Code) (r:bV) (h:aj) (e:cW) (bT:bV) (aa:aj):Prop:=
 ∀(aZ:Fr) E a w,mL E bc r a→ck aZ E h w→∀Q:Exit→Act→World→Prop,
  (∀ba cI aW,E.le ba→mL ba bc bT cI→ck aZ ba aa aW→Q (wM e) cI aW)→Ee P c Q a w
section
variable {P:Program} {bc:Nat}
theorem RY (e0:kE P) {all:Array Oper}:∀(l:List Oper) (i:Nat),(∀j,l[j]? =all[i+j]?)→∀(r:bV) (h:aj) (K:bV→aj→Prop),Out bc r→tv P (tk P bc all l) r h K→
 ∃bT aa,K bT aa∧Out bc bT∧∀(aZ:Fr) E a w,mL E bc r a→ck aZ E h w→∀Q:Exit→Act→World→Prop,
  (∀ba cI aW,E.le ba→mL ba bc bT cI→ck aZ ba aa aW→Q .normal cI aW)→wpOps P all Q (List.range' i l.length) a w
 | [],i,_,r,h,K,bD,H=>by
   refine ⟨r,h,H,bD,fun aZ E a w k s Q dD=>?_⟩
   simp only [List.length_nil,List.range'_zero,wpOps]
   exact dD E a w (Env.le.refl E) k s
 | o::os,i,aK,r,h,K,bD,H=>by
   have aG:all[i]? =some o:=by have:=aK 0;simpa using this.symm
   simp only [tk,tv] at H
   obtain ⟨call,v,ae,aD,cc,H1,eS⟩:=br.yy H
   obtain ⟨bm,ak,aQ,aB,a'⟩:=RY e0 os (i+1) (fun j=>by
    have:=aK (j+1)
    simp only [List.getElem?_cons_succ] at this
    rw [this]
    congr 1
    omega) _ ae K (bD.set cc v) H1
   refine ⟨bm,ak,aQ,aB,fun aZ E a w k s Q dD=>?_⟩
   obtain ⟨ek,cr⟩:=FU bD
   rw [List.length_cons,List.range'_succ,wpOps_cons]
   refine Cf e0 aD.1 aD.2 aG (eS ek cr) k.size k.defers (fun t _=>?_) s fun ba x aW ca b' cE=>?_
   · have:=congrFun cr t
     simp only [gm] at this
     rw [this]
     exact k.ag t
   · exact a' aZ ba _ aW (k.put ca cc b') cE Q fun eP b3 dw ff e9 z3=>dD eP b3 dw (ca.trans ff) e9 z3
noncomputable def Ru (e:jN):hb:=⟨gm e.r,e.h,e.v⟩
theorem XT (es:List jN) (av:aj) (i:Nat):xN (es.map Ru) av i=eW es av i:=by
 unfold xN eW
 rw [List.getElem?_map]
 cases es[i]? <;>rfl
theorem RX {all:Array Oper}:∀(l:List Oper) (oG:dc) (h:aj) (K:List hb→bV→aj→Prop),mC P (tk P bc all l) (gm oG) h K→Out bc (gm oG)→
 ∃es rj av,K (es.map Ru) (gm rj) av∧Out bc (gm rj)∧es.length=l.length∧eW es av 0=h∧kR es rj 0=oG∧
  ∀j o,l[j]? =some o→∃e call,es[j]? =some e∧(lq P call∧lY P call)∧(hI P bc all o).run call e.r e.h=.val e.v (eW es av (j+1))∧kR es rj (j+1)=(mo o.dst).run e.r e.v
 | [],oG,h,K,H,bD=>⟨[],oG,h,H,bD,rfl,rfl,rfl,fun j o bS=>by simp at bS⟩
 | o::os,oG,h,K,H,bD=>by
   simp only [tk,mC] at H
   obtain ⟨call,v,ae,aD,cc,H1,eS⟩:=br.yy H
   rw [←Qu] at H1
   obtain ⟨es,rj,av,aQ,aB,a',cn,ea,fy⟩:=RX os _ ae _ H1 (by rw [Qu];exact bD.set cc v)
   refine ⟨⟨oG,h,v⟩::es,rj,av,aQ,aB,by simp [a'],by simp [eW],by simp [kR],fun j dP bS=>?_⟩
   cases j with
   | zero=>
     simp only [List.getElem?_cons_zero,Option.some.injEq] at bS
     subst bS
     exact ⟨⟨oG,h,v⟩,call,rfl,aD,by rw [CM,cn];exact eS oG rfl,by rw [DJ,ea]⟩
   | succ j=>
     obtain ⟨e,c,ca,b',cE,fR⟩:=fy j dP (by simpa using bS)
     exact ⟨e,c,by simpa using ca,b',by rw [CM];exact cE,by rw [DJ];exact fR⟩
theorem J0 {o:Option br} {e:Option hb} {es:List hb} {av:aj}:∀{gY:List Nat},sx P o e es av gY→∀s ∈ gY,∃dP fT,o=some dP∧e=some fT∧dP.wp P fT.r (xN es av s) fun _ dg _=>dg=fT.v
 | [],_,s,h=>by simp at h
 | ir::gY,H,s,hm=>by
   simp only [sx] at H
   simp only [List.mem_cons] at hm
   rcases hm with rfl | hm
   · cases o with
     | none=>exact H.1.elim
     | some o=>
       cases e with
       | none=>exact H.1.elim
       | some e=>exact ⟨o,e,rfl,rfl,H.1⟩
   · exact J0 H.2 s hm
theorem J2 {ops:List Oper} {e2 bo gW:List Nat} {gs:List br} {es:List hb} {av:aj}:∀{l:List Oper} {i:Nat},qj P gs es av (xn P ops e2 bo gW i l)→∀j o,l[j]? =some o→looks o.op=true→jg P o.op=false→
 sx P gs[posOf bo (i+j)]? es[posOf bo (i+j)]? es av (gW.filter (wq P e2 ops bo (i+j) ((e2[i+j]?).getD 0)))
 | [],i,_,j,o,h,_,_=>by simp at h
 | dP::os,i,H,j,o,h,ae,ak=>by
   simp only [xn] at H
   cases j with
   | zero=>
     simp only [List.getElem?_cons_zero,Option.some.injEq] at h
     subst h
     rw [ae,ak] at H
     simp only [Bool.not_false,Bool.and_true,cond_true,qj] at H
     exact H.1
   | succ j=>
     have jx:qj P gs es av (xn P ops e2 bo gW (i+1) os):=by
      cases aD:(looks dP.op&&!jg P dP.op) with
      | true=>rw [aD] at H;simp only [cond_true,qj] at H;exact H.2
      | false=>rw [aD] at H;exact H
     have:=J2 jx j o (by simpa using h) ae ak
     rw [show i+1+j=i + (j+1) from by omega] at this
     exact this
theorem Wk (qD:bc≤top) (eC:P.follows .mixedOrders=true) (e0:kE P) {id:Nat} {ops:Array Oper} {order bo:List Nat} {r:bV} {h:aj} {Q:cW→bV→aj→Prop} (bD:Out bc r)
 (H:jk P (IE P bc ops order bo) r h Q):∃bT aa,Q .normal bT aa∧Out bc bT∧Ek P bc (.region id ops true) r h .normal bT aa:=by
 unfold IE at H
 cases av:(yl ops.size order bo&&xr P ops bo) with
 | false=>rw [av] at H;exact H.elim
 | true=>
   rw [av] at H
   simp only [cond_true,jk] at H
   simp only [Bool.and_eq_true] at av
   obtain ⟨rH,xO⟩:=av
   unfold yl at rH
   simp only [Bool.and_eq_true,Nat.beq_eq] at rH
   obtain ⟨GX,YD,GY,GZ⟩:=rH
   have nE:∀k,k<ops.size→posOf bo k<ops.size∧order[posOf bo k]? =some k:=by
    intro k an
    have bp:bo[k]? =some (posOf bo k):=by
     unfold posOf
     rw [List.getElem?_eq_getElem (by omega)]
     rfl
    have:=AS GY bp
    rw [Nat.zero_add] at this
    exact ⟨by have:=(List.getElem?_eq_some_iff.1 this).1;omega,this⟩
   have uK:∀p,p<ops.size→∃i,i<ops.size∧posOf bo i=p:=by
    intro p aT
    have bp:order[p]? =some (order[p]'(by omega)):=List.getElem?_eq_getElem (by omega)
    have:=AS GZ bp
    rw [Nat.zero_add] at this
    refine ⟨order[p]'(by omega),by have:=(List.getElem?_eq_some_iff.1 this).1;omega,?_⟩
    unfold posOf
    rw [this]
    rfl
   obtain ⟨oG,zJ⟩:=FU bD
   rw [←zJ] at H bD
   obtain ⟨es,rj,c4,⟨Gm,dD⟩,CU,aQ,aB,a',cn⟩:=RX _ oG h _ H bD
   refine ⟨_,c4,dD,CU,fun aZ E a w k s kc XD=>?_⟩
   have step:∀i:Nat,∃call,(lq P call∧lY P call)∧∀o,ops[i]? =some o→∃e,es[posOf bo i]? =some e∧(hI P bc ops o).run call e.r e.h=.val e.v (eW es c4 (posOf bo i+1))∧kR es rj (posOf bo i+1)=(mo o.dst).run e.r e.v:=by
    intro i
    cases aG:ops[i]? with
    | none=>exact ⟨od,Dt P,fun o h=>by cases h⟩
    | some o=>
      obtain ⟨e,call,ca,b',cE,fR⟩:=cn _ o (yj (nE i (Array.getElem?_eq_some_iff.1 aG).1).2 aG)
      exact ⟨call,b',fun dP xS=>by cases xS;exact ⟨e,ca,cE,fR⟩⟩
   obtain ⟨calls,xL⟩:=Classical.axiomOfChoice step
   have Gl:∀j o,ops[j]? =some o→looks o.op=true→jg P o.op=false→∃e,es[posOf bo j]? =some e∧∀s ∈ mm P bo 0 ops.toList,
    wq P (lI [] ops.toList) ops.toList bo j (((lI [] ops.toList)[j]?).getD 0) s=true→∃c aa,(lq P c∧lY P c)∧(hI P bc ops o).run c e.r (eW es c4 s)=.val e.v aa:=by
    intro j o CQ fq XZ
    have bS:=(Array.getElem?_eq_some_iff.1 CQ).1
    obtain ⟨e,ca,b',cE⟩:=(xL j).2 o CQ
    refine ⟨e,ca,fun s aM hm=>?_⟩
    cases aK:sv P ops.toList with
    | true=>
      rw [aK] at Gm
      simp only [cond_true] at Gm
      have:=J2 Gm j o (by simpa using CQ) fq XZ
      rw [Nat.zero_add] at this
      obtain ⟨dP,fT,ff,e9,z3⟩:=J0 this s (List.mem_filter.2 ⟨aM,hm⟩)
      rw [QN,List.getElem?_map,yj (nE j bS).2 CQ] at ff
      simp only [Option.map_some,Option.some.injEq] at ff
      rw [List.getElem?_map,ca] at e9
      simp only [Option.map_some,Option.some.injEq] at e9
      subst ff;subst e9
      rw [XT] at z3
      obtain ⟨c,v,aa,tw,_,wT,Bi⟩:=br.yy z3
      have RZ:=Bi e.r rfl
      rw [show v=e.v from wT] at RZ
      exact ⟨c,aa,tw,RZ⟩
    | false=>
      have none:∀(l:List Oper),sv P l=false→∀(j:Nat) (o:Oper),l[j]? =some o→jg P o.op=false:=by
       intro l
       induction l with
       | nil=>intro _ j o h;simp at h
       | cons x l bN=>
         intro h j o bD
         simp only [sv,Bool.or_eq_false_iff] at h
         cases j with
         | zero=>simp only [List.getElem?_cons_zero,Option.some.injEq] at bD;subst bD;exact h.1
         | succ j=>exact bN h.2 j o (by simpa using bD)
      have mg:s=ops.size:=by
       rcases Ap aM with h | ⟨C9,dP,ae,ak,aC⟩
       · simpa using h
       · have:=none _ aK C9 dP ae
         unfold h9 at ak
         rw [this] at ak
         cases ak
      have flat:∀d,d≤ops.size→eW es c4 d=eW es c4 0:=by
       intro d
       induction d with
       | zero=>intro _;rfl
       | succ d bN=>
         intro cc
         obtain ⟨i,pS,qB⟩:=uK d (by omega)
         have fC:ops[i]? =some ops[i]:=Array.getElem?_eq_getElem pS
         obtain ⟨Wn,dL,dw,_⟩:=(xL i).2 ops[i] fC
         rw [qB] at dL dw
         have g3:jg P ops[i].op=false:=none _ aK i _ (by simp)
         rw [(zt g3 dw).1,←bN (by omega)]
         simp [eW,dL]
      have YK:=(nE j bS).1
      have:e.h=eW es c4 s:=by rw [mg,flat ops.size (Nat.le_refl _),←flat (posOf bo j) (by omega)];simp [eW,ca]
      rw [←this]
      exact ⟨_,_,(xL j).1,b'⟩
   have C:Cert P bc ops calls es oG h rj c4 (mm P bo 0 ops.toList) order bo:=
    ⟨by rw [aQ,Ij,GX],nE,uK,aB,a',fun i o fC=>(xL i).2 o fC,xO,
      by simpa using HR (P:=P) (bo:=bo) (l:=ops.toList) (i:=0),
      fun j o ae ak=>by simpa using HS (bo:=bo) (i:=0) (j:=j) (l:=ops.toList) (by simpa using ae) ak,
      fun s aM=>by
       rcases Ap aM with h | ⟨j,o,ae,ak,aC⟩
       · exact .inl (by simpa using h)
       · exact .inr ⟨j,o,by simpa using ae,ak,by simpa using aC⟩,
      Gl⟩
   have an:hH E bc oG a:=⟨k.size,k.defers,fun t _=>by
    have:=congrFun zJ t
    simp only [gm] at this
    rw [this]
    exact k.ag t⟩
   have gb:∀k,¬(Array.replicate ops.size false).getD k false=true:=by
    intro k
    rw [xD,Array.getElem?_replicate]
    split<;>simp
   have mX:Holds aZ aZ es c4 bo (lv ops es c4 bo (Array.replicate ops.size false) 0):=
    ⟨rfl,fun _ _=>rfl,fun k an=>(by obtain ⟨_,_,_,_,al⟩:=an;omega),fun k cf an=>(by obtain ⟨_,_,_,_,al⟩:=an;omega)⟩
   obtain ⟨ir,iy,bF,bz,cL,gy,ik,oS⟩:=C.advance ops.size 0 (by omega) (fun k o _ _ _=>gb k) aZ mX (E:=E) (w:={w with drawn:=w.drawn}) (by rw [aB];exact s.same rfl rfl rfl rfl)
   have fin:∀ba cI aW,E.le ba→hH ba bc rj cI→ck aZ ba c4 aW→kc .normal cI aW:=by
    intro ba cI aW ff e9 z3
    refine XD ba cI aW ff ⟨e9.size,e9.defers,fun t=>?_⟩ z3
    by_cases aJ:t≤top
    · exact e9.ag t aJ
    · have gd:=e9.size
      rw [CU t (by omega)]
      simp [Rel]
   refine wp_region_any eC (Nf e0 (fun i=>(xL i).1.1) (fun i=>(xL i).1.2) C (kA:=E) fin ops.size _ a _ ?_ ?_)
   · exact Nat.le_trans List.countP_le_length (by simp)
   · refine ⟨by simp,an.size,an.defers,fun cf o e an=>absurd an (gb cf),E,ir,iy,Env.le.refl E,bF,cL,fun cf o ae ak=>⟨fun h=>absurd h (gb cf),fun h=>by have:=gy cf o ae ak (Nat.zero_le _);omega⟩,
      fun cf o _ _ h=>absurd h (gb cf),ik,?_,fun t aJ=>.inr ⟨fun cf o an=>absurd an (gb cf),an.ag t aJ⟩⟩
     exact oS.same rfl rfl rfl rfl
theorem ag_ (qD:bc≤top) (eC:P.follows .mixedOrders=true) (e0:kE P):∀(c:Code) (r:bV) (h:aj) (Q:cW→bV→aj→Prop),Out bc r→jk P (m_ P bc c) r h Q→
 ∃e bT aa,Q e bT aa∧Out bc bT∧Ek P bc c r h e bT aa:=by
 intro c
 induction c with
 | skip=>
   intro r h Q bD H
   exact ⟨.normal,r,h,H,bD,fun aZ E a w k s kc dD=>wp_skip (dD E a w (Env.le.refl E) k s)⟩
 | label l=>
   intro r h Q bD H
   exact ⟨.normal,r,h,H,bD,fun aZ E a w k s kc dD=>wp_label (dD E a w (Env.le.refl E) k s)⟩
 | exit id=>
   intro r h Q bD H
   exact ⟨.exit id,r,h,H,bD,fun aZ E a w k s kc dD=>wp_exit (dD E a w (Env.le.refl E) k s)⟩
 | ret=>
   intro r h Q bD H
   exact ⟨.ret,r,h,H,bD,fun aZ E a w k s kc dD=>wp_ret (dD E a w (Env.le.refl E) k s)⟩
 | region id ops draw=>
   intro r h Q bD H
   cases draw with
   | true=>
     simp only [m_,cond_true] at H
     obtain ⟨bT,aa,aQ,aB,a'⟩:=Wk qD eC e0 (id:=id) bD H
     exact ⟨.normal,bT,aa,aQ,aB,a'⟩
   | false=>
     simp only [m_,cond_false,jk] at H
     obtain ⟨bT,aa,aQ,aB,a'⟩:=RY e0 ops.toList 0 (fun j=>by simp) r h _ bD H
     refine ⟨.normal,bT,aa,aQ,aB,fun aZ E a w k s kc dD=>?_⟩
     refine wp_region ?_
     have:=a' aZ E a w k s kc dD
     rw [List.range_eq_range']
     simpa using this
 | seq x y vZ v7=>
   intro r h Q bD H
   simp only [m_,jk] at H
   obtain ⟨e,aU,ae,aQ,aB,a'⟩:=vZ r h _ bD H
   cases e with
   | normal=>
     obtain ⟨e,bm,ak,ca,b',cE⟩:=v7 aU ae Q aB aQ
     refine ⟨e,bm,ak,ca,b',fun aZ E a w k s kc dD=>?_⟩
     refine wp_seq (a' aZ E a w k s _ fun ba cI aW ff e9 z3=>?_).wp
     exact (cE aZ ba cI aW e9 z3 kc fun eP b3 dw tw wS wT=>dD eP b3 dw (ff.trans tw) wS wT).wp
   | exit i=>
     refine ⟨.exit i,aU,ae,aQ,aB,fun aZ E a w k s kc dD=>?_⟩
     refine wp_seq (a' aZ E a w k s _ fun ba cI aW ff e9 z3=>?_).wp
     exact dD ba cI aW ff e9 z3
   | ret=>
     refine ⟨.ret,aU,ae,aQ,aB,fun aZ E a w k s kc dD=>?_⟩
     refine wp_seq (a' aZ E a w k s _ fun ba cI aW ff e9 z3=>?_).wp
     exact dD ba cI aW ff e9 z3
 | cond c x y vZ v7=>
   intro r h Q bD H
   simp only [m_,jk] at H
   cases bk:(rx c).bu r<;>rw [bk] at H<;>simp only at H<;>try (exact H.elim)
   rename_i t
   have aD:∀E a,mL E bc r a→a.eval c=.bool t:=by
    intro E a k
    cases c with
    | tmp d=>
      simp only [rx] at bk
      cases ah:Nat.ble d top with
      | false=>rw [ah] at bk;simp [bs.bu] at bk
      | true=>
        rw [ah] at bk
        simp only [cond_true,bs.bu] at bk
        have:=k.ag d
        rw [bk] at this
        simp only [Rel] at this
        exact this
    | const v=>
      simp only [rx,bs.bu] at bk
      have:=wy E v
      rw [bk] at this
      simp only [Rel] at this
      exact this
    | func f=>simp [rx,bs.bu] at bk
    | global g=>simp [rx,bs.bu] at bk
   cases t with
   | true=>
     obtain ⟨e,aU,ae,aQ,aB,a'⟩:=vZ r h Q bD (H.1 rfl)
     exact ⟨e,aU,ae,aQ,aB,fun aZ E a w k s kc dD=>wp_cond_true (aD E a k) (a' aZ E a w k s kc dD).wp⟩
   | false=>
     obtain ⟨e,aU,ae,aQ,aB,a'⟩:=v7 r h Q bD (H.2 rfl)
     exact ⟨e,aU,ae,aQ,aB,fun aZ E a w k s kc dD=>wp_cond_false (aD E a k) (a' aZ E a w k s kc dD).wp⟩
 | block id x bN=>
   intro r h Q bD H
   simp only [m_,jk] at H
   obtain ⟨e,aU,ae,aQ,aB,a'⟩:=bN r h _ bD H
   refine ⟨e.leave id,aU,ae,aQ,aB,fun aZ E a w k s kc dD=>?_⟩
   refine wp_block (a' aZ E a w k s _ fun ba cI aW ff e9 z3=>?_).wp
   cases e with
   | normal=>exact dD ba cI aW ff e9 z3
   | ret=>exact dD ba cI aW ff e9 z3
   | exit i=>
     have:=dD ba cI aW ff e9 z3
     simp only [wM,Exit.inBlock]
     simp only [cW.leave] at this
     by_cases aG:i=id
     · rw [if_pos aG] at this ⊢;exact this
     · rw [if_neg aG] at this ⊢;exact this
 | loop x bN=>
   intro r h Q bD H
   simp only [m_,jk] at H
   obtain ⟨I,μ,Gg,YT⟩:=H
   have key:∀n r h,μ r h=n→I r h→Out bc r→∃e bT aa,Q e bT aa∧Out bc bT∧Ek P bc (.loop x) r h e bT aa:=by
    intro n
    induction n using Nat.strongRecOn with
    | _ n ZH=>
      intro r h a7 Gg bD
      obtain ⟨e,aU,ae,aQ,aB,a'⟩:=bN r h _ bD (YT r h Gg)
      have body:∀(aZ:Fr) E a w,mL E bc r a→ck aZ E h w→∀b fv cs,∃cI aW ba,E.le ba∧mL ba bc aU cI∧ck aZ ba ae aW∧Arrives P (lone (b.at a (.code x::.inLoop x::fv)) cs w) b (.inLoop x::fv) cs (wM e) cI aW:=by
       intro aZ E a w k s b fv cs
       have:=(a' aZ E a w k s (fun fT cI aW=>fT=wM e∧∃ba,E.le ba∧mL ba bc aU cI∧ck aZ ba ae aW) (fun ba cI aW aQ aB a'=>⟨rfl,ba,aQ,aB,a'⟩)).wp b (.inLoop x::fv) cs
       obtain ⟨bh,b3,dw,⟨rfl,eP,ff,e9,z3⟩,qx⟩:=this
       exact ⟨b3,dw,eP,ff,e9,z3,qx⟩
      cases e with
      | normal=>
        obtain ⟨XA,aX⟩:=aQ
        obtain ⟨bh,bm,ak,ca,b',cE⟩:=ZH (μ aU ae) (a7 ▸ aX) aU ae rfl XA aB
        refine ⟨bh,bm,ak,ca,b',fun aZ E a w k s kc dD b fv cs=>?_⟩
        obtain ⟨b3,dw,eP,ff,e9,z3,qx⟩:=body aZ E a w k s b fv cs
        obtain ⟨cp,a3,hF,tw,wS⟩:=cE aZ eP b3 dw e9 z3 kc (fun jZ a4 h2 t1 t2 t3=>dD jZ a4 h2 (ff.trans t1) t2 t3) b fv cs
        exact ⟨cp,a3,hF,tw,.of_steps (Steps.trans qx (.one step_inLoop)) wS⟩
      | exit i=>
        refine ⟨.exit i,aU,ae,aQ,aB,fun aZ E a w k s kc dD b fv cs=>?_⟩
        obtain ⟨b3,dw,eP,ff,e9,z3,qx⟩:=body aZ E a w k s b fv cs
        exact ⟨.exit i,b3,dw,dD eP b3 dw ff e9 z3,.pass (x:=.inLoop x) rfl (fun _ _=>.inl (by simp)) qx⟩
      | ret=>
        refine ⟨.ret,aU,ae,aQ,aB,fun aZ E a w k s kc dD b fv cs=>?_⟩
        obtain ⟨b3,dw,eP,ff,e9,z3,qx⟩:=body aZ E a w k s b fv cs
        exact ⟨.ret,b3,dw,dD eP b3 dw ff e9 z3,.pass (x:=.inLoop x) rfl (fun _ _=>.inl (by simp)) qx⟩
   exact key _ r h rfl Gg bD
 | scope x bN=>
   intro r h Q bD H
   obtain ⟨e,aU,ae,aQ,aB,a'⟩:=bN r h Q bD H
   refine ⟨e,aU,ae,aQ,aB,fun aZ E a w k s kc dD=>?_⟩
   refine wp_scope_straight (a' aZ E a w k s _ fun ba cI aW ff e9 z3=>?_).wp
   have:=dD ba cI aW ff e9 z3
   cases e<;>exact this
 | rangeFunc f ct x y _ _=>intro r h Q bD H;exact H.elim
 | goto l=>intro r h Q bD H;exact H.elim
 | refuse ag6=>intro r h Q bD H;exact H.elim
inductive y6 where
 | t (n:Nat)
 | cl (n:Nat)
 | k3 (n size:Nat)
 | bad
def q1 (P:Program) (bc:Nat):List ResultVar→List y6
 | []=>[]
 | .tmp t::rs=>(bif Nat.ble t top&&Nat.blt t bc then .t t else .bad)::q1 P bc rs
 | .cell a t::rs=>(bif Nat.ble a top&&Nat.blt a bc then (match bJ P t with
   | none=>.bad
   | some a_=>bif a_.agg then .k3 a a_.size else bif Nat.beq a_.size 1 then .cl a else .bad) else .bad)::q1 P bc rs
noncomputable def fb (r:bV) (h:aj):List y6→Option (List V)
 | []=>some []
 | x::xs=>match (match x with
   | .t n=>some (r n)
   | .cl n=>o8 h (r n)
   | .k3 n size=>o7 size h (r n)
   | .bad=>none) with
   | none=>none
   | some v=>match fb r h xs with
     | none=>none
     | some ai=>some (v::ai)
theorem Ck {r:bV} {h:aj} {ek:dc} (cr:gm ek=r):∀{l:List ResultVar} {ai:List V},fb r h (q1 P bc l)=some ai→(m' P bc l).run ek h=some ai
 | [],ai,he=>by simpa [fb,q1,m'] using he
 | .tmp t::rs,ai,he=>by
   simp only [q1,fb] at he
   unfold m'
   cases aD:(Nat.ble t top&&Nat.blt t bc) with
   | false=>rw [aD] at he;simp at he
   | true=>
     rw [aD] at he
     simp only [cond_true] at he ⊢
     cases bd:fb r h (q1 P bc rs) with
     | none=>rw [bd] at he;cases he
     | some wO=>
       rw [bd] at he
       rw [Ck cr bd]
       have:=congrFun cr t
       simp only [gm] at this
       rw [this]
       exact he
 | .cell a t::rs,ai,he=>by
   simp only [q1,fb] at he
   unfold m'
   cases aD:(Nat.ble a top&&Nat.blt a bc) with
   | false=>rw [aD] at he;simp at he
   | true=>
     rw [aD] at he
     simp only [cond_true] at he ⊢
     have OF:=congrFun cr a
     simp only [gm] at OF
     rw [OF]
     unfold wk
     cases aJ:bJ P t with
     | none=>rw [aJ] at he;simp at he
     | some a_=>
       rw [aJ] at he
       simp only at he ⊢
       cases N4:a_.agg with
       | true=>
         rw [N4] at he
         simp only [cond_true] at he ⊢
         cases aK:o7 a_.size h (r a) with
         | none=>rw [aK] at he;cases he
         | some v=>
           rw [aK] at he
           simp only at he ⊢
           cases bd:fb r h (q1 P bc rs) with
           | none=>rw [bd] at he;cases he
           | some wO=>rw [bd] at he;rw [Ck cr bd];exact he
       | false=>
         rw [N4] at he
         simp only [cond_false] at he ⊢
         cases aM:Nat.beq a_.size 1 with
         | false=>rw [aM] at he;simp at he
         | true=>
           rw [aM] at he
           simp only [cond_true] at he ⊢
           cases aK:o8 h (r a) with
           | none=>rw [aK] at he;cases he
           | some v=>
             rw [aK] at he
             simp only at he ⊢
             cases bd:fb r h (q1 P bc rs) with
             | none=>rw [bd] at he;cases he
             | some wO=>rw [bd] at he;rw [Ck cr bd];exact he
theorem Ic:∀(l:List V) (t:Nat),bV.aq l t=(l[t]?).getD .bad
 | [],t=>by simp [bV.aq]
 | v::ai,t=>by
   simp only [bV.aq]
   cases t with
   | zero=>simp
   | succ t=>simp [Ic ai t]
def cW.ends:cW→Prop
 | .exit _=>False
 | _=>True
theorem V_ (eC:P.follows .mixedOrders=true) (e0:kE P) {f:FuncId} {fn:Func} {c:Code} {args:List V} {h:aj} {K:V→aj→Prop} (av:P.funcs[f]? =some fn) (ah:fn.body=some c)
 (qD:Nat.ble fn.ntmps top=true) (Gk:Nat.ble args.length fn.ntmps=true) {rc:bE} {DQ:List y6} (YP:m_ P fn.ntmps c=rc) (YV:q1 P fn.ntmps fn.results.toList=DQ)
 (H:jk P rc (bV.aq args) h fun e r aa=>e.ends∧∃ai,fb r aa DQ=some ai∧K (oneOf ai) aa):bB P f args h K:=by
 subst YP YV
 rw [Nat.ble_eq] at qD Gk
 have bD:Out fn.ntmps (bV.aq args):=by
  intro t aJ
  rw [Ic,List.getElem?_eq_none (by omega)]
  rfl
 obtain ⟨e,bT,aa,⟨X0,ai,Ag,dh⟩,CU,XO⟩:=ag_ qD eC e0 c _ h _ bD H
 refine ⟨oneOf ai,aa,.inl ⟨⟨fn,av,by rw [ah];rfl⟩,fun aZ E w xs az s=>?_⟩,dh⟩
 have hlen:=az.length
 have gd:xs.toArray.size≤fn.ntmps:=by simp;omega
 refine calls_of_wp av ah ?_
 have k:mL E fn.ntmps (bV.aq args) {tmps:=xs.toArray++Array.replicate (fn.ntmps-xs.toArray.size) undef,defers:=[]}:=by
  refine ⟨by simp;omega,rfl,fun t=>?_⟩
  rw [Ic]
  cases bp:args[t]? with
  | none=>simp [Rel]
  | some v=>
    obtain ⟨y,bK,bd⟩:=az.get t v bp
    simp only [Option.getD_some]
    have qH:t<xs.length:=(List.getElem?_eq_some_iff.1 bK).1
    rw [Array.getD_eq_getD_getElem?,Array.getElem?_append_left (by simpa using qH)]
    simp only [List.getElem?_toArray,bK,Option.getD_some]
    exact bd
 have fin:∀ba cI aW,E.le ba→mL ba fn.ntmps bT cI→ck aZ ba aa aW→cI.defers=[]∧∃v,(results fn cI.tmps).run P aW=.ok v aW∧(∃eP x,Ending.returned v=.returned x∧E.le eP∧Rel eP (oneOf ai) x∧ck aZ eP aa aW):=by
  intro ba cI aW aQ aB a'
  obtain ⟨ek,cr⟩:=FU CU
  have an:hH ba fn.ntmps ek cI:=⟨aB.size,aB.defers,fun t _=>by
   have:=congrFun cr t
   simp only [gm] at this
   rw [this]
   exact aB.ag t⟩
  obtain ⟨gE,Zx,Zy⟩:=DM an a' (Ck cr Ag)
  obtain ⟨x,dj,fM⟩:=PY Zx fn cI P aW Zy
  exact ⟨aB.defers,x,dj,ba,x,rfl,aQ,fM,a'⟩
 refine (XO aZ E _ w k s _ fun ba cI aW aQ aB a'=>?_).wp
 have:=fin ba cI aW aQ aB a'
 cases e with
 | normal=>exact this
 | ret=>exact this
 | exit i=>exact X0.elim
end
end Go.Proofs.YtjbiefneffiogaaGreat.bA
namespace Go.Proofs.YtjbiefneffiogaaGreat.bA
variable [Lay]
open Go Go.RowKit
section
variable {α:Type} (d:α)
theorem T.yn (x y:α):∀(p:a6) (t:T α),T.put d x p (T.put d y p t)=T.put d x p t
 | .z,t=>by cases t<;>rfl
 | .l p,t=>by
   cases t with
   | e=>exact congrArg (fun q=>T.n d q .e) (T.yn x y p .e)
   | n v l r=>exact congrArg (fun q=>T.n v q r) (T.yn x y p l)
 | .r p,t=>by
   cases t with
   | e=>exact congrArg (fun q=>T.n d .e q) (T.yn x y p .e)
   | n v l r=>exact congrArg (fun q=>T.n v l q) (T.yn x y p r)
theorem T.put_comm (x y:α):∀(p q:a6) (t:T α),p≠q→T.put d x p (T.put d y q t)=T.put d y q (T.put d x p t)
 | .z,.z,t,h=>absurd rfl h
 | .z,.l q,t,_=>by cases t<;>rfl
 | .z,.r q,t,_=>by cases t<;>rfl
 | .l p,.z,t,_=>by cases t<;>rfl
 | .r p,.z,t,_=>by cases t<;>rfl
 | .l p,.r q,t,_=>by cases t<;>rfl
 | .r p,.l q,t,_=>by cases t<;>rfl
 | .l p,.l q,t,h=>by
   have aa:p≠q:=fun e=>h (by rw [e])
   cases t with
   | e=>exact congrArg (fun s=>T.n d s .e) (T.put_comm x y p q .e aa)
   | n v l r=>exact congrArg (fun s=>T.n v s r) (T.put_comm x y p q l aa)
 | .r p,.r q,t,h=>by
   have aa:p≠q:=fun e=>h (by rw [e])
   cases t with
   | e=>exact congrArg (fun s=>T.n d .e s) (T.put_comm x y p q .e aa)
   | n v l r=>exact congrArg (fun s=>T.n v l s) (T.put_comm x y p q r aa)
end
theorem iH (i j:Nat):(ao i=ao j)=(i=j):=by
 apply propext
 exact ⟨og,fun h=>by rw [h]⟩
theorem ad8 (ai:List V):∀(i off:Nat) (x:V) (t:T V),i<off→T.put .bad x (ao i) (g' t off ai)=g' (T.put .bad x (ao i) t) off ai:=by
 induction ai with
 | nil=>intro i off x t _;rfl
 | cons v ai bN=>
   intro i off x t h
   simp only [g']
   rw [bN i (off+1) x _ (by omega),T.put_comm _ _ _ _ _ _ (fun e=>by rw [iH] at e;omega)]
def iL (ai:List V) (off:Nat) (ws:List V):List V:=ai.take off++ws++ai.drop (off+ws.length)
theorem Qv:∀(ai:List V) (base i:Nat) (x:V) (t:T V),i<ai.length→T.put .bad x (ao (base+i)) (g' t base ai)=g' t base (ai.set i x)
 | [],_,i,_,_,h=>by simp at h
 | v::ai,base,i,x,t,h=>by
   cases i with
   | zero=>
     simp only [g',Nat.add_zero,List.set]
     rw [ad8 ai base (base+1) x _ (by omega),T.yn]
   | succ i=>
     simp only [g',List.set]
     have:=Qv ai (base+1) i x (T.put .bad v (ao base) t) (by simpa using h)
     rw [show base + (i+1)=base+1+i from by omega]
     exact this
theorem Q8 (ai:List V) (off:Nat) (w:V) (ws:List V) (h:off<ai.length):iL (ai.set off w) (off+1) ws=iL ai off (w::ws):=by
 unfold iL
 have ae:(ai.set off w).take (off+1)=ai.take off++[w]:=by
  rw [List.take_succ_eq_append_getElem (by simpa using h)]
  simp [List.take_set_of_le]
 have ak:(ai.set off w).drop (off+1+ws.length)=ai.drop (off + (w::ws).length):=by
  rw [List.drop_set_of_lt (by omega)]
  congr 1
  simp
  omega
 rw [ae,ak]
 simp
theorem uS (ai:List V) (off:Nat) (ws:List V) (h:off+ws.length≤ai.length):(iL ai off ws).length=ai.length:=by
 unfold iL
 simp
 omega
theorem Is:∀(ws ai:List V) (off:Nat),off+ws.length≤ai.length→g' (g' .e 0 ai) off ws=g' .e 0 (iL ai off ws)
 | [],ai,off,h=>by simp [g',iL]
 | w::ws,ai,off,h=>by
   simp only [List.length_cons] at h
   simp only [g']
   have ae:=Qv ai 0 off w .e (by omega)
   rw [Nat.zero_add] at ae
   rw [ae,Is ws (ai.set off w) (off+1) (by simp;omega),Q8 ai off w ws (by omega)]
theorem Cz (ai:List V):∀(off i:Nat) (t:T V),T.get .bad (ao (off+i)) (g' t off ai)=if i<ai.length then (ai[i]?).getD .bad else T.get .bad (ao (off+i)) t:=by
 induction ai with
 | nil=>intro off i t;simp [g']
 | cons v ai bN=>
   intro off i t
   simp only [g']
   cases i with
   | zero=>
     have:∀(ws:List V) (o:Nat) (s:T V),off<o→T.get .bad (ao off) (g' s o ws)=T.get .bad (ao off) s:=by
      intro ws
      induction ws with
      | nil=>intro o s _;rfl
      | cons w ws ZI=>
        intro o s bD
        simp only [g']
        rw [ZI (o+1) _ (by omega),T.oT,if_neg (fun e=>by rw [iH] at e;omega)]
     rw [Nat.add_zero,this ai (off+1) _ (by omega),T.oT]
     simp
   | succ i=>
     have:=bN (off+1) i (T.put .bad v (ao off) t)
     rw [show off+1+i=off + (i+1) from by omega] at this
     rw [this,T.oT]
     have g3:¬ao off=ao (off + (i+1)):=fun e=>by rw [iH] at e;omega
     rw [if_neg g3]
     simp
theorem zD (ai:List V):∀(n i:Nat),i+n≤ai.length→ma (g' .e 0 ai) i n=(ai.drop i).take n
 | 0,i,h=>by simp [ma]
 | n+1,i,h=>by
   simp only [ma]
   have ae:=Cz ai 0 i .e
   rw [Nat.zero_add] at ae
   rw [ae,if_pos (by omega),zD ai n (i+1) (by omega)]
   have cc:ai.drop i=ai[i]::ai.drop (i+1):=List.drop_eq_getElem_cons (by omega)
   rw [cc,List.take_succ_cons]
   simp [List.getElem?_eq_getElem (by omega:i<ai.length)]
noncomputable def cT.aq (ai:List V) (c3:Nat) (st:Bool):cT:=.cells ai.length (g' .e 0 ai) c3 st
noncomputable def cT.ro (ai:List V):cT:=.view ai.length (g' .e 0 ai)
def Rd (h:aj) (b:a6) (ai:List V):Prop:=h.get b=.ro ai∨∃c3 st,h.get b=.aq ai c3 st
def Own (h:aj) (b:a6) (ai:List V) (c3:Nat) (st:Bool):Prop:=h.get b=.aq ai c3 st
theorem Rd.po {α:Type} {h:aj} {b:a6} {ai:List V} (H:Rd h b ai) (d:α) (f:Nat→T V→α):(h.get b).po d f=f ai.length (g' .e 0 ai):=by
 rcases H with H | ⟨_,_,H⟩<;>rw [H]<;>rfl
theorem Own.lay {h:aj} {b:a6} {ai:List V} {c3:Nat} {st:Bool} (H:Own h b ai c3 st) {off:Nat} {ws:List V} (bD:off+ws.length≤ai.length) (ae:gh ws=true):
 lay h b off ws=some (h.set b (.aq (iL ai off ws) c3 st)):=by
 unfold bA.lay
 rw [show h.get b=.cells ai.length (g' .e 0 ai) c3 st from H]
 simp only [cT.on]
 rw [show Nat.ble (off+ws.length) ai.length=true from by rw [Nat.ble_eq];exact bD,ae]
 simp only [Bool.and_true,cond_true,Option.some.injEq,cT.aq]
 rw [uS ai off ws bD,Is ws ai off bD]
theorem acU {h:aj} {ai:List V} (aK:ai.length≤top):hO h ai=some (h.new (.aq ai 0 false)):=by
 unfold hO
 rw [show Nat.ble ai.length top=true from by rw [Nat.ble_eq];exact aK]
 rfl
theorem yb {h:aj} {ai:List V} {c3:Nat} {st:Bool} (aK:ai.length≤top) (he:1≤c3):lg h ai c3 st=some (h.new (.aq ai c3 st)):=by
 unfold lg
 rw [show Nat.ble ai.length top=true from by rw [Nat.ble_eq];exact aK,show Nat.ble 1 c3=true from by rw [Nat.ble_eq];exact he]
 rfl
theorem cO (h:aj) (k:cT):(h.new k).next=h.next+1:=rfl
theorem gU (h:aj) (b:a6) (k:cT):(h.set b k).next=h.next:=rfl
end Go.Proofs.YtjbiefneffiogaaGreat.bA
namespace Go.Proofs.YtjbiefneffiogaaGreat.bA
variable [Lay]
open Go Go.RowKit
section
variable {P:Program} {r:bV} {h:aj}
theorem afS (r:bV) (d:Nat) (v:V) (t:Nat):bV.set r (some d) v t=if t=d then v else r t:=(rfl)
theorem afT (r:bV) (v:V):bV.set r none v=r:=(rfl)
theorem agF (r:bV) (u:Nat) (us:List Nat) (t:Nat):bV.trim r (u::us) t=if t=u then r t else bV.trim r us t:=(rfl)
theorem ac_ (v:V) (ai:List V):bV.aq (v::ai) 0=v:=(rfl)
theorem ada (v:V) (ai:List V) (t:Nat):bV.aq (v::ai) (t+1)=bV.aq ai t:=by simp [bV.aq]
theorem Cl (r:bV) (n:Nat):bs.bu r (.t n)=r n:=(rfl)
theorem xy (r:bV) (v:V):bs.bu r (.c v)=v:=(rfl)
theorem PR {d:Option Nat} {g:G} {rs:List Nat} {K:bV→V→aj→Prop}:br.wp P ⟨d,g,none,rs⟩ r h K=g.wp P (r.trim rs) h fun v aa=>K (r.set d v) v aa:=(rfl)
theorem PO {d:Option Nat} {g:G} {j:Nat} {want:Bool} {rs:List Nat} {K:bV→V→aj→Prop}:br.wp P ⟨d,g,some (j,want),rs⟩ r h K=
 gate (r.trim rs j) want (g.wp P (r.trim rs) h fun v aa=>K (r.set d v) v aa) (K (r.set d (.tuple [])) (.tuple []) h):=(rfl)
variable {K:V→aj→Prop}
theorem qs (k:IntKind):nq k k=true:=by cases k<;>rfl
theorem o5 (a b:Int):Int.leB a b=decide (a≤b):=qO a b
theorem oQ (a b:Int):Int.jE a b=decide (a=b):=by rw [qq];rfl
variable (k:IntKind) (a b:Int)
theorem Z0:(eH.int .add).run P (.int k a) (.int k b)=some (.int k (k.wrap (a+b))):=by simp [eH.run,lG,pY,V.eX,qs]
theorem aa4:(eH.int .sub).run P (.int k a) (.int k b)=some (.int k (k.wrap (a-b))):=by simp [eH.run,lG,pY,V.eX,qs]
theorem aaM:(eH.int .mul).run P (.int k a) (.int k b)=some (.int k (k.wrap (a * b))):=by simp [eH.run,lG,pY,V.eX,qs]
theorem O6 (ah:b≠0):(eH.int .quo).run P (.int k a) (.int k b)=some (.int k (k.wrap (a.tdiv b))):=by simp [eH.run,lG,v',V.eX,qs,oQ,ah]
theorem HI (ah:b≠0):(eH.int .rem).run P (.int k a) (.int k b)=some (.int k (a.tmod b)):=by simp [eH.run,lG,v',V.eX,qs,oQ,ah]
theorem aal:(eH.int .eql).run P (.int k a) (.int k b)=some (.bool (decide (a=b))):=by simp [eH.run,lG,n4,V.eX,qs,oQ]
theorem aaP:(eH.int .neq).run P (.int k a) (.int k b)=some (.bool (!decide (a=b))):=by simp [eH.run,lG,n4,V.eX,qs,oQ]
theorem aaI:(eH.int .lss).run P (.int k a) (.int k b)=some (.bool (decide (a<b))):=by
 simp [eH.run,lG,n4,V.eX,qs,o5]
 rw [Bool.eq_iff_iff];simp
theorem aaF:(eH.int .leq).run P (.int k a) (.int k b)=some (.bool (decide (a≤b))):=by simp [eH.run,lG,n4,V.eX,qs,o5]
theorem aat:(eH.int .gtr).run P (.int k a) (.int k b)=some (.bool (decide (b<a))):=by
 simp [eH.run,lG,n4,V.eX,qs,o5]
 rw [Bool.eq_iff_iff];simp
theorem aas:(eH.int .geq).run P (.int k a) (.int k b)=some (.bool (decide (b≤a))):=by simp [eH.run,lG,n4,V.eX,qs,o5]
theorem Z2 (x y:Bool):(eH.zx false).run P (.bool x) (.bool y)=some (.bool (x == y)):=by simp [eH.run,kh,zw,ru]
theorem Z6 (x y:Bool):(eH.zx true).run P (.bool x) (.bool y)=some (.bool (!(x == y))):=by simp [eH.run,kh,zw,ru]
theorem agM (x:Bool):r_ .not (.bool x)=some (.bool (!x)):=(rfl)
theorem agL:r_ .neg (.int k a)=some (.int k (k.wrap (0-a))):=(rfl)
theorem wrap_i64 {n:Int} (ae:-9223372036854775808≤n) (ak:n≤9223372036854775807):IntKind.i64.wrap n=n:=by
 exact Go.IntWalk.i64_in n ⟨ae,ak⟩
end
section
variable {P:Program} {r:bV} {h:aj} {Q:cW→bV→aj→Prop}
theorem Vp {ops:List br}:jk P (.ag ops) r h Q=tv P ops r h (Q .normal):=(rfl)
theorem Vq {a b:bE}:jk P (.seq a b) r h Q=jk P a r h fun e bT aa=>e.andThen (jk P b bT aa Q) (Q e bT aa):=(rfl)
theorem agz {A B:Prop}:cW.andThen .normal A B=A:=(rfl)
theorem agA {A B:Prop}:cW.andThen .ret A B=B:=(rfl)
theorem agy {A B:Prop} {i:Nat}:cW.andThen (.exit i) A B=B:=(rfl)
theorem ab8 {id:Nat}:cW.leave id .normal=.normal:=(rfl)
theorem ab9 {id:Nat}:cW.leave id .ret=.ret:=(rfl)
theorem ab7 {id i:Nat}:cW.leave id (.exit i)=if i=id then .normal else .exit i:=(rfl)
end
end Go.Proofs.YtjbiefneffiogaaGreat.bA
