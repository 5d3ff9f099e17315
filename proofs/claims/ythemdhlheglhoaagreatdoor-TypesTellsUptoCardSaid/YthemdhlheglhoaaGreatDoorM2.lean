/- The abstract machine and its walks (a verified interpreter of the model's code: plain definitions and lemmas, no condition). Printed by a program from longer texts: names made short. -/
import Derived.Test.YthemdhlheglhoaaGreatDoorM1
import Derived.LaidEqlPtr
import Derived.RangeFuncLeaves
import Derived.RecoverIn
import Derived.OrdersIn
set_option linter.unusedSectionVars false
set_option linter.unusedSimpArgs false
set_option linter.unusedVariables false
namespace Go.Proofs.YthemdhlheglhoaaGreatDoor.aX
variable [Lay]
open Go Go.RowKit
section
variable {P:Program}
theorem R' {α β:Type} (g:α→Sem β) (k:α→β) (w:World):∀(l:List α),(∀x ∈ l,(g x).run P w=.ok (k x) w)→(l.mapM g).run P w=.ok (l.map k) w
 | [],_=>by simp
 | x::l,h=>by
   rw [List.mapM_cons,Sem.run_bind,h x (by simp)]
   simp only [Result.andThen_ok,Sem.run_bind,R' g k w l (fun y a_=>h y (by simp [a_])),Sem.run_pure,List.map]
theorem VV {E:Env} {t:TypeId} {bg:List (Nat × V)} {i_:List (Nat × Value)} {v:V} (ah:qn E bg i_) (he:(Bt P t).run bg=some v) (w:World):
 ∃Z,(Instr.build t i_.toArray).run P w=.ok Z w∧Rel E v Z:=by
 unfold Bt at he
 cases aF:a8 P t with
 | none=>rw [aF] at he;cases he
 | some aO=>
   rw [aF] at he
   simp only at he
   cases bo:aO.zero with
   | none=>rw [bo] at he;cases he
   | some z=>
     rw [bo] at he
     simp only at he
     obtain ⟨x,aq,pO,l0⟩:=xC (P:=P) aF bo E w
     have hu:=fk aF w
     have Pf:bc E z.cells x.cells.toList:=by
      rw [l0]
      have:∀y:Value,bc E (gJ y).cells y.cells.toList:=by
       intro y
       cases y with
       | agg cs=>simp only [gJ,V.cells,Value.cells];exact Aa E _
       | pointer a=>cases a<;>simp [gJ,iC,V.cells,Value.cells,bc,Rel]
       | slice a n c=>
         have:=sA E (.slice a n c)
         cases a with
         | some a=>simp [gJ,iC,V.cells,Value.cells,bc,Rel]
         | none=>
           simp only [gJ,iC] at this ⊢
           cases ag:(Nat.beq n 0&&Nat.beq c 0) with
           | false=>simp [V.cells,Value.cells,bc,Rel]
           | true=>rw [ag] at this;simpa [V.cells,Value.cells,bc] using this
       | map r=>cases r<;>simp [gJ,iC,V.cells,Value.cells,bc,Rel]
       | tuple cs=>
         have:=sA E (.tuple cs)
         simp only [gJ,V.cells,Value.cells,bc] at this ⊢
         exact ⟨_,_,rfl,this,rfl⟩
       | _=>simp [gJ,iC,V.cells,Value.cells,bc,Rel]
      exact this x
     cases bU:aO.bd with
     | struct cd=>
       rw [bU] at he hu
       simp only at he
       cases aE:BX P cd.toList with
       | false=>rw [aE] at he;cases he
       | true=>
         rw [aE] at he
         simp only [cond_true] at he
         cases ay:lO (v' P cd) z.cells bg with
         | none=>rw [ay] at he;cases he
         | some cs=>
           rw [ay] at he
           simp only [Option.some.injEq] at he
           subst he
           let k:Field→Nat × Nat:=fun f=>(f.offset,((a8 P f.type).map (·.size)).getD 0)
           have lX:(cd.mapM fun f=>do pure (f.offset,←sizeOf f.type):Sem (Array (Nat × Nat))).run P w=.ok (cd.map k) w:=by
            rw [Array.mapM_eq_mapM_toList,Sem.run_map,R' _ k w cd.toList]
            · simp only [Result.andThen_ok]
              congr 1
              apply Array.ext'
              simp
            · intro f im
              have:=List.all_eq_true.1 aE f im
              cases wV:a8 P f.type with
              | none=>rw [wV] at this;simp at this
              | some jE=>simp only [Sem.run_bind,js wV,Result.andThen_ok,Sem.run_pure,k,wV];rfl
           have adj:(fun i=>(cd.map k)[i]?)=v' P cd:=by
            funext i
            simp only [v',Array.getElem?_map]
            cases aC:cd[i]? with
            | none=>rfl
            | some f=>
              have wJ:f ∈ cd.toList:=by
               have:=List.mem_of_getElem? (l:=cd.toList) (i:=i) (a:=f) (by simpa using aC)
               exact this
              have:=List.all_eq_true.1 aE f wJ
              cases wV:a8 P f.type with
              | none=>rw [wV] at this;simp at this
              | some jE=>simp [k,wV]
           obtain ⟨b,jh,mr⟩:=yT (a:=x.cells) ah Pf ay
           refine ⟨.agg b,?_,by simp only [Rel];exact ⟨b,rfl,mr⟩⟩
           simp only [Instr.build,Sem.run_bind,aq,hu,Result.andThen_ok,lX]
           rw [adj]
           simp only [jh,Sem.run_pure]
     | array n e=>
       rw [bU] at he hu
       simp only at he
       cases cv:a8 P e with
       | none=>rw [cv] at he;cases he
       | some bh=>
         rw [cv] at he
         simp only at he
         cases ay:lO (fun i=>some (i * bh.size,bh.size)) z.cells bg with
         | none=>rw [ay] at he;cases he
         | some cs=>
           rw [ay] at he
           simp only [Option.some.injEq] at he
           subst he
           obtain ⟨b,jh,mr⟩:=yT (a:=x.cells) ah Pf ay
           refine ⟨.agg b,?_,by simp only [Rel];exact ⟨b,rfl,mr⟩⟩
           simp only [Instr.build,Sem.run_bind,aq,hu,Result.andThen_ok,js cv,jh,Sem.run_pure]
     | _=>rw [bU] at he;cases he
theorem Av {E:Env} {z:List V} {l:Array Value} (bo:bc E z l.toList):∀n:Nat,bc E (iE z n) ((Array.range (n * l.size)).map (l[· % l.size]!)).toList:=by
 have ady:(List.range l.size).map (l[· % l.size]!)=l.toList:=by
  apply List.ext_getElem?
  intro i
  simp only [List.getElem?_map]
  by_cases aC:i<l.size
  · rw [List.getElem?_range aC]
    simp only [Option.map,Nat.mod_eq_of_lt aC,Array.getElem?_toList]
    rw [getElem!_pos l i aC,Array.getElem?_eq_getElem aC]
  · rw [List.getElem?_eq_none (by simp;omega),Array.getElem?_toList,Array.getElem?_eq_none (by omega)]
    rfl
 intro n
 simp only [Array.toList_map,Array.toList_range]
 induction n with
 | zero=>simp [iE,bc]
 | succ n bk=>
   have e:(n+1) * l.size=l.size+n * l.size:=by rw [Nat.add_mul];omega
   rw [e,List.range_add,List.map_append,ady,List.map_map]
   have aS:((l[· % l.size]!) ∘ fun x=>l.size+x)=(l[· % l.size]!):=by
    funext x
    simp
   rw [aS]
   exact bo.append bk
theorem s' {E:Env} {t:TypeId} {aO:mo} {z:V} (aF:a8 P t=some aO) (bo:aO.zero=some z) (w:World):∃x:Value,(∀w,(zeroValue t).run P w=.ok x w)∧bc E z.cells x.cells.toList∧x.cells.size=z.cells.length:=by
 obtain ⟨x,aq,_,l0⟩:=xC (P:=P) aF bo E w
 obtain ⟨i,ab,_,_,_,_,cf⟩:=sS aF
 rw [bo] at cf
 have ad1:∃y,i.zero=some y:=by cases aA:i.zero with | none=>rw [aA] at cf;cases cf | some y=>exact ⟨y,rfl⟩
 obtain ⟨y,a_⟩:=ad1
 have cT:∀w,(zeroValue t).run P w=.ok y w:=fun w=>by simp only [zeroValue,Sem.run_bind,xB ab,Result.andThen_ok,a_];rfl
 have w2:y=x:=by have:=cT w;rw [aq] at this;simp at this;exact this.symm
 subst w2
 refine ⟨_,cT,?_,?_⟩
 · rw [l0]
   have:∀y:Value,bc E (gJ y).cells y.cells.toList:=by
    intro y
    cases y with
    | agg cs=>simp only [gJ,V.cells,Value.cells];exact Aa E _
    | pointer a=>cases a<;>simp [gJ,iC,V.cells,Value.cells,bc,Rel]
    | slice a n c=>
      have:=sA E (.slice a n c)
      cases a with
      | some a=>simp [gJ,iC,V.cells,Value.cells,bc,Rel]
      | none=>
        simp only [gJ,iC] at this ⊢
        cases ag:(Nat.beq n 0&&Nat.beq c 0) with
        | false=>simp [V.cells,Value.cells,bc,Rel]
        | true=>rw [ag] at this;simpa [V.cells,Value.cells,bc] using this
    | map r=>cases r<;>simp [gJ,iC,V.cells,Value.cells,bc,Rel]
    | tuple cs=>
      have:=sA E (.tuple cs)
      simp only [gJ,V.cells,Value.cells,bc] at this ⊢
      exact ⟨_,_,rfl,this,rfl⟩
    | _=>simp [gJ,iC,V.cells,Value.cells,bc,Rel]
   exact this _
 · rw [l0,ahI]
theorem VX {aw:Fr} {E:Env} {h aa:af} {w:World} (s:a' aw E h w) {t:TypeId} {n:Nat} {bg:List (Nat × V)} {i_:List (Nat × Value)} {v:V} (ah:qn E bg i_) (he:(tz P t n).run bg h=.val v aa):
 c8 aw P E w (Instr.buildSlice t n i_.toArray) v aa:=by
 unfold tz at he
 cases aF:a8 P t with
 | none=>rw [aF] at he;cases he
 | some aO=>
   rw [aF] at he
   simp only at he
   have hu:=fk aF
   cases bU:aO.bd with
   | slice e=>
     rw [bU] at he hu
     simp only at he
     cases cv:a8 P e with
     | none=>rw [cv] at he;cases he
     | some bh=>
       rw [cv] at he
       simp only at he
       cases bo:bh.zero with
       | none=>rw [bo] at he;cases he
       | some z=>
         rw [bo] at he
         simp only at he
         cases aI:(Nat.ble (n * bh.size) 1000000&&Nat.beq z.cells.length bh.size) with
         | false=>rw [aI] at he;cases he
         | true=>
           rw [aI] at he
           simp only [cond_true] at he
           simp only [Bool.and_eq_true,Nat.ble_eq,Nat.beq_eq] at aI
           cases ay:lO (fun i=>some (i * bh.size,bh.size)) (iE z.cells n) bg with
           | none=>rw [ay] at he;cases he
           | some cs=>
             rw [ay] at he
             simp only at he
             cases aU:fV h cs with
             | none=>rw [aU] at he;cases he
             | some ab=>
               rw [aU] at he
               simp only [aY.val.injEq] at he
               obtain ⟨rfl,rfl⟩:=he
               obtain ⟨x,aq,pO,pP⟩:=s' (P:=P) (E:=E) cv bo w
               have ux:x.cells.size=bh.size:=by rw [pP,aI.2]
               have ur:=Av pO n
               rw [ux] at ur
               obtain ⟨b,jh,mr⟩:=yT (a:=(Array.range (n * bh.size)).map (x.cells[· % x.cells.size]!)) ah (by rw [ux];exact ur) ay
               obtain ⟨av,g1,g2,g3,g4⟩:=C6 (P:=P) s mr aU e
               refine ⟨.slice (some ⟨w.heap.size,0,none⟩) n n,_,av,?_,g1,?_,g4⟩
               · have uf:¬16777216<n * bh.size:=by omega
                 have lT:(newRow e b).run P w=.ok ⟨w.heap.size,0,none⟩ {w with heap:=w.heap.push (.cells b e)}:=by simpa using g3
                 by_cases bb:n * bh.size=0
                 · have Hg:Instr.fill (fun i=>some (i * bh.size,bh.size)) ((Array.range (n * bh.size)).map ((#[]:Array Value)[· % 0]!)) i_=some b:=by
                    have aK:(Array.range (n * bh.size)).map ((#[]:Array Value)[· % 0]!)=(Array.range (n * bh.size)).map (x.cells[· % x.cells.size]!):=by
                     rw [bb];simp
                    rw [aK];exact jh
                   have Hh:Instr.fill (fun i=>some (i * bh.size,bh.size)) ((Array.range (n * bh.size)).map (fun x=>(#[]:Array Value)[x % (#[]:Array Value).size]!)) i_=some b:=Hg
                   simp only [Instr.buildSlice,Sem.run_bind,hu,Result.andThen_ok,js cv,Sem.run_ite]
                   rw [if_neg uf]
                   simp only [Sem.run_pure,Result.andThen_ok,if_pos bb]
                   rw [Hh]
                   simp only [Sem.run_bind,lT,Result.andThen_ok,Sem.run_pure]
                 · simp only [Instr.buildSlice,Sem.run_bind,hu,Result.andThen_ok,js cv,Sem.run_ite]
                   rw [if_neg uf]
                   simp only [Sem.run_pure,Result.andThen_ok,if_neg bb,aq]
                   rw [jh]
                   simp only [Sem.run_bind,lT,Result.andThen_ok,Sem.run_pure]
               · simp only [Rel]
                 exact ⟨_,g2,Nat.le_refl _,by simp⟩
   | _=>rw [bU] at he;cases he
theorem ag7 {aw:Fr} {E:Env} {h aa:af} {w:World} (s:a' aw E h w) {t:TypeId} {x y v:V} {X Y:Value} (aq:Rel E x X) (a_:Rel E y Y) (he:(C0 P t).run x y h=.val v aa):
 c8 aw P E w (Instr.makeSlice t X Y) v aa:=by
 unfold C0 at he
 cases aF:a8 P t with
 | none=>rw [aF] at he;cases he
 | some aO=>
   rw [aF] at he
   simp only at he
   have hu:=fk aF
   cases bU:aO.bd with
   | slice e=>
     rw [bU] at he hu
     simp only at he
     cases cv:a8 P e with
     | none=>rw [cv] at he;cases he
     | some bh=>
       rw [cv] at he
       simp only at he
       cases bo:bh.zero with
       | none=>rw [bo] at he;cases he
       | some z=>
         rw [bo] at he
         simp only at he
         cases Hl:Nat.ble bh.bytes 4096 with
         | false=>rw [Hl] at he;cases he
         | true=>
           rw [Hl] at he
           simp only [cond_true,C1] at he
           obtain ⟨bz,l,rfl,Cl⟩:=Ac he
           obtain ⟨bZ,c,rfl,ea⟩:=Ac Cl
           have:=aq.iv;subst this
           have:=a_.iv;subst this
           obtain ⟨aI,y5⟩:=jg ea
           simp only [Bool.and_eq_true,nA,decide_eq_true_eq,Nat.beq_eq] at aI
           obtain ⟨⟨bb,ab,ae⟩,aG⟩:=aI
           rw [Nat.ble_eq] at Hl
           cases aU:fV h (iE z.cells c.toNat) with
           | none=>rw [aU] at y5;cases y5
           | some bf=>
             rw [aU] at y5
             simp only [aY.val.injEq] at y5
             obtain ⟨rfl,rfl⟩:=y5
             obtain ⟨p_,zB,pO,pP⟩:=s' (P:=P) (E:=E) cv bo w
             have ux:p_.cells.size=bh.size:=by rw [pP,aG]
             have ur:=Av pO c.toNat
             obtain ⟨av,g1,g2,g3,g4⟩:=C6 (P:=P) s ur aU e
             obtain ⟨i,aC,sc⟩:=J7 (P:=P) cv w
             have adS:IntKind.i64.wrap l=l:=by simp only [IntKind.wrap,IntKind.bits,IntKind.signed];simp;omega
             have adR:IntKind.i64.wrap c=c:=by simp only [IntKind.wrap,IntKind.bits,IntKind.signed];simp;omega
             have hmul:(bh.bytes:Int) * c≤4096 * 1000000:=by
              have ag:(bh.bytes:Int)≤4096:=by omega
              have:=Int.mul_le_mul_of_nonneg_right (c:=c) ag (by omega)
              omega
             refine ⟨.slice (some ⟨w.heap.size,0,none⟩) l.toNat c.toNat,_,av,?_,g1,?_,g4⟩
             · have lT:=g3
               simp only [Array.toArray_toList] at lT
               have bu:¬c<0:=by omega
               have bI:¬((bh.bytes:Int) * c>281474976710656):=by omega
               have c3:¬l<0:=by omega
               have dN:¬l>c:=by omega
               have same:(if c.toNat * bh.size=0 then (Array.range (c.toNat * bh.size)).map (fun x=>(#[]:Array Value)[x % (#[]:Array Value).size]!) else (Array.range (c.toNat * bh.size)).map (fun x=>p_.cells[x % p_.cells.size]!))=
                (Array.range (c.toNat * p_.cells.size)).map (p_.cells[· % p_.cells.size]!):=by
                rw [ux]
                by_cases aA:c.toNat * bh.size=0
                · rw [aA];simp
                · rw [if_neg aA]
               simp only [Instr.makeSlice,Sem.run_bind,hu,Result.andThen_ok,asInt,asIntOf,Sem.run_pure,aC,adS,adR,sc]
               rw [if_neg (by simp only [Bool.or_eq_true,decide_eq_true_eq,not_or];exact ⟨⟨⟨bu,bI⟩,c3⟩,dN⟩)]
               simp only [Result.andThen_ok,Sem.run_bind,run_askRoom,js cv]
               by_cases aA:c.toNat * bh.size=0
               · rw [if_pos aA] at same
                 rw [if_pos aA]
                 simp only [Sem.run_pure,Result.andThen_ok,Sem.run_bind,same,lT,Array.toArray_toList]
               · rw [if_neg aA] at same
                 rw [if_neg aA]
                 simp only [Sem.run_pure,Result.andThen_ok,Sem.run_bind,zB,same,lT,Array.toArray_toList]
             · simp only [Rel]
               exact ⟨_,g2,by omega,by simp⟩
   | _=>rw [bU] at he;cases he
end
end Go.Proofs.YthemdhlheglhoaaGreatDoor.aX
namespace Go.Proofs.YthemdhlheglhoaaGreatDoor.aX
variable [Lay]
open Go Go.RowKit
theorem aP.kr:∀{p q:aP},aP.gb p q=true→p=q
 | .z,.z,_=>rfl
 | .l p,.l q,h=>by rw [aP.kr (p:=p) (q:=q) h]
 | .r p,.r q,h=>by rw [aP.kr (p:=p) (q:=q) h]
 | .z,.l _,h=>by cases h
 | .z,.r _,h=>by cases h
 | .l _,.z,h=>by cases h
 | .l _,.r _,h=>by cases h
 | .r _,.z,h=>by cases h
 | .r _,.l _,h=>by cases h
theorem aP.yQ:∀p:aP,aP.gb p p=true
 | .z=>rfl
 | .l p=>aP.yQ p
 | .r p=>aP.yQ p
section
variable {P:Program}
theorem Q_ {aw:Fr} {E:Env} {h:af} {w:World} (s:a' aw E h w) {b:aP} {p:ih} (ah:E b=some p) (ag:(h.get b).Dq=true):(h.get b).own=true∧∃c t,w.heap[p.aW]? =some (.cells c t (0,0)):=by
 have aE:=s.at ah
 cases aH:h.get b<;>rw [aH] at ag<;>try (cases ag;done)
 rename_i n cs cy st
 rw [aH] at aE
 obtain ⟨_,p',c,el,bW,aK,_,pH,_,cG,_⟩:=aE
 rw [ah] at aK;cases aK
 have:st=false:=by simpa [cb.Dq] using ag
 rw [cG this] at pH
 exact ⟨rfl,c,el,pH⟩
theorem Rr {t:TypeId} (h:lv P t=true):∃e j,P.underlying t=some (.pointer e)∧P.info? e=some j∧j.size≠0:=by
 unfold lv at h
 cases aF:a8 P t with
 | none=>rw [aF] at h;cases h
 | some aO=>
   rw [aF] at h
   simp only at h
   cases hu:aO.bd<;>rw [hu] at h<;>simp only at h<;>try (cases h;done)
   rename_i e
   cases he:a8 P e with
   | none=>rw [he] at h;cases h
   | some bh=>
     rw [he] at h
     simp only at h
     obtain ⟨_,_,ae,_⟩:=sS aF
     obtain ⟨j,g1,_,g3,_⟩:=sS he
     refine ⟨e,j,by rw [ae,hu],g1,fun cS=>?_⟩
     rw [g3,cS] at h
     cases h
theorem aiA {t:TypeId} (h:lv P t=true) (w:World):∃e,(underlying t).run P w=.ok (.pointer e) w:=by
 obtain ⟨e,_,ab,_⟩:=Rr h
 exact ⟨e,J8 ab w⟩
theorem ajl {t e:TypeId} {w:World} (hu:(underlying t).run P w=.ok (.pointer e) w) (b:Bool) (v:Value):(Instr.checkKey b 10000 t v).run P w=.ok () w:=by
 show (Instr.checkKey b (9999+1) t v).run P w=.ok () w
 unfold Instr.checkKey
 rw [Sem.run_bind,hu]
 rfl
theorem Rp {aw:Fr} {E:Env} {h:af} {w:World} (s:a' aw E h w) {t:TypeId} (aF:lv P t=true) {x y:V} {X Y:Value} {b:Bool} (he:nK h x y=some b) (aq:Rel E x X) (a_:Rel E y Y):
 (∃a c,X=.pointer (some a)∧Y=.pointer (some c))∧∀d,(Op.equalIn (d+1) t X Y).run P w=.ok b w:=by
 obtain ⟨e,j,ah,cv,ca⟩:=Rr aF
 unfold nK at he
 split at he
 case h_2=>cases he
 rename_i cC dC
 split at he
 case h_2=>cases he
 rename_i ck dA
 simp only [Rel] at aq a_
 obtain ⟨p,ht,rfl⟩:=aq
 obtain ⟨q,hv,rfl⟩:=a_
 refine ⟨⟨_,_,rfl,rfl⟩,fun d=>?_⟩
 cases heq:aP.gb cC ck with
 | true=>
   rw [heq] at he
   simp only [cond_true,Option.some.injEq] at he
   have:=aP.kr heq
   subst this
   rw [ht] at hv;cases hv
   have ag:b=decide (dC=dA):=by
    rw [←he]
    by_cases h:dC=dA
    · subst h;simp
    · rw [decide_eq_false h,←Bool.not_eq_true,Nat.beq_eq];exact h
   have key:(sameAddr ⟨p.aW,p.base+dC,none⟩ ⟨p.aW,p.base+dA,none⟩).run P w=.ok b w:=by
    rw [ag]
    by_cases h:dC=dA
    · subst h
      simpa using run_sameAddr_same w (⟨p.aW,p.base+dC,none⟩:Addr)
    · have dI:((⟨p.aW,p.base+dC,none⟩:Addr) == ⟨p.aW,p.base+dA,none⟩)=false:=by
       rw [beq_eq_false_iff_ne]
       intro e
       injection e with _ aS _
       omega
      simp [sameAddr,dI,h]
   simp [Op.equalIn,run_underlying ah,sizeOf,typeInfo,cv,ca,key]
 | false=>
   rw [heq] at he
   simp only [cond_false] at he
   obtain ⟨aI,he⟩:=ef he
   simp only [Bool.and_eq_true] at aI
   cases he
   obtain ⟨Jk,bu,t1,pG⟩:=Q_ s ht aI.1
   obtain ⟨Jl,bI,t2,HC⟩:=Q_ s hv aI.2
   have dI:(⟨p.aW,p.base+dC,none⟩:Addr)≠⟨q.aW,q.base+dA,none⟩:=by
    intro e
    injection e with aK _ _
    have:=s.inj cC ck p q Jk Jl ht hv aK
    subst this
    rw [aP.yQ] at heq
    cases heq
   simp [Op.equalIn,run_underlying ah,sizeOf,typeInfo,cv,ca,run_sameAddr_other w dI pG HC]
theorem aiy {aw:Fr} {E:Env} {h:af} {w:World} (s:a' aw E h w) {op:BinOp} {t:TypeId} {neg:Bool} (kC:Dw P op t=some neg) {x y:V} {hQ fW:Operand} {X Y:Value} {b:Bool} (he:nK h x y=some b) (aq:Rel E x X) (a_:Rel E y Y):
 ∃Z,(do eqGuard op t hQ fW X Y;binOp op t X Y:Sem Value).run P w=.ok Z w∧Rel E (.bool (bif neg then !b else b)) Z:=by
 unfold Dw at kC
 have main:lv P t=true→((op=.eql∧neg=false)∨(op=.neq∧neg=true))→∃Z,(do eqGuard op t hQ fW X Y;binOp op t X Y:Sem Value).run P w=.ok Z w∧Rel E (.bool (bif neg then !b else b)) Z:=by
  intro aF la
  obtain ⟨⟨a,c,rfl,rfl⟩,cT⟩:=Rp s aF he aq a_
  have aH:=fun (o:BinOp)=>BM (P:=P) (op:=o) (t:=t) (x:=hQ) (y:=fW) (X:=.pointer (some a)) (Y:=.pointer (some c)) (by simp) (.inl (by simp)) w
  have aK:(Op.equal t (.pointer (some a)) (.pointer (some c))).run P w=.ok b w:=cT 9999
  rcases la with ⟨rfl,rfl⟩ | ⟨rfl,rfl⟩
  · refine ⟨.bool b,?_,by simp [Rel]⟩
    rw [Sem.run_bind,aH,Result.andThen_ok,binOp_eql (X:=.pointer (some a)) True.intro,Sem.run_bind,aK]
    rfl
  · refine ⟨.bool (!b),?_,by simp [Rel]⟩
    rw [Sem.run_bind,aH,Result.andThen_ok,binOp_neq (X:=.pointer (some a)) True.intro,Sem.run_bind,aK]
    rfl
 cases op<;>simp only at kC<;>try (cases kC;done)
 · obtain ⟨ab,ae⟩:=ef kC
   cases ae
   exact main ab (.inl ⟨rfl,rfl⟩)
 · obtain ⟨ab,ae⟩:=ef kC
   cases ae
   exact main ab (.inr ⟨rfl,rfl⟩)
end
end Go.Proofs.YthemdhlheglhoaaGreatDoor.aX
namespace Go.Proofs.YthemdhlheglhoaaGreatDoor.aX
variable [Lay]
open Go Go.RowKit
section
variable {P:Program}
def vr (P:Program) (w:World) (E:Env) (cm:TypeId) (e:dw):Prop:=
 ∀k bt K mi b,e.run k bt=some b→Rel E k K→Rel E bt mi→(Op.equal cm K mi).run P w=.ok b w∧(b=true→mi=K∧Instr.sameBits 10000 K K=true)
theorem aiz {aw:Fr} {E:Env} {h:af} {w:World} (s:a' aw E h w) {cm:TypeId} (aF:lv P cm=true):vr P w E cm ⟨nK h⟩:=by
 intro k bt K mi b he aq a_
 obtain ⟨⟨a,c,rfl,rfl⟩,cT⟩:=Rp s aF he aq a_
 refine ⟨cT 9999,fun ag=>?_⟩
 subst ag
 simp only [nK] at he
 split at he
 case h_2=>cases he
 split at he
 case h_2=>cases he
 rename_i cC dC _ ck dA
 simp only [Rel] at aq a_
 obtain ⟨p,ht,aq⟩:=aq
 obtain ⟨q,hv,a_⟩:=a_
 cases heq:aP.gb cC ck with
 | false=>
   rw [heq] at he
   simp only [cond_false] at he
   obtain ⟨_,he⟩:=ef he
   cases he
 | true=>
   rw [heq] at he
   simp only [cond_true,Option.some.injEq] at he
   have:=aP.kr heq
   subst this
   rw [ht] at hv;cases hv
   have:=Nat.eq_of_beq_eq_true he
   subst this
   rw [aq,a_]
   exact ⟨rfl,by simp [Instr.sameBits]⟩
theorem NF {w:World} {E:Env} {cm:TypeId} {e:dw} (k3:vr P w E cm e) {k:V} {K:Value} (aE:Rel E k K):∀(es:List cO) (l:List MapEntry) (r:Option V) (i:Nat),nk e k es=some r→ee E es l→
 ∃R,(Instr.findAsking cm K l i).run P w=.ok R w∧(match r with
  | none=>R=none
  | some v=>∃j Y,R=some (j,Y)∧Rel E v Y)
 | [],l,r,i,h,aJ=>by
   simp only [ee] at aJ
   subst aJ
   simp only [nk,Option.some.injEq] at h
   subst h
   exact ⟨none,rfl,rfl⟩
 | m::ms,l,r,i,h,aJ=>by
   obtain ⟨dS,es,rfl,ab,ae,aG,ba⟩:=aJ
   simp only [nk] at h
   cases aQ:e.run k m.k with
   | none=>rw [aQ] at h;cases h
   | some b=>
     rw [aQ] at h
     simp only at h
     obtain ⟨an,az⟩:=k3 _ _ _ _ _ aQ aE ab
     cases b with
     | true=>
       simp only [cond_true,Option.some.injEq] at h
       subst h
       exact ⟨some (i,dS.val),by simp [Instr.findAsking,an],i,dS.val,rfl,ae⟩
     | false=>
       simp only [cond_false] at h
       obtain ⟨R,g1,g2⟩:=NF k3 aE ms es r (i+1) h ba
       exact ⟨R,by simp [Instr.findAsking,an,g1],g2⟩
theorem Rs {w:World} {E:Env} {cm:TypeId} {e:dw} (k3:vr P w E cm e) {k v:V} {K X:Value} (aE:Rel E k K) (bs:Rel E v X) (clock:Nat):∀(es:List cO) (l:List MapEntry) (r:List cO × Bool) (i:Nat),kO e k v clock es=some r→ee E es l→
 (r.2=true→(Instr.findAsking cm K l i).run P w=.ok none w∧ee E r.1 (l++[⟨K,X,clock⟩]))∧
 (r.2=false→∃j dS Y,(Instr.findAsking cm K l i).run P w=.ok (some (i+j,Y)) w∧l[j]? =some dS∧Instr.sameBits 10000 dS.key K=true∧ee E r.1 (l.modify j fun dS=>{dS with key:=K,val:=X}))
 | [],l,r,i,h,aJ=>by
   simp only [ee] at aJ
   subst aJ
   simp only [kO,Option.some.injEq] at h
   subst h
   exact ⟨fun _=>⟨rfl,_,_,rfl,aE,bs,rfl,rfl⟩,fun h=>by cases h⟩
 | m::ms,l,r,i,h,aJ=>by
   obtain ⟨dS,es,rfl,ab,ae,aG,ba⟩:=aJ
   simp only [kO] at h
   cases aQ:e.run k m.k with
   | none=>rw [aQ] at h;cases h
   | some b=>
     rw [aQ] at h
     simp only at h
     obtain ⟨an,az⟩:=k3 _ _ _ _ _ aQ aE ab
     cases b with
     | true=>
       simp only [cond_true,Option.some.injEq] at h
       subst h
       obtain ⟨aN,bM⟩:=az rfl
       refine ⟨fun h=>(by cases h),fun _=>⟨0,dS,dS.val,by simp [Instr.findAsking,an],rfl,by rw [aN];exact bM,?_⟩⟩
       exact ⟨_,es,rfl,aE,bs,aG,ba⟩
     | false=>
       simp only [cond_false] at h
       cases ah:kO e k v clock ms with
       | none=>rw [ah] at h;cases h
       | some bw=>
         rw [ah] at h
         simp only [Option.some.injEq] at h
         subst h
         obtain ⟨g1,g2⟩:=Rs k3 aE bs clock ms es bw (i+1) ah ba
         refine ⟨fun h=>?_,fun h=>?_⟩
         · obtain ⟨bH,a2⟩:=g1 h
           exact ⟨by simp [Instr.findAsking,an,bH],⟨dS,es++[⟨K,X,clock⟩],rfl,ab,ae,aG,a2⟩⟩
         · obtain ⟨j,dj,Y,bH,a2,a3,a4⟩:=g2 h
           exact ⟨j+1,dj,Y,by simp [Instr.findAsking,an,bH];omega,by simpa using a2,a3,⟨dS,_,rfl,ab,ae,aG,a4⟩⟩
theorem ajn {cm:TypeId} {jC:TypeId} {w:World} (hu:(underlying cm).run P w=.ok (.pointer jC) w) {K:Value} {l:List MapEntry} {R:Option (Nat × Value)} (h:(Instr.findAsking cm K l 0).run P w=.ok R w):
 (Instr.findKey cm K l).run P w=.ok R w:=by
 cases l with
 | nil=>
   simp only [Instr.findAsking,Sem.run_pure] at h
   cases h
   simp [Instr.findKey,hu,Instr.findNow]
 | cons dS es=>
   have aU:Instr.findNow (.pointer jC) K (dS::es) 0=none:=by simp [Instr.findNow,Instr.sameNow]
   simp [Instr.findKey,hu,aU,h]
theorem aaD {x y:V} (h:tF x y=true):x=y:=by
 cases x<;>simp only [tF] at h<;>try (cases h;done)
 all_goals (cases y<;>simp only at h<;>try (cases h;done))
 · rw [beq_iff_eq] at h;rw [h]
 · simp only [Bool.and_eq_true,kr,beq_iff_eq] at h
   rw [r1 h.1,h.2]
 · rw [tw,beq_iff_eq] at h;rw [h]
theorem Nt:∀{xs cJ:List V},tG xs cJ=true→xs=cJ
 | [],[],_=>rfl
 | [],_::_,h=>by cases h
 | _::_,[],h=>by cases h
 | x::xs,y::cJ,h=>by
   simp only [tG] at h
   cases ab:tF x y with
   | false=>rw [ab] at h;cases h
   | true=>rw [ab] at h;rw [aaD ab,Nt h]
theorem aaC {E:Env} {x:V} {X Y:Value} (h:tF x x=true) (c_:Rel E x X) (e':Rel E x Y):X=Y∧∀n,Instr.sameBits n X X=true:=by
 cases x<;>simp only [tF] at h<;>try (cases h;done)
 · simp only [Rel] at c_ e';subst c_ e';exact ⟨rfl,fun n=>by cases n<;>simp [Instr.sameBits]⟩
 · simp only [Rel] at c_ e';subst c_ e';exact ⟨rfl,fun n=>by cases n<;>simp [Instr.sameBits]⟩
 · simp only [Rel] at c_ e';subst c_ e';exact ⟨rfl,fun n=>by cases n<;>simp [Instr.sameBits,bytes_beq]⟩
theorem Ns {E:Env}:∀{xs:List V} {l cR:List Value},tG xs xs=true→bc E xs l→bc E xs cR→l=cR∧∀n,((l.zip l).all fun (x,y)=>Instr.sameBits n x y)=true
 | [],l,cR,_,ab,ae=>by
   simp only [bc] at ab ae
   subst ab ae
   exact ⟨rfl,fun _=>rfl⟩
 | x::xs,l,cR,h,ab,ae=>by
   obtain ⟨y,cJ,rfl,bH,a2⟩:=ab
   obtain ⟨ve,am6,rfl,cC,ck⟩:=ae
   simp only [tG] at h
   cases aI:tF x x with
   | false=>rw [aI] at h;cases h
   | true=>
     rw [aI] at h
     obtain ⟨rfl,an⟩:=aaC aI bH cC
     obtain ⟨rfl,az⟩:=Ns h a2 ck
     exact ⟨rfl,fun n=>by simp only [List.zip_cons_cons,List.all_cons,an,az,Bool.and_self]⟩
theorem aj6 {w:World} {E:Env} {cm:TypeId}:vr P w E cm (structEq P cm):=by
 intro k bt K mi b he aq a_
 simp only [structEq] at he
 split at he
 case h_2=>cases he
 split at he
 case h_2=>cases he
 rename_i xs _ cJ
 cases aA:(gQ P 12 cm).run (.agg xs) (.agg cJ) with
 | none=>rw [aA] at he;cases he
 | some c=>
   rw [aA] at he
   have aQ:=GS 12 Op.maxDepth cm _ _ K mi c (by decide) aA aq a_ w
   cases c with
   | false=>
     simp only [cond_false,Option.some.injEq] at he
     subst he
     exact ⟨aQ,fun h=>by cases h⟩
   | true=>
     simp only [cond_true] at he
     cases ah:tG xs cJ with
     | false=>rw [ah] at he;cases he
     | true=>
       rw [ah] at he
       simp only [cond_true,Option.some.injEq] at he
       subst he
       refine ⟨aQ,fun _=>?_⟩
       have:=Nt ah
       subst this
       simp only [Rel] at aq a_
       obtain ⟨a,rfl,ab⟩:=aq
       obtain ⟨bm,rfl,ae⟩:=a_
       obtain ⟨e,q⟩:=Ns ah ab ae
       have dj:a=bm:=Array.toList_inj.1 e
       subst dj
       exact ⟨rfl,by show Instr.sameBits (9999+1) _ _=true;simp only [Instr.sameBits,beq_self_eq_true,Bool.true_and];exact q _⟩
theorem run_checkKey_plain {bd:TypeDesc} (ay:mA bd=true) {t:TypeId} {w:World} (hu:(underlying t).run P w=.ok bd w) (b:Bool) (n:Nat) (v:Value):(Instr.checkKey b (n+1) t v).run P w=.ok () w:=by
 unfold Instr.checkKey
 rw [Sem.run_bind,hu]
 cases bd<;>simp only [mA] at ay<;>first
  | (cases ay;done)
  | rfl
theorem aa9 {w:World} {E:Env} {cs:List V} {a:Array Value} (bq:bc E cs a.toList) (b:Bool) (n:Nat):∀(cd:List Field),BW P cs cd=true→
 (do for f in cd do
      if f.name≠ "_" then Instr.checkKey b (n+1) f.type (←part f.type a f.offset):Sem Unit).run P w=.ok () w:=by
 intro cd
 induction cd with
 | nil=>intro _;simp
 | cons f cd bk=>
   intro h
   simp only [BW] at h
   cases ab:(oK P f.type f.offset).run cs with
   | none=>rw [ab] at h;cases h
   | some x=>
     rw [ab] at h
     simp only at h
     cases ae:a8 P f.type with
     | none=>rw [ae] at h;cases h
     | some jE=>
       rw [ae] at h
       simp only at h
       cases aG:mA jE.bd with
       | false=>rw [aG] at h;cases h
       | true=>
         rw [aG] at h
         simp only [cond_true] at h
         obtain ⟨X,c_,_⟩:=Al bq ab w
         have aE:=run_checkKey_plain (P:=P) aG (fk ae w) b n X
         have:=bk h
         by_cases aU:f.name= "_"
         · simpa [aU] using this
         · simpa [aU,c_,aE] using this
theorem aj7 {t:TypeId} (h:rn P t=true) (w:World):∃cd,(underlying t).run P w=.ok (.struct cd) w:=by
 unfold rn at h
 cases aF:a8 P t with
 | none=>rw [aF] at h;cases h
 | some aO=>
   rw [aF] at h
   simp only at h
   have hu:=fk aF w
   cases bU:aO.bd<;>rw [bU] at h<;>simp only at h<;>try (cases h;done)
   rw [bU] at hu
   exact ⟨_,hu⟩
theorem ajm {t:TypeId} {k:V} (aH:uH P t k=true) {E:Env} {K:Value} (aE:Rel E k K) {w:World} (b:Bool):(Instr.checkKey b 10000 t K).run P w=.ok () w:=by
 unfold uH at aH
 cases aF:a8 P t with
 | none=>rw [aF] at aH;cases aH
 | some aO=>
   rw [aF] at aH
   simp only at aH
   have hu:=fk aF w
   cases bU:aO.bd<;>rw [bU] at aH<;>simp only at aH<;>try (cases aH;done)
   rename_i cd
   rw [bU] at hu
   cases k<;>simp only at aH<;>try (cases aH;done)
   rename_i cs
   simp only [Rel] at aE
   obtain ⟨a,rfl,bq⟩:=aE
   show (Instr.checkKey b (9998+1+1) t (.agg a)).run P w=.ok () w
   unfold Instr.checkKey
   rw [Sem.run_bind,hu]
   have:=aa9 (P:=P) (w:=w) bq b 9998 cd.toList aH
   simp only [Result.andThen_ok,Array.forIn_toList] at this ⊢
   exact this
theorem ajo {cm:TypeId} {cd:Array Field} {w:World} (hu:(underlying cm).run P w=.ok (.struct cd) w) {K:Value} {l:List MapEntry} {R:Option (Nat × Value)} (h:(Instr.findAsking cm K l 0).run P w=.ok R w):
 (Instr.findKey cm K l).run P w=.ok R w:=by
 cases l with
 | nil=>
   simp only [Instr.findAsking,Sem.run_pure] at h
   cases h
   simp [Instr.findKey,hu,Instr.findNow]
 | cons dS es=>
   have aU:Instr.findNow (.struct cd) K (dS::es) 0=none:=by simp [Instr.findNow,Instr.sameNow]
   simp [Instr.findKey,hu,aU,h]
structure xT (P:Program) (w:World) (E:Env) (cm:TypeId) (e:dw) (K:Value):Prop where
 eq:vr P w E cm e
 check:∀b,(Instr.checkKey b 10000 cm K).run P w=.ok () w
 find:∀{l:List MapEntry} {R},(Instr.findAsking cm K l 0).run P w=.ok R w→(Instr.findKey cm K l).run P w=.ok R w
theorem EZ {aw:Fr} {E:Env} {h:af} {w:World} (s:a' aw E h w) {cm:TypeId} (aF:lv P cm=true) (K:Value):xT P w E cm ⟨nK h⟩ K:=by
 obtain ⟨Q7,lV⟩:=aiA aF w
 exact ⟨aiz s aF,fun b=>ajl lV b K,fun q=>ajn lV q⟩
theorem E0 {w:World} {E:Env} {cm:TypeId} (aF:rn P cm=true) {k:V} (aH:uH P cm k=true) {K:Value} (aE:Rel E k K):xT P w E cm (structEq P cm) K:=by
 obtain ⟨cd,lV⟩:=aj7 aF w
 exact ⟨aj6,fun b=>ajm aH aE b,fun q=>ajo lV q⟩
end
end Go.Proofs.YthemdhlheglhoaaGreatDoor.aX
namespace Go.Proofs.YthemdhlheglhoaaGreatDoor.aX
variable [Lay]
open Go Go.RowKit
section
variable {P:Program}
theorem IG {E:Env} {bd:TypeDesc} {k bt:V} {K mi:Value} {b:Bool} (he:(kc bd).run k bt=some b) (aq:Rel E k K) (a_:Rel E bt mi):
 Instr.sameNow bd K mi=some b∧(b=true→mi=K∧∀n,Instr.sameBits n K K=true):=by
 cases bd<;>simp only [kc] at he<;>try (simp [dw.none] at he;done)
 case bool=>
  simp only [pw] at he
  cases k<;>simp only at he<;>try (cases he;done)
  cases bt<;>simp only at he<;>try (cases he;done)
  simp only [Rel] at aq a_
  subst aq a_
  simp only [Option.some.injEq] at he
  subst he
  refine ⟨rfl,fun h=>?_⟩
  rw [beq_iff_eq] at h
  subst h
  exact ⟨rfl,fun n=>by cases n<;>simp [Instr.sameBits]⟩
 case int pT=>
  simp only [ks] at he
  obtain ⟨j,m,rfl,ab⟩:=iY he
  clear he
  obtain ⟨CQ,cj,rfl,ae⟩:=iY ab
  clear ab
  obtain ⟨aE,h⟩:=ef ae
  clear ae
  have:=r1 aE
  subst this
  simp only [Rel] at aq a_
  subst aq a_
  simp only [Option.some.injEq,kr] at h
  subst h
  refine ⟨by simp [Instr.sameNow],fun h=>?_⟩
  rw [beq_iff_eq] at h
  subst h
  exact ⟨rfl,fun n=>by cases n<;>simp [Instr.sameBits]⟩
 case string=>
  simp only [tH] at he
  cases k<;>simp only at he<;>try (cases he;done)
  cases bt<;>simp only at he<;>try (cases he;done)
  simp only [Rel] at aq a_
  subst aq a_
  simp only [Option.some.injEq,tw] at he
  subst he
  refine ⟨by simp only [Instr.sameNow,bytes_beq],fun h=>?_⟩
  rw [beq_iff_eq] at h
  subst h
  exact ⟨rfl,fun n=>by cases n<;>simp [Instr.sameBits,bytes_beq]⟩
theorem run_checkKey {bd:TypeDesc} (ay:mA bd=true) {t:TypeId} {w:World} (hu:(underlying t).run P w=.ok bd w) (b:Bool) (v:Value):(Instr.checkKey b 10000 t v).run P w=.ok () w:=by
 show (Instr.checkKey b (9999+1) t v).run P w=.ok () w
 unfold Instr.checkKey
 rw [Sem.run_bind,hu]
 cases bd<;>simp only [mA] at ay<;>first
  | (cases ay;done)
  | rfl
theorem run_findKey {bd:TypeDesc} {t:TypeId} {w:World} (hu:(underlying t).run P w=.ok bd w) {K:Value} {l:List MapEntry} {R:Option (Nat × Value)} (h:Instr.findNow bd K l 0=some R):
 (Instr.findKey t K l).run P w=.ok R w:=by
 simp only [Instr.findKey,Sem.run_bind,hu,Result.andThen_ok,h,Sem.run_pure]
theorem NK {E:Env} {bd:TypeDesc} {k:V} {K:Value} (aE:Rel E k K):∀(es:List cO) (l:List MapEntry) (r:Option V) (i:Nat),nk (kc bd) k es=some r→ee E es l→
 ∃R,Instr.findNow bd K l i=some R∧(match r with
  | none=>R=none
  | some v=>∃j Y,R=some (j,Y)∧Rel E v Y)
 | [],l,r,i,h,aJ=>by
   simp only [ee] at aJ
   subst aJ
   simp only [nk,Option.some.injEq] at h
   subst h
   exact ⟨none,rfl,rfl⟩
 | m::ms,l,r,i,h,aJ=>by
   obtain ⟨e,es,rfl,ab,ae,aG,ba⟩:=aJ
   simp only [nk] at h
   cases aQ:(kc bd).run k m.k with
   | none=>rw [aQ] at h;cases h
   | some b=>
     rw [aQ] at h
     simp only at h
     obtain ⟨an,az⟩:=IG aQ aE ab
     cases b with
     | true=>
       simp only [cond_true,Option.some.injEq] at h
       subst h
       exact ⟨some (i,e.val),by simp only [Instr.findNow,an],i,e.val,rfl,ae⟩
     | false=>
       simp only [cond_false] at h
       obtain ⟨R,g1,g2⟩:=NK aE ms es r (i+1) h ba
       exact ⟨R,by simp only [Instr.findNow,an,g1],g2⟩
theorem RB {E:Env} {bd:TypeDesc} {k v:V} {K X:Value} (aE:Rel E k K) (bs:Rel E v X) (clock:Nat):∀(es:List cO) (l:List MapEntry) (r:List cO × Bool) (i:Nat),kO (kc bd) k v clock es=some r→ee E es l→
 (r.2=true→Instr.findNow bd K l i=some none∧ee E r.1 (l++[⟨K,X,clock⟩]))∧
 (r.2=false→∃j e Y,Instr.findNow bd K l i=some (some (i+j,Y))∧l[j]? =some e∧Instr.sameBits 10000 e.key K=true∧ee E r.1 (l.modify j fun e=>{e with key:=K,val:=X}))
 | [],l,r,i,h,aJ=>by
   simp only [ee] at aJ
   subst aJ
   simp only [kO,Option.some.injEq] at h
   subst h
   exact ⟨fun _=>⟨rfl,_,_,rfl,aE,bs,rfl,rfl⟩,fun h=>by cases h⟩
 | m::ms,l,r,i,h,aJ=>by
   obtain ⟨e,es,rfl,ab,ae,aG,ba⟩:=aJ
   simp only [kO] at h
   cases aQ:(kc bd).run k m.k with
   | none=>rw [aQ] at h;cases h
   | some b=>
     rw [aQ] at h
     simp only at h
     obtain ⟨an,az⟩:=IG aQ aE ab
     cases b with
     | true=>
       simp only [cond_true,Option.some.injEq] at h
       subst h
       obtain ⟨aN,bM⟩:=az rfl
       refine ⟨fun h=>(by cases h),fun _=>⟨0,e,e.val,by simp only [Instr.findNow,an,Nat.add_zero],rfl,by rw [aN];exact bM _,?_⟩⟩
       exact ⟨_,es,rfl,aE,bs,aG,ba⟩
     | false=>
       simp only [cond_false] at h
       cases ah:kO (kc bd) k v clock ms with
       | none=>rw [ah] at h;cases h
       | some bw=>
         rw [ah] at h
         simp only [Option.some.injEq] at h
         subst h
         obtain ⟨g1,g2⟩:=RB aE bs clock ms es bw (i+1) ah ba
         refine ⟨fun h=>?_,fun h=>?_⟩
         · obtain ⟨bH,a2⟩:=g1 h
           exact ⟨by simp only [Instr.findNow,an,bH],⟨e,es++[⟨K,X,clock⟩],rfl,ab,ae,aG,a2⟩⟩
         · obtain ⟨j,dj,Y,bH,a2,a3,a4⟩:=g2 h
           exact ⟨j+1,dj,Y,by simp only [Instr.findNow,an,bH];congr 3;omega,by simpa using a2,a3,e,_,rfl,ab,ae,aG,a4⟩
theorem IX {aw:Fr} {E:Env} {h:af} {w:World} (s:a' aw E h w) {x:V} {X:Value} {es:List cO} (he:su h x=some es) (aq:Rel E x X):
 (X=.map none∧es=[])∨∃r a clock,X=.map (some r)∧(getObj r).run P w=.ok (.map a clock) w∧ee E es a.toList:=by
 cases x<;>simp only [su] at he<;>try (cases he;done)
 · simp only [Rel] at aq
   exact .inl ⟨aq,by simpa using he.symm⟩
 · rename_i b
   simp only [Rel] at aq
   obtain ⟨p,ah,rfl⟩:=aq
   have ag:=s.at ah
   cases aH:h.get b<;>rw [aH] at he<;>simp only [cb.kg] at he<;>try (cases he;done)
   simp only [Option.some.injEq] at he
   subst he
   rw [aH] at ag
   obtain ⟨q,a,ab,_,aG,ba⟩:=ag
   rw [ah] at ab;cases ab
   exact .inr ⟨p.aW,a,_,rfl,by simp only [getObj,Sem.run,aG];rfl,ba⟩
theorem NH {bd:TypeDesc} {K:Value}:∀{l:List MapEntry} {i:Nat},(∀e ∈ l,Instr.sameNow bd K e.key=some false)→Instr.findNow bd K l i=some none
 | [],_,_=>rfl
 | e::es,i,h=>by
   simp only [Instr.findNow,h e (by simp)]
   exact NH fun dj et=>h dj (by simp [et])
theorem NI {bd:TypeDesc} {K:Value}:∀{l:List MapEntry} {i:Nat},(∀e ∈ l,∃b,Instr.sameNow bd K e.key=some b)→(∃e ∈ l,Instr.sameNow bd K e.key=some true)→
 ∃j,∃e ∈ l,Instr.sameNow bd K e.key=some true∧Instr.findNow bd K l i=some (some (j,e.val))
 | [],_,_,h=>by obtain ⟨e,he,_⟩:=h;simp at he
 | e::es,i,ab,ae=>by
   obtain ⟨b,ag⟩:=ab e (by simp)
   cases b with
   | true=>exact ⟨i,e,by simp,ag,by simp only [Instr.findNow,ag]⟩
   | false=>
     obtain ⟨dj,et,aF⟩:=ae
     simp only [List.mem_cons] at et
     rcases et with rfl | et
     · rw [ag] at aF;cases aF
     · obtain ⟨j,aS,an,az,aN⟩:=NI (i:=i+1) (fun x aq=>ab x (by simp [aq])) ⟨dj,et,aF⟩
       exact ⟨j,aS,by simp [an],az,by simp only [Instr.findNow,ag,aN]⟩
theorem NJ {E:Env} {bd:TypeDesc} {k:V} {K:Value} (aE:Rel E k K):∀(es:List cO) (l:List MapEntry) (r:Option V),qI (kc bd) k es=some r→mq E es l→
 (∀e ∈ l,∃b,Instr.sameNow bd K e.key=some b)∧(match r with
  | none=>∀e ∈ l,Instr.sameNow bd K e.key=some false
  | some v=>(∃e ∈ l,Instr.sameNow bd K e.key=some true)∧∀e ∈ l,Instr.sameNow bd K e.key=some true→Rel E v e.val)
 | [],l,r,h,aJ=>by
   simp only [mq] at aJ
   subst aJ
   simp only [qI,Option.some.injEq] at h
   subst h
   exact ⟨fun e he=>by simp at he,fun e he=>by simp at he⟩
 | m::ms,l,r,h,aJ=>by
   obtain ⟨e,es,rfl,ab,ae,ba⟩:=aJ
   simp only [qI] at h
   cases ay:qI (kc bd) k ms with
   | none=>rw [ay] at h;cases h
   | some bw=>
     rw [ay] at h
     simp only at h
     obtain ⟨g1,g2⟩:=NJ aE ms es bw ay ba
     cases aQ:(kc bd).run k m.k with
     | none=>rw [aQ] at h;cases h
     | some b=>
       rw [aQ] at h
       simp only at h
       obtain ⟨an,_⟩:=IG aQ aE ab
       have Hn:∀dj ∈ e::es,∃b,Instr.sameNow bd K dj.key=some b:=by
        intro dj et
        rcases List.mem_cons.1 et with rfl | et
        · exact ⟨b,an⟩
        · exact g1 dj et
       refine ⟨Hn,?_⟩
       cases b with
       | true=>
         simp only [cond_true] at h
         cases bw with
         | some _=>cases h
         | none=>
           simp only [Option.some.injEq] at h
           subst h
           refine ⟨⟨e,by simp,an⟩,fun dj et aF=>?_⟩
           rcases List.mem_cons.1 et with rfl | et
           · exact ae
           · have:=g2 dj et
             rw [aF] at this;cases this
       | false=>
         simp only [cond_false,Option.some.injEq] at h
         subst h
         cases bw with
         | none=>
           intro dj et
           rcases List.mem_cons.1 et with rfl | et
           · exact an
           · exact g2 dj et
         | some v=>
           obtain ⟨⟨cS,ek,eJ⟩,y3⟩:=g2
           refine ⟨⟨cS,by simp [ek],eJ⟩,fun dj et aF=>?_⟩
           rcases List.mem_cons.1 et with rfl | et
           · rw [an] at aF;cases aF
           · exact y3 dj et aF
theorem aa1 {E:Env} {bd:TypeDesc} {k:V} {K:Value} (aE:Rel E k K) {es:List cO} {l a:List MapEntry} {r:Option V} (h:qI (kc bd) k es=some r) (aJ:mq E es l) (ah:l.Perm a):
 ∃R,Instr.findNow bd K a 0=some R∧(match r with
  | none=>R=none
  | some v=>∃j Y,R=some (j,Y)∧Rel E v Y):=by
 obtain ⟨ab,ae⟩:=NJ aE es l r h aJ
 have hm:∀e,e ∈ a↔e ∈ l:=fun e=>ah.mem_iff.symm
 cases r with
 | none=>exact ⟨none,NH fun e he=>ae e ((hm e).1 he),rfl⟩
 | some v=>
   obtain ⟨⟨cS,ek,eJ⟩,y3⟩:=ae
   obtain ⟨j,e,an,az,aN⟩:=NI (i:=0) (fun e he=>ab e ((hm e).1 he)) ⟨cS,(hm cS).2 ek,eJ⟩
   exact ⟨_,aN,j,e.val,rfl,y3 e ((hm e).1 an) az⟩
theorem ag2 {e:dw} {z:V} {ok:Bool} {h:af} {x k v:V} (he:nD e z ok h x k=some v):
 q6 e z ok h x k=some v∨∃b es r,x=.map b∧h.get b=.iz es∧qI e k es=some r∧v=(match r with
  | some u=>bif ok then .tuple [u,.bool true] else u
  | none=>bif ok then .tuple [z,.bool false] else z):=by
 unfold nD at he
 cases x<;>simp only at he<;>try (exact .inl he)
 rename_i b
 cases aH:h.get b<;>rw [aH] at he<;>simp only at he<;>try (exact .inl he)
 rename_i es
 cases ay:qI e k es with
 | none=>rw [ay] at he;cases he
 | some r=>
   rw [ay] at he
   refine .inr ⟨b,es,r,rfl,aH,ay,?_⟩
   cases r<;>simp only [Option.some.injEq] at he<;>exact he.symm
theorem ag1 {aw:Fr} {E:Env} {h:af} {w:World} (s:a' aw E h w) {t:TypeId} {ok:Bool} {x k v:V} {X K:Value} (aq:Rel E x X) (aE:Rel E k K) (he:(CY P t ok).run h x k=some v):
 ∃Z,(Instr.lookup t X K ok).run P w=.ok Z w∧Rel E v Z:=by
 unfold CY at he
 cases aF:a8 P t with
 | none=>rw [aF] at he;cases he
 | some aO=>
   rw [aF] at he
   simp only at he
   have hu:=fk aF w
   cases bU:aO.bd<;>rw [bU] at he<;>simp only at he<;>try (cases he;done)
   rename_i cm jC
   rw [bU] at hu
   cases gT:a8 P cm with
   | none=>rw [gT] at he;cases he
   | some gY=>
     rw [gT] at he
     simp only at he
     cases het:a8 P jC with
     | none=>rw [het] at he;cases he
     | some bh=>
       rw [het] at he
       simp only at he
       cases bo:bh.zero with
       | none=>rw [bo] at he;cases he
       | some z=>
         rw [bo] at he
         simp only at he
         cases ay:mA gY.bd with
         | false=>
           rw [ay] at he
           simp only [cond_false] at he
           have r':∃e,xT P w E cm e K∧q6 e z ok h x k=some v:=by
            cases nu:lv P cm with
            | true=>
              rw [nu] at he
              exact ⟨_,EZ s nu K,he⟩
            | false=>
              rw [nu] at he
              simp only [cond_false] at he
              cases cG:rn P cm with
              | false=>rw [cG] at he;cases he
              | true=>
                rw [cG] at he
                simp only [cond_true] at he
                obtain ⟨aH,he⟩:=ef he
                exact ⟨_,E0 cG aH aE,he⟩
           clear he
           obtain ⟨e,ask,he⟩:=r'
           obtain ⟨s_,l0,lh,_⟩:=xC (P:=P) het bo E w
           simp only [q6] at he
           cases hm:su h x with
           | none=>rw [hm] at he;cases he
           | some es=>
             rw [hm] at he
             simp only at he
             cases tZ:nk e k es with
             | none=>rw [tZ] at he;cases he
             | some r=>
               rw [tZ] at he
               simp only at he
               have main:∀(l:List MapEntry),ee E es l→∃R,(Instr.findKey cm K l).run P w=.ok R w∧
                ((R=none∧Rel E v (if ok=true then .tuple #[s_,.bool false] else s_))∨∃j Y,R=some (j,Y)∧Rel E v (if ok=true then .tuple #[Y,.bool true] else Y)):=by
                intro l ai
                obtain ⟨R,g1,g2⟩:=NF ask.eq aE es l r 0 tZ ai
                refine ⟨R,ask.find g1,?_⟩
                cases r with
                | none=>
                  simp only at g2 he
                  refine .inl ⟨g2,?_⟩
                  simp only [Option.some.injEq] at he
                  subst he
                  cases ok
                  · exact lh
                  · simp only [cond_true,if_true,Rel,bc];exact ⟨_,rfl,_,_,rfl,lh,_,_,rfl,rfl,rfl⟩
                | some u=>
                  simp only at g2 he
                  obtain ⟨j,Y,cM,e'⟩:=g2
                  refine .inr ⟨j,Y,cM,?_⟩
                  simp only [Option.some.injEq] at he
                  subst he
                  cases ok
                  · exact e'
                  · simp only [cond_true,if_true,Rel,bc];exact ⟨_,rfl,_,_,rfl,e',_,_,rfl,rfl,rfl⟩
               rcases IX (P:=P) s hm aq with ⟨rfl,rfl⟩ | ⟨bE,a,clock,rfl,eN,pK⟩
               · obtain ⟨R,g1,g2⟩:=main [] rfl
                 have hs:=ask.check true
                 rcases g2 with ⟨rfl,g3⟩ | ⟨j,Y,rfl,g3⟩
                 all_goals
                  refine ⟨_,?_,g3⟩
                  simp only [Instr.lookup,Sem.run_bind,hu,Result.andThen_ok,Sem.run_pure]
                  have aK:(#[]:Array MapEntry).isEmpty=true:=rfl
                  rw [aK,hs,Result.andThen_ok,g1,Result.andThen_ok]
                  simp only [Sem.run_bind,l0,Result.andThen_ok,Sem.run_pure]
               · obtain ⟨R,g1,g2⟩:=main a.toList pK
                 have hs:=ask.check a.isEmpty
                 rcases g2 with ⟨rfl,g3⟩ | ⟨j,Y,rfl,g3⟩
                 all_goals
                  refine ⟨_,?_,g3⟩
                  simp only [Instr.lookup,Sem.run_bind,hu,Result.andThen_ok,Sem.run_pure,eN]
                  rw [hs,Result.andThen_ok,g1,Result.andThen_ok]
                  simp only [Sem.run_bind,l0,Result.andThen_ok,Sem.run_pure]
         | true=>
           rw [ay] at he
           simp only [cond_true] at he
           obtain ⟨s_,l0,lh,_⟩:=xC (P:=P) het bo E w
           have lV:=fk gT w
           rcases ag2 he with he | ⟨b,es,r,rfl,aH,acG,rfl⟩
           case inr=>
            simp only [Rel] at aq
            obtain ⟨p,ah,rfl⟩:=aq
            have ag:=s.at ah
            rw [aH] at ag
            obtain ⟨p',a,c,l,fF,_,bf,adJ,adK⟩:=ag
            rw [ah] at fF;cases fF
            obtain ⟨R,g1,g2⟩:=aa1 aE acG adJ adK
            have eN:(getObj p.aW).run P w=.ok (.map a c) w:=by simp only [getObj,Sem.run,bf]
            have hs:=run_checkKey (P:=P) ay lV a.isEmpty K
            have B4:=run_findKey lV g1
            cases r with
            | none=>
              simp only at g2
              subst g2
              refine ⟨if ok=true then .tuple #[s_,.bool false] else s_,?_,?_⟩
              · simp only [Instr.lookup,Sem.run_bind,hu,Result.andThen_ok,Sem.run_pure,eN]
                rw [hs,Result.andThen_ok,B4,Result.andThen_ok]
                simp only [Sem.run_bind,l0,Result.andThen_ok,Sem.run_pure]
              · cases ok
                · exact lh
                · simp only [cond_true,if_true,Rel,bc];exact ⟨_,rfl,_,_,rfl,lh,_,_,rfl,rfl,rfl⟩
            | some u=>
              simp only at g2
              obtain ⟨j,Y,rfl,e'⟩:=g2
              refine ⟨if ok=true then .tuple #[Y,.bool true] else Y,?_,?_⟩
              · simp only [Instr.lookup,Sem.run_bind,hu,Result.andThen_ok,Sem.run_pure,eN]
                rw [hs,Result.andThen_ok,B4,Result.andThen_ok]
                simp only [Sem.run_bind,Sem.run_pure,Result.andThen_ok]
              · cases ok
                · exact e'
                · simp only [cond_true,if_true,Rel,bc];exact ⟨_,rfl,_,_,rfl,e',_,_,rfl,rfl,rfl⟩
           simp only [q6] at he
           cases hm:su h x with
           | none=>rw [hm] at he;cases he
           | some es=>
             rw [hm] at he
             simp only at he
             cases tZ:nk (kc gY.bd) k es with
             | none=>rw [tZ] at he;cases he
             | some r=>
               rw [tZ] at he
               simp only at he
               have main:∀(l:List MapEntry),ee E es l→∃R,(Instr.findKey cm K l).run P w=.ok R w∧
                ((R=none∧Rel E v (if ok=true then .tuple #[s_,.bool false] else s_))∨∃j Y,R=some (j,Y)∧Rel E v (if ok=true then .tuple #[Y,.bool true] else Y)):=by
                intro l ai
                obtain ⟨R,g1,g2⟩:=NK aE es l r 0 tZ ai
                refine ⟨R,run_findKey lV g1,?_⟩
                cases r with
                | none=>
                  simp only at g2 he
                  refine .inl ⟨g2,?_⟩
                  simp only [Option.some.injEq] at he
                  subst he
                  cases ok
                  · exact lh
                  · simp only [cond_true,if_true,Rel,bc];exact ⟨_,rfl,_,_,rfl,lh,_,_,rfl,rfl,rfl⟩
                | some u=>
                  simp only at g2 he
                  obtain ⟨j,Y,cM,e'⟩:=g2
                  refine .inr ⟨j,Y,cM,?_⟩
                  simp only [Option.some.injEq] at he
                  subst he
                  cases ok
                  · exact e'
                  · simp only [cond_true,if_true,Rel,bc];exact ⟨_,rfl,_,_,rfl,e',_,_,rfl,rfl,rfl⟩
               rcases IX (P:=P) s hm aq with ⟨rfl,rfl⟩ | ⟨bE,a,clock,rfl,eN,pK⟩
               · obtain ⟨R,g1,g2⟩:=main [] rfl
                 have hs:=run_checkKey (P:=P) ay lV true K
                 rcases g2 with ⟨rfl,g3⟩ | ⟨j,Y,rfl,g3⟩
                 all_goals
                  refine ⟨_,?_,g3⟩
                  simp only [Instr.lookup,Sem.run_bind,hu,Result.andThen_ok,Sem.run_pure]
                  have aK:(#[]:Array MapEntry).isEmpty=true:=rfl
                  rw [aK,hs,Result.andThen_ok,g1,Result.andThen_ok]
                  simp only [Sem.run_bind,l0,Result.andThen_ok,Sem.run_pure]
               · obtain ⟨R,g1,g2⟩:=main a.toList pK
                 have hs:=run_checkKey (P:=P) ay lV a.isEmpty K
                 rcases g2 with ⟨rfl,g3⟩ | ⟨j,Y,rfl,g3⟩
                 all_goals
                  refine ⟨_,?_,g3⟩
                  simp only [Instr.lookup,Sem.run_bind,hu,Result.andThen_ok,Sem.run_pure,eN]
                  rw [hs,Result.andThen_ok,g1,Result.andThen_ok]
                  simp only [Sem.run_bind,l0,Result.andThen_ok,Sem.run_pure]
theorem S7 {aw:Fr} {E:Env} {h aa:af} {w:World} (s:a' aw E h w) {t:TypeId} {x k v:V} {X K Y:Value} (aq:Rel E x X) (aE:Rel E k K) (bs:Rel E v Y) (he:(nP P t).run h x k v=some aa):
 ∃ao,(Instr.mapUpdate t X K Y).run P w=.ok () ao∧a' aw E aa ao:=by
 unfold nP at he
 cases aF:a8 P t with
 | none=>rw [aF] at he;cases he
 | some aO=>
   rw [aF] at he
   simp only at he
   have hu:=fk aF w
   cases bU:aO.bd<;>rw [bU] at he<;>simp only at he<;>try (cases he;done)
   rename_i cm jC
   rw [bU] at hu
   cases gT:a8 P cm with
   | none=>rw [gT] at he;cases he
   | some gY=>
     rw [gT] at he
     simp only at he
     cases ay:mA gY.bd with
     | false=>
       rw [ay] at he
       simp only [cond_false] at he
       have r':∃e,xT P w E cm e K∧mN e h x k v=some aa:=by
        cases nu:lv P cm with
        | true=>
          rw [nu] at he
          exact ⟨_,EZ s nu K,he⟩
        | false=>
          rw [nu] at he
          simp only [cond_false] at he
          cases cG:rn P cm with
          | false=>rw [cG] at he;cases he
          | true=>
            rw [cG] at he
            simp only [cond_true] at he
            obtain ⟨aH,he⟩:=ef he
            exact ⟨_,E0 cG aH aE,he⟩
       clear he
       obtain ⟨e,ask,he⟩:=r'
       cases x<;>simp only [mN] at he<;>try (cases he;done)
       rename_i b
       simp only [Rel] at aq
       obtain ⟨p,ah,rfl⟩:=aq
       have ag:=s.at ah
       cases aH:h.get b<;>rw [aH] at he<;>simp only [cb.kg] at he<;>try (cases he;done)
       rename_i es clock
       rw [aH] at ag
       obtain ⟨q,a,ab,c2,aG,ba⟩:=ag
       rw [ah] at ab;cases ab
       cases uo:kO e k v clock es with
       | none=>rw [uo] at he;cases he
       | some r=>
         rw [uo] at he
         simp only [Option.some.injEq] at he
         subst he
         have eN:(getObj p.aW).run P w=.ok (.map a clock) w:=by simp only [getObj,Sem.run,aG]
         have hs:=ask.check false
         have kB:=(Array.getElem?_eq_some_iff.1 aG).1
         have yO:∀(bm:Array MapEntry) (gP:Nat),ee E r.1 bm.toList→gP=(bif r.2 then clock+1 else clock)→
          ∃ao,(setObj p.aW (.map bm gP)).run P w=.ok () ao∧a' aw E (h.set b (.mp r.1 (bif r.2 then clock+1 else clock))) ao:=by
          intro bm gP hm aI
          refine ⟨{w with heap:=w.heap.setIfInBounds p.aW (.map bm gP)},by simp only [setObj,Sem.run,aG],s.set (p:=p) (by rw [aH];rfl) ah c2 (by simp) (fun j bK=>?_) rfl rfl rfl (fun _ _ _ e=>by cases e) ?_⟩
          · simp only [Array.getElem?_setIfInBounds]
            rw [if_neg (fun e=>bK e.symm)]
          · exact ⟨p,bm,ah,c2,by simp [kB,aI],hm⟩
         obtain ⟨g1,g2⟩:=Rs ask.eq aE bs clock es a.toList r 0 uo ba
         cases kD:r.2 with
         | true=>
           obtain ⟨bH,a2⟩:=g1 kD
           obtain ⟨ao,d1,d2⟩:=yO (a.push ⟨K,Y,clock⟩) (clock+1) (by simpa using a2) (by rw [kD];rfl)
           rw [kD] at d2
           refine ⟨ao,?_,d2⟩
           simp only [Instr.mapUpdate,Sem.run_bind,hu,Result.andThen_ok,eN,hs,ask.find bH,d1]
         | false=>
           obtain ⟨j,dS,UW,bH,a2,a3,a4⟩:=g2 kD
           obtain ⟨ao,d1,d2⟩:=yO (a.modify j fun dS=>{dS with key:=K,val:=Y}) clock (by simpa using a4) (by rw [kD];rfl)
           rw [kD] at d2
           refine ⟨ao,?_,d2⟩
           rw [Nat.zero_add] at bH
           have aK:a[j]? =some dS:=by simpa using a2
           simp only [Instr.mapUpdate,Sem.run_bind,hu,Result.andThen_ok,eN,hs,ask.find bH,aK,Option.map,Option.getD,Instr.keyThatStays,a3,if_true,Sem.run_pure,d1]
     | true=>
       rw [ay] at he
       simp only [cond_true] at he
       have lV:=fk gT w
       cases x<;>simp only [mN] at he<;>try (cases he;done)
       rename_i b
       simp only [Rel] at aq
       obtain ⟨p,ah,rfl⟩:=aq
       have ag:=s.at ah
       cases aH:h.get b<;>rw [aH] at he<;>simp only [cb.kg] at he<;>try (cases he;done)
       rename_i es clock
       rw [aH] at ag
       obtain ⟨q,a,ab,c2,aG,ba⟩:=ag
       rw [ah] at ab;cases ab
       cases uo:kO (kc gY.bd) k v clock es with
       | none=>rw [uo] at he;cases he
       | some r=>
         rw [uo] at he
         simp only [Option.some.injEq] at he
         subst he
         have eN:(getObj p.aW).run P w=.ok (.map a clock) w:=by simp only [getObj,Sem.run,aG]
         have hs:=run_checkKey (P:=P) ay lV false K
         have kB:=(Array.getElem?_eq_some_iff.1 aG).1
         have done:∀(bm:Array MapEntry) (gP:Nat),ee E r.1 bm.toList→gP=(bif r.2 then clock+1 else clock)→
          ∃ao,(setObj p.aW (.map bm gP)).run P w=.ok () ao∧a' aw E (h.set b (.mp r.1 (bif r.2 then clock+1 else clock))) ao:=by
          intro bm gP hm aI
          refine ⟨{w with heap:=w.heap.setIfInBounds p.aW (.map bm gP)},by simp only [setObj,Sem.run,aG],s.set (p:=p) (by rw [aH];rfl) ah c2 (by simp) (fun j bK=>?_) rfl rfl rfl (fun _ _ _ e=>by cases e) ?_⟩
          · simp only [Array.getElem?_setIfInBounds]
            rw [if_neg (fun e=>bK e.symm)]
          · exact ⟨p,bm,ah,c2,by simp [kB,aI],hm⟩
         obtain ⟨g1,g2⟩:=RB aE bs clock es a.toList r 0 uo ba
         cases kD:r.2 with
         | true=>
           obtain ⟨bH,a2⟩:=g1 kD
           obtain ⟨ao,d1,d2⟩:=done (a.push ⟨K,Y,clock⟩) (clock+1) (by simpa using a2) (by rw [kD];rfl)
           rw [kD] at d2
           refine ⟨ao,?_,d2⟩
           simp only [Instr.mapUpdate,Sem.run_bind,hu,Result.andThen_ok,eN,hs,run_findKey lV bH,d1]
         | false=>
           obtain ⟨j,e,UW,bH,a2,a3,a4⟩:=g2 kD
           obtain ⟨ao,d1,d2⟩:=done (a.modify j fun e=>{e with key:=K,val:=Y}) clock (by simpa using a4) (by rw [kD];rfl)
           rw [kD] at d2
           refine ⟨ao,?_,d2⟩
           rw [Nat.zero_add] at bH
           have aK:a[j]? =some e:=by simpa using a2
           simp only [Instr.mapUpdate,Sem.run_bind,hu,Result.andThen_ok,eN,hs,run_findKey lV bH,aK,Option.map,Option.getD,Instr.keyThatStays,a3,if_true,Sem.run_pure,d1]
theorem QE {aw:Fr} {E:Env} {h aa:af} {w:World} (s:a' aw E h w) {v:V} (he:uR h=.val v aa):c8 aw P E w (do pure (.map (some (←newObj (.map #[] 0))))) v aa:=by
 unfold uR at he
 simp only [aY.val.injEq] at he
 obtain ⟨rfl,rfl⟩:=he
 have da:=s.fresh h.next (Nat.le_refl _)
 have dQ:E.put (al h.next) ⟨w.heap.size,0,0⟩ (al h.next)=some ⟨w.heap.size,0,0⟩:=by unfold Env.put;rw [if_pos rfl]
 refine ⟨.map (some w.heap.size),{w with heap:=w.heap.push (.map #[] 0)},_,?_,Env.kK (p:=⟨w.heap.size,0,0⟩) da,?_,s.alloc 0 ?_⟩
 · simp only [Sem.run_bind,run_newObj,Result.andThen_ok,Sem.run_pure]
 · simp only [Rel];exact ⟨_,dQ,rfl⟩
 · exact ⟨_,#[],dQ,s.frame.size,by simp,rfl⟩
theorem ag6 {aw:Fr} {E:Env} {h aa:af} {w:World} (s:a' aw E h w) {t:TypeId} {x:Option V} {X:Option Value} {v:V} (aq:hg E x X) (he:xg P t x h=.val v aa):c8 aw P E w (Instr.makeMap t X) v aa:=by
 unfold xg at he
 cases aF:a8 P t with
 | none=>rw [aF] at he;cases he
 | some aO=>
   rw [aF] at he
   simp only at he
   have hu:=fk aF
   cases ag:Nat.beq (eO aO.bd) 3 with
   | false=>rw [ag] at he;cases he
   | true=>
     rw [ag] at he
     simp only [cond_true] at he
     cases x with
     | none=>
       have:X=none:=by cases X with | none=>rfl | some _=>simp [hg] at aq
       subst this
       simp only [pZ] at he
       have:=QE (P:=P) s he
       exact this
     | some u=>
       simp only [pZ] at he
       obtain ⟨c6,n,rfl,ab⟩:=Ac he
       obtain ⟨Y,rfl,e'⟩:∃Y,X=some Y∧Rel E (.int c6 n) Y:=by
        cases X with
        | none=>simp [hg] at aq
        | some Y=>simp only [hg] at aq;obtain ⟨alB,ab,ae⟩:=aq;cases ab;exact ⟨_,rfl,ae⟩
       have:=e'.iv;subst this
       obtain ⟨Z,ao,av,an,az⟩:=QE (P:=P) s ab
       refine ⟨Z,ao,av,?_,az⟩
       cases bU:aO.bd<;>rw [bU] at ag<;>simp [eO] at ag
       have hu:=hu w
       rw [bU] at hu
       simp only [Instr.makeMap,Sem.run_bind,hu,Result.andThen_ok,asInt,Sem.run_pure]
       exact an
theorem agE {aw:Fr} {E:Env} {h aa:af} {w:World} (s:a' aw E h w) {t:TypeId} {aO:mo} (aF:a8 P t=some aO) (hm:sn aO.bd=true) {x v:V} {X:Value} (aq:Rel E x X) (ty:TypeId) (rest:List TypeId)
 (he:zS [x] h=.val v aa):c8 aw P E w (Builtin.len_ (t::rest).toArray ty #[X]) v aa:=by
 simp only [zS] at he
 cases aQ:su h x with
 | none=>rw [aQ] at he;cases he
 | some es=>
   rw [aQ] at he
   simp only [aY.val.injEq] at he
   obtain ⟨rfl,rfl⟩:=he
   have hu:=fk aF w
   cases bU:aO.bd<;>rw [bU] at hm<;>simp [sn] at hm
   rw [bU] at hu
   rcases IX (P:=P) s aQ aq with ⟨rfl,rfl⟩ | ⟨bE,a,clock,rfl,eN,pK⟩
   · refine c8.plain (Z:=goInt 0) s ?_ (by simp [Rel,goInt])
     simp [Builtin.len_,hu]
   · have hlen:∀(ms:List cO) (l:List MapEntry),ee E ms l→l.length=ms.length:=by
      intro ms
      induction ms with
      | nil=>intro l h;simp only [ee] at h;subst h;rfl
      | cons m ms bk=>intro l h;obtain ⟨e,es,rfl,_,_,_,ba⟩:=h;simp [bk _ ba]
     refine c8.plain (Z:=goInt a.size) s ?_ ?_
     · simp [Builtin.len_,hu,eN]
     · have:=hlen _ _ pK
       simp only [Array.length_toList] at this
       simp [Rel,goInt,this]
end
end Go.Proofs.YthemdhlheglhoaaGreatDoor.aX
namespace Go.Proofs.YthemdhlheglhoaaGreatDoor.aX
variable [Lay]
open Go Go.RowKit
section
variable {P:Program}
theorem ND {E:Env} {v:V} {Y:Value} (bs:Rel E v Y) {n:Nat}:∀(es:List cO) (l:List MapEntry) (r:List cO),v_ n v es=some r→ee E es l→
 ∃j,l.findIdx? (fun e=>(e.born:Int) == (n:Int))=some j∧ee E r (l.modify j fun e=>{e with val:=Y})
 | [],l,r,h,aJ=>by cases h
 | m::ms,l,r,h,aJ=>by
   obtain ⟨e,es,rfl,ab,ae,aG,ba⟩:=aJ
   simp only [v_] at h
   cases ag:Nat.beq m.born n with
   | true=>
     rw [ag] at h
     simp only [cond_true,Option.some.injEq] at h
     subst h
     have aU:=Nat.eq_of_beq_eq_true ag
     refine ⟨0,by simp [List.findIdx?_cons,aG,aU],?_⟩
     exact ⟨_,es,rfl,ab,bs,aG,ba⟩
   | false=>
     rw [ag] at h
     simp only [cond_false] at h
     cases ay:v_ n v ms with
     | none=>rw [ay] at h;cases h
     | some bw=>
       rw [ay] at h
       simp only [Option.some.injEq] at h
       subst h
       obtain ⟨j,g1,g2⟩:=ND bs ms es bw ay ba
       have dI:¬((e.born:Int) == (n:Int))=true:=by
        rw [aG]
        intro aA
        have wP:(m.born:Int)=(n:Int):=by simpa using aA
        have ado:m.born=n:=by omega
        rw [ado,Nat.beq_refl] at ag
        cases ag
       refine ⟨j+1,by simp only [List.findIdx?_cons,dI];simp [g1],⟨e,_,by simp [List.modify],ab,ae,aG,g2⟩⟩
theorem aay {aw:Fr} {E:Env} {h aa:af} {w:World} (s:a' aw E h w) {t:TypeId} {x st v:V} {X S Y:Value} (aq:Rel E x X) (cG:Rel E st S) (bs:Rel E v Y) (he:BL h x st v=some aa):
 ∃ao,(Instr.entryStore t X S Y).run P w=.ok () ao∧a' aw E aa ao:=by
 unfold BL at he
 split at he
 case h_2=>cases he
 rename_i b
 split at he
 case h_2=>cases he
 rename_i c6 m
 split at he
 case h_2=>cases he
 rename_i n
 simp only [Rel] at aq cG
 obtain ⟨p,ah,rfl⟩:=aq
 subst cG
 have ag:=s.at ah
 cases aH:h.get b<;>rw [aH] at he<;>simp only [cb.kg] at he<;>try (cases he;done)
 rename_i es clock
 rw [aH] at ag
 obtain ⟨q,a,ab,c2,aG,ba⟩:=ag
 rw [ah] at ab;cases ab
 cases ay:v_ n v es with
 | none=>rw [ay] at he;cases he
 | some r=>
   rw [ay] at he
   simp only [Option.some.injEq] at he
   subst he
   obtain ⟨j,g1,g2⟩:=ND bs es a.toList r ay ba
   have eN:(getObj p.aW).run P w=.ok (.map a clock) w:=by simp only [getObj,Sem.run,aG]
   have kB:=(Array.getElem?_eq_some_iff.1 aG).1
   have B4:a.findIdx? (fun e=>(e.born:Int) == (n:Int))=some j:=by
    rw [←g1]
    cases a with | mk zO=>simp
   have bq:(asInt (.int c6 (Int.ofNat n))).run P w=.ok (n:Int) w:=by simp [asInt,asIntOf]
   refine ⟨{w with heap:=w.heap.setIfInBounds p.aW (.map (a.modify j fun e=>{e with val:=Y}) clock)},?_,s.set (p:=p) (by rw [aH];rfl) ah c2 (by simp) (fun j bK=>?_) rfl rfl rfl (fun _ _ _ e=>by cases e) ?_⟩
   · simp only [Instr.entryStore,Sem.run_bind,eN,Result.andThen_ok,bq,B4,setObj,Sem.run,aG]
   · simp only [Array.getElem?_setIfInBounds]
     rw [if_neg (fun e=>bK e.symm)]
   · exact ⟨p,a.modify j fun e=>{e with val:=Y},ah,c2,by simp [kB],by rw [Array.toList_modify];exact g2⟩
theorem NG {w:World} {E:Env} {cm:TypeId} {e:dw} (k3:vr P w E cm e) {k:V} {K:Value} (aE:Rel E k K):∀(es:List cO) (l:List MapEntry) (r:Option cO) (i:Nat),wa e k es=some r→ee E es l→
 (r=none→(Instr.findAsking cm K l i).run P w=.ok none w)∧
 (∀m,r=some m→∃j dS,(Instr.findAsking cm K l i).run P w=.ok (some (i+j,dS.val)) w∧l[j]? =some dS∧dS.key=K∧Rel E m.v dS.val∧dS.born=m.born∧Instr.sameBits 10000 K K=true∧ee E es (l.modify j fun dS=>{dS with key:=K}))
 | [],l,r,i,h,aJ=>by
   simp only [ee] at aJ
   subst aJ
   simp only [wa,Option.some.injEq] at h
   subst h
   exact ⟨fun _=>rfl,fun m hm=>by cases hm⟩
 | m::ms,l,r,i,h,aJ=>by
   obtain ⟨dS,es,rfl,ab,ae,aG,ba⟩:=aJ
   simp only [wa] at h
   cases aQ:e.run k m.k with
   | none=>rw [aQ] at h;cases h
   | some b=>
     rw [aQ] at h
     simp only at h
     obtain ⟨an,az⟩:=k3 _ _ _ _ _ aQ aE ab
     cases b with
     | true=>
       simp only [cond_true,Option.some.injEq] at h
       subst h
       obtain ⟨aN,bM⟩:=az rfl
       refine ⟨fun h=>(by cases h),fun cj hm=>?_⟩
       cases hm
       exact ⟨0,dS,by simp [Instr.findAsking,an],rfl,aN,ae,aG,bM,⟨_,es,rfl,by rw [←aN];exact ab,ae,aG,ba⟩⟩
     | false=>
       simp only [cond_false] at h
       obtain ⟨g1,g2⟩:=NG k3 aE ms es r (i+1) h ba
       refine ⟨fun h=>by simp [Instr.findAsking,an,g1 h],fun cj hm=>?_⟩
       obtain ⟨j,aax,bH,a2,a3,a4,a5,iL,EU⟩:=g2 cj hm
       exact ⟨j+1,aax,by simp [Instr.findAsking,an,bH];omega,by simpa using a2,a3,a4,a5,iL,⟨dS,_,rfl,ab,ae,aG,EU⟩⟩
theorem Qq {aw:Fr} {E:Env} {h aa:af} {w:World} (s:a' aw E h w) {t cm jC:TypeId} (hu:(underlying t).run P w=.ok (.map cm jC) w) {e:dw} {z:V} {Z:Value} (bo:(zeroValue jC).run P w=.ok Z w) (lh:Rel E z Z)
 {x k v:V} {X K:Value} (aq:Rel E x X) (aE:Rel E k K) (ask:xT P w E cm e K) (he:xh e z h x k=some (v,aa)):c8 aw P E w (Instr.mapEntry t X K) v aa:=by
 unfold xh at he
 split at he
 case h_2=>cases he
 rename_i b
 simp only [Rel] at aq
 obtain ⟨p,ah,rfl⟩:=aq
 have ag:=s.at ah
 cases aH:h.get b<;>rw [aH] at he<;>simp only [cb.kg] at he<;>try (cases he;done)
 rename_i es clock
 rw [aH] at ag
 obtain ⟨q,a,ab,c2,aG,ba⟩:=ag
 rw [ah] at ab;cases ab
 have eN:(getObj p.aW).run P w=.ok (.map a clock) w:=by simp only [getObj,Sem.run,aG]
 have hs:=ask.check false
 have kB:=(Array.getElem?_eq_some_iff.1 aG).1
 have yO:∀(hq:List cO) (bm:Array MapEntry) (gP:Nat),ee E hq bm.toList→
  ∃ao,(setObj p.aW (.map bm gP)).run P w=.ok () ao∧a' aw E (h.set b (.mp hq gP)) ao:=by
  intro hq bm gP hm
  refine ⟨{w with heap:=w.heap.setIfInBounds p.aW (.map bm gP)},by simp only [setObj,Sem.run,aG],s.set (p:=p) (by rw [aH];rfl) ah c2 (by simp) (fun j bK=>?_) rfl rfl rfl (fun _ _ _ e=>by cases e) ?_⟩
  · simp only [Array.getElem?_setIfInBounds]
    rw [if_neg (fun e=>bK e.symm)]
  · exact ⟨p,bm,ah,c2,by simp [kB],hm⟩
 cases ay:wa e k es with
 | none=>rw [ay] at he;cases he
 | some r=>
   rw [ay] at he
   simp only at he
   obtain ⟨g1,g2⟩:=NG ask.eq aE es a.toList r 0 ay ba
   cases r with
   | none=>
     simp only [Option.some.injEq,Prod.mk.injEq] at he
     obtain ⟨rfl,rfl⟩:=he
     have bH:=ask.find (g1 rfl)
     obtain ⟨ao,d1,d2⟩:=yO (es++[⟨k,z,clock⟩]) (a.push ⟨K,Z,clock⟩) (clock+1) (by
      have:∀(es:List cO) (l:List MapEntry),ee E es l→ee E (es++[⟨k,z,clock⟩]) (l++[⟨K,Z,clock⟩]):=by
       intro es
       induction es with
       | nil=>intro l ai;simp only [ee] at ai;subst ai;exact ⟨_,_,rfl,aE,lh,rfl,rfl⟩
       | cons m ms bk=>intro l ai;obtain ⟨dS,hq,rfl,cC,ck,hF,kq⟩:=ai;exact ⟨dS,_,rfl,cC,ck,hF,bk _ kq⟩
      simpa using this es a.toList ba)
     refine ⟨.tuple #[Z,goInt clock],ao,E,?_,Env.le.refl E,?_,d2⟩
     · simp only [Instr.mapEntry,Sem.run_bind,hu,Result.andThen_ok,eN,hs,bH,bo,d1,Sem.run_pure]
     · simp only [Rel,bc];exact ⟨_,rfl,_,_,rfl,lh,_,_,rfl,rfl,rfl⟩
   | some m=>
     simp only [Option.some.injEq,Prod.mk.injEq] at he
     obtain ⟨rfl,rfl⟩:=he
     obtain ⟨j,dS,bH,a2,a3,a4,a5,iL,EU⟩:=g2 m rfl
     rw [Nat.zero_add] at bH
     have cC:=ask.find bH
     have aK:a[j]? =some dS:=by simpa using a2
     obtain ⟨ao,d1,d2⟩:=yO es (a.modify j fun dS=>{dS with key:=K}) clock (by rw [Array.toList_modify];exact EU)
     refine ⟨.tuple #[dS.val,goInt dS.born],ao,E,?_,Env.le.refl E,?_,d2⟩
     · simp only [Instr.mapEntry,Sem.run_bind,hu,Result.andThen_ok,eN,hs,cC,aK,Option.map,Option.getD,a3,Instr.keyThatStays,iL,if_true,Sem.run_pure,d1]
     · simp only [Rel,bc];exact ⟨_,rfl,_,_,rfl,a4,_,_,rfl,by rw [a5];rfl,rfl⟩
theorem ag8 {aw:Fr} {E:Env} {h aa:af} {w:World} (s:a' aw E h w) {t:TypeId} {x k v:V} {X K:Value} (aq:Rel E x X) (aE:Rel E k K) (he:(IW P t).run x k h=.val v aa):c8 aw P E w (Instr.mapEntry t X K) v aa:=by
 unfold IW at he
 cases aF:a8 P t with
 | none=>rw [aF] at he;cases he
 | some aO=>
   rw [aF] at he
   simp only at he
   have hu:=fk aF w
   cases bU:aO.bd<;>rw [bU] at he<;>simp only at he<;>try (cases he;done)
   rename_i cm jC
   rw [bU] at hu
   cases het:a8 P jC with
   | none=>rw [het] at he;cases he
   | some bh=>
     rw [het] at he
     simp only at he
     cases bo:bh.zero with
     | none=>rw [bo] at he;cases he
     | some z=>
       rw [bo] at he
       simp only at he
       obtain ⟨s_,l0,lh,_⟩:=xC (P:=P) het bo E w
       cases nu:lv P cm with
       | true=>
         rw [nu] at he
         simp only [cond_true,No] at he
         cases hm:xh ⟨nK h⟩ z h x k with
         | none=>rw [hm] at he;cases he
         | some r=>
           rw [hm] at he
           simp only [aY.val.injEq] at he
           obtain ⟨rfl,rfl⟩:=he
           exact Qq s hu l0 lh aq aE (EZ s nu K) hm
       | false=>
         rw [nu] at he
         simp only [cond_false] at he
         cases cG:rn P cm with
         | false=>rw [cG] at he;cases he
         | true=>
           rw [cG] at he
           simp only [cond_true,Np] at he
           cases aH:uH P cm k with
           | false=>rw [aH] at he;cases he
           | true=>
             rw [aH] at he
             simp only [cond_true] at he
             cases hm:xh (structEq P cm) z h x k with
             | none=>rw [hm] at he;cases he
             | some r=>
               rw [hm] at he
               simp only [aY.val.injEq] at he
               obtain ⟨rfl,rfl⟩:=he
               exact Qq s hu l0 lh aq aE (E0 cG aH aE) hm
end
end Go.Proofs.YthemdhlheglhoaaGreatDoor.aX
namespace Go.Proofs.YthemdhlheglhoaaGreatDoor.aX
variable [Lay]
open Go Go.RowKit
section
variable {P:Program}
theorem Oi (n:Nat):∀(l:List Nat),r9 l n=true↔n ∈ l
 | []=>by simp [r9]
 | x::xs=>by
   simp only [r9]
   cases ag:Nat.beq x n with
   | true=>have:=Nat.eq_of_beq_eq_true ag;subst this;simp
   | false=>
     have dI:x≠n:=fun e=>by subst e;rw [Nat.beq_refl] at ag;cases ag
     simp [Oi n xs,Ne.symm dI]
theorem ab7 {a:Array Nat} {seen:List Nat} (h:a.toList=seen.reverse) (n:Nat):a.contains n=r9 seen n:=by
 rw [Bool.eq_iff_iff,Oi,Array.contains_iff_mem,←Array.mem_toList_iff,h,List.mem_reverse]
theorem P_ {E:Env} {a:Array Nat} {seen:List Nat} (h:a.toList=seen.reverse):∀(ms:List cO) (l:List MapEntry),ee E ms l→ee E (leftOf seen ms) (l.filter fun e=>!a.contains e.born)
 | [],l,aJ=>by simp only [ee] at aJ;subst aJ;rfl
 | m::ms,l,aJ=>by
   obtain ⟨e,es,rfl,ab,ae,aG,ba⟩:=aJ
   have bk:=P_ h ms es ba
   have aA:a.contains e.born=r9 seen m.born:=by rw [ab7 h,aG]
   cases ag:r9 seen m.born with
   | true=>
     rw [ag] at aA
     rw [List.filter_cons_of_neg (by rw [aA];decide)]
     simp only [leftOf,ag,cond_true]
     exact bk
   | false=>
     rw [ag] at aA
     rw [List.filter_cons_of_pos (by rw [aA];decide)]
     simp only [leftOf,ag,cond_false]
     exact ⟨e,_,rfl,ab,ae,aG,bk⟩
theorem LO {E:Env} {last:Nat}:∀(ms:List cO) (l:List MapEntry),ee E ms l→l.all (fun e=>decide (e.born≥last))=vE last ms
 | [],l,aJ=>by simp only [ee] at aJ;subst aJ;rfl
 | m::ms,l,aJ=>by
   obtain ⟨e,es,rfl,ab,ae,aG,ba⟩:=aJ
   simp only [vE,List.all_cons,LO ms es ba,aG]
   cases ag:Nat.ble last m.born with
   | true=>rw [Nat.ble_eq] at ag;simp [ag]
   | false=>
     have:¬last≤m.born:=by rw [←Nat.ble_eq,ag];simp
     simp [this]
theorem L' {E:Env} {n:Nat}:∀(ms:List cO) (l:List MapEntry) (m:cO),ee E ms l→yG n ms=some m→∃e,l.find? (fun e=>e.born == n)=some e∧Rel E m.k e.key∧Rel E m.v e.val
 | [],l,m,aJ,h=>by cases h
 | x::xs,l,m,aJ,h=>by
   obtain ⟨e,es,rfl,ab,ae,aG,ba⟩:=aJ
   simp only [yG] at h
   cases ag:Nat.beq x.born n with
   | true=>
     rw [ag] at h
     simp only [cond_true,Option.some.injEq] at h
     subst h
     have:=Nat.eq_of_beq_eq_true ag
     exact ⟨e,by simp [List.find?_cons,aG,this],ab,ae⟩
   | false=>
     rw [ag] at h
     simp only [cond_false] at h
     obtain ⟨dj,g1,g2⟩:=L' xs es m ba h
     have dI:x.born≠n:=fun e=>by rw [e,Nat.beq_refl] at ag;cases ag
     exact ⟨dj,by simp [List.find?_cons,aG,dI,g1],g2⟩
theorem Jf {k:cb} {f:List cO→Nat→aY} {v:V} {aa:af} (h:k.kg .fail f=.val v aa):∃es clock,k=.mp es clock∧f es clock=.val v aa:=by
 cases k<;>simp only [cb.kg] at h<;>first
  | (cases h;done)
  | exact ⟨_,_,rfl,h⟩
theorem QS {v:V} {f:aP→Nat→aY} {r:V} {aa:af} (h:v.h' .fail f=.val r aa):∃b off,v=.ptr b off∧f b off=.val r aa:=by
 cases v<;>simp only [V.h'] at h<;>first
  | (cases h;done)
  | exact ⟨_,_,rfl,h⟩
theorem aiV {aw:Fr} {E:Env} {h aa:af} {w:World} (s:a' aw E h w) {t cm jC:TypeId} (hu:(underlying t).run P w=.ok (.map cm jC) w) {x v:V} {X:Value} (aq:Rel E x X) (he:rangeMap x h=.val v aa):c8 aw P E w (Instr.range t X) v aa:=by
 have da:=s.fresh h.next (Nat.le_refl _)
 have dQ:E.put (al h.next) ⟨w.heap.size,0,0⟩ (al h.next)=some ⟨w.heap.size,0,0⟩:=by unfold Env.put;rw [if_pos rfl]
 unfold rangeMap at he
 split at he
 · simp only [aY.val.injEq] at he
   obtain ⟨rfl,rfl⟩:=he
   simp only [Rel] at aq
   subst aq
   refine ⟨.pointer (some ⟨w.heap.size,0,none⟩),{w with heap:=w.heap.push (.mapIter none 0 #[] 0)},_,?_,Env.kK (p:=⟨w.heap.size,0,0⟩) da,?_,s.alloc 0 ?_⟩
   · simp only [Instr.range,Sem.run_bind,hu,Result.andThen_ok,Sem.run_pure,run_newObj]
   · simp only [Rel];exact ⟨_,dQ,by simp⟩
   · exact ⟨_,none,#[],dQ,s.frame.size,rfl,by simp,rfl,rfl⟩
 · rename_i c
   obtain ⟨es,clock,aH,he⟩:=Jf he
   simp only [aY.val.injEq] at he
   obtain ⟨rfl,rfl⟩:=he
   simp only [Rel] at aq
   obtain ⟨p,ah,rfl⟩:=aq
   have ag:=s.at ah
   rw [aH] at ag
   obtain ⟨q,a,ab,c2,aG,ba⟩:=ag
   rw [ah] at ab;cases ab
   have eN:(getObj p.aW).run P w=.ok (.map a clock) w:=by simp only [getObj,Sem.run,aG]
   have hle:E.le (E.put (al h.next) ⟨w.heap.size,0,0⟩):=Env.kK da
   refine ⟨.pointer (some ⟨w.heap.size,0,none⟩),{w with heap:=w.heap.push (.mapIter (some p.aW) clock #[] clock)},_,?_,hle,?_,s.alloc 0 ?_⟩
   · simp only [Instr.range,Sem.run_bind,hu,Result.andThen_ok,Sem.run_pure,eN,run_newObj]
   · simp only [Rel];exact ⟨_,dQ,by simp⟩
   · exact ⟨_,some p.aW,#[],dQ,s.frame.size,rfl,by simp,rfl,p,hle _ _ ah,rfl⟩
 · cases he
theorem ahl {aw:Fr} {E:Env} {h aa:af} {w:World} (s:a' aw E h w) {x v:V} {X:Value} {ty:TypeId} (aq:Rel E x X) (he:gA x h=.val v aa):c8 aw P E w (Instr.next X false ty) v aa:=by
 unfold gA at he
 obtain ⟨b,off,rfl,ab⟩:=QS he
 clear he
 have ag:=s.at (p:=_) (by simp only [Rel] at aq;exact aq.choose_spec.1)
 cases aH:h.get b<;>rw [aH] at ab<;>simp only at ab<;>try (cases ab;done)
 rename_i src since seen last
 rw [aH] at ag
 cases bb:Nat.beq off 0 with
 | false=>rw [bb] at ab;cases ab
 | true=>
 rw [bb] at ab
 simp only [cond_true] at ab
 have bb:=Nat.eq_of_beq_eq_true bb
 subst bb
 obtain ⟨p,m,a,ah,c2,mu,bf,bq,iS⟩:=ag
 simp only [Rel] at aq
 obtain ⟨q,aA,rfl⟩:=aq
 rw [ah] at aA;cases aA
 have eN:(getObj p.aW).run P w=.ok (.mapIter m since a last) w:=by simp only [getObj,Sem.run,bf]
 have over:Rel E (.tuple [.bool false]) (.tuple #[.bool false]):=by simp only [Rel,bc];exact ⟨_,rfl,_,_,rfl,rfl,rfl⟩
 cases src with
 | none=>
   simp only [ts] at iS
   subst iS
   simp only [aY.val.injEq] at ab
   obtain ⟨rfl,rfl⟩:=ab
   refine c8.plain (Z:=.tuple #[.bool false]) s ?_ over
   simp only [Instr.next,mu,Sem.run_bind,eN,Result.andThen_ok,Sem.run_pure]
 | some c=>
   simp only [ts] at iS
   obtain ⟨xt,ox,rfl⟩:=iS
   simp only at ab
   obtain ⟨es,clock,HB,ab⟩:=Jf ab
   have r_:=s.at ox
   rw [HB] at r_
   obtain ⟨q,l6,g1,_,g3,g4⟩:=r_
   rw [ox] at g1;cases g1
   have Cm:(getObj xt.aW).run P w=.ok (.map l6 clock) w:=by simp only [getObj,Sem.run,g3]
   cases aI:(!seen.isEmpty&&(!es.isEmpty&&vE last es)) with
   | true=>rw [aI] at ab;cases ab
   | false=>
     rw [aI] at ab
     simp only [cond_false] at ab
     have aK:a.isEmpty=seen.isEmpty:=by
      have:a.toList.isEmpty=seen.reverse.isEmpty:=by rw [bq]
      simpa using this
     have aS:l6.isEmpty=es.isEmpty:=by
      cases es with
      | nil=>simp only [ee] at g4;have:l6=#[]:=Array.toList_inj.1 g4
             simp [this]
      | cons y cJ=>obtain ⟨e,l,ai,_⟩:=g4;have:l6.toList.isEmpty=false:=by rw [ai];rfl
                   simpa using this
     have bn:l6.all (fun e=>decide (e.born≥last))=vE last es:=by rw [←LO es _ g4,Array.all_toList]
     have Oq:(!a.isEmpty&&!l6.isEmpty&&l6.all (fun e=>decide (e.born≥last)))=false:=by rw [aK,aS,bn,Bool.and_assoc];exact aI
     have zd:=P_ (E:=E) bq es _ g4
     have Ox:(l6.filter fun e=>!a.contains e.born).toList=l6.toList.filter fun e=>!a.contains e.born:=by simp
     cases ai:leftOf seen es with
     | nil=>
       rw [ai] at ab zd
       simp only [I9,aY.val.injEq] at ab
       obtain ⟨rfl,rfl⟩:=ab
       simp only [ee] at zd
       have gS:(l6.filter fun e=>!a.contains e.born)=#[]:=by
        apply Array.toList_inj.1;rw [Ox,zd]
       refine c8.plain (Z:=.tuple #[.bool false]) s ?_ over
       simp only [Instr.next,mu,Sem.run_bind,eN,Result.andThen_ok,Cm,Oq,Bool.false_eq_true,if_false,gS,Sem.run_pure]
       simp [choose,Sem.run,Question.forced]
     | cons y cJ=>
       rw [ai] at ab zd
       cases cJ with
       | cons _ _=>cases ab
       | nil=>
         simp only [I9] at ab
         cases aL:Nat.blt y.born since with
         | false=>rw [aL] at ab;cases ab
         | true=>
           rw [aL] at ab
           simp only [cond_true,aY.val.injEq] at ab
           obtain ⟨rfl,rfl⟩:=ab
           rw [Nat.blt_eq] at aL
           obtain ⟨e,r,aJ,bz,bZ,fu,gI⟩:=zd
           simp only [ee] at gI
           subst gI
           have gS:(l6.filter fun e=>!a.contains e.born)=#[e]:=by
            apply Array.toList_inj.1;rw [Ox,aJ]
           rw [←fu] at aL ⊢
           let b8:Obj:=.mapIter (some xt.aW) since (a.push e.born) clock
           let ao:World:={w with heap:=w.heap.setIfInBounds p.aW b8}
           have kB:=(Array.getElem?_eq_some_iff.1 bf).1
           have qZ:(setObj p.aW b8).run P w=.ok () ao:=by simp only [setObj,Sem.run,bf];rfl
           have se:¬since≤e.born:=by omega
           refine ⟨.tuple #[.bool true,e.key,e.val],ao,E,?_,Env.le.refl E,?_,s.set (p:=p) (by rw [aH];rfl) ah c2 (by simp [ao]) (fun j bK=>?_) rfl rfl rfl (fun _ _ _ e=>by cases e) ?_⟩
           · simp only [Instr.next,mu,Sem.run_bind,eN,Result.andThen_ok,Cm,Oq,Bool.false_eq_true,if_false,gS,Sem.run_pure]
             have ab:(#[e]:Array MapEntry).filter (fun x=>decide (x.born<since))=#[e]:=by simp [aL]
             have ae:(#[e]:Array MapEntry).filter (fun x=>decide (x.born≥since))=#[]:=by simp [aL]
             have k4:(choose (.mapNext 1)).run P w=.ok 0 w:=by simp [choose,Sem.run,Question.forced]
             simp only [ab,ae]
             simp [k4]
             change ((setObj p.aW b8).run P w).andThen _=_
             rw [qZ]
             rfl
           · simp only [Rel,bc]
             exact ⟨_,rfl,_,_,rfl,rfl,_,_,rfl,bz,_,_,rfl,bZ,rfl⟩
           · simp only [ao,Array.getElem?_setIfInBounds]
             rw [if_neg (fun e=>bK e.symm)]
           · exact ⟨p,some xt.aW,a.push e.born,ah,c2,mu,by simp [ao,kB,b8],by simp [bq],xt,ox,rfl⟩
theorem aaz {aw:Fr} {E:Env} {h aa:af} {w:World} (s:a' aw E h w) {x v:V} {X:Value} (aq:Rel E x X) (he:GR x h=.val v aa):c8 aw P E w (Instr.entry X) v aa:=by
 unfold GR at he
 obtain ⟨b,off,rfl,ab⟩:=QS he
 clear he
 have ag:=s.at (p:=_) (by simp only [Rel] at aq;exact aq.choose_spec.1)
 cases aH:h.get b<;>rw [aH] at ab<;>simp only at ab<;>try (cases ab;done)
 rename_i src since seen last
 rw [aH] at ag
 cases bb:Nat.beq off 0 with
 | false=>rw [bb] at ab;cases ab
 | true=>
 rw [bb] at ab
 simp only [cond_true] at ab
 have bb:=Nat.eq_of_beq_eq_true bb
 subst bb
 obtain ⟨p,m,a,ah,c2,mu,bf,bq,iS⟩:=ag
 simp only [Rel] at aq
 obtain ⟨q,aA,rfl⟩:=aq
 rw [ah] at aA;cases aA
 have eN:(getObj p.aW).run P w=.ok (.mapIter m since a last) w:=by simp only [getObj,Sem.run,bf]
 cases src with
 | none=>cases ab
 | some c=>
   simp only [ts] at iS
   obtain ⟨xt,ox,rfl⟩:=iS
   simp only at ab
   cases seen with
   | nil=>cases ab
   | cons n amA=>
   simp only at ab
   obtain ⟨es,clock,HB,ab⟩:=Jf ab
   have r_:=s.at ox
   rw [HB] at r_
   obtain ⟨q,l6,g1,_,g3,g4⟩:=r_
   rw [ox] at g1;cases g1
   have Cm:(getObj xt.aW).run P w=.ok (.map l6 clock) w:=by simp only [getObj,Sem.run,g3]
   rename_i abL _
   clear abL
   cases jH:Nat.beq clock last with
   | false=>rw [jH] at ab;cases ab
   | true=>
     rw [jH] at ab
     simp only [cond_true] at ab
     have:=Nat.eq_of_beq_eq_true jH
     subst this
     cases Hk:yG n es with
     | none=>rw [Hk] at ab;cases ab
     | some y=>
       rw [Hk] at ab
       simp only [aY.val.injEq] at ab
       obtain ⟨rfl,rfl⟩:=ab
       obtain ⟨e,f1,f2,f3⟩:=L' es _ y g4 Hk
       have aca:a.back? =some n:=by
        have:a.toList.getLast? =some n:=by rw [bq];simp
        simpa using this
       have sa:l6.find? (fun e=>e.born == n)=some e:=by rw [←f1];simp
       refine c8.plain (Z:=.tuple #[e.key,e.val]) s ?_ ?_
       · simp only [Instr.entry,mu,Sem.run_bind,eN,Result.andThen_ok,aca,Cm,bne_self_eq_false,Bool.false_eq_true,if_false,sa,Sem.run_pure]
       · simp only [Rel,bc]
         exact ⟨_,rfl,_,_,rfl,f2,_,_,rfl,f3,rfl⟩
end
end Go.Proofs.YthemdhlheglhoaaGreatDoor.aX
namespace Go.Proofs.YthemdhlheglhoaaGreatDoor.aX
variable [Lay]
open Go Go.RowKit
section
variable {P:Program}
theorem Vp {aw:Fr} {E:Env} {h aa:af} {w:World} (s:a' aw E h w) {t u e:TypeId} {size:Nat} (adk:1≤size) {x v:V} {X Y:Value} {ty:TypeId} {n:Nat} {new:List V} {l:List Value}
 (ai:bc E new l) (kz:new.length=n * size) (gy:n≤top)
 (gd:∀(ao:World) (A:Option Addr) (cW fc:Nat),cW+n≤fc→(∀a,A=some a→(storeCells (a.add (cW * size)) l).run P w=.ok () ao)→(A=none→ao=w)→
   (Builtin.append_ #[t,u] ty #[.slice A cW fc,Y]).run P w=.ok (.slice A (cW+n) fc) ao)
 (qV:∀(A:Option Addr) (cW fc:Nat) (b1:List Value),(∀ao:World,ao.heap=w.heap→(Builtin.firstCells size cW (.slice A cW fc)).run P ao=.ok b1.toArray ao)→¬cW+n≤fc→cW+n≤top→b1.length=cW * size→l.length=n * size→
   ∃cap rest ao,cW+n≤cap∧cap * size≤((b1++l).toArray++rest).size∧
   (Builtin.append_ #[t,u] ty #[.slice A cW fc,Y]).run P w=.ok (.slice (some ⟨w.heap.size,0,none⟩) (cW+n) cap) ao∧
   ao.heap=w.heap.push (.cells ((b1++l).toArray++rest) e)∧ao.os=w.os∧ao.tape=w.tape∧ao.output=w.output)
 (he:EX size n new x h=.val v aa) (aq:Rel E x X):c8 aw P E w (Builtin.append_ #[t,u] ty #[X,Y]) v aa:=by
 have oq:l.length=n * size:=by rw [ai.length,kz]
 unfold EX at he
 cases x<;>simp only at he<;>try (cases he;done)
 · -- a slice of known capacity
   rename_i b off len cap
   simp only [Rel] at aq
   obtain ⟨p,ah,qR,rfl⟩:=aq
   simp only [vG] at he
   cases eR:Nat.ble (len+n) cap with
   | true=>
     rw [eR] at he
     simp only [cond_true] at he
     rw [Nat.ble_eq] at eR
     cases j':lay h b (off+len * size) new with
     | none=>rw [j'] at he;cases he
     | some ab=>
     rw [j'] at he
     simp only [aY.val.injEq] at he
     obtain ⟨rfl,rfl⟩:=he
     obtain ⟨ao,cG,hc⟩:=xd (P:=P) s ai j' ah
     refine ⟨_,ao,E,gd ao _ _ _ eR (fun a bq=>?_) (fun bq=>by cases bq),Env.le.refl E,?_,hc⟩
     · cases bq
       rw [add_eq,Nat.add_assoc]
       exact cG
     · simp only [Rel];exact ⟨p,ah,eR,rfl⟩
   | false=>
     rw [eR] at he
     simp only [cond_false] at he
     have Ia:¬len+n≤cap:=by rw [←Nat.ble_eq,eR];simp
     obtain ⟨ag,he⟩:=jg he
     simp only [Bool.and_eq_true,Nat.ble_eq] at ag
     cases hold:nN h size b off len with
     | none=>rw [hold] at he;cases he
     | some b1=>
     rw [hold] at he
     simp only at he
     cases fM:iV h (b1++new) size false with
     | none=>rw [fM] at he;cases he
     | some ab=>
     rw [fM] at he
     simp only [aY.val.injEq] at he
     obtain ⟨rfl,rfl⟩:=he
     obtain ⟨q,bR,aA,eD,qU,hb⟩:=xH (P:=P) s ⟨p,ah⟩ hold
     rw [ah] at aA;cases aA
     obtain ⟨c,rest,ao,bz,bZ,fu,gI,kH,oB,oC⟩:=qV (some ⟨p.aW,p.base+off,none⟩) (len) (cap) _
      (fun ao hw=>by simp only [Builtin.firstCells];exact hb ao hw) Ia ag.1 (by rw [eD.length,qU]) oq
     obtain ⟨av,g1,g2,g3⟩:=uQ (ao:=ao) (bW:=(0,0)) s (eD.append ai) fM bZ (.inr (Nat.le_refl _)) (fun _=>rfl) gI kH oB oC
     refine ⟨_,ao,av,fu,g1,?_,g3⟩
     simp only [Rel]
     exact ⟨_,g2,by simp only;omega,by simp⟩
 · -- one that was appended to
   rename_i b off len idx
   have zA:=aq
   simp only [Rel] at aq
   obtain ⟨p,ah,OA,rfl⟩:=aq
   simp only [vF] at he
   cases h9:Nat.beq n 0 with
   | true=>
     rw [h9] at he
     simp only [cond_true] at he
     cases he
     rw [Nat.beq_eq] at h9
     subst h9
     have k6:l=[]:=by cases l with | nil=>rfl | cons _ _=>simp at oq
     subst k6
     refine ⟨_,w,E,gd w _ _ _ (by omega) (fun a _=>rfl) (fun bq=>by cases bq),Env.le.refl E,?_,s⟩
     simpa using zA
   | false=>
     rw [h9] at he
     simp only [cond_false] at he
     have pE:=s.at ah
     cases aH:h.get b with
     | dead=>rw [aH] at he;cases he
     | view _ _=>rw [aH] at he;cases he
     | iter _ _=>rw [aH] at he;cases he
     | mp _ _=>rw [aH] at he;cases he
     | cr _=>rw [aH] at he;cases he
     | er=>rw [aH] at he;cases he
     | iz _=>rw [aH] at he;cases he
     | iy _ _ _ _=>rw [aH] at he;cases he
     | cells N cs cy st=>
       rw [aH] at he pE
       simp only [cb.on] at he
       obtain ⟨ag,he⟩:=jg he
       simp only [Bool.and_eq_true,Nat.ble_eq,Nat.beq_eq] at ag
       obtain ⟨⟨Hs,HY,HZ⟩,zk⟩:=ag
       cases hold:nN h size b off len with
       | none=>rw [hold] at he;cases he
       | some b1=>
       rw [hold] at he
       simp only at he
       cases fM:iV (h.set b .dead) (b1++new) size st with
       | none=>rw [fM] at he;cases he
       | some ab=>
       rw [fM] at he
       simp only [aY.val.injEq] at he
       obtain ⟨rfl,rfl⟩:=he
       obtain ⟨q,bR,aA,eD,qU,hb⟩:=xH (P:=P) s ⟨p,ah⟩ hold
       rw [ah] at aA;cases aA
       obtain ⟨bG,q,c,el,bW,aK,c2,bf,pF,cG,lS,bF⟩:=pE
       rw [ah] at aK;cases aK
       have zm:=adk
       have lS:=lS (by omega)
       rw [Hs] at lS
       have Ay:=s.kill ah
       by_cases eR:len+n≤p.cap-idx
       · -- in place
         have aL:=(Array.getElem?_eq_some_iff.1 bf).1
         have acQ:(idx+len+n) * size≤p.cap * size:=Nat.mul_le_mul_right _ (by omega)
         have hbound:p.base+off+len * size+0+l.length≤c.size:=by
          rw [oq,zk]
          have:(idx+len+n) * size=idx * size+len * size+n * size:=by rw [Nat.add_mul,Nat.add_mul]
          omega
         have zy:=DO (P:=P) aL el bW (p.base+off+len * size) l c 0 (Dd HZ ai) hbound pF
         rw [KC bf,Nat.add_zero] at zy
         have Ie:=gd (kl w p.aW (oE c (p.base+off+len * size) l) el bW) (some ⟨p.aW,p.base+off,none⟩) _ _ eR
          (fun a bq=>by cases bq;rw [add_eq];exact zy) (fun bq=>by cases bq)
         unfold iV at fM
         obtain ⟨aI,fM⟩:=ef fM
         simp only [Bool.and_eq_true,Nat.ble_eq] at aI
         simp only [Option.some.injEq] at fM
         subst fM
         have da:=s.fresh h.next (Nat.le_refl _)
         have hle:E.le (E.put (al h.next) ⟨p.aW,p.base+off,p.cap-idx⟩):=Env.kK da
         have dQ:E.put (al h.next) ⟨p.aW,p.base+off,p.cap-idx⟩ (al h.next)=some ⟨p.aW,p.base+off,p.cap-idx⟩:=by unfold Env.put;rw [if_pos rfl]
         refine ⟨_,_,_,Ie,hle,?_,a'.add (p:=⟨p.aW,p.base+off,p.cap-idx⟩) Ay (by rw [KD];exact Nat.le_refl _) (fun j _ bK=>KB _ _ _ bK) c2 (fun bP ej fi oy heq=>?_) rfl rfl rfl (fun _ _ _ e=>by injection e with _ _ bn;omega) ?_⟩
         · simp only [Rel]
           exact ⟨_,dQ,by simp only;omega,by simp⟩
         · rw [af.c4] at fi
           by_cases hK:b=bP
           · rw [if_pos hK] at fi;cases fi
           · rw [if_neg hK] at fi
             exact hK (s.inj b bP p ej (by rw [aH];rfl) fi ah oy heq.symm)
         · have HL:(b1++new).length=(len+n) * size:=by rw [List.length_append,qU,kz,Nat.add_mul]
           have acD:(len+n) * size=len * size+n * size:=Nat.add_mul _ _ _
           refine ⟨aI.1,_,_,el,bW,dQ,c2,AI aL _ _ _,by rw [pV];exact pF,cG,fun _=>?_,?_⟩
           · rw [pV]
             simp only
             have:idx * size + (p.cap-idx) * size=p.cap * size:=by rw [←Nat.add_mul];congr 1;omega
             omega
           · refine ⟨by rw [pV,HL,Nat.add_mul];simp only;omega,fun i y aC a_=>?_⟩
             rw [Aq _ _ _ _ (by omega) (by omega),if_pos (by omega),Nat.sub_zero]
             rw [CR _ _ _ _ (by omega)] at a_
             simp only at a_
             by_cases cl:i<len * size
             · rw [if_neg (by omega)] at a_
               rw [List.getElem?_append_left (by omega)]
               have eN:=hb w rfl
               have H9:=run_loadCells (P:=P) (w:=w) (off:=p.base+off) (n:=len * size) bf (by omega)
               rw [H9] at eN
               simp only [Result.ok.injEq,and_true] at eN
               have zf:bR=(c.toList.drop (p.base+off)).take (len * size):=by
                have:=congrArg Array.toList eN
                simpa using this.symm
               obtain ⟨ve,hM,aJ⟩:=eD.get i b1[i] (List.getElem?_eq_getElem (by omega))
               rw [List.getElem?_eq_getElem (by omega)]
               rw [zf] at hM
               rw [List.getElem?_take_of_lt (by omega),List.getElem?_drop] at hM
               simp only [Array.getElem?_toList] at hM
               rw [a_] at hM
               cases hM
               exact Rel.mono hle _ _ aJ
             · rw [if_pos (by omega)] at a_
               rw [List.getElem?_append_right (by omega)]
               have bn:p.base+off+i - (p.base+off+len * size)=i-b1.length:=by omega
               rw [bn] at a_
               have zh:i-b1.length<new.length:=by omega
               obtain ⟨ve,hM,aJ⟩:=ai.get (i-b1.length) new[i-b1.length] (List.getElem?_eq_getElem zh)
               rw [a_] at hM;cases hM
               rw [List.getElem?_eq_getElem zh]
               exact Rel.mono hle _ _ aJ
       · -- elsewhere
         obtain ⟨bI,rest,ao,bz,bZ,fu,gI,kH,oB,oC⟩:=qV (some ⟨p.aW,p.base+off,none⟩) (len) (p.cap-idx) _
          (fun ao hw=>by simp only [Builtin.firstCells];exact hb ao hw) eR HY (by rw [eD.length,qU]) oq
         obtain ⟨av,g1,g2,g3⟩:=uQ (ao:=ao) (bW:=(0,0)) Ay (eD.append ai) fM bZ (.inr (Nat.le_refl _)) (fun _=>rfl) gI kH oB oC
         refine ⟨_,ao,av,fu,g1,?_,g3⟩
         simp only [Rel]
         exact ⟨_,g2,by simp only;omega,by simp⟩
 · -- nil
   simp only [Rel] at aq
   subst aq
   simp only [vH] at he
   cases h9:Nat.beq n 0 with
   | true=>
     rw [h9] at he
     simp only [cond_true] at he
     cases he
     rw [Nat.beq_eq] at h9
     subst h9
     exact c8.plain s (gd w _ _ _ (by omega) (fun a bq=>by cases bq) (fun _=>rfl)) (by simp [Rel])
   | false=>
     rw [h9] at he
     simp only [cond_false] at he
     have ou:¬n=0:=by intro e;subst e;simp at h9
     cases fM:iV h new size false with
     | none=>rw [fM] at he;cases he
     | some ab=>
     rw [fM] at he
     simp only [aY.val.injEq] at he
     obtain ⟨rfl,rfl⟩:=he
     obtain ⟨c,rest,ao,bz,bZ,fu,gI,kH,oB,oC⟩:=qV (none) (0) (0) []
      (fun ao _=>by simp [Builtin.firstCells]) (by omega) (by omega) (by simp) oq
     obtain ⟨av,g1,g2,g3⟩:=uQ (ao:=ao) (bW:=(0,0)) s ai fM bZ (.inr (Nat.le_refl _)) (fun _=>rfl) gI kH oB oC
     refine ⟨_,ao,av,fu,g1,?_,g3⟩
     simp only [Rel]
     exact ⟨_,g2,by simp only;omega,by simp⟩
structure ET (P:Program) (t u e:TypeId) (size bytes:Nat) (k:IntKind) (z:Value):Prop where
 ut:∀w,(underlying t).run P w=.ok (.slice e) w
 ru:∀w,(underlying u).run P w=.ok (.int k) w
 jX:∀w,(sizeOf e).run P w=.ok size w
 Bx:∀w,∃i,(typeInfo e).run P w=.ok i w∧i.bytes=bytes
 xQ:∀w,(zeroValue e).run P w=.ok z w
 iH:z.cells.size=size
 pos:1≤size
 small:bytes≤4096
theorem Tq (c:Array Value):Builtin.zeroCells c 0=#[]:=by simp [Builtin.zeroCells]
theorem aji {t u e:TypeId} {size bytes:Nat} {k:IntKind} {z:Value} (H:ET P t u e size bytes k z) {n:Nat} (aU:n≤100000) {ty:TypeId} {w ao:World} {A:Option Addr} {cW fc:Nat} (eR:cW+n≤fc)
 (cG:∀a,A=some a→(storeCells (a.add (cW * size)) (Builtin.zeroCells z.cells n).toList).run P w=.ok () ao) (da:A=none→ao=w):
 (Builtin.append_ #[t,u] ty #[.slice A cW fc,.int .i64 n]).run P w=.ok (.slice A (cW+n) fc) ao:=by
 have hw:IntKind.i64.wrap (n:Int)=n:=by unfold IntKind.wrap;simp [IntKind.bits,IntKind.signed];omega
 obtain ⟨i,aC,sc⟩:=H.Bx w
 have r5:¬(281474976710656 < (n:Int) * (i.bytes:Int)):=by
  rw [sc]
  have ab:n * bytes≤100000 * 4096:=Nat.mul_le_mul aU H.small
  have ae:((n * bytes:Nat):Int)=(n:Int) * (bytes:Int):=Int.natCast_mul _ _
  omega
 have qT:¬((n:Int)<0):=by omega
 have ca:size≠0:=by have:=H.pos;omega
 have bq:∀w,(asInt (.int .i64 (n:Int))).run P w=.ok (n:Int) w:=fun w=>by simp [asInt,asIntOf]
 have Cf:∀w,(asInt (.int .i64 0)).run P w=.ok 0 w:=fun w=>by simp [asInt,asIntOf]
 have wZ:IntKind.i64.wrap 0=0:=by decide
 cases A with
 | none=>
   have:=da rfl;subst this
   by_cases bb:n=0
   · subst bb
     simp [Builtin.append_,H.ut,H.ru,H.jX,Cf,aC,wZ,(show cW≤fc from by omega)]
   · simp [Builtin.append_,H.ut,H.ru,H.jX,H.xQ,bq,aC,r5,hw,eR,qT,ca,bb]
 | some a=>
   have:=cG a rfl
   by_cases bb:n=0
   · subst bb
     rw [Tq] at this
     simp [Builtin.append_,H.ut,H.ru,H.jX,Cf,aC,wZ,(show cW≤fc from by omega),this]
   · simp [Builtin.append_,H.ut,H.ru,H.jX,H.xQ,bq,aC,r5,hw,eR,qT,Nat.mul_ne_zero bb ca,this]
theorem ajj {t u e:TypeId} {size bytes:Nat} {k:IntKind} {z:Value} (H:ET P t u e size bytes k z) {n:Nat} (aU:n≤100000) {ty:TypeId} {w:World} (A:Option Addr) (cW fc:Nat) (b1:List Value)
 (hold:∀ao:World,ao.heap=w.heap→(Builtin.firstCells size cW (.slice A cW fc)).run P ao=.ok b1.toArray ao) (eR:¬cW+n≤fc) (zx:cW+n≤top) (aT:b1.length=cW * size) (ai:(Builtin.zeroCells z.cells n).toList.length=n * size):
 ∃cap rest ao,cW+n≤cap∧cap * size≤((b1++(Builtin.zeroCells z.cells n).toList).toArray++rest).size∧
  (Builtin.append_ #[t,u] ty #[.slice A cW fc,.int .i64 n]).run P w=.ok (.slice (some ⟨w.heap.size,0,none⟩) (cW+n) cap) ao∧
  ao.heap=w.heap.push (.cells ((b1++(Builtin.zeroCells z.cells n).toList).toArray++rest) e)∧ao.os=w.os∧ao.tape=w.tape∧ao.output=w.output:=by
 have hw:IntKind.i64.wrap (n:Int)=n:=by simp only [IntKind.wrap,IntKind.bits,IntKind.signed];simp;omega
 obtain ⟨i,aC,sc⟩:=H.Bx w
 have mz:P.info? e=some i:=by
  simp only [typeInfo,Sem.run_bind,run_program,Result.andThen_ok] at aC
  cases aA:P.info? e with
  | none=>rw [aA] at aC;simp at aC
  | some j=>rw [aA] at aC;simp at aC;rw [aC]
 have ua:∀ao,(typeInfo e).run P ao=.ok i ao:=fun ao=>xB mz ao
 have ad3:¬(281474976710656 < (n:Int) * (i.bytes:Int)):=by
  rw [sc]
  have ab:n * bytes≤100000 * 4096:=Nat.mul_le_mul aU H.small
  have ae:((n * bytes:Nat):Int)=(n:Int) * (bytes:Int):=Int.natCast_mul _ _
  omega
 have r5:¬(281474976710656<Builtin.nextslicecap (cW+n) fc * i.bytes):=by
  have ab:fc<cW+n:=by omega
  have:=growslice_fits (bytes:=i.bytes) ab (by
   rw [sc]
   have ae:(cW+n) * bytes≤top * 4096:=Nat.mul_le_mul zx H.small
   unfold top at ae
   omega)
  omega
 have hZ:¬(9223372036854775807 < ((cW:Int) + (n:Int))):=by unfold top at zx;omega
 have qT:¬((n:Int)<0):=by omega
 have ca:size≠0:=by have:=H.pos;omega
 have bq:∀w,(asInt (.int .i64 (n:Int))).run P w=.ok (n:Int) w:=fun w=>by simp [asInt,asIntOf]
 have Cf:∀w,(asInt (.int .i64 0)).run P w=.ok 0 w:=fun w=>by simp [asInt,asIntOf]
 have wZ:IntKind.i64.wrap 0=0:=by decide
 let q:Question:=.appendCap (cW+n) fc e
 let cap:=q.cut (w.tape w.drawn q)
 have lS:cW+n≤cap:=by show cW+n≤(cW+n)+_;omega
 refine ⟨cap,Builtin.zeroCells z.cells (cap - (cW+n)),w.drew.alloc (.cells ((b1++(Builtin.zeroCells z.cells n).toList).toArray++Builtin.zeroCells z.cells (cap - (cW+n))) e),lS,?_,?_,rfl,rfl,rfl,rfl⟩
 · simp only [Array.size_append,List.size_toArray,List.length_append,aT,ai]
   have:(Builtin.zeroCells z.cells (cap - (cW+n))).size=(cap - (cW+n)) * size:=by simp [Builtin.zeroCells,H.iH]
   rw [this,←Nat.add_mul,←Nat.add_mul]
   exact Nat.mul_le_mul_right _ (by omega)
 · have f2:=hold w.drew rfl
   by_cases bb:n=0
   · subst bb
     have zs:¬cW≤fc:=by omega
     have ab_:¬(9223372036854775807 < (cW:Int)):=by omega
     rw [Nat.add_zero] at r5
     simp [Builtin.append_,H.ut,H.ru,H.jX,H.xQ,Cf,wZ,ua,zs,r5,ab_,Question.forced,f2,newRow]
     refine ⟨rfl,?_⟩
     have aK:(b1++(Builtin.zeroCells z.cells 0).toList).toArray=b1.toArray:=by rw [Tq];simp
     rw [aK]
     rfl
   · simp [Builtin.append_,H.ut,H.ru,H.jX,H.xQ,bq,hw,ad3,qT,Nat.mul_ne_zero bb ca,eR,ua,r5,hZ,Question.forced,f2,newRow]
     refine ⟨rfl,?_⟩
     have aK:(b1++(Builtin.zeroCells z.cells n).toList).toArray=b1.toArray++Builtin.zeroCells z.cells n:=by simp
     rw [aK,Array.append_assoc]
end
end Go.Proofs.YthemdhlheglhoaaGreatDoor.aX
namespace Go.Proofs.YthemdhlheglhoaaGreatDoor.aX
variable [Lay]
open Go Go.RowKit
section
variable {P:Program}
abbrev ch (rd:Option Nat):Fence:={fn:=fun _=>True,depth:=none,alive:=false,round:=rd}
theorem rY {rd:Option Nat} {n:Nat} {f:FuncId} {args:Array Value} {w:World} {R:Ending→World→Prop}:CallsIn (ch rd) n P f args w R↔Calls P f args w R:=callsIn_wide
theorem J2 {rd:Option Nat} (n:Nat):(ch rd).room n:=fun _ h=>by simp [ch] at h
abbrev oJ (x:Value):List PanicEntry:=[{v:=x,recovered:=false}]
structure gk (P:Program) (call:dx):Prop where
 fn:∀(aw:Fr) f args h v aa,f≠dk→call f args h=.val v aa→∀E w xs,bc E args xs→a' aw E h w→
  ((∃fn,P.funcs[f]? =some fn∧fn.body.isSome=true)∧Calls P f xs.toArray w fun e ao=>∃av x,e=.returned x∧E.le av∧Rel av v x∧a' aw av aa ao)∨
  ∃av x ao,(callFunc f xs.toArray).run P w=.ok (.value x) ao∧E.le av∧Rel av v x∧a' aw av aa ao
 cH:∀(aw:Fr) f args h v aa,f≠dk→call f args h=.cH v aa→∀E w xs,bc E args xs→a' aw E h w→
  (∃fn,P.funcs[f]? =some fn∧fn.body.isSome=true)∧Calls P f xs.toArray w fun e ao=>∃av x,e=.panicked (oJ x)∧E.le av∧Rel av v x∧a' aw av aa ao
 D5:∀(aw:Fr) args b h v aa,call dk (args++[.ptr b 0]) h=.val v aa→∀E w xs p,bc E args xs→a' aw E h w→E b=some p→
  ∃f tmps assign body,(Instr.yield p.aW xs.toArray).run P w=.ok (.round p.aW f tmps assign body) w∧
   RoundIn (ch none) 0 P p.aW f tmps assign body w fun e ao=>∃av x,e=.returned x∧E.le av∧Rel av v x∧a' aw av aa ao
 Tp:∀args h v aa,call dk args h≠.cH v aa
theorem oO {rd:Option Nat} {o:Oper} (lY:∀c,o.op≠.defer c) (ρ:Operand→Value):o.semAt (ch rd).round ρ=execOp ρ o:=Oper.semAt_eq _ ρ o lY
theorem fY {rd:Option Nat} {o:Oper} {a:Act} {w:World} {aw:Fr} {E:Env} {aa:af} {v:V} {m:Sem Value} {K:Act→World→Prop} {Q:Exit→Act→World→Prop}
 (aq:execOp a.eval o=(do pure (.value (←m)))) (g:c8 aw P E w m v aa) (dv:∀av x ao,E.le av→Rel av v x→a' aw av aa ao→K (a.put o.dst x) ao) (lY:∀c,o.op≠.defer c:=by intro c h;cases h):
 o.wpIn (ch rd) 0 P a w K Q:=by
 obtain ⟨Z,ao,av,ab,ae,aG,ba⟩:=g
 refine ⟨fun _ _=>trivial,?_⟩
 rw [oO lY,aq,Sem.run_bind,ab]
 exact dv av Z ao ae aG ba
theorem Dk {E:Env} {au:Nat} {r:bA} {a:Act} (k:RegRel0 E au r a):∀l:List (Nat × Operand),qn E ((sE l).run r) (l.map fun (i,x)=>(i,a.eval x))
 | []=>rfl
 | (i,x)::l=>by
   simp only [sE,List.map,qn]
   exact ⟨_,_,rfl,dz k x,Dk k l⟩
theorem Di {E:Env} {au:Nat} {r:bA} {a:Act} (k:RegRel0 E au r a) (x:Option Operand):hg E ((p2 x).run r) (x.map a.eval):=by
 cases x with
 | none=>rfl
 | some x=>simp only [p2,hg,Option.map];exact ⟨_,rfl,dz k x⟩
theorem ahJ {v:V} {f:aP→Nat→aY} {r:V} {h:af} (he:v.h' .fail f=.val r h):∃b off,v=.ptr b off∧f b off=.val r h:=by
 cases v<;>simp only [V.h'] at he<;>first
  | (cases he;done)
  | exact ⟨_,_,rfl,he⟩
theorem ahn {aw:Fr} {E:Env} {h aa:af} {w:World} (s:a' aw E h w) {x v:V} {X:Value} {ty:TypeId} (aq:Rel E x X) (he:uS x h=.val v aa):c8 aw P E w (Instr.next X true ty) v aa:=by
 unfold uS at he
 obtain ⟨b,off,rfl,ab⟩:=ahJ he
 have ag:=s.at (p:=_) (by simp only [Rel] at aq;exact aq.choose_spec.1)
 cases aH:h.get b with
 | dead=>rw [aH] at ab;cases ab
 | view _ _=>rw [aH] at ab;cases ab
 | cells _ _ _ _=>rw [aH] at ab;cases ab
 | mp _ _=>rw [aH] at ab;cases ab
 | cr _=>rw [aH] at ab;cases ab
 | er=>rw [aH] at ab;cases ab
 | iz _=>rw [aH] at ab;cases ab
 | iy _ _ _ _=>rw [aH] at ab;cases ab
 | iter st pos=>
   rw [aH] at ab ag
   simp only at ab
   obtain ⟨bb,ae⟩:=jg ab
   rw [Nat.beq_eq] at bb
   subst bb
   obtain ⟨p,ah,c2,mu,bf⟩:=ag
   simp only [Rel] at aq
   obtain ⟨q,aA,rfl⟩:=aq
   rw [ah] at aA;cases aA
   have eN:(getObj p.aW).run P w=.ok (.stringIter ⟨⟨st⟩⟩ pos) w:=by simp only [getObj,Sem.run,bf]
   have ca:(⟨⟨st⟩⟩:ByteArray).size=st.length:=rfl
   cases aL:Nat.blt pos st.length with
   | true=>
     rw [aL] at ae
     simp only [cond_true,aY.val.injEq] at ae
     obtain ⟨rfl,rfl⟩:=ae
     rw [Nat.blt_eq] at aL
     let b8:Obj:=.stringIter ⟨⟨st⟩⟩ (pos + (decodeL st pos).2)
     let ao:World:={w with heap:=w.heap.setIfInBounds p.aW b8}
     have kB:=(Array.getElem?_eq_some_iff.1 bf).1
     have qZ:(setObj p.aW b8).run P w=.ok () ao:=by simp only [setObj,Sem.run,bf];rfl
     refine ⟨.tuple #[.bool true,goInt pos,.int .i32 (decodeL st pos).1],ao,E,?_,Env.le.refl E,?_,s.set (p:=p) (by rw [aH];rfl) ah c2 (by simp [ao]) (fun j bK=>?_) rfl rfl rfl (fun _ _ _ e=>by cases e) ?_⟩
     · simp only [Instr.next,mu,Sem.run_bind,eN,Result.andThen_ok,ca,if_pos aL]
       have:(Utf8.decode (⟨⟨st⟩⟩:ByteArray) pos)=decodeL st pos:=rfl
       simp only [this]
       rw [qZ]
       rfl
     · simp only [Rel,bc]
       exact ⟨_,rfl,_,_,rfl,rfl,_,_,rfl,rfl,_,_,rfl,rfl,rfl⟩
     · simp only [ao,Array.getElem?_setIfInBounds]
       rw [if_neg (fun e=>bK e.symm)]
     · exact ⟨p,ah,c2,mu,by simp [ao,kB,b8]⟩
   | false=>
     rw [aL] at ae
     simp only [cond_false,aY.val.injEq] at ae
     obtain ⟨rfl,rfl⟩:=ae
     have iQ:¬pos<st.length:=by rw [←Nat.blt_eq,aL];simp
     refine c8.plain (Z:=.tuple #[.bool false]) s ?_ ?_
     · simp only [Instr.next,mu,Sem.run_bind,eN,Result.andThen_ok,ca,if_neg iQ,Sem.run_pure]
     · simp only [Rel,bc]
       exact ⟨_,rfl,_,_,rfl,rfl,rfl⟩
theorem aiU {aw:Fr} {E:Env} {h aa:af} {w:World} (s:a' aw E h w) {t:TypeId} {x v:V} {X:Value} (aq:Rel E x X) (he:(DE P t).run x h=.val v aa):c8 aw P E w (Instr.range t X) v aa:=by
 unfold DE at he
 cases aF:a8 P t with
 | none=>rw [aF] at he;cases he
 | some aO=>
   rw [aF] at he
   simp only at he
   have hu:=fk aF
   cases bU:aO.bd with
   | string=>
     rw [bU] at he hu
     simp only at he
     cases x<;>simp only at he<;>try (cases he;done)
     rename_i st
     simp only [aY.val.injEq] at he
     obtain ⟨rfl,rfl⟩:=he
     have:=aq.rl;subst this
     have da:=s.fresh h.next (Nat.le_refl _)
     have dQ:E.put (al h.next) ⟨w.heap.size,0,0⟩ (al h.next)=some ⟨w.heap.size,0,0⟩:=by unfold Env.put;rw [if_pos rfl]
     refine ⟨.pointer (some ⟨w.heap.size,0,none⟩),{w with heap:=w.heap.push (.stringIter ⟨⟨st⟩⟩ 0)},_,?_,Env.kK (p:=⟨w.heap.size,0,0⟩) da,?_,s.alloc 0 ?_⟩
     · simp only [Instr.range,Sem.run_bind,hu,Result.andThen_ok,Sem.run_pure,run_newObj]
     · simp only [Rel];exact ⟨_,dQ,by simp⟩
     · exact ⟨_,dQ,s.frame.size,rfl,by simp⟩
   | map cm jC=>
     rw [bU] at he hu
     exact aiV s (hu w) aq he
   | _=>rw [bU] at he;cases he
theorem Vm {aw:Fr} {E:Env} {h aa:af} {w:World} (s:a' aw E h w) {t u:TypeId} {x y v:V} {X Y:Value} {ty:TypeId}
 (he:(Bl P t u).run x y h=.val v aa) (aq:Rel E x X) (a_:Rel E y Y):c8 aw P E w (Builtin.append_ #[t,u] ty #[X,Y]) v aa:=by
 unfold Bl at he
 cases aF:a8 P t with
 | none=>rw [aF] at he;cases he
 | some aO=>
   cases hu:a8 P u with
   | none=>rw [aF,hu] at he;cases he
   | some rr=>
     rw [aF,hu] at he
     simp only at he
     have main:(∀k,rr.bd≠.int k)→(match aO.bd with
      | .slice e=>match a8 P e with
        | none=>(⟨fun _ _ _=>.fail⟩:AM)
        | some bh=>match bh.zero with
          | none=>⟨fun _ _ _=>.fail⟩
          | some z=>bif Nat.ble 1 bh.size&&Nat.ble bh.bytes 4096&&Nat.beq z.cells.length bh.size then ⟨kW bh.size⟩ else ⟨fun _ _ _=>.fail⟩
      | _=>⟨fun _ _ _=>.fail⟩).run x y h=.val v aa→c8 aw P E w (Builtin.append_ #[t,u] ty #[X,Y]) v aa:=by
      intro pL he
      cases bU:aO.bd with
      | slice e=>
        rw [bU] at he
        simp only at he
        cases cv:a8 P e with
        | none=>rw [cv] at he;cases he
        | some bh=>
          rw [cv] at he
          simp only at he
          cases bo:bh.zero with
          | none=>rw [bo] at he;cases he
          | some z=>
            rw [bo] at he
            simp only at he
            cases aI:(Nat.ble 1 bh.size&&Nat.ble bh.bytes 4096&&Nat.beq z.cells.length bh.size) with
            | false=>rw [aI] at he;cases he
            | true=>
              rw [aI] at he
              simp only [cond_true] at he
              simp only [Bool.and_eq_true,Nat.ble_eq,Nat.beq_eq] at aI
              obtain ⟨p_,zB,_,pP⟩:=s' (P:=P) (E:=E) cv bo w
              refine Vo s ⟨fun w=>?_,⟨rr.bd,fun w=>fk hu w,pL⟩,fun w=>js cv w,fun w=>J7 cv w,⟨p_,zB,by rw [pP];exact aI.2⟩,aI.1.1,aI.1.2⟩ he aq a_
              have:=fk aF w
              rw [bU] at this
              exact this
      | _=>rw [bU] at he;cases he
     cases wX:rr.bd with
     | int k=>
       rw [wX] at he
       simp only at he
       cases bU:aO.bd with
       | slice e=>
         rw [bU] at he
         simp only at he
         cases cv:a8 P e with
         | none=>rw [cv] at he;cases he
         | some bh=>
           rw [cv] at he
           simp only at he
           cases bo:bh.zero with
           | none=>rw [bo] at he;cases he
           | some z=>
             rw [bo] at he
             simp only at he
             cases aI:(Nat.ble 1 bh.size&&Nat.ble bh.bytes 4096&&Nat.beq z.cells.length bh.size) with
             | false=>rw [aI] at he;cases he
             | true=>
               rw [aI] at he
               simp only [cond_true] at he
               simp only [Bool.and_eq_true,Nat.ble_eq,Nat.beq_eq] at aI
               obtain ⟨p_,zB,Iu,pP⟩:=s' (P:=P) (E:=E) cv bo w
               have wY:∀w,(underlying t).run P w=.ok (.slice e) w:=fun w=>by have:=fk aF w;rw [bU] at this;exact this
               have Il:∀w,(underlying u).run P w=.ok (.int k) w:=fun w=>by have:=fk hu w;rw [wX] at this;exact this
               have H:ET P t u e bh.size bh.bytes k p_:=⟨wY,Il,fun w=>js cv w,fun w=>J7 cv w,zB,by rw [pP];exact aI.2,aI.1.1,aI.1.2⟩
               unfold LR at he
               split at he
               case h_2=>cases he
               rename_i c6 m
               split at he
               case h_2=>cases he
               rename_i n
               obtain ⟨om,bs⟩:=jg he
               simp only [Bool.and_eq_true,Nat.ble_eq] at om
               have aE:=r1 om.1
               subst aE
               simp only [Rel] at a_
               subst a_
               have O3:=Av Iu n
               have hlen:(iE z.cells n).length=n * bh.size:=by
                rw [←O3.length]
                simp [Builtin.zeroCells,pP,aI.2]
               exact Vp s aI.1.1 O3 hlen (by have:=om.2;unfold top;omega) (fun ao A cW fc a b c=>aji H om.2 a b c) (fun A cW fc b1 a b c d f=>ajj H om.2 A cW fc b1 a b c d f) bs aq
       | _=>rw [bU] at he;cases he
     | _=>rw [wX] at he;exact main (by rw [wX];simp) he
theorem Z4 {aw:Fr} {E:Env} {h aa:af} {w:World} (s:a' aw E h w) {t:TypeId} {rest:List TypeId} {x y v:V} {X Y:Value} {ty:TypeId}
 (he:(BC P t).run x y h=.val v aa) (aq:Rel E x X) (a_:Rel E y Y):c8 aw P E w (Builtin.copy_ (t::rest).toArray ty #[X,Y]) v aa:=by
 unfold BC at he
 cases aF:a8 P t with
 | none=>rw [aF] at he;cases he
 | some aO=>
   rw [aF] at he
   simp only at he
   cases bU:aO.bd with
   | slice e=>
     rw [bU] at he
     simp only at he
     cases cv:a8 P e with
     | none=>rw [cv] at he;cases he
     | some bh=>
       rw [cv] at he
       simp only at he
       exact Z5 s (fun w=>by have:=fk aF w;rw [bU] at this;exact this) (fun w=>js cv w) he aq a_
   | _=>rw [bU] at he;cases he
theorem ZO {aw:Fr} {E:Env} {h aa:af} {w:World} (s:a' aw E h w) {t:TypeId} {x v:V} {X:Value} {ty:TypeId} {z:List V} (aI:yL P t=some z)
 (he:BB z x h=.val v aa) (aq:Rel E x X):c8 aw P E w (Builtin.clear_ #[t] ty #[X]) v aa:=by
 unfold yL at aI
 cases aF:a8 P t with
 | none=>rw [aF] at aI;cases aI
 | some aO=>
   rw [aF] at aI
   simp only at aI
   cases bU:aO.bd with
   | slice e=>
     rw [bU] at aI
     simp only at aI
     cases cv:a8 P e with
     | none=>rw [cv] at aI;cases aI
     | some bh=>
       rw [cv] at aI
       simp only at aI
       cases bo:bh.zero with
       | none=>rw [bo] at aI;cases aI
       | some z0=>
         rw [bo] at aI
         simp only [Option.some.injEq] at aI
         subst aI
         have hu:∀w,(underlying t).run P w=.ok (.slice e) w:=fun w=>by have:=fk aF w;rw [bU] at this;exact this
         obtain ⟨z,lh,Iu,Ph⟩:=s' (P:=P) (E:=E) cv bo w
         have nothing:∀a c,X=.slice a 0 c→v=.tuple []→aa=h→c8 aw P E w (Builtin.clear_ #[t] ty #[X]) v aa:=by
          intro a c c_ bs bf
          subst c_ bs bf
          refine ⟨.tuple #[],w,E,?_,Env.le.refl E,?_,s⟩
          · cases a<;>simp [Builtin.clear_,Sem.run_bind,hu,Result.andThen_ok,Sem.run_pure]
          · simp only [Rel];exact ⟨_,rfl,rfl⟩
         have Sv:∀(b:aP) (off n c:Nat) (p:ih),E b=some p→X=.slice (some ⟨p.aW,p.base+off,none⟩) n c→(bif Nat.beq n 0 then (aY.val (.tuple []) h) else (match lay h b off (iE z0.cells n) with
          | some aa=>aY.val (.tuple []) aa
          | none=>.fail))=.val v aa→c8 aw P E w (Builtin.clear_ #[t] ty #[X]) v aa:=by
          intro b off n c p ah c_ he
          cases n with
          | zero=>
            simp only [Nat.beq_refl,cond_true,aY.val.injEq] at he
            exact nothing _ _ c_ he.1.symm he.2.symm
          | succ n=>
            simp only [show Nat.beq (n+1) 0=false from rfl,cond_false] at he
            cases ai:lay h b off (iE z0.cells (n+1)) with
            | none=>rw [ai] at he;cases he
            | some ab=>
              rw [ai] at he
              simp only [aY.val.injEq] at he
              obtain ⟨rfl,rfl⟩:=he
              obtain ⟨ao,g1,g2⟩:=xd (P:=P) s (Av Iu (n+1)) ai ah
              subst c_
              refine ⟨.tuple #[],ao,E,?_,Env.le.refl E,?_,g2⟩
              · simp only [Builtin.clear_,Sem.run_bind,List.getElem?_toArray,List.getElem?_cons_zero,hu,lh,Result.andThen_ok]
                have:(storeCells ⟨p.aW,p.base+off,none⟩ (Builtin.zeroCells z.cells (n+1)).toList).run P w=.ok () ao:=g1
                simp [this,Sem.run_pure,Result.andThen_ok]
              · simp only [Rel];exact ⟨_,rfl,rfl⟩
         unfold BB at he
         cases x<;>simp only at he<;>try (cases he;done)
         · simp only [Rel] at aq
           obtain ⟨p,g1,g2,g3⟩:=aq
           exact Sv _ _ _ _ p g1 g3 he
         · simp only [Rel] at aq
           obtain ⟨p,g1,g2,g3⟩:=aq
           exact Sv _ _ _ _ p g1 g3 he
         · simp only [Rel] at aq
           obtain ⟨a,c,rfl⟩:=aq
           simp only [aY.val.injEq] at he
           exact nothing _ _ rfl he.1.symm he.2.symm
         · simp only [Rel] at aq
           simp only [aY.val.injEq] at he
           exact nothing _ _ aq he.1.symm he.2.symm
   | _=>rw [bU] at aI;cases aI
theorem Zt {E:Env} {t:TypeId} {aO:mo} {x v:V} {X:Value} {ty:TypeId} (aF:a8 P t=some aO) (aQ:IF aO.bd=true) (he:Gw x=some v) (aq:Rel E x X) (w:World):
 ∃Z,(Builtin.cap_ #[t] ty #[X]).run P w=.ok Z w∧Rel E v Z:=by
 cases bU:aO.bd with
 | slice e=>
   have hu:∀w,(underlying t).run P w=.ok (.slice e) w:=fun w=>by have:=fk aF w;rw [bU] at this;exact this
   cases x<;>simp only [Gw] at he<;>try (cases he;done)
   · simp only [Rel] at aq
     obtain ⟨p,_,_,rfl⟩:=aq
     cases he
     refine ⟨_,?_,rfl⟩
     simp [Builtin.cap_,Sem.run_bind,hu,Result.andThen_ok,Sem.run_pure]
     rfl
   · simp only [Rel] at aq
     subst aq
     cases he
     refine ⟨_,?_,rfl⟩
     simp [Builtin.cap_,Sem.run_bind,hu,Result.andThen_ok,Sem.run_pure]
     rfl
 | _=>rw [bU] at aQ;cases aQ
theorem AE {α:Type} (a:Array α):a.toList.toArray=a:=by simp
theorem VZ {aw:Fr} {E:Env} {h aa:af} {w:World} (s:a' aw E h w) {b:Builtin} {bO:Array TypeId} {args:List V} {xs:List Value} {v:V} {ty:TypeId} {cs:Array Bool} (ai:bc E args xs)
 (he:(qB P b bO.toList).run args h=.val v aa):∃m:Sem Value,Go.builtin b bO ty cs xs.toArray=(do pure (.value (←m)))∧c8 aw P E w m v aa:=by
 have one:∀{x:V},bc E [x] xs→∃X,xs=[X]∧Rel E x X:=by
  intro x h
  simp only [bc] at h
  obtain ⟨y,cJ,rfl,a_,rfl⟩:=h
  exact ⟨y,rfl,a_⟩
 have two:∀{x y:V},bc E [x,y] xs→∃X Y,xs=[X,Y]∧Rel E x X∧Rel E y Y:=by
  intro x y h
  simp only [bc] at h
  obtain ⟨X,_,rfl,c_,Y,_,rfl,e',rfl⟩:=h
  exact ⟨X,Y,rfl,c_,e'⟩
 cases b<;>simp only [qB] at he<;>try (simp [fC.none] at he;done)
 · -- append
   cases fa:bO.toList with
   | nil=>rw [fa] at he;simp [fC.none] at he
   | cons t rq=>
     rw [fa] at he
     cases rq with
     | nil=>simp [fC.none] at he
     | cons u akv=>
       cases akv with
       | cons _ _=>simp [fC.none] at he
       | nil=>
         simp only at he
         match args,he,ai with
         | [x,y],he,ai=>
           obtain ⟨X,Y,rfl,c_,e'⟩:=two ai
           have e:bO=#[t,u]:=by rw [←AE bO,fa]
           exact ⟨_,rfl,by rw [e];exact Vm s he c_ e'⟩
         | [],he,_=>cases he
         | [_],he,_=>cases he
         | _::_::_::_,he,_=>cases he
 · -- cap
   cases fa:bO.toList with
   | nil=>rw [fa] at he;simp [fC.none] at he
   | cons t rq=>
     rw [fa] at he
     cases rq with
     | cons _ _=>simp [fC.none] at he
     | nil=>
       simp only at he
       cases aF:a8 P t with
       | none=>rw [aF] at he;simp [fC.none] at he
       | some aO=>
         rw [aF] at he
         simp only at he
         cases aQ:IF aO.bd with
         | false=>rw [aQ] at he;simp [fC.none] at he
         | true=>
           rw [aQ] at he
           simp only [cond_true] at he
           match args,he,ai with
           | [x],he,ai=>
             obtain ⟨X,rfl,c_⟩:=one ai
             have e:bO=#[t]:=by rw [←AE bO,fa]
             obtain ⟨ea,rfl⟩:=aY.hP he
             obtain ⟨Z,fs,cM⟩:=Zt (P:=P) (ty:=ty) aF aQ ea c_ w
             exact ⟨_,rfl,by rw [e];exact c8.plain s fs cM⟩
           | [],he,_=>cases he
           | _::_::_,he,_=>cases he
 · -- clear
   cases fa:bO.toList with
   | nil=>rw [fa] at he;simp [fC.none] at he
   | cons t rq=>
     rw [fa] at he
     cases rq with
     | cons _ _=>simp [fC.none] at he
     | nil=>
       simp only at he
       cases aI:yL P t with
       | none=>rw [aI] at he;simp [fC.none] at he
       | some z=>
         rw [aI] at he
         simp only at he
         match args,he,ai with
         | [x],he,ai=>
           obtain ⟨X,rfl,c_⟩:=one ai
           have e:bO=#[t]:=by rw [←AE bO,fa]
           exact ⟨_,rfl,by rw [e];exact ZO s aI he c_⟩
         | [],he,_=>cases he
         | _::_::_,he,_=>cases he
 · -- copy
   cases fa:bO.toList with
   | nil=>rw [fa] at he;simp [fC.none] at he
   | cons t rq=>
     rw [fa] at he
     simp only at he
     match args,he,ai with
     | [x,y],he,ai=>
       obtain ⟨X,Y,rfl,c_,e'⟩:=two ai
       have e:bO=(t::rq).toArray:=by rw [←AE bO,fa]
       exact ⟨_,rfl,by rw [e];exact Z4 s he c_ e'⟩
     | [],he,_=>cases he
     | [_],he,_=>cases he
     | _::_::_::_,he,_=>cases he
 · -- len
   cases fa:bO.toList with
   | nil=>rw [fa] at he;simp [fC.none] at he
   | cons t rq=>
     rw [fa] at he
     cases rq with
     | cons _ _=>simp [fC.none] at he
     | nil=>
       simp only at he
       cases aF:a8 P t with
       | none=>rw [aF] at he;simp [fC.none] at he
       | some aO=>
         rw [aF] at he
         simp only at he
         match args,he,ai with
         | [x],he,ai=>
           obtain ⟨X,rfl,c_⟩:=one ai
           have e:bO=[t].toArray:=by rw [←AE bO,fa]
           cases hm:sn aO.bd with
           | true=>
             rw [hm] at he
             exact ⟨_,rfl,by rw [e];exact agE s aF hm c_ ty [] he⟩
           | false=>
             rw [hm] at he
             simp only [cond_false] at he
             obtain ⟨ea,rfl⟩:=aY.hP he
             obtain ⟨Z,fs,cM⟩:=agF (P:=P) aF ea c_ ty [] w
             exact ⟨_,rfl,by rw [e];exact c8.plain s fs cM⟩
         | [],he,_=>cases hm:sn aO.bd<;>rw [hm] at he<;>cases he
         | _::_::_,he,_=>cases hm:sn aO.bd<;>rw [hm] at he<;>cases he
 · -- max
   obtain ⟨ea,rfl⟩:=aY.hP he
   clear he
   cases args with
   | nil=>cases ea
   | cons x args=>
     simp only [jO] at ea
     obtain ⟨k,a,rfl,ab⟩:=iY ea
     simp only [bc] at ai
     obtain ⟨X,cJ,rfl,c_,ai⟩:=ai
     have:=c_.iv;subst this
     obtain ⟨Z,fs,cM⟩:=Ju (P:=P) false args cJ k a v ai ab w
     exact ⟨_,rfl,c8.plain (Z:=Z) s (by simpa [Builtin.max_] using fs) cM⟩
 · -- min
   obtain ⟨ea,rfl⟩:=aY.hP he
   clear he
   cases args with
   | nil=>cases ea
   | cons x args=>
     simp only [jO] at ea
     obtain ⟨k,a,rfl,ab⟩:=iY ea
     simp only [bc] at ai
     obtain ⟨X,cJ,rfl,c_,ai⟩:=ai
     have:=c_.iv;subst this
     obtain ⟨Z,fs,cM⟩:=Ju (P:=P) true args cJ k a v ai ab w
     exact ⟨_,rfl,c8.plain (Z:=Z) s (by simpa [Builtin.min_] using fs) cM⟩
end
end Go.Proofs.YthemdhlheglhoaaGreatDoor.aX
namespace Go.Proofs.YthemdhlheglhoaaGreatDoor.aX
variable [Lay]
open Go Go.RowKit
section
variable {P:Program}
def ez (P:Program):Prop:=∀(f:FuncId) (fn:Func),P.funcs[f]? =some fn→(fn.name == "runtime.NumGoroutine")=false
theorem sN (bG:ez P) {f:FuncId} {fn:Func} (ay:P.funcs[f]? =some fn) (ag:fn.body.isSome=true) (args:Array Value) (w:World):(callFunc f args).run P w=.ok (.enter f args) w:=by
 have gF:fn.body.isNone=false:=by cases h:fn.body with | none=>rw [h] at ag;cases ag | some c=>rfl
 simp only [callFunc,Sem.run_bind,run_program,Result.andThen_ok,ay]
 rw [if_neg (by rw [bG f fn ay];simp)]
 simp [gF]
theorem IY {α β:Type} (f:α→β) (a:Array α):a.map f=(a.toList.map f).toArray:=by
 apply Array.ext'
 simp
theorem Jt (ρ:Operand→Value) (bg:Array (Nat × Operand)):(bg.map fun (i,x)=>(i,ρ x))=(bg.toList.map fun (i,x)=>(i,ρ x)).toArray:=by
 apply Array.ext'
 simp
theorem VA {E:Env} {t s7:TypeId} {aO:mo} {ok:Bool} {x v:V} {X:Value} (aF:a8 P t=some aO) (ag:Nat.beq (eO aO.bd) 5=false) (aq:Rel E x X)
 (he:yz t aO.zero ok x=some v) (w:World):∃Z,(Instr.typeAssert X s7 t ok).run P w=.ok Z w∧Rel E v Z:=by
 have hu:=fk aF w
 have pL:∀ms,aO.bd≠.interface ms:=fun ms e=>by rw [e] at ag;simp [eO] at ag
 have zero:∀z,aO.zero=some z→∃x,(zeroValue t).run P w=.ok x w∧Rel E z x:=fun z bo=>by
  obtain ⟨x,ab,ae,_⟩:=xC (P:=P) aF bo E w
  exact ⟨x,ab,ae⟩
 unfold yz at he
 cases x<;>simp only at he<;>try (cases he;done)
 case iface u y=>
  simp only [Rel] at aq
  obtain ⟨Y,rfl,e'⟩:=aq
  rw [ho] at he
  by_cases wY:u=t
  · rw [if_pos wY] at he
    simp only [Option.some.injEq] at he
    subst wY
    cases ok with
    | true=>
      simp only [cond_true] at he
      subst he
      refine ⟨.tuple #[Y,.bool true],?_,by simp only [Rel,bc];exact ⟨_,rfl,_,_,rfl,e',_,_,rfl,rfl,rfl⟩⟩
      simp only [Instr.typeAssert,Sem.run_bind,hu,Result.andThen_ok]
      cases bU:aO.bd<;>first
       | exact absurd bU (pL _)
       | (simp only [if_true];rfl)
    | false=>
      simp only [cond_false] at he
      subst he
      refine ⟨Y,?_,e'⟩
      simp only [Instr.typeAssert,Sem.run_bind,hu,Result.andThen_ok]
      cases bU:aO.bd<;>first
       | exact absurd bU (pL _)
       | (simp only [if_true];rfl)
  · rw [if_neg wY] at he
    cases ok with
    | false=>cases he
    | true=>
      simp only [cond_true] at he
      cases bo:aO.zero with
      | none=>rw [bo] at he;cases he
      | some z=>
        rw [bo] at he
        simp only [Option.some.injEq] at he
        subst he
        obtain ⟨a7,cF,z2⟩:=zero z bo
        refine ⟨.tuple #[a7,.bool false],?_,by simp only [Rel,bc];exact ⟨_,rfl,_,_,rfl,z2,_,_,rfl,rfl,rfl⟩⟩
        simp only [Instr.typeAssert,Sem.run_bind,hu,Result.andThen_ok]
        cases bU:aO.bd<;>first
         | exact absurd bU (pL _)
         | (simp only [if_neg wY,if_true,Sem.run_bind,cF,Result.andThen_ok];rfl)
 case nilIface=>
  simp only [Rel] at aq
  subst aq
  cases ok with
  | false=>cases he
  | true=>
    simp only [cond_true] at he
    cases bo:aO.zero with
    | none=>rw [bo] at he;cases he
    | some z=>
      rw [bo] at he
      simp only [Option.some.injEq] at he
      subst he
      obtain ⟨a7,cF,z2⟩:=zero z bo
      refine ⟨.tuple #[a7,.bool false],?_,by simp only [Rel,bc];exact ⟨_,rfl,_,_,rfl,z2,_,_,rfl,rfl,rfl⟩⟩
      simp only [Instr.typeAssert,Sem.run_bind,hu,Result.andThen_ok]
      cases bU:aO.bd<;>first
       | exact absurd bU (pL _)
       | (simp only [if_true,Sem.run_bind,cF,Result.andThen_ok];rfl)
def gu (P:Program) (call:dx):Prop:=∀f args h v aa,call f args h=.val v aa→True
set_option maxHeartbeats 2000000 in
theorem MV {rd:Option Nat} {aw:Fr} {E:Env} {h aa:af} {w:World} {call:dx} (bG:ez P) (cN:gk P call) (dq:gu P call) {o:Oper} {au:Nat} {r:bA} {a:Act} {v:V}
 (he:(e1 P o).run call r h=.val v aa) (k:RegRel0 E au r a) (s:a' aw E h w) {K:Act→World→Prop} {Q:Exit→Act→World→Prop}
 (dv:∀av x ao,E.le av→Rel av v x→a' aw av aa ao→K (a.put o.dst x) ao):o.wpIn (ch rd) 0 P a w K Q:=by
 obtain ⟨dst,op,type,pos,after,guard⟩:=o
 cases op<;>simp only [e1] at he<;>try (simp [df.none] at he;done)
 case move x=>
  simp only [aY.val.injEq] at he;obtain ⟨rfl,rfl⟩:=he
  exact fY (m:=pure (a.eval x)) rfl (c8.plain s rfl (dz k x)) dv
 case assign x=>
  simp only [aY.val.injEq] at he;obtain ⟨rfl,rfl⟩:=he
  exact fY (m:=pure (a.eval x)) rfl (c8.plain s rfl (dz k x)) dv
 case pick c x y=>
  have aI:=dz k c
  generalize (bQ c).run r=Kw at he aI
  cases Kw<;>simp only at he<;>try (cases he;done)
  rename_i t
  simp only [aY.val.injEq] at he;obtain ⟨rfl,rfl⟩:=he
  simp only [Rel] at aI
  refine fY (m:=do pure (if ←asBool (a.eval c) then a.eval x else a.eval y)) (by simp only [execOp,bind_assoc,pure_bind]) (c8.plain (Z:=if t then a.eval x else a.eval y) s ?_ ?_) dv
  · rw [aI];rfl
  · cases t
    · exact dz k y
    · exact dz k x
 case alloc t=>
  cases aF:a8 P t with
  | none=>rw [aF] at he;simp [df.none] at he
  | some aO=>
    rw [aF] at he
    simp only at he
    cases bo:aO.zero with
    | none=>rw [bo] at he;simp [df.none] at he
    | some z=>
      rw [bo] at he
      simp only at he
      cases aU:fV h z.cells with
      | none=>rw [aU] at he;cases he
      | some ab=>
        rw [aU] at he
        simp only [gB,aY.val.injEq] at he;obtain ⟨rfl,rfl⟩:=he
        obtain ⟨x,aq,pO,_⟩:=s' (P:=P) (E:=E) aF bo w
        obtain ⟨av,g1,g2,g3,g4⟩:=C6 (P:=P) s pO aU t
        have G2:(newRow t x.cells).run P w=.ok ⟨w.heap.size,0,none⟩ {w with heap:=w.heap.push (.cells x.cells t)}:=by simpa using g3
        have G3:a' aw av ab {w with heap:=w.heap.push (.cells x.cells t)}:=by simpa using g4
        exact fY (m:=Instr.alloc t true (.tuple #[])) rfl ⟨.pointer (some ⟨w.heap.size,0,none⟩),_,av,by simp only [Instr.alloc,Sem.run_bind,aq,Result.andThen_ok,newVar,G2,Sem.run_pure],g1,by simp only [Rel];exact ⟨_,g2,by simp⟩,G3⟩ dv
 case box t x=>
  obtain ⟨aH,he⟩:=jg he
  cases aU:fV h ((bQ x).run r).cells with
  | none=>rw [aU] at he;cases he
  | some ab=>
    rw [aU] at he
    simp only [gB,aY.val.injEq] at he;obtain ⟨rfl,rfl⟩:=he
    have ai:=(dz k x).cells (fun e=>by rw [e] at aH;cases aH)
    obtain ⟨av,g1,g2,g3,g4⟩:=C6 (P:=P) s ai aU t
    have G2:(newRow t (a.eval x).cells).run P w=.ok ⟨w.heap.size,0,none⟩ {w with heap:=w.heap.push (.cells (a.eval x).cells t)}:=by simpa using g3
    have G3:a' aw av ab {w with heap:=w.heap.push (.cells (a.eval x).cells t)}:=by simpa using g4
    exact fY (m:=Instr.box t (a.eval x)) rfl ⟨.pointer (some ⟨w.heap.size,0,none⟩),_,av,by simp only [Instr.box,Sem.run_bind,newVar,G2,Result.andThen_ok,Sem.run_pure],g1,by simp only [Rel];exact ⟨_,g2,by simp⟩,G3⟩ dv
 case build t bg=>
  obtain ⟨ea,rfl⟩:=aY.hP he
  clear he
  obtain ⟨Z,fs,cM⟩:=VV (P:=P) (Dk k bg.toList) ea w
  refine fY (m:=Instr.build t (bg.map fun (i,x)=>(i,a.eval x))) rfl (c8.plain (Z:=Z) s ?_ cM) dv
  rw [Jt];exact fs
 case buildSlice t n bg=>
  refine fY (m:=Instr.buildSlice t n (bg.map fun (i,x)=>(i,a.eval x))) rfl ?_ dv
  rw [Jt]
  exact VX s (Dk k bg.toList) he
 case load t x=>
  obtain ⟨ea,rfl⟩:=aY.hP he
  clear he
  obtain ⟨Y,e',cM,_⟩:=Qi (P:=P) s (dz k x) ea
  exact fY (m:=Instr.loadAt t (a.eval x)) rfl (c8.plain s e' cM) dv
 case store t x y=>
  cases cG:(rh P t).run h ((bQ x).run r) ((bQ y).run r) with
  | none=>rw [cG] at he;cases he
  | some ab=>
    rw [cG] at he
    simp only [gB,aY.val.injEq] at he;obtain ⟨rfl,rfl⟩:=he
    obtain ⟨ao,cT,hc⟩:=aj1 (P:=P) s (dz k x) (dz k y) cG
    refine ⟨fun _ _=>trivial,?_⟩
    rw [oO (by intro c h;cases h)]
    have:execOp a.eval ⟨dst,.store t x y,type,pos,after,guard⟩=(do Instr.storeAt t (a.eval x) (a.eval y);pure .skip):=rfl
    rw [this,Sem.run_bind,cT]
    exact dv E undef ao (Env.le.refl E) (by simp [Rel]) hc
 case nilCheck x=>
  obtain ⟨ea,rfl⟩:=aY.hP he
  clear he
  have aq:=dz k x
  generalize (bQ x).run r=vc at ea aq
  have eN:∀X,Rel E vc X→(match X with
   | .pointer none | .nilIface | .nilFunc=>(runtimePanic .nilDeref:Sem Next)
   | .func (.method name) first captured=>
     match (first[0]? :Option Value) with
     | some .nilIface=>runtimePanic .nilDeref
     | some (.iface t w)=>do
       if (←nilAhead ((←program).types.size+Made.depth) t w name) != some false then
        unsupported (.noEntry "op/nilCheck.the method's receiver behind this interface value is a nil pointer, or cannot be seen to be none, and the arguments act or may panic (ledger 612)")
       pure (.value (.func (.method name) first captured))
     | _=>pure (.value (.func (.method name) first captured))
   | x=>pure (.value x))=pure (.value X)∧v=vc:=by
   intro X c_
   cases vc<;>simp only [sx] at ea<;>try (cases ea;done)
   all_goals simp only [Option.some.injEq] at ea
   all_goals simp only [Rel] at c_
   · obtain ⟨p,_,rfl⟩:=c_;exact ⟨rfl,ea.symm⟩
   · rcases c_ with ⟨_,_,rfl,_⟩ | ⟨_,_,_,_,_,rfl⟩<;>exact ⟨rfl,ea.symm⟩
   · obtain ⟨p,rfl,_⟩:=c_;exact ⟨rfl,ea.symm⟩
   · obtain ⟨_,p,rfl,_⟩:=c_;exact ⟨rfl,ea.symm⟩
  obtain ⟨ab,rfl⟩:=eN _ aq
  exact fY (m:=pure (a.eval x)) (by simp only [execOp];rw [pure_bind];exact ab) (c8.plain s rfl aq) dv
 case binOp op t x y u=>
  obtain ⟨ea,rfl⟩:=aY.hP he
  clear he
  obtain ⟨Z,fs,cM⟩:=VR (P:=P) (hQ:=x) (fW:=y) ea (dz k x) (dz k y) w
  exact fY rfl (c8.plain s fs cM) dv
 case unOp op t x=>
  obtain ⟨ea,rfl⟩:=aY.hP he
  clear he
  obtain ⟨Z,fs,cM⟩:=akG (P:=P) ea (dz k x) w
  exact fY (m:=Op.unary op (a.eval x)) rfl (c8.plain s fs cM) dv
 case convert t u x=>exact fY (m:=convert t u (a.eval x)) rfl (Z0 s he (dz k x)) dv
 case makeInterface t x=>
  cases aF:a8 P t with
  | none=>rw [aF] at he;simp [df.none] at he
  | some aO=>
    rw [aF] at he
    simp only at he
    cases ag:Nat.beq (eO aO.bd) 5 with
    | true=>rw [ag] at he;simp [df.none] at he
    | false=>
      rw [ag] at he
      simp only [cond_false,aY.val.injEq] at he;obtain ⟨rfl,rfl⟩:=he
      refine fY (m:=Instr.makeInterface t (a.eval x)) rfl (c8.plain (Z:=.iface t (a.eval x)) s ?_ ?_) dv
      · have hu:=fk aF w
        simp only [Instr.makeInterface,Sem.run_bind,hu,Result.andThen_ok]
        cases bU:aO.bd<;>first
         | rfl
         | (rw [bU] at ag;simp [eO] at ag)
      · simp only [Rel];exact ⟨_,rfl,dz k x⟩
 case makeFunc fn first eB=>
  cases fn<;>simp only at he<;>try (simp [df.none] at he;done)
  rename_i f
  cases ay:(first.isEmpty&&!Nat.beq f dk) with
  | false=>
    rw [ay] at he
    simp only [cond_false] at he
    cases im:(eB.isEmpty&&!Nat.beq f dk) with
    | false=>rw [im] at he;simp [df.none] at he
    | true=>
      rw [im] at he
      simp only [cond_true,aY.val.injEq] at he;obtain ⟨rfl,rfl⟩:=he
      simp only [Bool.and_eq_true,Bool.not_eq_true'] at im
      have Hz:f≠dk:=fun e=>by rw [e] at im;exact absurd im.2 (by decide)
      have Hv:eB=#[]:=by simpa using im.1
      subst Hv
      refine fY (m:=Instr.makeFunc (.func f) (first.map a.eval) #[]) (by simp [execOp]) (c8.plain s rfl ?_) dv
      simp only [Rel]
      exact ⟨Hz,_,rfl,by rw [IY];simpa using pA k first.toList⟩
  | true=>
    rw [ay] at he
    simp only [cond_true,aY.val.injEq] at he;obtain ⟨rfl,rfl⟩:=he
    simp only [Bool.and_eq_true,Bool.not_eq_true'] at ay
    have Hz:f≠dk:=fun e=>by rw [e] at ay;exact absurd ay.2 (by decide)
    have Hv:first=#[]:=by simpa using ay.1
    subst Hv
    refine fY (m:=Instr.makeFunc (.func f) #[] (eB.map a.eval)) (by simp [execOp]) (c8.plain s rfl ?_) dv
    simp only [Rel]
    exact .inl ⟨Hz,_,rfl,by rw [IY];simpa using pA k eB.toList⟩
 case makeSlice t l c=>exact fY (m:=Instr.makeSlice t (a.eval l) (a.eval c)) rfl (ag7 s (dz k l) (dz k c) he) dv
 case slice t x bR aC dK=>
  obtain ⟨ea,rfl⟩:=aY.hP he
  clear he
  obtain ⟨Z,fs,cM⟩:=ajN (P:=P) ea (dz k x) (Di k bR) (Di k aC) (Di k dK) w
  exact fY (m:=Instr.sliceAt t (a.eval x) (bR.map a.eval) (aC.map a.eval) (dK.map a.eval)) rfl (c8.plain s fs cM) dv
 case fieldAddr t x i=>
  obtain ⟨ea,rfl⟩:=aY.hP he
  clear he
  obtain ⟨Z,fs,cM⟩:=aaU (P:=P) ea (dz k x) w
  exact fY (m:=Instr.fieldAt t (a.eval x) i) rfl (c8.plain s fs cM) dv
 case field t x i=>
  obtain ⟨ea,rfl⟩:=aY.hP he
  clear he
  obtain ⟨Z,fs,cM⟩:=aaV (P:=P) ea (dz k x) w
  exact fY (m:=Instr.field t (a.eval x) i) rfl (c8.plain s fs cM) dv
 case indexAddr t x i=>
  obtain ⟨ea,rfl⟩:=aY.hP he
  clear he
  obtain ⟨Z,fs,cM⟩:=aeb (P:=P) ea (dz k x) (dz k i) w
  exact fY (m:=Instr.indexAt t (a.eval x) (a.eval i)) rfl (c8.plain s fs cM) dv
 case index t x i=>
  obtain ⟨ea,rfl⟩:=aY.hP he
  clear he
  obtain ⟨Z,fs,cM⟩:=aed (P:=P) ea (dz k x) (dz k i) w
  exact fY (m:=Instr.index t (a.eval x) (a.eval i)) rfl (c8.plain s fs cM) dv
 case range t x=>exact fY (m:=Instr.range t (a.eval x)) rfl (aiU s (dz k x) he) dv
 case next it w6=>
  cases w6 with
  | true=>exact fY (m:=Instr.next (a.eval it) true type) rfl (ahn s (dz k it) he) dv
  | false=>exact fY (m:=Instr.next (a.eval it) false type) rfl (ahl s (dz k it) he) dv
 case entry it=>exact fY (m:=Instr.entry (a.eval it)) rfl (aaz s (dz k it) he) dv
 case lookup t x y ok=>
  obtain ⟨ea,rfl⟩:=aY.hP he
  clear he
  obtain ⟨Z,fs,cM⟩:=ag1 (P:=P) s (dz k x) (dz k y) ea
  exact fY (m:=Instr.lookup t (a.eval x) (a.eval y) ok) rfl (c8.plain s fs cM) dv
 case mapEntry t m y=>exact fY (m:=Instr.mapEntry t (a.eval m) (a.eval y)) rfl (ag8 s (dz k m) (dz k y) he) dv
 case entryStore t m st x=>
  cases cG:BL h ((bQ m).run r) ((bQ st).run r) ((bQ x).run r) with
  | none=>rw [cG] at he;cases he
  | some ab=>
    rw [cG] at he
    simp only [gB,aY.val.injEq] at he;obtain ⟨rfl,rfl⟩:=he
    obtain ⟨ao,cT,hc⟩:=aay (P:=P) (t:=t) s (dz k m) (dz k st) (dz k x) cG
    refine ⟨fun _ _=>trivial,?_⟩
    rw [oO (by intro c h;cases h)]
    have:execOp a.eval ⟨dst,.entryStore t m st x,type,pos,after,guard⟩=(do Instr.entryStore t (a.eval m) (a.eval st) (a.eval x);pure .skip):=rfl
    rw [this,Sem.run_bind,cT]
    exact dv E undef ao (Env.le.refl E) (by simp [Rel]) hc
 case mapUpdate t m y x=>
  cases cG:(nP P t).run h ((bQ m).run r) ((bQ y).run r) ((bQ x).run r) with
  | none=>rw [cG] at he;cases he
  | some ab=>
    rw [cG] at he
    simp only [gB,aY.val.injEq] at he;obtain ⟨rfl,rfl⟩:=he
    obtain ⟨ao,cT,hc⟩:=S7 (P:=P) s (dz k m) (dz k y) (dz k x) cG
    refine ⟨fun _ _=>trivial,?_⟩
    rw [oO (by intro c h;cases h)]
    have:execOp a.eval ⟨dst,.mapUpdate t m y x,type,pos,after,guard⟩=(do Instr.mapUpdate t (a.eval m) (a.eval y) (a.eval x);pure .skip):=rfl
    rw [this,Sem.run_bind,cT]
    exact dv E undef ao (Env.le.refl E) (by simp [Rel]) hc
 case insert t m y x=>
  cases cG:(nP P t).run h ((bQ m).run r) ((bQ y).run r) ((bQ x).run r) with
  | none=>rw [cG] at he;cases he
  | some ab=>
    rw [cG] at he
    simp only [gB,aY.val.injEq] at he;obtain ⟨rfl,rfl⟩:=he
    obtain ⟨ao,cT,hc⟩:=S7 (P:=P) s (dz k m) (dz k y) (dz k x) cG
    refine ⟨fun _ _=>trivial,?_⟩
    rw [oO (by intro c h;cases h)]
    have:execOp a.eval ⟨dst,.insert t m y x,type,pos,after,guard⟩=(do Instr.mapUpdate t (a.eval m) (a.eval y) (a.eval x);pure .skip):=rfl
    rw [this,Sem.run_bind,cT]
    exact dv E undef ao (Env.le.refl E) (by simp [Rel]) hc
 case makeMap t x=>exact fY (m:=Instr.makeMap t (x.map a.eval)) rfl (ag6 s (Di k x) he) dv
 case panic x=>
  exfalso
  unfold Js at he
  split at he<;>cases he
 case typeAssert x s7 t ok=>
  cases aF:a8 P t with
  | none=>rw [aF] at he;simp [df.none] at he
  | some aO=>
    rw [aF] at he
    simp only at he
    cases ag:Nat.beq (eO aO.bd) 5 with
    | true=>rw [ag] at he;simp [df.none] at he
    | false=>
      rw [ag] at he
      simp only [cond_false] at he
      obtain ⟨ea,rfl⟩:=aY.hP he
      clear he
      obtain ⟨Z,fs,cM⟩:=VA aF ag (s7:=s7) (dz k x) ea w
      exact fY (m:=Instr.typeAssert (a.eval x) s7 t ok) rfl (c8.plain s fs cM) dv
 case extract x i=>
  have aq:=dz k x
  generalize (bQ x).run r=vc at he aq
  cases vc<;>simp only at he<;>try (cases he;done)
  obtain ⟨ea,rfl⟩:=aY.hP he
  clear he
  simp only [Rel] at aq
  obtain ⟨arr,c_,ai⟩:=aq
  obtain ⟨y,a_,cM⟩:=ai.get i v ea
  refine fY (m:=Instr.extract (a.eval x) i) rfl (c8.plain (Z:=y) s ?_ cM) dv
  rw [c_]
  have:arr[i]? =some y:=by simpa using a_
  simp only [Instr.extract,this,Sem.run_pure]
 case call c=>
  obtain ⟨callee,args,types⟩:=c
  cases callee with
  | invoke _ _=>simp [qE,df.none] at he
  | builtin b=>
    simp only [qE] at he
    obtain ⟨cs,gG⟩:∃cs,execOp a.eval ⟨dst,.call ⟨.builtin b,args,types⟩,type,pos,after,guard⟩=Go.builtin b types type cs (args.map a.eval):=by
     simp only [execOp,resolve,pure_bind,invoke]
     exact ⟨_,rfl⟩
    obtain ⟨m,hm,aH⟩:=VZ (P:=P) (ty:=type) (cs:=cs) s (pA k args.toList) he
    refine fY (m:=m) ?_ aH dv
    rw [gG,←hm,IY]
  | value f=>
    simp only [qE] at he
    have ay:=dz k f
    generalize adP:(bQ f).run r=va at he ay
    cases va<;>simp only [V.xo] at he<;>try (cases he;done)
    rotate_left
    · rename_i g cs
      simp only [Rel] at ay
      refine ⟨fun _ _=>trivial,?_⟩
      rw [oO (by intro c h;cases h)]
      obtain ⟨aH,first,c_,ai⟩:=ay
      have oi:=bc.append ai (pA k args.toList)
      have om:=cN.fn _ _ _ _ _ _ aH he E w _ oi s
      have hex:execOp a.eval ⟨dst,.call ⟨.value f,args,types⟩,type,pos,after,guard⟩=callFunc g (first++args.map a.eval):=by
       simp only [execOp,resolve,c_,Deferred.ofValue,pure_bind,invoke]
       simp
      have e:first++args.map a.eval=(first.toList++args.toList.map a.eval).toArray:=by
       apply Array.ext';simp
      rw [hex,e]
      rcases om with ⟨⟨fn,jj,ag⟩,aI⟩ | ⟨av,x,ao,aJ,an,az,aN⟩
      case inr=>
       rw [aJ]
       exact dv av x ao an az aN
      rw [sN bG jj ag]
      refine ⟨fun h=>by simp at h,rY.2 (aI.mono fun e ao aA=>?_)⟩
      obtain ⟨av,x,rfl,an,az,aN⟩:=aA
      exact dv av x ao an az aN
    rename_i g cs
    simp only [Rel] at ay
    refine ⟨fun _ _=>trivial,?_⟩
    rw [oO (by intro c h;cases h)]
    rcases ay with ⟨aH,eB,c_,ai⟩ | ⟨aH,b,p,gG,ah,c_⟩
    · have oi:=(pA k args.toList).append ai
      have om:=cN.fn _ _ _ _ _ _ aH he E w _ oi s
      have hex:execOp a.eval ⟨dst,.call ⟨.value f,args,types⟩,type,pos,after,guard⟩=callFunc g (args.map a.eval++eB):=by
       simp only [execOp,resolve,c_,Deferred.ofValue,pure_bind,invoke]
       simp
      have e:args.map a.eval++eB=(args.toList.map a.eval++eB.toList).toArray:=by
       apply Array.ext';simp
      rw [hex,e]
      rcases om with ⟨⟨fn,jj,ag⟩,aI⟩ | ⟨av,x,ao,aJ,an,az,aN⟩
      case inr=>
       rw [aJ]
       exact dv av x ao an az aN
      rw [sN bG jj ag]
      refine ⟨fun h=>by simp at h,rY.2 (aI.mono fun e ao aA=>?_)⟩
      obtain ⟨av,x,rfl,an,az,aN⟩:=aA
      exact dv av x ao an az aN
    · subst aH gG
      obtain ⟨v8,tmps,assign,body,an,az⟩:=cN.D5 _ _ _ _ _ _ he E w _ p (pA k args.toList) s ah
      have hex:execOp a.eval ⟨dst,.call ⟨.value f,args,types⟩,type,pos,after,guard⟩=Instr.yield p.aW (args.map a.eval):=by
       simp only [execOp,resolve,c_,Deferred.ofValue,pure_bind,invoke]
       simp
      have e:args.map a.eval=(args.toList.map a.eval).toArray:=by
       apply Array.ext';simp
      rw [hex,e,an]
      refine ⟨fun h=>by simp at h,RoundIn.mono az fun e ao aA=>?_⟩
      obtain ⟨av,x,rfl,bl,bT,cg⟩:=aA
      exact dv av x ao bl bT cg
end
end Go.Proofs.YthemdhlheglhoaaGreatDoor.aX
namespace Go.Proofs.YthemdhlheglhoaaGreatDoor.aX
variable [Lay]
open Go Go.RowKit
section
variable {P:Program}
theorem G7 {E:Env} {au:Nat} {r:bA} {a:Act} (k:RegRel0 E au r a) {all:Array Oper} {j:Nat} {g:Oper} {d:Nat} (bK:all[j]? =some g) (aZ:g.dst=some d) (Ot:d<au) (tX:d≤top):
 (∀b,T.get .bad (al d) r=.bool b→yielded all a.tmps j=some b)∧(∀ad,T.get .bad (al d) r=.tuple ad→yielded all a.tmps j=none):=by
 have aJ:=k.ar d tX
 have aL:d<a.tmps.size:=by rw [k.size];exact Ot
 have he:a.tmps[d]? =some (a.tmps.getD d undef):=by simp [Array.getD_eq_getD_getElem?,aL]
 refine ⟨fun b ag=>?_,fun ad ag=>?_⟩
 · rw [ag] at aJ
   simp only [Rel] at aJ
   simp only [yielded,bK,Option.bind,aZ,he,aJ]
 · rw [ag] at aJ
   simp only [Rel] at aJ
   obtain ⟨arr,aJ,_⟩:=aJ
   simp only [yielded,bK,Option.bind,aZ,he,aJ]
theorem MS {rd:Option Nat} {aw:Fr} {E:Env} {h aa:af} {w:World} {call:dx} (bG:ez P) (cN:gk P call) {o:Oper} {au:Nat} {r:bA} {a:Act} {v:V} (hm:kL o.op=true)
 (he:(e1 P o).run call r h=.cH v aa) (k:RegRel0 E au r a) (s:a' aw E h w) {K:Act→World→Prop} {Q:Exit→Act→World→Prop}
 (cZ:∀av x ao,E.le av→Rel av v x→a' aw av aa ao→Q (.panic (oJ x)) a ao):o.wpIn (ch rd) 0 P a w K Q:=by
 obtain ⟨dst,op,type,pos,after,guard⟩:=o
 cases op<;>simp only [kL] at hm<;>try (cases hm;done)
 all_goals simp only [e1] at he
 case panic x=>
  have aq:=dz k x
  generalize (bQ x).run r=vc at he aq
  unfold Js at he
  cases vc<;>simp only at he<;>try (cases he;done)
  simp only [aY.cH.injEq] at he
  obtain ⟨rfl,rfl⟩:=he
  have zA:=aq
  simp only [Rel] at aq
  obtain ⟨Y,c_,e'⟩:=aq
  refine ⟨fun _ _=>trivial,?_⟩
  rw [oO (by intro c h;cases h)]
  have hex:(execOp a.eval ⟨dst,.panic x,type,pos,after,guard⟩).run P w=.halt (.panic (a.eval x)) w:=by
   simp only [execOp,c_,Instr.panic,Sem.run_bind]
   rfl
  rw [hex]
  exact cZ E _ w (Env.le.refl E) zA s
 case call c=>
  obtain ⟨callee,args,types⟩:=c
  cases callee<;>simp only at hm<;>try (cases hm;done)
  rename_i f
  simp only [qE] at he
  have ay:=dz k f
  generalize adP:(bQ f).run r=va at he ay
  cases va<;>simp only [V.xo] at he<;>try (cases he;done)
  rotate_left
  · rename_i g cs
    simp only [Rel] at ay
    refine ⟨fun _ _=>trivial,?_⟩
    rw [oO (by intro c h;cases h)]
    obtain ⟨aH,first,c_,ai⟩:=ay
    have oi:=bc.append ai (pA k args.toList)
    obtain ⟨⟨fn,jj,ag⟩,aI⟩:=cN.cH _ _ _ _ _ _ aH he E w _ oi s
    have hex:execOp a.eval ⟨dst,.call ⟨.value f,args,types⟩,type,pos,after,guard⟩=callFunc g (first++args.map a.eval):=by
     simp only [execOp,resolve,c_,Deferred.ofValue,pure_bind,invoke]
     simp
    have e:first++args.map a.eval=(first.toList++args.toList.map a.eval).toArray:=by
     apply Array.ext';simp
    rw [hex,e,sN bG jj ag]
    refine ⟨fun h=>by simp at h,rY.2 (aI.mono fun e ao aA=>?_)⟩
    obtain ⟨av,x,rfl,an,az,aN⟩:=aA
    exact cZ av x ao an az aN
  rename_i g cs
  simp only [Rel] at ay
  refine ⟨fun _ _=>trivial,?_⟩
  rw [oO (by intro c h;cases h)]
  rcases ay with ⟨aH,eB,c_,ai⟩ | ⟨aH,b,p,gG,ah,c_⟩
  · have oi:=(pA k args.toList).append ai
    obtain ⟨⟨fn,jj,ag⟩,aI⟩:=cN.cH _ _ _ _ _ _ aH he E w _ oi s
    have hex:execOp a.eval ⟨dst,.call ⟨.value f,args,types⟩,type,pos,after,guard⟩=callFunc g (args.map a.eval++eB):=by
     simp only [execOp,resolve,c_,Deferred.ofValue,pure_bind,invoke]
     simp
    have e:args.map a.eval++eB=(args.toList.map a.eval++eB.toList).toArray:=by
     apply Array.ext';simp
    rw [hex,e,sN bG jj ag]
    refine ⟨fun h=>by simp at h,rY.2 (aI.mono fun e ao aA=>?_)⟩
    obtain ⟨av,x,rfl,an,az,aN⟩:=aA
    exact cZ av x ao an az aN
  · subst aH
    exact absurd he (cN.Tp _ _ _ _)
def mm (aw:Fr) (E:Env) (au:Nat) (K:Act→World→Prop) (Q:Exit→Act→World→Prop):mX→Prop
 | .ok r h=>∀av bm ao,E.le av→e8 av au r bm→a' aw av h ao→K bm ao
 | .cH v r h=>∀av bm ao x,E.le av→e8 av au r bm→Rel av v x→a' aw av h ao→Q (.panic (oJ x)) bm ao
 | .fail=>False
theorem mm.up {aw:Fr} {E av:Env} (h:E.le av) {au:Nat} {K:Act→World→Prop} {Q:Exit→Act→World→Prop} {x:mX} (k:mm aw E au K Q x):mm aw av au K Q x:=by
 cases x with
 | ok r bf=>exact fun cn a w ae=>k cn a w (h.trans ae)
 | cH v r bf=>exact fun cn a w x ae=>k cn a w x (h.trans ae)
 | fail=>exact k
theorem QV {rd:Option Nat} {aw:Fr} {E:Env} {h:af} {w:World} {call:dx} (bG:ez P) (cN:gk P call) (dq:gu P call) {all:Array Oper} {i:Nat} {o:Oper} (aC:all[i]? =some o) {au:Nat} {r:bA} {a:Act}
 (aZ:e3 au o.dst=true) (k:e8 E au r a) (s:a' aw E h w) {K:Act→World→Prop} {Q:Exit→Act→World→Prop} (hw:Region.wanted o (yielded all a.tmps)=true)
 (ah:mm aw E au K Q (Dh (kL o.op) (e1 P o) (fj o.dst) call r h)):wpOpIn (ch rd) 0 P all Q i K a w:=by
 simp only [wpOpIn,aC,hw,if_true]
 unfold Dh at ah
 cases aT:(e1 P o).run call r h with
 | fail=>rw [aT] at ah;exact ah.elim
 | val v ab=>
   rw [aT] at ah
   exact MV bG cN dq aT k.toRegRel0 s fun av x ao an az aN=>ah av _ ao an ((k.mono an).put aZ az) aN
 | cH v ab=>
   rw [aT] at ah
   simp only at ah
   cases hm:kL o.op with
   | false=>rw [hm] at ah;exact ah.elim
   | true=>
     rw [hm] at ah
     exact MS bG cN hm aT k.toRegRel0 s fun av x ao an az aN=>ah av a ao x an (k.mono an) az aN
theorem S6 {rd:Option Nat} {aw:Fr} {E:Env} {h:af} {w:World} {all:Array Oper} {i:Nat} {o:Oper} (aC:all[i]? =some o) {au:Nat} {r:bA} {a:Act}
 (aZ:e3 au o.dst=true) (k:e8 E au r a) (s:a' aw E h w) {K:Act→World→Prop} {Q:Exit→Act→World→Prop} (hw:Region.wanted o (yielded all a.tmps)=false)
 (ah:mm aw E au K Q (.ok ((fj o.dst).run r (.tuple [])) h)):wpOpIn (ch rd) 0 P all Q i K a w:=by
 simp only [wpOpIn,aC,hw,Bool.false_eq_true,if_false]
 exact ⟨fun _ _=>trivial,ah E _ w (Env.le.refl E) (k.put aZ (by simp only [Rel];exact ⟨#[],rfl,rfl⟩)) s⟩
theorem Dg {rd:Option Nat} {aw:Fr} {E:Env} {h:af} {w:World} {call:dx} (bG:ez P) (cN:gk P call) (dq:gu P call) {all:Array Oper} {i:Nat} {o:Oper} (aC:all[i]? =some o) {au:Nat} {r:bA} {a:Act}
 (aZ:e3 au o.dst=true) (k:e8 E au r a) (s:a' aw E h w) {K:Act→World→Prop} {Q:Exit→Act→World→Prop}
 (ah:mm aw E au K Q ((xq P au all o).run call r h)):wpOpIn (ch rd) 0 P all Q i K a w:=by
 unfold xq at ah
 cases aH:o.guard with
 | none=>
   rw [aH] at ah
   exact QV bG cN dq aC aZ k s (by simp [Region.wanted,aH]) ah
 | some oA=>
   obtain ⟨j,want⟩:=oA
   rw [aH] at ah
   simp only at ah
   cases bK:all[j]? with
   | none=>rw [bK] at ah;exact ah.elim
   | some g=>
     rw [bK] at ah
     simp only at ah
     cases jI:g.dst with
     | none=>rw [jI] at ah;exact ah.elim
     | some d=>
       rw [jI] at ah
       simp only at ah
       cases aI:(Nat.blt d au&&Nat.ble d top) with
       | false=>rw [aI] at ah;exact ah.elim
       | true=>
         rw [aI] at ah
         simp only [cond_true,N7,nj] at ah
         simp only [Bool.and_eq_true,Nat.blt_eq,Nat.ble_eq] at aI
         obtain ⟨g1,g2⟩:=G7 k.toRegRel0 bK jI aI.1 aI.2
         cases bs:T.get .bad (al d) r<;>rw [bs] at ah<;>simp only at ah<;>try (exact ah.elim)
         · rename_i b
           have a_:=g1 b bs
           cases ag:(bif want then b else !b) with
           | true=>
             rw [ag] at ah
             simp only [cond_true] at ah
             refine QV bG cN dq aC aZ k s ?_ ah
             simp only [Region.wanted,aH,a_]
             cases want<;>cases b<;>simp_all
           | false=>
             rw [ag] at ah
             simp only [cond_false] at ah
             refine S6 aC aZ k s ?_ ah
             simp only [Region.wanted,aH,a_]
             cases want<;>cases b<;>simp_all
         · rename_i ad
           have a_:=g2 ad bs
           refine S6 aC aZ k s ?_ ah
           simp only [Region.wanted,aH,a_]
           rfl
theorem ko.list {E:Env} {v:V} {ds:List Deferred} (k:ko E v ds):mf E v.list ds:=by
 cases v<;>first
  | exact k
theorem ah3 {rd:Option Nat} {aw:Fr} {E:Env} {h:af} {w:World} {call:dx} (bG:ez P) (cN:gk P call) (dq:gu P call) {all:Array Oper} {i:Nat} {o:Oper} (aC:all[i]? =some o) {au:Nat} {r:bA} {a:Act}
 (aJ:rd=none∨Ja o=true) (k:e8 E au r a) (s:a' aw E h w) {K:Act→World→Prop} {Q:Exit→Act→World→Prop}
 (ah:mm aw E au K Q ((Df P au all o).run call r h)):wpOpIn (ch rd) 0 P all Q i K a w:=by
 unfold Df at ah
 cases aZ:e3 au o.dst with
 | false=>rw [aZ] at ah;exact ah.elim
 | true=>
   rw [aZ] at ah
   simp only [cond_true] at ah
   obtain ⟨dst,op,type,pos,after,guard⟩:=o
   cases op with
   | defer c=>
     rcases aJ with rfl | aJ
     case inr=>cases aJ
     simp only at ah
     cases guard with
     | some _=>exact ah.elim
     | none=>
       simp only at ah
       obtain ⟨callee,args,types⟩:=c
       simp only [M6] at ah
       cases callee<;>simp only at ah<;>try (exact ah.elim)
       rename_i f
       unfold M7 at ah
       have ay:=dz k.toRegRel0 f
       generalize (bQ f).run r=va at ah ay
       cases va<;>simp only at ah<;>try (exact ah.elim)
       rename_i g cs
       cases a_:Nat.beq g dk with
       | true=>rw [a_] at ah;exact ah.elim
       | false=>
         rw [a_] at ah
         simp only [cond_false] at ah
         have Co:g≠dk:=fun e=>by rw [e] at a_;exact absurd a_ (by decide)
         simp only [Rel] at ay
         rcases ay with ⟨_,eB,c_,ai⟩ | ⟨aH,_⟩
         case inr=>exact absurd aH Co
         simp only [wpOpIn,aC,Region.wanted,if_true]
         refine ⟨fun _ _=>trivial,?_⟩
         have hex:((Oper.mk dst (.defer ⟨.value f,args,types⟩) type pos after none).semAt (ch none).round a.eval).run P w=.ok (.defer {target:=.fn (.func g) eB,args:=#[]++args.map a.eval}) w:=by
          simp only [Oper.semAt_none,execOp,resolve,c_,Deferred.ofValue,pure_bind]
          rfl
         rw [hex]
         refine ah E _ w (Env.le.refl E) (e8.put ?_ aZ (by simp only [Rel];exact ⟨#[],rfl,rfl⟩)) s
         refine ⟨⟨k.size,fun t aF=>?_⟩,?_⟩
         rotate_left
         · rw [T.hr,if_pos rfl]
           simp only [ko,mf]
           refine ⟨_,_,rfl,⟨Co,eB,rfl,?_⟩,k.defers.list⟩
           have:=(pA k.toRegRel0 args.toList).append ai
           simpa using this
         · rw [T.hr,if_neg (fun e=>uW aF e.symm)]
           exact k.ar t aF
   | binOp op t x y u=>
     simp only at ah
     cases guard with
     | some g=>exact Dg bG cN dq aC aZ k s ah
     | none=>
       simp only at ah
       cases kC:Dw P op t with
       | none=>rw [kC] at ah;exact Dg bG cN dq aC aZ k s ah
       | some neg=>
         rw [kC] at ah
         simp only [Rq] at ah
         cases aA:nK h ((bQ x).run r) ((bQ y).run r) with
         | none=>rw [aA] at ah;exact Dg bG cN dq aC aZ k s ah
         | some b=>
           rw [aA] at ah
           simp only [wpOpIn,aC,Region.wanted,if_true]
           obtain ⟨Z,fs,cM⟩:=aiy (P:=P) (hQ:=x) (fW:=y) s kC aA (dz k.toRegRel0 x) (dz k.toRegRel0 y)
           exact fY rfl (c8.plain s fs cM) fun av v ao an az aN=>ah av _ ao an ((k.mono an).put aZ az) aN
   | _=>exact Dg bG cN dq aC aZ k s ah
theorem QW {rd:Option Nat} {aw:Fr} {call:dx} (bG:ez P) (cN:gk P call) (dq:gu P call) {all:Array Oper} {au:Nat} {Q:Exit→Act→World→Prop}:∀(l:List Oper) (i:Nat),(∀j,l[j]? =all[i+j]?)→(rd=none∨∀o ∈ l,Ja o=true)→
 ∀(E:Env) (r:bA) (h:af) (a:Act) (w:World),mm aw E au (Q .normal) Q ((Af P au all l).run call r h)→e8 E au r a→a' aw E h w→
 wpOpsIn (ch rd) 0 P all Q (List.range' i l.length) a w
 | [],i,_,_,E,r,h,a,w,ah,k,s=>by
   simp only [Af] at ah
   simp only [List.length_nil,List.range'_zero,wpOpsIn]
   exact ah E a w (Env.le.refl E) k s
 | o::os,i,ai,aJ,E,r,h,a,w,ah,k,s=>by
   simp only [Af,Si] at ah
   have aC:all[i]? =some o:=by have:=ai 0;simpa using this.symm
   rw [List.length_cons,List.range'_succ,wpOpsIn_cons]
   refine ah3 bG cN dq aC (aJ.imp id fun h=>h o (by simp)) k s ?_
   cases ab:(Df P au all o).run call r h with
   | fail=>rw [ab] at ah;exact ah
   | cH v bl pG=>rw [ab] at ah;exact ah
   | ok bl pG=>
     rw [ab] at ah
     simp only at ah
     intro av bm ao an az aN
     refine QW bG cN dq os (i+1) (fun j=>?_) (aJ.imp id fun h b8 gU=>h b8 (by simp [gU])) av bl pG bm ao (ah.up an) az aN
     have:=ai (j+1)
     simp only [List.getElem?_cons_succ] at this
     rw [this]
     congr 1
     omega
end
end Go.Proofs.YthemdhlheglhoaaGreatDoor.aX
namespace Go.Proofs.YthemdhlheglhoaaGreatDoor.aX
variable [Lay]
open Go Go.RowKit
theorem Nv {a b:V} (h:BN a b=true):a=b:=by
 cases a<;>cases b<;>simp only [BN] at h<;>first
  | rfl
  | (cases h;done)
  | (rename_i x y;cases x<;>cases y<;>simp_all;done)
  | (rename_i k x l y
     simp only [Bool.and_eq_true] at h
     have ab:=r1 h.1
     have ae:=h.2
     rw [kr,beq_iff_eq] at ae
     rw [ab,ae];done)
  | (rw [tw,beq_iff_eq] at h;rw [h];done)
  | (simp only [Bool.and_eq_true,Nat.beq_eq] at h
     obtain ⟨ab,ae,aG,ba⟩:=h
     rw [aP.kr ab,ae,aG,ba];done)
  | (simp only [Bool.and_eq_true,Nat.beq_eq] at h
     rw [aP.kr h.1,h.2];done)
  | (rw [aP.kr h];done)
  | (simp only [Bool.and_eq_true,Nat.beq_eq,List.isEmpty_iff] at h
     obtain ⟨ab,ae,aG⟩:=h
     rw [ab,ae,aG];done)
  | (simp only [Bool.and_eq_true,List.isEmpty_iff] at h
     rw [h.1,h.2];done)
theorem GU {f:V→V→Bool} (ay:∀a b,f a b=true→a=b):∀{a b:List V},vX f a b=true→a=b
 | [],[],_=>rfl
 | [],_::_,h=>by cases h
 | _::_,[],h=>by cases h
 | a::x,b::y,h=>by
   simp only [vX] at h
   cases ab:f a b with
   | false=>rw [ab] at h;cases h
   | true=>
     rw [ab] at h
     rw [ay a b ab,GU ay h]
theorem VP {c x:Bool} (h:(bif c then x else false)=true):c=true∧x=true:=by
 cases c with
 | false=>cases h
 | true=>exact ⟨rfl,h⟩
theorem Nw:∀(d:Nat) (a b:V),tI d a b=true→a=b
 | 0,a,b,h=>Nv h
 | d+1,a,b,h=>by
   have bk:=Nw d
   cases a<;>simp only [tI] at h<;>first
    | exact Nv h
    | (cases b<;>simp only at h<;>first
        | (cases h;done)
        | rfl
        | (rw [GU bk h];done)
        | (obtain ⟨ab,ae⟩:=VP h
           rw [Nat.beq_eq] at ab
           rw [ab]
           first
            | rw [GU bk ae]
            | rw [bk _ _ ae]))
theorem GV {a b:V} (h:yS a b=true):a=b:=Nw 5 a b h
theorem yC (m i:Nat):fw m i=m.testBit i:=by
 rw [Nat.testBit_eq_decide_div_mod_eq]
 unfold fw
 have e:Nat.mod (Nat.shiftRight m i) 2=m / 2 ^ i % 2:=by
  show (m >>> i) % 2=_
  rw [Nat.shiftRight_eq_div_pow]
 rw [e,Bool.eq_iff_iff,Nat.beq_eq,decide_eq_true_eq]
theorem IZ {dF:List Nat} {i:Nat}:∀{es:List Edge},fw (sv dF es) i=true→∃e ∈ es,tx e=true∧(e.on=i∨fw ((dF[e.on]?).getD 0) i=true)
 | [],h=>by simp [sv,yC] at h
 | e::es,h=>by
   simp only [sv] at h
   cases ag:tx e with
   | false=>
     rw [ag] at h
     obtain ⟨dj,ab,ae⟩:=IZ (es:=es) h
     exact ⟨dj,by simp [ab],ae⟩
   | true=>
     rw [ag] at h
     simp only [cond_true,yC] at h
     have aa:((1 <<< e.on||| (dF[e.on]?).getD 0)||| sv dF es).testBit i=true:=h
     rw [Nat.testBit_or,Nat.testBit_or,Bool.or_eq_true,Bool.or_eq_true] at aa
     rcases aa with (ab | ab) | ab
     · refine ⟨e,by simp,ag,.inl ?_⟩
       rw [Nat.testBit_shiftLeft] at ab
       simp only [Bool.and_eq_true,decide_eq_true_eq] at ab
       have:=ab.2
       rw [Nat.testBit_one_eq_true_iff_self_eq_zero] at this
       omega
     · exact ⟨e,by simp,ag,.inr (by rw [yC];exact ab)⟩
     · rw [←yC] at ab
       obtain ⟨dj,an,az⟩:=IZ (es:=es) ab
       exact ⟨dj,by simp [an],az⟩
def o4 (ops:Array Oper) (L:Nat→Prop):Prop:=∀k o e,L k→ops[k]? =some o→e ∈ o.after.toList→tx e=true→L e.on
theorem zX {ops:Array Oper} {L:Nat→Prop} (tO:o4 ops L):∀(os:List Oper) (dF:List Nat),(∀j,os[j]? =ops[dF.length+j]?)→
 (∀k m i,dF[k]? =some m→fw m i=true→L k→L i)→∀k m i,(ev dF os)[k]? =some m→fw m i=true→L k→L i
 | [],dF,_,h,k,m,i,aE,ag,ei=>h k m i aE ag ei
 | o::os,dF,nt,h,k,m,i,aE,ag,ei=>by
   simp only [ev] at aE
   refine zX tO os (dF++[sv dF o.after.toList]) (fun j=>?_) (fun k m i aE ag ei=>?_) k m i aE ag ei
   · have:=nt (j+1)
     simp only [List.getElem?_cons_succ] at this
     rw [this]
     congr 1
     simp
     omega
   · by_cases aL:k<dF.length
     · rw [List.getElem?_append_left aL] at aE
       exact h k m i aE ag ei
     · rw [List.getElem?_append_right (by omega)] at aE
       have zb:k-dF.length=0:=by
        cases bo:k-dF.length with
        | zero=>rfl
        | succ n=>rw [bo] at aE;simp at aE
       rw [zb] at aE
       simp only [List.getElem?_cons_zero,Option.some.injEq] at aE
       subst aE
       have Cs:k=dF.length:=by omega
       have aT:ops[k]? =some o:=by have:=nt 0;simp only [List.getElem?_cons_zero,Nat.add_zero] at this;rw [Cs];exact this.symm
       obtain ⟨e,he,Hi,hb⟩:=IZ ag
       have Oe:=tO k o e ei aT he Hi
       rcases hb with rfl | hb
       · exact Oe
       · cases hm:dF[e.on]? with
         | none=>rw [hm] at hb;simp [yC] at hb
         | some cj=>rw [hm] at hb;exact h e.on cj i hm hb Oe
theorem oY {f:Nat→Nat→Oper→Bool}:∀{k:Nat} {ms:List Nat} {os:List Oper},ma f k ms os=true→∀j o,os[j]? =some o→∃m,ms[j]? =some m∧f (k+j) m o=true
 | _,_,[],_,j,o,h=>by simp at h
 | _,[],_::_,h,_,_,_=>by cases h
 | k,m::ms,b8::os,h,j,o,aT=>by
   simp only [ma,Bool.and_eq_true] at h
   cases j with
   | zero=>simp only [List.getElem?_cons_zero,Option.some.injEq] at aT;subst aT;exact ⟨m,rfl,h.1⟩
   | succ j=>
     obtain ⟨cj,ab,ae⟩:=oY h.2 j o (by simpa using aT)
     exact ⟨cj,by simpa using ab,by rw [show k + (j+1)=k+1+j from by omega];exact ae⟩
theorem KL {f:Nat→Nat→Oper→Bool}:∀{k:Nat} {ms:List Nat} {os:List Oper},ms.length=os.length→(∀j m o,ms[j]? =some m→os[j]? =some o→f (k+j) m o=true)→ma f k ms os=true
 | _,[],[],_,_=>rfl
 | _,[],_::_,h,_=>by simp at h
 | _,_::_,[],h,_=>by simp at h
 | k,m::ms,o::os,h,ay=>by
   simp only [ma,Bool.and_eq_true]
   refine ⟨ay 0 m o rfl rfl,KL (by simpa using h) fun j cj b8 ab ae=>?_⟩
   have:=ay (j+1) cj b8 (by simpa using ab) (by simpa using ae)
   rw [show k+1+j=k + (j+1) from by omega]
   exact this
theorem I0:∀(os:List Oper) (dF:List Nat),(ev dF os).length=dF.length+os.length
 | [],dF=>rfl
 | o::os,dF=>by simp [ev,I0 os];omega
section
variable {P:Program}
theorem MU {o:Oper} {call:dx} {r:bA} {h aa:af} {v:V} (aA:eH P o.op=false) (he:(e1 P o).run call r h=.val v aa):aa=h:=by
 obtain ⟨dst,op,type,pos,after,guard⟩:=o
 cases op<;>simp only [eH] at aA<;>try (cases aA;done)
 all_goals simp only [e1] at he
 case convert s d x=>
  unfold n_ at he
  cases aQ:a8 P s with
  | none=>rw [aQ] at he;cases he
  | some sP=>
    cases aZ:a8 P d with
    | none=>rw [aZ] at aA;cases aA
    | some nc=>
      rw [aQ,aZ] at he
      rw [aZ] at aA
      simp only at he aA
      cases hu:nc.bd with
      | int k=>
        rw [hu] at he
        obtain ⟨bt,n,_,ab⟩:=Ac he
        simp only [aY.val.injEq] at ab
        exact ab.2.symm
      | slice e=>rw [hu] at aA;cases aA
      | string=>
        rw [hu] at he
        simp only at he
        have other:∀x:V,(match x with
         | .str s=>aY.val (.str s) h
         | .int _ n=>.val (.str (Utf8.encode n).data.toList) h
         | _=>.fail)=.val v aa→aa=h:=by
         intro x he
         cases x<;>simp only at he<;>first
          | (cases he;done)
          | (simp only [aY.val.injEq] at he;exact he.2.symm)
        cases CC:sP.bd with
        | slice e=>
          rw [CC] at he
          simp only at he
          cases cv:a8 P e with
          | none=>rw [cv] at he;cases he
          | some bh=>
            rw [cv] at he
            simp only at he
            have aj5:∀b off len,sR b off len h=.val v aa→aa=h:=by
             intro b off len he
             unfold sR at he
             cases aH:h.get b<;>rw [aH] at he<;>simp only [cb.nL] at he<;>try (cases he;done)
             all_goals
              obtain ⟨_,ae⟩:=jg he
              cases adL:mM (j7 _ off len)<;>rw [adL] at ae<;>first
               | (cases ae;done)
               | (simp only [aY.val.injEq] at ae;exact ae.2.symm)
            cases e_:bh.bd with
            | int zL=>
              rw [e_] at he
              cases zL<;>simp only at he<;>try (cases he;done)
              simp only [pt] at he
              cases aq:(bQ x).run r<;>rw [aq] at he<;>simp only at he<;>first
               | (cases he;done)
               | exact aj5 _ _ _ he
               | (simp only [aY.val.injEq] at he;exact he.2.symm)
            | _=>rw [e_] at he;cases he
        | _=>rw [CC] at he;exact other _ he
      | _=>rw [hu] at he;cases he
 case call c=>
  obtain ⟨callee,args,types⟩:=c
  cases callee<;>simp only at aA<;>try (cases aA;done)
  rename_i b
  simp only [qE] at he
  cases b<;>simp only at aA<;>try (cases aA;done)
  · simp only [qB] at he
    cases fa:types.toList with
    | nil=>rw [fa] at he;simp [fC.none] at he
    | cons t bO=>
      cases bO with
      | cons _ _=>rw [fa] at he;simp [fC.none] at he
      | nil=>
        rw [fa] at he
        simp only at he
        cases aF:a8 P t with
        | none=>rw [aF] at he;simp [fC.none] at he
        | some aO=>
          rw [aF] at he
          rw [fa] at aA
          simp only [IE,aF] at aA
          simp only [aA,cond_false] at he
          split at he
          · exact (aY.hP he).2
          · cases he
  · exact (aY.hP he).2
  · exact (aY.hP he).2
 case move=>simp only [aY.val.injEq] at he;exact he.2.symm
 case assign=>simp only [aY.val.injEq] at he;exact he.2.symm
 case pick c a b=>
  split at he
  · simp only [aY.val.injEq] at he;exact he.2.symm
  · cases he
 case makeFunc fn first eB=>
  cases fn<;>simp only at he<;>try (simp [df.none] at he;done)
  rename_i f
  cases ay:(first.isEmpty&&!Nat.beq f dk)<;>rw [ay] at he
  · simp only [cond_false] at he
    cases im:(eB.isEmpty&&!Nat.beq f dk)<;>rw [im] at he
    · simp [df.none] at he
    · simp only [cond_true,aY.val.injEq] at he;exact he.2.symm
  · simp only [cond_true,aY.val.injEq] at he;exact he.2.symm
 case typeAssert x s7 t ok=>
  cases aF:a8 P t with
  | none=>rw [aF] at he;simp [df.none] at he
  | some aO=>
    rw [aF] at he
    simp only at he
    cases ag:Nat.beq (eO aO.bd) 5<;>rw [ag] at he
    · exact (aY.hP he).2
    · simp [df.none] at he
 case makeInterface t x=>
  cases aF:a8 P t with
  | none=>rw [aF] at he;simp [df.none] at he
  | some aO=>
    rw [aF] at he
    simp only at he
    cases ag:Nat.beq (eO aO.bd) 5<;>rw [ag] at he
    · simp only [cond_false,aY.val.injEq] at he;exact he.2.symm
    · simp [df.none] at he
 case extract x i=>
  split at he
  · exact (aY.hP he).2
  · cases he
 all_goals exact (aY.hP he).2
theorem aY.uV {h aa:af} {x:Option V} {v:V} (he:aY.of h x=.val v aa) (H:af):aY.of H x=.val v H:=by
 rw [(aY.hP he).1];rfl
theorem MT {o:Oper} {call:dx} {r:bA} {h aa:af} {v:V} (aA:eH P o.op=false) (ai:looks o.op=false) (he:(e1 P o).run call r h=.val v aa) (H:af):(e1 P o).run call r H=.val v H:=by
 obtain ⟨dst,op,type,pos,after,guard⟩:=o
 cases op<;>simp only [eH] at aA<;>try (cases aA;done)
 all_goals simp only [looks] at ai<;>try (cases ai;done)
 all_goals simp only [e1] at he ⊢
 case call c=>
  obtain ⟨callee,args,types⟩:=c
  cases callee<;>simp only at aA<;>try (cases aA;done)
  rename_i b
  simp only [qE] at he ⊢
  cases b<;>simp only at aA<;>try (cases aA;done)
  · simp only [qB] at he ⊢
    cases fa:types.toList with
    | nil=>rw [fa] at he;simp [fC.none] at he
    | cons t bO=>
      cases bO with
      | cons _ _=>rw [fa] at he;simp [fC.none] at he
      | nil=>
        rw [fa] at he
        simp only at he ⊢
        cases aF:a8 P t with
        | none=>rw [aF] at he;simp [fC.none] at he
        | some aO=>
          rw [aF] at he
          rw [fa] at aA
          simp only [IE,aF] at aA
          simp only [aA,cond_false] at he ⊢
          split at he
          · exact aY.uV he H
          · cases he
  · exact aY.uV he H
  · exact aY.uV he H
 case move=>simp only [aY.val.injEq] at he;rw [he.1]
 case assign=>simp only [aY.val.injEq] at he;rw [he.1]
 case pick c a b=>
  split at he
  · simp only [aY.val.injEq] at he;rw [he.1]
  · cases he
 case makeFunc fn first eB=>
  cases fn<;>simp only at he ⊢<;>try (simp [df.none] at he;done)
  rename_i f
  cases ay:(first.isEmpty&&!Nat.beq f dk)<;>rw [ay] at he
  · simp only [cond_false] at he ⊢
    cases im:(eB.isEmpty&&!Nat.beq f dk)<;>rw [im] at he
    · simp [df.none] at he
    · simp only [cond_true,aY.val.injEq] at he ⊢;exact ⟨he.1,trivial⟩
  · simp only [cond_true,aY.val.injEq] at he ⊢;exact ⟨he.1,trivial⟩
 case typeAssert x s7 t ok=>
  cases aF:a8 P t with
  | none=>rw [aF] at he;simp [df.none] at he
  | some aO=>
    rw [aF] at he
    simp only at he ⊢
    cases ag:Nat.beq (eO aO.bd) 5<;>rw [ag] at he
    · exact aY.uV he H
    · simp [df.none] at he
 case makeInterface t x=>
  cases aF:a8 P t with
  | none=>rw [aF] at he;simp [df.none] at he
  | some aO=>
    rw [aF] at he
    simp only at he ⊢
    cases ag:Nat.beq (eO aO.bd) 5<;>rw [ag] at he
    · simp only [cond_false,aY.val.injEq] at he ⊢;exact ⟨he.1,trivial⟩
    · simp [df.none] at he
 case extract x i=>
  split at he
  · exact aY.uV he H
  · cases he
 all_goals exact aY.uV he H
end
end Go.Proofs.YthemdhlheglhoaaGreatDoor.aX
namespace Go.Proofs.YthemdhlheglhoaaGreatDoor.aX
variable [Lay]
open Go Go.RowKit
section
variable {P:Program}
def Lj (P:Program) (E:Env) (m:Sem Value) (v:V) (h aa:af):Prop:=
 ∃k,aa=h.new k∧True∧∀w,∃X sz,m.run P w=.ok X {w with heap:=w.heap.push sz}∧
  ∀av,E.le av→av (al h.next)=some ⟨w.heap.size,0,0⟩→Rel av v X∧∀B,B≤w.heap.size→gM B av {w with heap:=w.heap.push sz} (al h.next) k
theorem I6 {E:Env} {h aa:af} {ad:List V} {l:List Value} (ai:bc E ad l) (he:fV h ad=some aa) (t:TypeId):
 ∃k,aa=h.new k∧True∧∀w,(newRow t l.toArray).run P w=.ok ⟨w.heap.size,0,none⟩ {w with heap:=w.heap.push (.cells l.toArray t)}∧
  ∀av,E.le av→av (al h.next)=some ⟨w.heap.size,0,0⟩→∀B,B≤w.heap.size→gM B av {w with heap:=w.heap.push (.cells l.toArray t)} (al h.next) k:=by
 unfold fV at he
 obtain ⟨aI,he⟩:=ef he
 rw [Nat.ble_eq] at aI
 cases he
 refine ⟨_,rfl,trivial,fun w=>⟨by simp [newRow],fun av hle dQ B c2=>?_⟩⟩
 have:=B3 (bc.mono hle _ _ ai) aI #[]
 rw [Array.append_empty] at this
 exact ⟨aI,_,_,t,(0,0),dQ,c2,by simp,.inr (Nat.le_refl _),fun _=>rfl,fun h=>absurd rfl h,this⟩
theorem VY {E:Env} {h aa:af} {t:TypeId} {n:Nat} {bg:List (Nat × V)} {i_:List (Nat × Value)} {v:V} (ah:qn E bg i_) (he:(tz P t n).run bg h=.val v aa):
 Lj P E (Instr.buildSlice t n i_.toArray) v h aa:=by
 unfold tz at he
 cases aF:a8 P t with
 | none=>rw [aF] at he;cases he
 | some aO=>
   rw [aF] at he
   simp only at he
   have hu:=fk aF
   cases bU:aO.bd with
   | slice e=>
     rw [bU] at he hu
     simp only at he
     cases cv:a8 P e with
     | none=>rw [cv] at he;cases he
     | some bh=>
       rw [cv] at he
       simp only at he
       cases bo:bh.zero with
       | none=>rw [bo] at he;cases he
       | some z=>
         rw [bo] at he
         simp only at he
         cases aI:(Nat.ble (n * bh.size) 1000000&&Nat.beq z.cells.length bh.size) with
         | false=>rw [aI] at he;cases he
         | true=>
           rw [aI] at he
           simp only [cond_true] at he
           simp only [Bool.and_eq_true,Nat.ble_eq,Nat.beq_eq] at aI
           cases ay:lO (fun i=>some (i * bh.size,bh.size)) (iE z.cells n) bg with
           | none=>rw [ay] at he;cases he
           | some cs=>
             rw [ay] at he
             simp only at he
             cases aU:fV h cs with
             | none=>rw [aU] at he;cases he
             | some ab=>
               rw [aU] at he
               simp only [aY.val.injEq] at he
               obtain ⟨rfl,rfl⟩:=he
               obtain ⟨x,aq,pO,pP⟩:=s' (P:=P) (E:=E) cv bo ⟨#[],fun _ _=>0,0,default,#[]⟩
               have ux:x.cells.size=bh.size:=by rw [pP,aI.2]
               have ur:=Av pO n
               rw [ux] at ur
               obtain ⟨b,jh,mr⟩:=yT (a:=(Array.range (n * bh.size)).map (x.cells[· % x.cells.size]!)) ah (by rw [ux];exact ur) ay
               obtain ⟨k,g1,g2,g3⟩:=I6 (P:=P) mr aU e
               refine ⟨k,g1,g2,fun w=>⟨.slice (some ⟨w.heap.size,0,none⟩) n n,.cells b e,?_,fun av hle dQ=>⟨?_,?_⟩⟩⟩
               · have uf:¬16777216<n * bh.size:=by omega
                 have lT:(newRow e b).run P w=.ok ⟨w.heap.size,0,none⟩ {w with heap:=w.heap.push (.cells b e)}:=by simpa using (g3 w).1
                 by_cases bb:n * bh.size=0
                 · have Hg:Instr.fill (fun i=>some (i * bh.size,bh.size)) ((Array.range (n * bh.size)).map ((#[]:Array Value)[· % 0]!)) i_=some b:=by
                    have aK:(Array.range (n * bh.size)).map ((#[]:Array Value)[· % 0]!)=(Array.range (n * bh.size)).map (x.cells[· % x.cells.size]!):=by
                     rw [bb];simp
                    rw [aK];exact jh
                   have Hh:Instr.fill (fun i=>some (i * bh.size,bh.size)) ((Array.range (n * bh.size)).map (fun x=>(#[]:Array Value)[x % (#[]:Array Value).size]!)) i_=some b:=Hg
                   simp only [Instr.buildSlice,Sem.run_bind,hu,Result.andThen_ok,js cv,Sem.run_ite]
                   rw [if_neg uf]
                   simp only [Sem.run_pure,Result.andThen_ok,if_pos bb]
                   rw [Hh]
                   simp only [Sem.run_bind,lT,Result.andThen_ok,Sem.run_pure]
                 · simp only [Instr.buildSlice,Sem.run_bind,hu,Result.andThen_ok,js cv,Sem.run_ite]
                   rw [if_neg uf]
                   simp only [Sem.run_pure,Result.andThen_ok,if_neg bb,aq]
                   rw [jh]
                   simp only [Sem.run_bind,lT,Result.andThen_ok,Sem.run_pure]
               · simp only [Rel]
                 exact ⟨_,dQ,Nat.le_refl _,by simp⟩
               · simpa using (g3 w).2 av hle dQ
   | _=>rw [bU] at he;cases he
set_option maxHeartbeats 2000000 in
theorem Z2 {E:Env} {h aa:af} {call:dx} {o:Oper} {au:Nat} {r:bA} {a:Act} {v:V} (bq:gg o=true) (he:(e1 P o).run call r h=.val v aa) (k:RegRel0 E au r a):
 ∃m:Sem Value,execOp a.eval o=(do pure (.value (←m)))∧Lj P E m v h aa:=by
 obtain ⟨dst,op,type,pos,after,guard⟩:=o
 cases op<;>simp only [gg] at bq<;>try (cases bq;done)
 all_goals simp only [e1] at he
 case alloc t=>
  refine ⟨Instr.alloc t true (.tuple #[]),rfl,?_⟩
  cases aF:a8 P t with
  | none=>rw [aF] at he;simp [df.none] at he
  | some aO=>
    rw [aF] at he
    simp only at he
    cases bo:aO.zero with
    | none=>rw [bo] at he;simp [df.none] at he
    | some z=>
      rw [bo] at he
      simp only at he
      cases aU:fV h z.cells with
      | none=>rw [aU] at he;cases he
      | some ab=>
        rw [aU] at he
        simp only [gB,aY.val.injEq] at he;obtain ⟨rfl,rfl⟩:=he
        obtain ⟨x,aq,pO,_⟩:=s' (P:=P) (E:=E) aF bo ⟨#[],fun _ _=>0,0,default,#[]⟩
        obtain ⟨c6,g1,g2,g3⟩:=I6 (P:=P) pO aU t
        refine ⟨c6,g1,g2,fun w=>⟨.pointer (some ⟨w.heap.size,0,none⟩),.cells x.cells t,?_,fun av hle dQ=>⟨?_,?_⟩⟩⟩
        · have:=(g3 w).1
          simp only [Array.toArray_toList] at this
          simp only [Instr.alloc,Sem.run_bind,aq,Result.andThen_ok,newVar,this,Sem.run_pure]
        · simp only [Rel];exact ⟨_,dQ,by simp⟩
        · simpa using (g3 w).2 av hle dQ
 case box t x=>
  refine ⟨Instr.box t (a.eval x),rfl,?_⟩
  obtain ⟨aH,he⟩:=jg he
  cases aU:fV h ((bQ x).run r).cells with
  | none=>rw [aU] at he;cases he
  | some ab=>
    rw [aU] at he
    simp only [gB,aY.val.injEq] at he;obtain ⟨rfl,rfl⟩:=he
    have ai:=(dz k x).cells (fun e=>by rw [e] at aH;cases aH)
    obtain ⟨c6,g1,g2,g3⟩:=I6 (P:=P) ai aU t
    refine ⟨c6,g1,g2,fun w=>⟨.pointer (some ⟨w.heap.size,0,none⟩),.cells (a.eval x).cells t,?_,fun av hle dQ=>⟨?_,?_⟩⟩⟩
    · have:=(g3 w).1
      simp only [Array.toArray_toList] at this
      simp only [Instr.box,Sem.run_bind,newVar,this,Result.andThen_ok,Sem.run_pure]
    · simp only [Rel];exact ⟨_,dQ,by simp⟩
    · simpa using (g3 w).2 av hle dQ
 case buildSlice t n bg=>
  refine ⟨Instr.buildSlice t n (bg.map fun (i,x)=>(i,a.eval x)),rfl,?_⟩
  rw [Jt]
  exact VY (Dk k bg.toList) he
 case makeMap t x=>
  cases x with
  | some _=>cases bq
  | none=>
    refine ⟨Instr.makeMap t none,rfl,?_⟩
    simp only [p2,xg] at he
    cases aF:a8 P t with
    | none=>rw [aF] at he;cases he
    | some aO=>
      rw [aF] at he
      simp only at he
      cases ag:Nat.beq (eO aO.bd) 3 with
      | false=>rw [ag] at he;cases he
      | true=>
        rw [ag] at he
        simp only [cond_true,pZ,uR] at he
        simp only [aY.val.injEq] at he
        obtain ⟨rfl,rfl⟩:=he
        refine ⟨_,rfl,trivial,fun w=>⟨.map (some w.heap.size),.map #[] 0,?_,fun av hle dQ=>⟨?_,fun B c2=>?_⟩⟩⟩
        · simp only [Instr.makeMap,Sem.run_bind,run_newObj,Result.andThen_ok,Sem.run_pure]
        · simp only [Rel];exact ⟨_,dQ,rfl⟩
        · exact ⟨_,#[],dQ,c2,by simp,rfl⟩
def Fr.hold (F:Fr) (b:aP) (k:cb):Fr:=⟨F.w,fun bP=>if bP=b then some k else F.dc bP⟩
def Fr.free (F:Fr) (b:aP):Fr:=⟨F.w,fun bP=>if bP=b then none else F.dc bP⟩
theorem a'.hold {F:Fr} {E:Env} {h:af} {w:World} (s:a' F E h w) (k:cb):a' (F.hold (al h.next) k) E (h.new k) w:=by
 have da:=s.fresh h.next (Nat.le_refl _)
 refine ⟨fun b ag=>?_,fun b bt aE=>?_,fun b bP p p' ab ae aK aS hK=>?_,fun i aC=>s.fresh i (Nat.le_of_succ_le aC),s.frame,s.laid,fun b p n cs st ab aK=>s.base b p n cs st (by
  have cp:al h.next≠b:=fun e=>by rw [←e,da] at aK;cases aK
  rwa [af.hI,if_neg cp] at ab) aK⟩
 · simp only [Fr.hold] at ag
   by_cases aA:b=al h.next
   · rw [if_pos aA] at ag;cases ag
   · rw [if_neg aA] at ag
     rw [af.hI,if_neg (fun e=>aA e.symm)]
     exact s.aW b ag
 · simp only [Fr.hold] at aE
   by_cases aA:b=al h.next
   · rw [if_pos aA] at aE
     cases aE
     exact ⟨by rw [af.hI,if_pos aA.symm],by rw [aA];exact da,h.next,Nat.lt_succ_self _,aA⟩
   · rw [if_neg aA] at aE
     obtain ⟨an,az,i,aN,bM⟩:=s.oL b bt aE
     exact ⟨by rw [af.hI,if_neg (fun e=>aA e.symm)];exact an,az,i,Nat.lt_succ_of_lt aN,bM⟩
 · have cp:al h.next≠b:=fun e=>by rw [←e,da] at aK;cases aK
   have gq:al h.next≠bP:=fun e=>by rw [←e,da] at aS;cases aS
   rw [af.hI,if_neg cp] at ab
   rw [af.hI,if_neg gq] at ae
   exact s.inj b bP p p' ab ae aK aS hK
theorem a'.link {F:Fr} {E:Env} {h:af} {w:World} (s:a' F E h w) {b:aP} {k:cb} (ah:F.dc b=some k) {o:Obj}
 (jm:gM F.w.heap.size (E.put b ⟨w.heap.size,0,0⟩) {w with heap:=w.heap.push o} b k):
 E.le (E.put b ⟨w.heap.size,0,0⟩)∧a' (F.free b) (E.put b ⟨w.heap.size,0,0⟩) h {w with heap:=w.heap.push o}:=by
 obtain ⟨aE,da,i0,ub,tR⟩:=s.oL b k ah
 have hle:E.le (E.put b ⟨w.heap.size,0,0⟩):=Env.kK da
 have dQ:E.put b ⟨w.heap.size,0,0⟩ b=some ⟨w.heap.size,0,0⟩:=by unfold Env.put;rw [if_pos rfl]
 have hold:∀bP,bP≠b→E.put b ⟨w.heap.size,0,0⟩ bP=E bP:=by intro bP ag;unfold Env.put;rw [if_neg ag]
 have ji:∀bP q,E bP=some q→(h.get bP)≠.dead→q.aW<w.heap.size:=by
  intro bP q aA aZ
  have ag:=s.at aA
  cases aH:h.get bP with
  | dead=>exact absurd aH aZ
  | view n cs=>rw [aH] at ag;obtain ⟨_,ej,c,el,bW,e,_,bf,_⟩:=ag;rw [e] at aA;cases aA;exact (Array.getElem?_eq_some_iff.1 bf).1
  | cells n cs cy st=>rw [aH] at ag;obtain ⟨_,ej,c,el,bW,e,_,bf,_⟩:=ag;rw [e] at aA;cases aA;exact (Array.getElem?_eq_some_iff.1 bf).1
  | iter st pos=>rw [aH] at ag;obtain ⟨ej,e,_,_,bf⟩:=ag;rw [e] at aA;cases aA;exact (Array.getElem?_eq_some_iff.1 bf).1
  | mp es clock=>rw [aH] at ag;obtain ⟨ej,a,e,_,bf,_⟩:=ag;rw [e] at aA;cases aA;exact (Array.getElem?_eq_some_iff.1 bf).1
  | cr l=>rw [aH] at ag;obtain ⟨ej,a,e,_,bf,_⟩:=ag;rw [e] at aA;cases aA;exact (Array.getElem?_eq_some_iff.1 bf).1
  | er=>rw [aH] at ag;obtain ⟨ej,e,_,bf⟩:=ag;rw [e] at aA;cases aA;exact (Array.getElem?_eq_some_iff.1 bf).1
  | iz es=>rw [aH] at ag;obtain ⟨ej,a,c,l,e,_,bf,_⟩:=ag;rw [e] at aA;cases aA;exact (Array.getElem?_eq_some_iff.1 bf).1
  | iy src since seen last=>rw [aH] at ag;obtain ⟨ej,m,a,e,_,_,bf,_⟩:=ag;rw [e] at aA;cases aA;exact (Array.getElem?_eq_some_iff.1 bf).1
 refine ⟨hle,fun bP gF=>?_,fun bP bt ha=>?_,fun cC ck bS b0 ab ae aK aS hK=>?_,fun i aC=>?_,⟨s.frame.os,s.frame.tape,s.frame.output,?_,fun j bK=>?_⟩,s.laid,fun cC bS n cs st ab aK=>by
  by_cases bu:cC=b
  · subst bu;rw [dQ] at aK;cases aK;rfl
  · rw [hold cC bu] at aK;exact s.base _ _ _ _ _ ab aK⟩
 · by_cases aA:bP=b
   · subst aA;rw [aE];exact jm
   · simp only [Fr.free,if_neg aA] at gF
     have bb:=(s.aW bP gF).mono hle
     by_cases aZ:h.get bP=.dead
     · rw [aZ];trivial
     · refine gM.fz bb fun q oy=>?_
       rw [hold bP aA] at oy
       have:=ji bP q oy aZ
       simp only [Array.getElem?_push]
       rw [if_neg (by omega)]
 · simp only [Fr.free] at ha
   by_cases aA:bP=b
   · rw [if_pos aA] at ha;cases ha
   · rw [if_neg aA] at ha
     obtain ⟨an,az,aN⟩:=s.oL bP bt ha
     exact ⟨an,by rw [hold bP aA];exact az,aN⟩
 · by_cases bu:cC=b<;>by_cases bI:ck=b
   · exact bu.trans bI.symm
   · subst bu
     rw [dQ] at aK;cases aK
     rw [hold ck bI] at aS
     have:=ji ck b0 aS (fun e=>by rw [e] at ae;cases ae)
     simp only at hK
     omega
   · subst bI
     rw [dQ] at aS;cases aS
     rw [hold cC bu] at aK
     have:=ji cC bS aK (fun e=>by rw [e] at ab;cases ab)
     simp only at hK
     omega
   · rw [hold cC bu] at aK
     rw [hold ck bI] at aS
     exact s.inj cC ck bS b0 ab ae aK aS hK
 · rw [hold _ (fun e=>?_)]
   · exact s.fresh i aC
   · rw [tR] at e
     have:=dW e
     omega
 · have:=s.frame.size
   simp only [Array.size_push,Fr.free]
   omega
 · have ab:=s.frame.size
   simp only [Fr.free,Array.getElem?_push]
   rw [if_neg (by simp only [Fr.free] at bK;omega)]
   exact s.frame.block j bK
end
end Go.Proofs.YthemdhlheglhoaaGreatDoor.aX
namespace Go.Proofs.YthemdhlheglhoaaGreatDoor.aX
variable [Lay]
open Go Go.RowKit
section
variable {P:Program}
def dX (es:List eE) (cV:bA) (i:Nat):bA:=
 match es[i]? with
 | some e=>e.r
 | none=>cV
theorem wC (e:eE) (es:List eE) (ay:af) (i:Nat):b_ (e::es) ay (i+1)=b_ es ay i:=by simp [b_]
theorem xy (e:eE) (es:List eE) (cV:bA) (i:Nat):dX (e::es) cV (i+1)=dX es cV i:=by simp [dX]
theorem sQ {au:Nat} {all:Array Oper} {call:dx}:∀{l:List Oper} {r cV:bA} {h ay:af} {es:List eE},(ff P au all l).run call r h=.ok es cV ay→
 es.length=l.length∧b_ es ay 0=h∧dX es cV 0=r∧∀j o,l[j]? =some o→∃e,es[j]? =some e∧(cx P au all o).run call e.r e.h=.val e.v (b_ es ay (j+1))∧dX es cV (j+1)=(fj o.dst).run e.r e.v
 | [],r,cV,h,ay,es,he=>by
   simp only [ff,o3.ok.injEq] at he
   obtain ⟨rfl,rfl,rfl⟩:=he
   exact ⟨rfl,rfl,rfl,fun j o aT=>by simp at aT⟩
 | o::os,r,cV,h,ay,es,he=>by
   simp only [ff,AA] at he
   cases ab:(cx P au all o).run call r h with
   | fail=>rw [ab] at he;cases he
   | cH _ _=>rw [ab] at he;simp only at he;cases hm:kL o.op<;>rw [hm] at he<;>cases he
   | val v bf=>
     rw [ab] at he
     simp only at he
     cases ae:(ff P au all os).run call ((fj o.dst).run r v) bf with
     | fail=>rw [ae] at he;cases he
     | cH _ _ _ _ _=>rw [ae] at he;cases he
     | ok gR bl aG=>
       rw [ae] at he
       simp only [o3.ok.injEq] at he
       obtain ⟨rfl,rfl,rfl⟩:=he
       obtain ⟨an,az,aN,bM⟩:=sQ ae
       refine ⟨by simp [an],by simp [b_],by simp [dX],fun j b8 aT=>?_⟩
       cases j with
       | zero=>
         simp only [List.getElem?_cons_zero,Option.some.injEq] at aT
         subst aT
         exact ⟨⟨r,h,v⟩,rfl,by rw [wC,az];exact ab,by rw [xy,aN]⟩
       | succ j=>
         obtain ⟨e,bS,b0,cB⟩:=bM j b8 (by simpa using aT)
         exact ⟨e,by simpa using bS,by rw [wC];exact b0,by rw [xy];exact cB⟩
theorem SF {au:Nat} {all:Array Oper} {call:dx}:∀{l:List Oper} {r cV:bA} {h ay aa:af} {es:List eE} {v:V},(ff P au all l).run call r h=.cH es cV ay v aa→
 b_ es ay 0=h∧dX es cV 0=r∧(∀j o,j<es.length→l[j]? =some o→∃e,es[j]? =some e∧(cx P au all o).run call e.r e.h=.val e.v (b_ es ay (j+1))∧dX es cV (j+1)=(fj o.dst).run e.r e.v)∧
  ∃o,l[es.length]? =some o∧kL o.op=true∧(cx P au all o).run call cV ay=.cH v aa
 | [],r,cV,h,ay,aa,es,v,he=>by simp [ff] at he
 | o::os,r,cV,h,ay,aa,es,v,he=>by
   simp only [ff,AA] at he
   cases ab:(cx P au all o).run call r h with
   | fail=>rw [ab] at he;cases he
   | cH x aq=>
     rw [ab] at he
     simp only at he
     cases hm:kL o.op with
     | false=>rw [hm] at he;cases he
     | true=>
       rw [hm] at he
       simp only [cond_true,o3.cH.injEq] at he
       obtain ⟨rfl,rfl,rfl,rfl,rfl⟩:=he
       exact ⟨rfl,rfl,fun j b8 bK=>by simp at bK,o,rfl,hm,ab⟩
   | val x bf=>
     rw [ab] at he
     simp only at he
     cases ae:(ff P au all os).run call ((fj o.dst).run r x) bf with
     | fail=>rw [ae] at he;cases he
     | ok _ _ _=>rw [ae] at he;cases he
     | cH gR bl aG v1 ba=>
       rw [ae] at he
       simp only [o3.cH.injEq] at he
       obtain ⟨rfl,rfl,rfl,rfl,rfl⟩:=he
       obtain ⟨az,aN,bM,dC,dL,eP,hi⟩:=SF ae
       refine ⟨by simp [b_],by simp [dX],fun j b8 bK aT=>?_,dC,by simpa using dL,eP,hi⟩
       cases j with
       | zero=>
         simp only [List.getElem?_cons_zero,Option.some.injEq] at aT
         subst aT
         exact ⟨⟨r,h,x⟩,rfl,by rw [wC,az];exact ab,by rw [xy,aN]⟩
       | succ j=>
         obtain ⟨e,bS,b0,cB⟩:=bM j b8 (by simpa using bK) (by simpa using aT)
         exact ⟨e,by simpa using bS,by rw [wC];exact b0,by rw [xy];exact cB⟩
theorem N1 {au:Nat} {d:Option Nat} (aZ:e3 au d=true) {r:bA} {v:V} {t:Nat} (aF:t≤top):T.get .bad (al t) ((fj d).run r v)=if d=some t then v else T.get .bad (al t) r:=by
 cases d with
 | none=>simp [fj]
 | some d=>
   simp only [e3,Bool.and_eq_true,Nat.blt_eq,Nat.ble_eq] at aZ
   simp only [fj,T.hr,Option.some.injEq]
   by_cases h:d=t
   · subst h;simp
   · rw [if_neg (fun e=>h (dW e)),if_neg h]
theorem jB {au:Nat} {all:Array Oper} {o:Oper} {call:dx} {r:bA} {h aa:af} {v:V} (he:(cx P au all o).run call r h=.val v aa):e3 au o.dst=true∧jW (b5 all o)=true:=by
 unfold cx at he
 cases aI:(e3 au o.dst&&jW (b5 all o)) with
 | false=>rw [aI] at he;simp [df.none] at he
 | true=>simpa using aI
theorem SW {r:bA} {rs:List Nat} (aQ:jW rs=true) {t:Nat} (aF:t≤top):T.get .bad (al t) (dm r rs)=if t ∈ rs then T.get .bad (al t) r else .bad:=by
 induction rs with
 | nil=>simp [dm]
 | cons u rs bk=>
   simp only [jW,List.all_cons,Bool.and_eq_true,Nat.ble_eq] at aQ
   simp only [dm,T.hr,List.mem_cons]
   by_cases h:u=t
   · subst h;simp
   · rw [if_neg (fun e=>h (dW e)),bk aQ.2]
     have aa:¬t=u:=fun e=>h e.symm
     simp [aa]
theorem M' {au:Nat} {all:Array Oper} {o:Oper} {call:dx} {r:bA} {h aa:af} {v:V} (he:(cx P au all o).run call r h=.cH v aa):e3 au o.dst=true∧jW (b5 all o)=true:=by
 unfold cx at he
 cases aI:(e3 au o.dst&&jW (b5 all o)) with
 | false=>rw [aI] at he;simp [df.none] at he
 | true=>simpa using aI
def EB (aw:Fr) (E:Env) (o:Oper) (a:Act) (K:Act→World→Prop) (Q:Exit→Act→World→Prop):aY→Prop
 | .val v aa=>∀av x ao,E.le av→Rel av v x→a' aw av aa ao→K (a.put o.dst x) ao
 | .cH v aa=>kL o.op=true∧∀av x ao,E.le av→Rel av v x→a' aw av aa ao→Q (.panic (oJ x)) a ao
 | .fail=>False
theorem M_ {rd:Option Nat} {aw:Fr} {E:Env} {h:af} {w:World} {call:dx} (bG:ez P) (cN:gk P call) (dq:gu P call) {all:Array Oper} {i:Nat} {o:Oper} (aC:all[i]? =some o) {au:Nat} {r:bA} {a:Act}
 (gH:e3 au o.dst=true∧jW (b5 all o)=true) (oz:a.tmps.size=au) (jJ:∀t ∈ b5 all o,Rel E (T.get .bad (al t) r) (a.tmps.getD t undef)) (s:a' aw E h w)
 {K:Act→World→Prop} {Q:Exit→Act→World→Prop} (ah:EB aw E o a K Q ((cx P au all o).run call r h)):wpOpIn (ch rd) 0 P all Q i K a w:=by
 obtain ⟨aZ,aQ⟩:=gH
 have k:RegRel0 E au (dm r (b5 all o)) a:=⟨oz,fun t aF=>by
  rw [SW aQ aF]
  by_cases hm:t ∈ b5 all o
  · rw [if_pos hm];exact jJ t hm
  · rw [if_neg hm];simp [Rel]⟩
 unfold cx at ah
 rw [show (e3 au o.dst&&jW (b5 all o))=true from by rw [aZ,aQ];rfl] at ah
 simp only [cond_true] at ah
 have wanted:EB aw E o a K Q ((e1 P o).run call (dm r (b5 all o)) h)→Region.wanted o (yielded all a.tmps)=true→wpOpIn (ch rd) 0 P all Q i K a w:=by
  intro ab hw
  simp only [wpOpIn,aC,hw,if_true]
  cases aJ:(e1 P o).run call (dm r (b5 all o)) h with
  | fail=>rw [aJ] at ab;exact ab.elim
  | val v aa=>rw [aJ] at ab;exact MV bG cN dq aJ k s ab
  | cH v aa=>rw [aJ] at ab;exact MS bG cN ab.1 aJ k s ab.2
 have S5:EB aw E o a K Q (.val (.tuple []) h)→Region.wanted o (yielded all a.tmps)=false→wpOpIn (ch rd) 0 P all Q i K a w:=by
  intro ab hw
  simp only [wpOpIn,aC,hw,Bool.false_eq_true,if_false]
  exact ⟨fun _ _=>trivial,ab E undef w (Env.le.refl E) (by simp only [Rel];exact ⟨#[],rfl,rfl⟩) s⟩
 cases aH:o.guard with
 | none=>
   rw [aH] at ah
   exact wanted ah (by simp [Region.wanted,aH])
 | some oA=>
   obtain ⟨j,want⟩:=oA
   rw [aH] at ah
   simp only at ah
   cases bK:all[j]? with
   | none=>rw [bK] at ah;exact ah.elim
   | some g=>
     rw [bK] at ah
     simp only at ah
     cases jI:g.dst with
     | none=>rw [jI] at ah;exact ah.elim
     | some d=>
       rw [jI] at ah
       simp only at ah
       cases aI:(Nat.blt d au&&Nat.ble d top) with
       | false=>rw [aI] at ah;exact ah.elim
       | true=>
         rw [aI] at ah
         simp only [cond_true,h5,nj] at ah
         simp only [Bool.and_eq_true,Nat.blt_eq,Nat.ble_eq] at aI
         obtain ⟨g1,g2⟩:=G7 k bK jI aI.1 aI.2
         cases bs:T.get .bad (al d) (dm r (b5 all o))<;>rw [bs] at ah<;>simp only at ah<;>try (exact ah.elim)
         · rename_i b
           have a_:=g1 b bs
           cases ag:(bif want then b else !b) with
           | true=>
             rw [ag] at ah
             simp only [cond_true] at ah
             refine wanted ah ?_
             simp only [Region.wanted,aH,a_]
             cases want<;>cases b<;>simp_all
           | false=>
             rw [ag] at ah
             simp only [cond_false] at ah
             refine S5 ah ?_
             simp only [Region.wanted,aH,a_]
             cases want<;>cases b<;>simp_all
         · rename_i ad
           have a_:=g2 ad bs
           refine S5 ah ?_
           simp only [Region.wanted,aH,a_]
           rfl
theorem pv {rd:Option Nat} {aw:Fr} {E:Env} {h aa:af} {w:World} {call:dx} (bG:ez P) (cN:gk P call) (dq:gu P call) {all:Array Oper} {i:Nat} {o:Oper} (aC:all[i]? =some o) {au:Nat} {r:bA} {a:Act} {v:V}
 (he:(cx P au all o).run call r h=.val v aa) (oz:a.tmps.size=au) (jJ:∀t ∈ b5 all o,Rel E (T.get .bad (al t) r) (a.tmps.getD t undef)) (s:a' aw E h w)
 {K:Act→World→Prop} {Q:Exit→Act→World→Prop} (dv:∀av x ao,E.le av→Rel av v x→a' aw av aa ao→K (a.put o.dst x) ao):wpOpIn (ch rd) 0 P all Q i K a w:=
 M_ bG cN dq aC (jB he) oz jJ s (by rw [he];exact dv)
theorem aap {rd:Option Nat} {aw:Fr} {E:Env} {h aa:af} {w:World} {call:dx} (bG:ez P) (cN:gk P call) (dq:gu P call) {all:Array Oper} {i:Nat} {o:Oper} (aC:all[i]? =some o) {au:Nat} {r:bA} {a:Act} {v:V}
 (he:(cx P au all o).run call r h=.cH v aa) (hm:kL o.op=true) (oz:a.tmps.size=au) (jJ:∀t ∈ b5 all o,Rel E (T.get .bad (al t) r) (a.tmps.getD t undef)) (s:a' aw E h w)
 {K:Act→World→Prop} {Q:Exit→Act→World→Prop} (cZ:∀av x ao,E.le av→Rel av v x→a' aw av aa ao→Q (.panic (oJ x)) a ao):wpOpIn (ch rd) 0 P all Q i K a w:=
 M_ bG cN dq aC (M' he) oz jJ s (by rw [he];exact ⟨hm,cZ⟩)
theorem tD {au:Nat} {all:Array Oper} {o:Oper} {call:dx} {r:bA} {h aa:af} {v:V} (aA:eH P o.op=false) (he:(cx P au all o).run call r h=.val v aa):
 aa=h∧(looks o.op=false→∀H,(cx P au all o).run call r H=.val v H):=by
 obtain ⟨aZ,aQ⟩:=jB he
 have cS:(e3 au o.dst&&jW (b5 all o))=true:=by rw [aZ,aQ];rfl
 have key:cx P au all o=(match o.guard with
  | none=>⟨h5 none (e1 P o) (b5 all o)⟩
  | some (j,want)=>match all[j]? with
    | some g=>match g.dst with
      | some d=>bif Nat.blt d au&&Nat.ble d top then ⟨h5 (some (nj (al d),want)) (e1 P o) (b5 all o)⟩ else df.none
      | none=>df.none
    | none=>df.none):=by
  unfold cx;rw [cS];rfl
 rw [key] at he ⊢
 cases aH:o.guard with
 | none=>
   rw [aH] at he
   exact ⟨MU aA he,fun ai H=>MT aA ai he H⟩
 | some oA=>
   obtain ⟨j,want⟩:=oA
   rw [aH] at he
   simp only at he ⊢
   cases bK:all[j]? with
   | none=>rw [bK] at he;simp [df.none] at he
   | some g=>
     rw [bK] at he
     simp only at he ⊢
     cases jI:g.dst with
     | none=>rw [jI] at he;simp [df.none] at he
     | some d=>
       rw [jI] at he
       simp only at he ⊢
       cases aI:(Nat.blt d au&&Nat.ble d top) with
       | false=>rw [aI] at he;simp [df.none] at he
       | true=>
         rw [aI] at he
         simp only [cond_true,h5] at he ⊢
         cases bs:(nj (al d)).run (dm r (b5 all o))<;>rw [bs] at he<;>simp only at he ⊢<;>try (cases he;done)
         · rename_i b
           cases ag:(bif want then b else !b)<;>rw [ag] at he<;>simp only [cond_true,cond_false] at he ⊢
           · simp only [aY.val.injEq] at he ⊢
             exact ⟨he.2.symm,fun _ H=>⟨he.1,trivial⟩⟩
           · exact ⟨MU aA he,fun ai H=>MT aA ai he H⟩
         · simp only [aY.val.injEq] at he ⊢
           exact ⟨he.2.symm,fun _ H=>⟨he.1,trivial⟩⟩
theorem LW {op:df} {call:dx} {es:List eE} {ay:af} {r:bA} {v:V}:∀{fe:List Nat},Bm op call es ay r v fe=true→∀s ∈ fe,∃aa,op.run call r (b_ es ay s)=.val v aa
 | [],_,s,h=>by simp at h
 | fA::fe,he,s,hm=>by
   simp only [Bm,Bool.and_eq_true] at he
   simp only [List.mem_cons] at hm
   rcases hm with rfl | hm
   · have ab:=he.1
     cases aJ:op.run call r (b_ es ay s) with
     | fail=>rw [aJ] at ab;cases ab
     | cH _ _=>rw [aJ] at ab;cases ab
     | val dn aa=>
       rw [aJ] at ab
       rw [GV ab]
       exact ⟨aa,rfl⟩
   · exact LW he.2 s hm
theorem E1 {au:Nat} {all:Array Oper} {dF aD eb:List Nat} {call:dx} {es:List eE} {ay:af}:∀{l:List Oper} {i:Nat},(qy P au all dF aD eb i l).run call es ay=true→
 ∀j o,l[j]? =some o→looks o.op=true→eH P o.op=false→∀e,es[posOf aD (i+j)]? =some e→∀s ∈ eb,q8 P dF all.toList aD (i+j) ((dF[i+j]?).getD 0) s=true→∃aa,(cx P au all o).run call e.r (b_ es ay s)=.val e.v aa
 | [],_,_,j,o,aT,_,_=>by simp at aT
 | b8::os,i,he,j,o,aT,ai,aA=>by
   simp only [qy] at he
   cases j with
   | zero=>
     simp only [List.getElem?_cons_zero,Option.some.injEq] at aT
     subst aT
     rw [ai,aA] at he
     simp only [Bool.not_false,Bool.and_true,cond_true,Bool.and_eq_true,LX] at he
     have ab:=he.1
     intro e nm s aQ hm
     · rw [Nat.add_zero] at nm
       rw [nm] at ab
       exact LW ab s (List.mem_filter.2 ⟨aQ,by simpa using hm⟩)
   | succ j=>
     have rest:(qy P au all dF aD eb (i+1) os).run call es ay=true:=by
      cases aI:(looks b8.op&&!eH P b8.op) with
      | false=>rw [aI] at he;exact he
      | true=>rw [aI] at he;simp only [cond_true,Bool.and_eq_true] at he;exact he.2
     have:=E1 rest j o (by simpa using aT) ai aA
     rw [show i + (j+1)=i+1+j from by omega]
     exact this
theorem xf {aD:List Nat}:∀{l:List Oper} {i j:Nat} {o:Oper},l[j]? =some o→dT P o=true→posOf aD (i+j) ∈ gZ P aD i l
 | [],_,j,o,h,_=>by simp at h
 | b8::os,i,j,o,h,he=>by
   simp only [gZ]
   cases j with
   | zero=>
     simp only [List.getElem?_cons_zero,Option.some.injEq] at h
     subst h
     rw [he]
     simp
   | succ j=>
     have:=xf (aD:=aD) (i:=i+1) (by simpa using h) he
     rw [show i + (j+1)=i+1+j from by omega]
     cases dT P b8 with
     | true=>simp [this]
     | false=>exact this
theorem CU {aD:List Nat}:∀{l:List Oper} {i:Nat},i+l.length ∈ gZ P aD i l
 | [],_=>by simp [gZ]
 | o::os,i=>by
   have:=CU (aD:=aD) (l:=os) (i:=i+1)
   simp only [gZ,List.length_cons]
   rw [show i + (os.length+1)=i+1+os.length from by omega]
   cases dT P o with
   | true=>simp [this]
   | false=>exact this
theorem ss {aD:List Nat}:∀{l:List Oper} {i s:Nat},s ∈ gZ P aD i l→s=i+l.length∨∃j o,l[j]? =some o∧dT P o=true∧s=posOf aD (i+j)
 | [],i,s,h=>by simp only [gZ,List.mem_singleton] at h;exact .inl (by simpa using h)
 | o::os,i,s,h=>by
   simp only [gZ] at h
   have rest:s ∈ gZ P aD (i+1) os→s=i + (o::os).length∨∃j b8,(o::os)[j]? =some b8∧dT P b8=true∧s=posOf aD (i+j):=by
    intro h
    rcases ss h with h | ⟨j,b8,ab,ae,aG⟩
    · exact .inl (by simp only [List.length_cons];omega)
    · exact .inr ⟨j+1,b8,by simpa using ab,ae,by rw [aG];congr 1;omega⟩
   cases aI:dT P o with
   | true=>
     rw [aI] at h
     simp only [cond_true,List.mem_cons] at h
     rcases h with h | h
     · exact .inr ⟨0,o,rfl,aI,h⟩
     · exact rest h
   | false=>rw [aI] at h;exact rest h
theorem Z3 {o:Oper} {call:dx} {r:bA} {h aa:af} {v:V} (bq:gg o=true) (he:(e1 P o).run call r h=.val v aa):∃k,aa=h.new k∧True:=by
 have cells:∀{ad:List V} {ab:af},fV h ad=some ab→∃k,ab=h.new k∧True:=by
  intro ad ab he
  unfold fV at he
  obtain ⟨aI,he⟩:=ef he
  cases he
  exact ⟨_,rfl,trivial⟩
 obtain ⟨dst,op,type,pos,after,guard⟩:=o
 cases op<;>simp only [gg] at bq<;>try (cases bq;done)
 all_goals simp only [e1] at he
 case alloc t=>
  cases aF:a8 P t with
  | none=>rw [aF] at he;simp [df.none] at he
  | some aO=>
    rw [aF] at he
    simp only at he
    cases bo:aO.zero with
    | none=>rw [bo] at he;simp [df.none] at he
    | some z=>
      rw [bo] at he
      simp only at he
      cases aU:fV h z.cells with
      | none=>rw [aU] at he;cases he
      | some ab=>
        rw [aU] at he
        simp only [gB,aY.val.injEq] at he;obtain ⟨_,rfl⟩:=he
        exact cells aU
 case box t x=>
  obtain ⟨aH,he⟩:=jg he
  cases aU:fV h ((bQ x).run r).cells with
  | none=>rw [aU] at he;cases he
  | some ab=>
    rw [aU] at he
    simp only [gB,aY.val.injEq] at he;obtain ⟨_,rfl⟩:=he
    exact cells aU
 case buildSlice t n bg=>
  unfold tz at he
  cases aF:a8 P t with
  | none=>rw [aF] at he;cases he
  | some aO=>
    rw [aF] at he
    simp only at he
    cases bU:aO.bd<;>rw [bU] at he<;>simp only at he<;>try (cases he;done)
    rename_i e
    cases cv:a8 P e with
    | none=>rw [cv] at he;cases he
    | some bh=>
      rw [cv] at he
      simp only at he
      cases bo:bh.zero with
      | none=>rw [bo] at he;cases he
      | some z=>
        rw [bo] at he
        simp only at he
        cases aI:(Nat.ble (n * bh.size) 1000000&&Nat.beq z.cells.length bh.size) with
        | false=>rw [aI] at he;cases he
        | true=>
          rw [aI] at he
          simp only [cond_true] at he
          cases ay:lO (fun i=>some (i * bh.size,bh.size)) (iE z.cells n) ((sE bg.toList).run r) with
          | none=>rw [ay] at he;cases he
          | some cs=>
            rw [ay] at he
            simp only at he
            cases aU:fV h cs with
            | none=>rw [aU] at he;cases he
            | some ab=>
              rw [aU] at he
              simp only [aY.val.injEq] at he
              obtain ⟨_,rfl⟩:=he
              exact cells aU
 case makeMap t x=>
  cases x with
  | some _=>cases bq
  | none=>
    simp only [p2,xg] at he
    cases aF:a8 P t with
    | none=>rw [aF] at he;cases he
    | some aO=>
      rw [aF] at he
      simp only at he
      cases ag:Nat.beq (eO aO.bd) 3 with
      | false=>rw [ag] at he;cases he
      | true=>
        rw [ag] at he
        simp only [cond_true,pZ,uR] at he
        simp only [aY.val.injEq] at he
        exact ⟨_,he.2.symm,trivial⟩
theorem aek {o:Oper} (bq:gg o=true):eH P o.op=true:=by
 obtain ⟨dst,op,type,pos,after,guard⟩:=o
 cases op<;>simp only [gg] at bq<;>first | (cases bq;done) | rfl
theorem Nb {au:Nat} {all:Array Oper} {o:Oper} {call:dx} {r:bA} {h aa:af} {v:V} (he:(cx P au all o).run call r h=.val v aa):
 ((e1 P o).run call (dm r (b5 all o)) h=.val v aa∧∀E a,RegRel0 E au (dm r (b5 all o)) a→Region.wanted o (yielded all a.tmps)=true)∨
 (aa=h∧∀H,(cx P au all o).run call r H=.val v H):=by
 obtain ⟨aZ,aQ⟩:=jB he
 have cS:(e3 au o.dst&&jW (b5 all o))=true:=by rw [aZ,aQ];rfl
 have key:cx P au all o=(match o.guard with
  | none=>⟨h5 none (e1 P o) (b5 all o)⟩
  | some (j,want)=>match all[j]? with
    | some g=>match g.dst with
      | some d=>bif Nat.blt d au&&Nat.ble d top then ⟨h5 (some (nj (al d),want)) (e1 P o) (b5 all o)⟩ else df.none
      | none=>df.none
    | none=>df.none):=by
  unfold cx;rw [cS];rfl
 rw [key] at he ⊢
 cases aH:o.guard with
 | none=>
   rw [aH] at he
   exact .inl ⟨he,fun E a _=>by simp [Region.wanted,aH]⟩
 | some oA=>
   obtain ⟨j,want⟩:=oA
   rw [aH] at he
   simp only at he ⊢
   cases bK:all[j]? with
   | none=>rw [bK] at he;simp [df.none] at he
   | some g=>
     rw [bK] at he
     simp only at he ⊢
     cases jI:g.dst with
     | none=>rw [jI] at he;simp [df.none] at he
     | some d=>
       rw [jI] at he
       simp only at he ⊢
       cases aI:(Nat.blt d au&&Nat.ble d top) with
       | false=>rw [aI] at he;simp [df.none] at he
       | true=>
         rw [aI] at he
         simp only [cond_true,h5] at he ⊢
         have oj:=aI
         simp only [Bool.and_eq_true,Nat.blt_eq,Nat.ble_eq] at oj
         cases bs:(nj (al d)).run (dm r (b5 all o))<;>rw [bs] at he<;>simp only at he ⊢<;>try (cases he;done)
         · rename_i b
           cases ag:(bif want then b else !b)<;>rw [ag] at he<;>simp only [cond_true,cond_false] at he ⊢
           · simp only [aY.val.injEq] at he ⊢
             exact .inr ⟨he.2.symm,fun H=>⟨he.1,trivial⟩⟩
           · refine .inl ⟨he,fun E a k=>?_⟩
             obtain ⟨g1,_⟩:=G7 k bK jI oj.1 oj.2
             have a_:=g1 b bs
             simp only [Region.wanted,aH,a_]
             cases want<;>cases b<;>simp_all
         · simp only [aY.val.injEq] at he ⊢
           exact .inr ⟨he.2.symm,fun H=>⟨he.1,trivial⟩⟩
theorem Na {au:Nat} {all:Array Oper} {o:Oper} {call:dx} {r:bA} {h aa:af} {v:V} (bq:gg o=true) (he:(cx P au all o).run call r h=.val v aa):
 (∃k,aa=h.new k∧True)∨(aa=h∧∀H,(cx P au all o).run call r H=.val v H):=by
 rcases Nb he with ⟨ab,_⟩ | ab
 · exact .inl (Z3 bq ab)
 · exact .inr ab
theorem aan {rd:Option Nat} {F:Fr} {E:Env} {h aa H:af} {w:World} {call:dx} {all:Array Oper} {i:Nat} {o:Oper} (aC:all[i]? =some o) (bq:gg o=true) {au:Nat} {r:bA} {a:Act} {v:V}
 (he:(cx P au all o).run call r h=.val v aa) (oz:a.tmps.size=au) (jJ:∀t ∈ b5 all o,Rel E (T.get .bad (al t) r) (a.tmps.getD t undef)) (s:a' F E H w)
 (HP:aa.next≠h.next) (ah:F.dc (al h.next)=some (aa.get (al h.next)))
 {K:Act→World→Prop} {Q:Exit→Act→World→Prop} (dv:∀av x ao,E.le av→Rel av v x→a' (F.free (al h.next)) av H ao→K (a.put o.dst x) ao):wpOpIn (ch rd) 0 P all Q i K a w:=by
 obtain ⟨aZ,aQ⟩:=jB he
 have k:RegRel0 E au (dm r (b5 all o)) a:=⟨oz,fun t aF=>by
  rw [SW aQ aF]
  by_cases hm:t ∈ b5 all o
  · rw [if_pos hm];exact jJ t hm
  · rw [if_neg hm];simp [Rel]⟩
 obtain ⟨et,hw⟩:(e1 P o).run call (dm r (b5 all o)) h=.val v aa∧Region.wanted o (yielded all a.tmps)=true:=by
  rcases Nb he with ⟨ab,ae⟩ | ⟨ab,_⟩
  · exact ⟨ab,ae E a k⟩
  · exact absurd (by rw [ab]) HP
 obtain ⟨m,aq,c6,an,az,aN⟩:=Z2 bq et k
 simp only [wpOpIn,aC,hw,if_true]
 obtain ⟨X,sz,bS,b0⟩:=aN w
 rw [an,af.hI,if_pos rfl] at ah
 have dQ:E.put (al h.next) ⟨w.heap.size,0,0⟩ (al h.next)=some ⟨w.heap.size,0,0⟩:=by unfold Env.put;rw [if_pos rfl]
 have hle:E.le (E.put (al h.next) ⟨w.heap.size,0,0⟩):=Env.kK (s.oL _ _ ah).2.1
 obtain ⟨bl,bT⟩:=b0 _ hle dQ
 have ca:F.w.heap.size≤w.heap.size:=s.frame.size
 obtain ⟨_,h8⟩:=s.link ah (o:=sz) (bT _ ca)
 refine ⟨fun _ _=>trivial,?_⟩
 rw [oO (by intro c h;have:=bq;unfold gg at this;rw [h] at this;cases this),aq,Sem.run_bind,bS]
 exact dv _ X _ hle bl h8
end
end Go.Proofs.YthemdhlheglhoaaGreatDoor.aX
