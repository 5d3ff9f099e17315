/- The abstract machine and its walks (a verified interpreter of the model's code: plain definitions and lemmas, no condition). Printed by a program from longer texts: names made short. -/
import Derived.Test.YtkehcalakofigaaGreatDoorM1
import Derived.LaidEqlPtr
import Derived.RangeFuncLeaves
import Derived.RecoverIn
import Derived.OrdersIn
set_option linter.unusedSectionVars false
set_option linter.unusedSimpArgs false
set_option linter.unusedVariables false
namespace Go.Proofs.YtkehcalakofigaaGreatDoor.aS
variable [Lay]
open Go Go.RowKit
section
variable {P:Program}
theorem Q7 {α β:Type} (g:α→Sem β) (k:α→β) (w:World):∀(l:List α),(∀x ∈ l,(g x).run P w=.ok (k x) w)→(l.mapM g).run P w=.ok (l.map k) w
 | [],_=>by simp
 | x::l,h=>by
   rw [List.mapM_cons,Sem.run_bind,h x (by simp)]
   simp only [Result.andThen_ok,Sem.run_bind,Q7 g k w l (fun y a1=>h y (by simp [a1])),Sem.run_pure,List.map]
theorem UB {E:Env} {t:TypeId} {bd:List (Nat × V)} {iF:List (Nat × Value)} {v:V} (aj:pQ E bd iF) (he:(AN P t).run bd=some v) (w:World):
 ∃Z,(Instr.build t iF.toArray).run P w=.ok Z w∧Rel E v Z:=by
 unfold AN at he
 cases aG:a' P t with
 | none=>rw [aG] at he;cases he
 | some aP=>
   rw [aG] at he
   simp only at he
   cases bj:aP.zero with
   | none=>rw [bj] at he;cases he
   | some z=>
     rw [bj] at he
     simp only at he
     obtain ⟨x,au,pe,lR⟩:=wQ (P:=P) aG bj E w
     have hu:=e1 aG w
     have Of:a_ E z.cells x.cells.toList:=by
      rw [lR]
      have:∀y:Value,a_ E (gy y).cells y.cells.toList:=by
       intro y
       cases y with
       | agg cs=>simp only [gy,V.cells,Value.cells];exact za E _
       | pointer a=>cases a<;>simp [gy,ih,V.cells,Value.cells,a_,Rel]
       | slice a n c=>
         have:=r7 E (.slice a n c)
         cases a with
         | some a=>simp [gy,ih,V.cells,Value.cells,a_,Rel]
         | none=>
           simp only [gy,ih] at this ⊢
           cases ai:(Nat.beq n 0&&Nat.beq c 0) with
           | false=>simp [V.cells,Value.cells,a_,Rel]
           | true=>rw [ai] at this;simpa [V.cells,Value.cells,a_] using this
       | map r=>cases r<;>simp [gy,ih,V.cells,Value.cells,a_,Rel]
       | tuple cs=>
         have:=r7 E (.tuple cs)
         simp only [gy,V.cells,Value.cells,a_] at this ⊢
         exact ⟨_,_,rfl,this,rfl⟩
       | _=>simp [gy,ih,V.cells,Value.cells,a_,Rel]
      exact this x
     cases bP:aP.bc with
     | struct bY=>
       rw [bP] at he hu
       simp only at he
       cases aD:Bi P bY.toList with
       | false=>rw [aD] at he;cases he
       | true=>
         rw [aD] at he
         simp only [cond_true] at he
         cases aA:lC (vg P bY) z.cells bd with
         | none=>rw [aA] at he;cases he
         | some cs=>
           rw [aA] at he
           simp only [Option.some.injEq] at he
           subst he
           let k:Field→Nat × Nat:=fun f=>(f.offset,((a' P f.type).map (·.size)).getD 0)
           have mm:(bY.mapM fun f=>do pure (f.offset,←sizeOf f.type):Sem (Array (Nat × Nat))).run P w=.ok (bY.map k) w:=by
            rw [Array.mapM_eq_mapM_toList,Sem.run_map,Q7 _ k w bY.toList]
            · simp only [Result.andThen_ok]
              congr 1
              apply Array.ext'
              simp
            · intro f h_
              have:=List.all_eq_true.1 aD f h_
              cases vW:a' P f.type with
              | none=>rw [vW] at this;simp at this
              | some jf=>simp only [Sem.run_bind,iW vW,Result.andThen_ok,Sem.run_pure,k,vW];rfl
           have abM:(fun i=>(bY.map k)[i]?)=vg P bY:=by
            funext i
            simp only [vg,Array.getElem?_map]
            cases av:bY[i]? with
            | none=>rfl
            | some f=>
              have vJ:f ∈ bY.toList:=by
               have:=List.mem_of_getElem? (l:=bY.toList) (i:=i) (a:=f) (by simpa using av)
               exact this
              have:=List.all_eq_true.1 aD f vJ
              cases vW:a' P f.type with
              | none=>rw [vW] at this;simp at this
              | some jf=>simp [k,vW]
           obtain ⟨b,jg,o7⟩:=xV (a:=x.cells) aj Of aA
           refine ⟨.agg b,?_,by simp only [Rel];exact ⟨b,rfl,o7⟩⟩
           simp only [Instr.build,Sem.run_bind,au,hu,Result.andThen_ok,mm]
           rw [abM]
           simp only [jg,Sem.run_pure]
     | array n e=>
       rw [bP] at he hu
       simp only at he
       cases cr:a' P e with
       | none=>rw [cr] at he;cases he
       | some bf=>
         rw [cr] at he
         simp only at he
         cases aA:lC (fun i=>some (i * bf.size,bf.size)) z.cells bd with
         | none=>rw [aA] at he;cases he
         | some cs=>
           rw [aA] at he
           simp only [Option.some.injEq] at he
           subst he
           obtain ⟨b,jg,o7⟩:=xV (a:=x.cells) aj Of aA
           refine ⟨.agg b,?_,by simp only [Rel];exact ⟨b,rfl,o7⟩⟩
           simp only [Instr.build,Sem.run_bind,au,hu,Result.andThen_ok,iW cr,jg,Sem.run_pure]
     | _=>rw [bP] at he;cases he
theorem zw {E:Env} {z:List V} {l:Array Value} (bj:a_ E z l.toList):∀n:Nat,a_ E (hN z n) ((Array.range (n * l.size)).map (l[· % l.size]!)).toList:=by
 have ab1:(List.range l.size).map (l[· % l.size]!)=l.toList:=by
  apply List.ext_getElem?
  intro i
  simp only [List.getElem?_map]
  by_cases av:i<l.size
  · rw [List.getElem?_range av]
    simp only [Option.map,Nat.mod_eq_of_lt av,Array.getElem?_toList]
    rw [getElem!_pos l i av,Array.getElem?_eq_getElem av]
  · rw [List.getElem?_eq_none (by simp;omega),Array.getElem?_toList,Array.getElem?_eq_none (by omega)]
    rfl
 intro n
 simp only [Array.toList_map,Array.toList_range]
 induction n with
 | zero=>simp [hN,a_]
 | succ n bg=>
   have e:(n+1) * l.size=l.size+n * l.size:=by rw [Nat.add_mul];omega
   rw [e,List.range_add,List.map_append,ab1,List.map_map]
   have aO:((l[· % l.size]!) ∘ fun x=>l.size+x)=(l[· % l.size]!):=by
    funext x
    simp
   rw [aO]
   exact bj.append bg
theorem sv {E:Env} {t:TypeId} {aP:l_} {z:V} (aG:a' P t=some aP) (bj:aP.zero=some z) (w:World):∃x:Value,(∀w,(zeroValue t).run P w=.ok x w)∧a_ E z.cells x.cells.toList∧x.cells.size=z.cells.length:=by
 obtain ⟨x,au,_,lR⟩:=wQ (P:=P) aG bj E w
 obtain ⟨i,aa,_,_,_,_,fp⟩:=so aG
 rw [bj] at fp
 have acx:∃y,i.zero=some y:=by cases aF:i.zero with | none=>rw [aF] at fp;cases fp | some y=>exact ⟨y,rfl⟩
 obtain ⟨y,a1⟩:=acx
 have cK:∀w,(zeroValue t).run P w=.ok y w:=fun w=>by simp only [zeroValue,Sem.run_bind,wP aa,Result.andThen_ok,a1];rfl
 have acr:y=x:=by have:=cK w;rw [au] at this;simp at this;exact this.symm
 subst acr
 refine ⟨_,cK,?_,?_⟩
 · rw [lR]
   have:∀y:Value,a_ E (gy y).cells y.cells.toList:=by
    intro y
    cases y with
    | agg cs=>simp only [gy,V.cells,Value.cells];exact za E _
    | pointer a=>cases a<;>simp [gy,ih,V.cells,Value.cells,a_,Rel]
    | slice a n c=>
      have:=r7 E (.slice a n c)
      cases a with
      | some a=>simp [gy,ih,V.cells,Value.cells,a_,Rel]
      | none=>
        simp only [gy,ih] at this ⊢
        cases ai:(Nat.beq n 0&&Nat.beq c 0) with
        | false=>simp [V.cells,Value.cells,a_,Rel]
        | true=>rw [ai] at this;simpa [V.cells,Value.cells,a_] using this
    | map r=>cases r<;>simp [gy,ih,V.cells,Value.cells,a_,Rel]
    | tuple cs=>
      have:=r7 E (.tuple cs)
      simp only [gy,V.cells,Value.cells,a_] at this ⊢
      exact ⟨_,_,rfl,this,rfl⟩
    | _=>simp [gy,ih,V.cells,Value.cells,a_,Rel]
   exact this _
 · rw [lR,ago]
theorem UD {az:Fr} {E:Env} {h ab:af} {w:World} (s:a8 az E h w) {t:TypeId} {n:Nat} {bd:List (Nat × V)} {iF:List (Nat × Value)} {v:V} (aj:pQ E bd iF) (he:(sO P t n).run bd h=.val v ab):
 cV az P E w (Instr.buildSlice t n iF.toArray) v ab:=by
 unfold sO at he
 cases aG:a' P t with
 | none=>rw [aG] at he;cases he
 | some aP=>
   rw [aG] at he
   simp only at he
   have hu:=e1 aG
   cases bP:aP.bc with
   | slice e=>
     rw [bP] at he hu
     simp only at he
     cases cr:a' P e with
     | none=>rw [cr] at he;cases he
     | some bf=>
       rw [cr] at he
       simp only at he
       cases bj:bf.zero with
       | none=>rw [bj] at he;cases he
       | some z=>
         rw [bj] at he
         simp only at he
         cases aw:(Nat.ble (n * bf.size) 1000000&&Nat.beq z.cells.length bf.size) with
         | false=>rw [aw] at he;cases he
         | true=>
           rw [aw] at he
           simp only [cond_true] at he
           simp only [Bool.and_eq_true,Nat.ble_eq,Nat.beq_eq] at aw
           cases aA:lC (fun i=>some (i * bf.size,bf.size)) (hN z.cells n) bd with
           | none=>rw [aA] at he;cases he
           | some cs=>
             rw [aA] at he
             simp only at he
             cases aX:fE h cs with
             | none=>rw [aX] at he;cases he
             | some aa=>
               rw [aX] at he
               simp only [aZ.val.injEq] at he
               obtain ⟨rfl,rfl⟩:=he
               obtain ⟨x,au,pe,pf⟩:=sv (P:=P) (E:=E) cr bj w
               have tE:x.cells.size=bf.size:=by rw [pf,aw.2]
               have tB:=zw pe n
               rw [tE] at tB
               obtain ⟨b,jg,o7⟩:=xV (a:=(Array.range (n * bf.size)).map (x.cells[· % x.cells.size]!)) aj (by rw [tE];exact tB) aA
               obtain ⟨ay,g1,g2,g3,g4⟩:=Cq (P:=P) s o7 aX e
               refine ⟨.slice (some ⟨w.heap.size,0,none⟩) n n,_,ay,?_,g1,?_,g4⟩
               · have ts:¬16777216<n * bf.size:=by omega
                 have lJ:(newRow e b).run P w=.ok ⟨w.heap.size,0,none⟩ {w with heap:=w.heap.push (.cells b e)}:=by simpa using g3
                 by_cases bb:n * bf.size=0
                 · have GA:Instr.fill (fun i=>some (i * bf.size,bf.size)) ((Array.range (n * bf.size)).map ((#[]:Array Value)[· % 0]!)) iF=some b:=by
                    have aB:(Array.range (n * bf.size)).map ((#[]:Array Value)[· % 0]!)=(Array.range (n * bf.size)).map (x.cells[· % x.cells.size]!):=by
                     rw [bb];simp
                    rw [aB];exact jg
                   have GB:Instr.fill (fun i=>some (i * bf.size,bf.size)) ((Array.range (n * bf.size)).map (fun x=>(#[]:Array Value)[x % (#[]:Array Value).size]!)) iF=some b:=GA
                   simp only [Instr.buildSlice,Sem.run_bind,hu,Result.andThen_ok,iW cr,Sem.run_ite]
                   rw [if_neg ts]
                   simp only [Sem.run_pure,Result.andThen_ok,if_pos bb]
                   rw [GB]
                   simp only [Sem.run_bind,lJ,Result.andThen_ok,Sem.run_pure]
                 · simp only [Instr.buildSlice,Sem.run_bind,hu,Result.andThen_ok,iW cr,Sem.run_ite]
                   rw [if_neg ts]
                   simp only [Sem.run_pure,Result.andThen_ok,if_neg bb,au]
                   rw [jg]
                   simp only [Sem.run_bind,lJ,Result.andThen_ok,Sem.run_pure]
               · simp only [Rel]
                 exact ⟨_,g2,Nat.le_refl _,by simp⟩
   | _=>rw [bP] at he;cases he
theorem afD {az:Fr} {E:Env} {h ab:af} {w:World} (s:a8 az E h w) {t:TypeId} {x y v:V} {X Y:Value} (au:Rel E x X) (a1:Rel E y Y) (he:(Cl P t).run x y h=.val v ab):
 cV az P E w (Instr.makeSlice t X Y) v ab:=by
 unfold Cl at he
 cases aG:a' P t with
 | none=>rw [aG] at he;cases he
 | some aP=>
   rw [aG] at he
   simp only at he
   have hu:=e1 aG
   cases bP:aP.bc with
   | slice e=>
     rw [bP] at he hu
     simp only at he
     cases cr:a' P e with
     | none=>rw [cr] at he;cases he
     | some bf=>
       rw [cr] at he
       simp only at he
       cases bj:bf.zero with
       | none=>rw [bj] at he;cases he
       | some z=>
         rw [bj] at he
         simp only at he
         cases qg:Nat.ble bf.bytes 4096 with
         | false=>rw [qg] at he;cases he
         | true=>
           rw [qg] at he
           simp only [cond_true,wm] at he
           obtain ⟨ck,l,rfl,BI⟩:=ze he
           obtain ⟨cJ,c,rfl,dX⟩:=ze BI
           have:=au.ic;subst this
           have:=a1.ic;subst this
           obtain ⟨aw,x9⟩:=jK dX
           simp only [Bool.and_eq_true,oo,decide_eq_true_eq,Nat.beq_eq] at aw
           obtain ⟨⟨bb,aa,ae⟩,aI⟩:=aw
           rw [Nat.ble_eq] at qg
           cases aX:fE h (hN z.cells c.toNat) with
           | none=>rw [aX] at x9;cases x9
           | some ba=>
             rw [aX] at x9
             simp only [aZ.val.injEq] at x9
             obtain ⟨rfl,rfl⟩:=x9
             obtain ⟨pI,yH,pe,pf⟩:=sv (P:=P) (E:=E) cr bj w
             have tE:pI.cells.size=bf.size:=by rw [pf,aI]
             have tB:=zw pe c.toNat
             obtain ⟨ay,g1,g2,g3,g4⟩:=Cq (P:=P) s tB aX e
             obtain ⟨i,av,rJ⟩:=Js (P:=P) cr w
             have HM:IntKind.i64.wrap l=l:=by simp only [IntKind.wrap,IntKind.bits,IntKind.signed];simp;omega
             have acn:IntKind.i64.wrap c=c:=by simp only [IntKind.wrap,IntKind.bits,IntKind.signed];simp;omega
             have hmul:(bf.bytes:Int) * c≤4096 * 1000000:=by
              have ai:(bf.bytes:Int)≤4096:=by omega
              have:=Int.mul_le_mul_of_nonneg_right (c:=c) ai (by omega)
              omega
             refine ⟨.slice (some ⟨w.heap.size,0,none⟩) l.toNat c.toNat,_,ay,?_,g1,?_,g4⟩
             · have lJ:=g3
               simp only [Array.toArray_toList] at lJ
               have bz:¬c<0:=by omega
               have bN:¬((bf.bytes:Int) * c>281474976710656):=by omega
               have c3:¬l<0:=by omega
               have gb:¬l>c:=by omega
               have same:(if c.toNat * bf.size=0 then (Array.range (c.toNat * bf.size)).map (fun x=>(#[]:Array Value)[x % (#[]:Array Value).size]!) else (Array.range (c.toNat * bf.size)).map (fun x=>pI.cells[x % pI.cells.size]!))=
                (Array.range (c.toNat * pI.cells.size)).map (pI.cells[· % pI.cells.size]!):=by
                rw [tE]
                by_cases aF:c.toNat * bf.size=0
                · rw [aF];simp
                · rw [if_neg aF]
               simp only [Instr.makeSlice,Sem.run_bind,hu,Result.andThen_ok,asInt,asIntOf,Sem.run_pure,av,HM,acn,rJ]
               rw [if_neg (by simp only [Bool.or_eq_true,decide_eq_true_eq,not_or];exact ⟨⟨⟨bz,bN⟩,c3⟩,gb⟩)]
               simp only [Result.andThen_ok,Sem.run_bind,run_askRoom,iW cr]
               by_cases aF:c.toNat * bf.size=0
               · rw [if_pos aF] at same
                 rw [if_pos aF]
                 simp only [Sem.run_pure,Result.andThen_ok,Sem.run_bind,same,lJ,Array.toArray_toList]
               · rw [if_neg aF] at same
                 rw [if_neg aF]
                 simp only [Sem.run_pure,Result.andThen_ok,Sem.run_bind,yH,same,lJ,Array.toArray_toList]
             · simp only [Rel]
               exact ⟨_,g2,by omega,by simp⟩
   | _=>rw [bP] at he;cases he
end
end Go.Proofs.YtkehcalakofigaaGreatDoor.aS
namespace Go.Proofs.YtkehcalakofigaaGreatDoor.aS
variable [Lay]
open Go Go.RowKit
theorem aQ.kN:∀{p q:aQ},aQ.gd p q=true→p=q
 | .z,.z,_=>rfl
 | .l p,.l q,h=>by rw [aQ.kN (p:=p) (q:=q) h]
 | .r p,.r q,h=>by rw [aQ.kN (p:=p) (q:=q) h]
 | .z,.l _,h=>by cases h
 | .z,.r _,h=>by cases h
 | .l _,.z,h=>by cases h
 | .l _,.r _,h=>by cases h
 | .r _,.z,h=>by cases h
 | .r _,.l _,h=>by cases h
theorem aQ.xS:∀p:aQ,aQ.gd p p=true
 | .z=>rfl
 | .l p=>aQ.xS p
 | .r p=>aQ.xS p
section
variable {P:Program}
theorem Qf {az:Fr} {E:Env} {h:af} {w:World} (s:a8 az E h w) {b:aQ} {p:hS} (aj:E b=some p) (ai:(h.get b).CS=true):(h.get b).own=true∧∃c t,w.heap[p.a7]? =some (.cells c t (0,0)):=by
 have aD:=s.at aj
 cases aH:h.get b<;>rw [aH] at ai<;>try (cases ai;done)
 rename_i n cs cp st
 rw [aH] at aD
 obtain ⟨_,p',c,el,bS,aB,_,o',_,cz,_⟩:=aD
 rw [aj] at aB;cases aB
 have:st=false:=by simpa [b3.CS] using ai
 rw [cz this] at o'
 exact ⟨rfl,c,el,o'⟩
theorem Qw {t:TypeId} (h:k' P t=true):∃e j,P.underlying t=some (.pointer e)∧P.info? e=some j∧j.size≠0:=by
 unfold k' at h
 cases aG:a' P t with
 | none=>rw [aG] at h;cases h
 | some aP=>
   rw [aG] at h
   simp only at h
   cases hu:aP.bc<;>rw [hu] at h<;>simp only at h<;>try (cases h;done)
   rename_i e
   cases he:a' P e with
   | none=>rw [he] at h;cases h
   | some bf=>
     rw [he] at h
     simp only at h
     obtain ⟨_,_,ae,_⟩:=so aG
     obtain ⟨j,g1,_,g3,_⟩:=so he
     refine ⟨e,j,by rw [ae,hu],g1,fun cT=>?_⟩
     rw [g3,cT] at h
     cases h
theorem aha {t:TypeId} (h:k' P t=true) (w:World):∃e,(underlying t).run P w=.ok (.pointer e) w:=by
 obtain ⟨e,_,aa,_⟩:=Qw h
 exact ⟨e,Jt aa w⟩
theorem ahW {t e:TypeId} {w:World} (hu:(underlying t).run P w=.ok (.pointer e) w) (b:Bool) (v:Value):(Instr.checkKey b 10000 t v).run P w=.ok () w:=by
 show (Instr.checkKey b (9999+1) t v).run P w=.ok () w
 unfold Instr.checkKey
 rw [Sem.run_bind,hu]
 rfl
theorem Qu {az:Fr} {E:Env} {h:af} {w:World} (s:a8 az E h w) {t:TypeId} (aG:k' P t=true) {x y:V} {X Y:Value} {b:Bool} (he:nB h x y=some b) (au:Rel E x X) (a1:Rel E y Y):
 (∃a c,X=.pointer (some a)∧Y=.pointer (some c))∧∀d,(Op.equalIn (d+1) t X Y).run P w=.ok b w:=by
 obtain ⟨e,j,aj,cr,b7⟩:=Qw aG
 unfold nB at he
 split at he
 case h_2=>cases he
 rename_i bR c_
 split at he
 case h_2=>cases he
 rename_i cb cW
 simp only [Rel] at au a1
 obtain ⟨p,hH,rfl⟩:=au
 obtain ⟨q,hh,rfl⟩:=a1
 refine ⟨⟨_,_,rfl,rfl⟩,fun d=>?_⟩
 cases heq:aQ.gd bR cb with
 | true=>
   rw [heq] at he
   simp only [cond_true,Option.some.injEq] at he
   have:=aQ.kN heq
   subst this
   rw [hH] at hh;cases hh
   have ai:b=decide (c_=cW):=by
    rw [←he]
    by_cases h:c_=cW
    · subst h;simp
    · rw [decide_eq_false h,←Bool.not_eq_true,Nat.beq_eq];exact h
   have key:(sameAddr ⟨p.a7,p.base+c_,none⟩ ⟨p.a7,p.base+cW,none⟩).run P w=.ok b w:=by
    rw [ai]
    by_cases h:c_=cW
    · subst h
      simpa using run_sameAddr_same w (⟨p.a7,p.base+c_,none⟩:Addr)
    · have dn:((⟨p.a7,p.base+c_,none⟩:Addr) == ⟨p.a7,p.base+cW,none⟩)=false:=by
       rw [beq_eq_false_iff_ne]
       intro e
       injection e with _ aO _
       omega
      simp [sameAddr,dn,h]
   simp [Op.equalIn,run_underlying aj,sizeOf,typeInfo,cr,b7,key]
 | false=>
   rw [heq] at he
   simp only [cond_false] at he
   obtain ⟨aw,he⟩:=dW he
   simp only [Bool.and_eq_true] at aw
   cases he
   obtain ⟨IS,bz,t1,o9⟩:=Qf s hH aw.1
   obtain ⟨IT,bN,t2,tk⟩:=Qf s hh aw.2
   have dn:(⟨p.a7,p.base+c_,none⟩:Addr)≠⟨q.a7,q.base+cW,none⟩:=by
    intro e
    injection e with aB _ _
    have:=s.inj bR cb p q IS IT hH hh aB
    subst this
    rw [aQ.xS] at heq
    cases heq
   simp [Op.equalIn,run_underlying aj,sizeOf,typeInfo,cr,b7,run_sameAddr_other w dn o9 tk]
theorem ag' {az:Fr} {E:Env} {h:af} {w:World} (s:a8 az E h w) {op:BinOp} {t:TypeId} {neg:Bool} (ki:CZ P op t=some neg) {x y:V} {fN gZ:Operand} {X Y:Value} {b:Bool} (he:nB h x y=some b) (au:Rel E x X) (a1:Rel E y Y):
 ∃Z,(do eqGuard op t fN gZ X Y;binOp op t X Y:Sem Value).run P w=.ok Z w∧Rel E (.bool (bif neg then !b else b)) Z:=by
 unfold CZ at ki
 have main:k' P t=true→((op=.eql∧neg=false)∨(op=.neq∧neg=true))→∃Z,(do eqGuard op t fN gZ X Y;binOp op t X Y:Sem Value).run P w=.ok Z w∧Rel E (.bool (bif neg then !b else b)) Z:=by
  intro aG kZ
  obtain ⟨⟨a,c,rfl,rfl⟩,cK⟩:=Qu s aG he au a1
  have aH:=fun (o:BinOp)=>A' (P:=P) (op:=o) (t:=t) (x:=fN) (y:=gZ) (X:=.pointer (some a)) (Y:=.pointer (some c)) (by simp) (.inl (by simp)) w
  have aB:(Op.equal t (.pointer (some a)) (.pointer (some c))).run P w=.ok b w:=cK 9999
  rcases kZ with ⟨rfl,rfl⟩ | ⟨rfl,rfl⟩
  · refine ⟨.bool b,?_,by simp [Rel]⟩
    rw [Sem.run_bind,aH,Result.andThen_ok,binOp_eql (X:=.pointer (some a)) True.intro,Sem.run_bind,aB]
    rfl
  · refine ⟨.bool (!b),?_,by simp [Rel]⟩
    rw [Sem.run_bind,aH,Result.andThen_ok,binOp_neq (X:=.pointer (some a)) True.intro,Sem.run_bind,aB]
    rfl
 cases op<;>simp only at ki<;>try (cases ki;done)
 · obtain ⟨aa,ae⟩:=dW ki
   cases ae
   exact main aa (.inl ⟨rfl,rfl⟩)
 · obtain ⟨aa,ae⟩:=dW ki
   cases ae
   exact main aa (.inr ⟨rfl,rfl⟩)
end
end Go.Proofs.YtkehcalakofigaaGreatDoor.aS
namespace Go.Proofs.YtkehcalakofigaaGreatDoor.aS
variable [Lay]
open Go Go.RowKit
section
variable {P:Program}
def uN (P:Program) (w:World) (E:Env) (b5:TypeId) (e:dp):Prop:=
 ∀k bn K l8 b,e.run k bn=some b→Rel E k K→Rel E bn l8→(Op.equal b5 K l8).run P w=.ok b w∧(b=true→l8=K∧Instr.sameBits 10000 K K=true)
theorem ag_ {az:Fr} {E:Env} {h:af} {w:World} (s:a8 az E h w) {b5:TypeId} (aG:k' P b5=true):uN P w E b5 ⟨nB h⟩:=by
 intro k bn K l8 b he au a1
 obtain ⟨⟨a,c,rfl,rfl⟩,cK⟩:=Qu s aG he au a1
 refine ⟨cK 9999,fun ai=>?_⟩
 subst ai
 simp only [nB] at he
 split at he
 case h_2=>cases he
 split at he
 case h_2=>cases he
 rename_i bR c_ _ cb cW
 simp only [Rel] at au a1
 obtain ⟨p,hH,au⟩:=au
 obtain ⟨q,hh,a1⟩:=a1
 cases heq:aQ.gd bR cb with
 | false=>
   rw [heq] at he
   simp only [cond_false] at he
   obtain ⟨_,he⟩:=dW he
   cases he
 | true=>
   rw [heq] at he
   simp only [cond_true,Option.some.injEq] at he
   have:=aQ.kN heq
   subst this
   rw [hH] at hh;cases hh
   have:=Nat.eq_of_beq_eq_true he
   subst this
   rw [au,a1]
   exact ⟨rfl,by simp [Instr.sameBits]⟩
theorem MC {w:World} {E:Env} {b5:TypeId} {e:dp} (kQ:uN P w E b5 e) {k:V} {K:Value} (aD:Rel E k K):∀(es:List ca) (l:List MapEntry) (r:Option V) (i:Nat),jM e k es=some r→dF E es l→
 ∃R,(Instr.findAsking b5 K l i).run P w=.ok R w∧(match r with
  | none=>R=none
  | some v=>∃j Y,R=some (j,Y)∧Rel E v Y)
 | [],l,r,i,h,aJ=>by
   simp only [dF] at aJ
   subst aJ
   simp only [jM,Option.some.injEq] at h
   subst h
   exact ⟨none,rfl,rfl⟩
 | m::ms,l,r,i,h,aJ=>by
   obtain ⟨dN,es,rfl,aa,ae,aI,bu⟩:=aJ
   simp only [jM] at h
   cases aR:e.run k m.k with
   | none=>rw [aR] at h;cases h
   | some b=>
     rw [aR] at h
     simp only at h
     obtain ⟨al,aq⟩:=kQ _ _ _ _ _ aR aD aa
     cases b with
     | true=>
       simp only [cond_true,Option.some.injEq] at h
       subst h
       exact ⟨some (i,dN.val),by simp [Instr.findAsking,al],i,dN.val,rfl,ae⟩
     | false=>
       simp only [cond_false] at h
       obtain ⟨R,g1,g2⟩:=MC kQ aD ms es r (i+1) h bu
       exact ⟨R,by simp [Instr.findAsking,al,g1],g2⟩
theorem Qx {w:World} {E:Env} {b5:TypeId} {e:dp} (kQ:uN P w E b5 e) {k v:V} {K X:Value} (aD:Rel E k K) (bs:Rel E v X) (clock:Nat):∀(es:List ca) (l:List MapEntry) (r:List ca × Bool) (i:Nat),ku e k v clock es=some r→dF E es l→
 (r.2=true→(Instr.findAsking b5 K l i).run P w=.ok none w∧dF E r.1 (l++[⟨K,X,clock⟩]))∧
 (r.2=false→∃j dN Y,(Instr.findAsking b5 K l i).run P w=.ok (some (i+j,Y)) w∧l[j]? =some dN∧Instr.sameBits 10000 dN.key K=true∧dF E r.1 (l.modify j fun dN=>{dN with key:=K,val:=X}))
 | [],l,r,i,h,aJ=>by
   simp only [dF] at aJ
   subst aJ
   simp only [ku,Option.some.injEq] at h
   subst h
   exact ⟨fun _=>⟨rfl,_,_,rfl,aD,bs,rfl,rfl⟩,fun h=>by cases h⟩
 | m::ms,l,r,i,h,aJ=>by
   obtain ⟨dN,es,rfl,aa,ae,aI,bu⟩:=aJ
   simp only [ku] at h
   cases aR:e.run k m.k with
   | none=>rw [aR] at h;cases h
   | some b=>
     rw [aR] at h
     simp only at h
     obtain ⟨al,aq⟩:=kQ _ _ _ _ _ aR aD aa
     cases b with
     | true=>
       simp only [cond_true,Option.some.injEq] at h
       subst h
       obtain ⟨aK,bG⟩:=aq rfl
       refine ⟨fun h=>(by cases h),fun _=>⟨0,dN,dN.val,by simp [Instr.findAsking,al],rfl,by rw [aK];exact bG,?_⟩⟩
       exact ⟨_,es,rfl,aD,bs,aI,bu⟩
     | false=>
       simp only [cond_false] at h
       cases aj:ku e k v clock ms with
       | none=>rw [aj] at h;cases h
       | some bt=>
         rw [aj] at h
         simp only [Option.some.injEq] at h
         subst h
         obtain ⟨g1,g2⟩:=Qx kQ aD bs clock ms es bt (i+1) aj bu
         refine ⟨fun h=>?_,fun h=>?_⟩
         · obtain ⟨bM,a2⟩:=g1 h
           exact ⟨by simp [Instr.findAsking,al,bM],⟨dN,es++[⟨K,X,clock⟩],rfl,aa,ae,aI,a2⟩⟩
         · obtain ⟨j,db,Y,bM,a2,a3,a4⟩:=g2 h
           exact ⟨j+1,db,Y,by simp [Instr.findAsking,al,bM];omega,by simpa using a2,a3,⟨dN,_,rfl,aa,ae,aI,a4⟩⟩
theorem ahY {b5:TypeId} {jd:TypeId} {w:World} (hu:(underlying b5).run P w=.ok (.pointer jd) w) {K:Value} {l:List MapEntry} {R:Option (Nat × Value)} (h:(Instr.findAsking b5 K l 0).run P w=.ok R w):
 (Instr.findKey b5 K l).run P w=.ok R w:=by
 cases l with
 | nil=>
   simp only [Instr.findAsking,Sem.run_pure] at h
   cases h
   simp [Instr.findKey,hu,Instr.findNow]
 | cons dN es=>
   have aX:Instr.findNow (.pointer jd) K (dN::es) 0=none:=by simp [Instr.findNow,Instr.sameNow]
   simp [Instr.findKey,hu,aX,h]
theorem Y_ {x y:V} (h:sX x y=true):x=y:=by
 cases x<;>simp only [sX] at h<;>try (cases h;done)
 all_goals (cases y<;>simp only at h<;>try (cases h;done))
 · rw [beq_iff_eq] at h;rw [h]
 · simp only [Bool.and_eq_true,kN,beq_iff_eq] at h
   rw [ry h.1,h.2]
 · rw [sL,beq_iff_eq] at h;rw [h]
theorem Mt:∀{xs cm:List V},sY xs cm=true→xs=cm
 | [],[],_=>rfl
 | [],_::_,h=>by cases h
 | _::_,[],h=>by cases h
 | x::xs,y::cm,h=>by
   simp only [sY] at h
   cases aa:sX x y with
   | false=>rw [aa] at h;cases h
   | true=>rw [aa] at h;rw [Y_ aa,Mt h]
theorem Y' {E:Env} {x:V} {X Y:Value} (h:sX x x=true) (c4:Rel E x X) (eQ:Rel E x Y):X=Y∧∀n,Instr.sameBits n X X=true:=by
 cases x<;>simp only [sX] at h<;>try (cases h;done)
 · simp only [Rel] at c4 eQ;subst c4 eQ;exact ⟨rfl,fun n=>by cases n<;>simp [Instr.sameBits]⟩
 · simp only [Rel] at c4 eQ;subst c4 eQ;exact ⟨rfl,fun n=>by cases n<;>simp [Instr.sameBits]⟩
 · simp only [Rel] at c4 eQ;subst c4 eQ;exact ⟨rfl,fun n=>by cases n<;>simp [Instr.sameBits,bytes_beq]⟩
theorem Ms {E:Env}:∀{xs:List V} {l dL:List Value},sY xs xs=true→a_ E xs l→a_ E xs dL→l=dL∧∀n,((l.zip l).all fun (x,y)=>Instr.sameBits n x y)=true
 | [],l,dL,_,aa,ae=>by
   simp only [a_] at aa ae
   subst aa ae
   exact ⟨rfl,fun _=>rfl⟩
 | x::xs,l,dL,h,aa,ae=>by
   obtain ⟨y,cm,rfl,bM,a2⟩:=aa
   obtain ⟨q8,alJ,rfl,bR,cb⟩:=ae
   simp only [sY] at h
   cases aw:sX x x with
   | false=>rw [aw] at h;cases h
   | true=>
     rw [aw] at h
     obtain ⟨rfl,al⟩:=Y' aw bM bR
     obtain ⟨rfl,aq⟩:=Ms h a2 cb
     exact ⟨rfl,fun n=>by simp only [List.zip_cons_cons,List.all_cons,al,aq,Bool.and_self]⟩
theorem aiI {w:World} {E:Env} {b5:TypeId}:uN P w E b5 (structEq P b5):=by
 intro k bn K l8 b he au a1
 simp only [structEq] at he
 split at he
 case h_2=>cases he
 split at he
 case h_2=>cases he
 rename_i xs _ cm
 cases aF:(gF P 12 b5).run (.agg xs) (.agg cm) with
 | none=>rw [aF] at he;cases he
 | some c=>
   rw [aF] at he
   have aR:=F4 12 Op.maxDepth b5 _ _ K l8 c (by decide) aF au a1 w
   cases c with
   | false=>
     simp only [cond_false,Option.some.injEq] at he
     subst he
     exact ⟨aR,fun h=>by cases h⟩
   | true=>
     simp only [cond_true] at he
     cases aj:sY xs cm with
     | false=>rw [aj] at he;cases he
     | true=>
       rw [aj] at he
       simp only [cond_true,Option.some.injEq] at he
       subst he
       refine ⟨aR,fun _=>?_⟩
       have:=Mt aj
       subst this
       simp only [Rel] at au a1
       obtain ⟨a,rfl,aa⟩:=au
       obtain ⟨bk,rfl,ae⟩:=a1
       obtain ⟨e,q⟩:=Ms aj aa ae
       have db:a=bk:=Array.toList_inj.1 e
       subst db
       exact ⟨rfl,by show Instr.sameBits (9999+1) _ _=true;simp only [Instr.sameBits,beq_self_eq_true,Bool.true_and];exact q _⟩
theorem run_checkKey_plain {bc:TypeDesc} (aA:mu bc=true) {t:TypeId} {w:World} (hu:(underlying t).run P w=.ok bc w) (b:Bool) (n:Nat) (v:Value):(Instr.checkKey b (n+1) t v).run P w=.ok () w:=by
 unfold Instr.checkKey
 rw [Sem.run_bind,hu]
 cases bc<;>simp only [mu] at aA<;>first
  | (cases aA;done)
  | rfl
theorem ZI {w:World} {E:Env} {cs:List V} {a:Array Value} (br:a_ E cs a.toList) (b:Bool) (n:Nat):∀(bY:List Field),Bh P cs bY=true→
 (do for f in bY do
      if f.name≠ "_" then Instr.checkKey b (n+1) f.type (←part f.type a f.offset):Sem Unit).run P w=.ok () w:=by
 intro bY
 induction bY with
 | nil=>intro _;simp
 | cons f bY bg=>
   intro h
   simp only [Bh] at h
   cases aa:(ox P f.type f.offset).run cs with
   | none=>rw [aa] at h;cases h
   | some x=>
     rw [aa] at h
     simp only at h
     cases ae:a' P f.type with
     | none=>rw [ae] at h;cases h
     | some jf=>
       rw [ae] at h
       simp only at h
       cases aI:mu jf.bc with
       | false=>rw [aI] at h;cases h
       | true=>
         rw [aI] at h
         simp only [cond_true] at h
         obtain ⟨X,c4,_⟩:=zl br aa w
         have aD:=run_checkKey_plain (P:=P) aI (e1 ae w) b n X
         have:=bg h
         by_cases aX:f.name= "_"
         · simpa [aX] using this
         · simpa [aX,c4,aD] using this
theorem aiJ {t:TypeId} (h:q1 P t=true) (w:World):∃bY,(underlying t).run P w=.ok (.struct bY) w:=by
 unfold q1 at h
 cases aG:a' P t with
 | none=>rw [aG] at h;cases h
 | some aP=>
   rw [aG] at h
   simp only at h
   have hu:=e1 aG w
   cases bP:aP.bc<;>rw [bP] at h<;>simp only at h<;>try (cases h;done)
   rw [bP] at hu
   exact ⟨_,hu⟩
theorem ahX {t:TypeId} {k:V} (aH:tN P t k=true) {E:Env} {K:Value} (aD:Rel E k K) {w:World} (b:Bool):(Instr.checkKey b 10000 t K).run P w=.ok () w:=by
 unfold tN at aH
 cases aG:a' P t with
 | none=>rw [aG] at aH;cases aH
 | some aP=>
   rw [aG] at aH
   simp only at aH
   have hu:=e1 aG w
   cases bP:aP.bc<;>rw [bP] at aH<;>simp only at aH<;>try (cases aH;done)
   rename_i bY
   rw [bP] at hu
   cases k<;>simp only at aH<;>try (cases aH;done)
   rename_i cs
   simp only [Rel] at aD
   obtain ⟨a,rfl,br⟩:=aD
   show (Instr.checkKey b (9998+1+1) t (.agg a)).run P w=.ok () w
   unfold Instr.checkKey
   rw [Sem.run_bind,hu]
   have:=ZI (P:=P) (w:=w) br b 9998 bY.toList aH
   simp only [Result.andThen_ok,Array.forIn_toList] at this ⊢
   exact this
theorem ahZ {b5:TypeId} {bY:Array Field} {w:World} (hu:(underlying b5).run P w=.ok (.struct bY) w) {K:Value} {l:List MapEntry} {R:Option (Nat × Value)} (h:(Instr.findAsking b5 K l 0).run P w=.ok R w):
 (Instr.findKey b5 K l).run P w=.ok R w:=by
 cases l with
 | nil=>
   simp only [Instr.findAsking,Sem.run_pure] at h
   cases h
   simp [Instr.findKey,hu,Instr.findNow]
 | cons dN es=>
   have aX:Instr.findNow (.struct bY) K (dN::es) 0=none:=by simp [Instr.findNow,Instr.sameNow]
   simp [Instr.findKey,hu,aX,h]
structure w6 (P:Program) (w:World) (E:Env) (b5:TypeId) (e:dp) (K:Value):Prop where
 eq:uN P w E b5 e
 check:∀b,(Instr.checkKey b 10000 b5 K).run P w=.ok () w
 find:∀{l:List MapEntry} {R},(Instr.findAsking b5 K l 0).run P w=.ok R w→(Instr.findKey b5 K l).run P w=.ok R w
theorem Eo {az:Fr} {E:Env} {h:af} {w:World} (s:a8 az E h w) {b5:TypeId} (aG:k' P b5=true) (K:Value):w6 P w E b5 ⟨nB h⟩ K:=by
 obtain ⟨Qb,lL⟩:=aha aG w
 exact ⟨ag_ s aG,fun b=>ahW lL b K,fun q=>ahY lL q⟩
theorem Ep {w:World} {E:Env} {b5:TypeId} (aG:q1 P b5=true) {k:V} (aH:tN P b5 k=true) {K:Value} (aD:Rel E k K):w6 P w E b5 (structEq P b5) K:=by
 obtain ⟨bY,lL⟩:=aiJ aG w
 exact ⟨aiI,fun b=>ahX aH aD b,fun q=>ahZ lL q⟩
end
end Go.Proofs.YtkehcalakofigaaGreatDoor.aS
namespace Go.Proofs.YtkehcalakofigaaGreatDoor.aS
variable [Lay]
open Go Go.RowKit
section
variable {P:Program}
theorem H9 {E:Env} {bc:TypeDesc} {k bn:V} {K l8:Value} {b:Bool} (he:(jU bc).run k bn=some b) (au:Rel E k K) (a1:Rel E bn l8):
 Instr.sameNow bc K l8=some b∧(b=true→l8=K∧∀n,Instr.sameBits n K K=true):=by
 cases bc<;>simp only [jU] at he<;>try (simp [dp.none] at he;done)
 case bool=>
  simp only [oY] at he
  cases k<;>simp only at he<;>try (cases he;done)
  cases bn<;>simp only at he<;>try (cases he;done)
  simp only [Rel] at au a1
  subst au a1
  simp only [Option.some.injEq] at he
  subst he
  refine ⟨rfl,fun h=>?_⟩
  rw [beq_iff_eq] at h
  subst h
  exact ⟨rfl,fun n=>by cases n<;>simp [Instr.sameBits]⟩
 case int pj=>
  simp only [kO] at he
  obtain ⟨j,m,rfl,aa⟩:=iD he
  clear he
  obtain ⟨B9,c',rfl,ae⟩:=iD aa
  clear aa
  obtain ⟨aD,h⟩:=dW ae
  clear ae
  have:=ry aD
  subst this
  simp only [Rel] at au a1
  subst au a1
  simp only [Option.some.injEq,kN] at h
  subst h
  refine ⟨by simp [Instr.sameNow],fun h=>?_⟩
  rw [beq_iff_eq] at h
  subst h
  exact ⟨rfl,fun n=>by cases n<;>simp [Instr.sameBits]⟩
 case string=>
  simp only [lB] at he
  cases k<;>simp only at he<;>try (cases he;done)
  cases bn<;>simp only at he<;>try (cases he;done)
  simp only [Rel] at au a1
  subst au a1
  simp only [Option.some.injEq,sL] at he
  subst he
  refine ⟨by simp only [Instr.sameNow,bytes_beq],fun h=>?_⟩
  rw [beq_iff_eq] at h
  subst h
  exact ⟨rfl,fun n=>by cases n<;>simp [Instr.sameBits,bytes_beq]⟩
theorem run_checkKey {bc:TypeDesc} (aA:mu bc=true) {t:TypeId} {w:World} (hu:(underlying t).run P w=.ok bc w) (b:Bool) (v:Value):(Instr.checkKey b 10000 t v).run P w=.ok () w:=by
 show (Instr.checkKey b (9999+1) t v).run P w=.ok () w
 unfold Instr.checkKey
 rw [Sem.run_bind,hu]
 cases bc<;>simp only [mu] at aA<;>first
  | (cases aA;done)
  | rfl
theorem run_findKey {bc:TypeDesc} {t:TypeId} {w:World} (hu:(underlying t).run P w=.ok bc w) {K:Value} {l:List MapEntry} {R:Option (Nat × Value)} (h:Instr.findNow bc K l 0=some R):
 (Instr.findKey t K l).run P w=.ok R w:=by
 simp only [Instr.findKey,Sem.run_bind,hu,Result.andThen_ok,h,Sem.run_pure]
theorem MH {E:Env} {bc:TypeDesc} {k:V} {K:Value} (aD:Rel E k K):∀(es:List ca) (l:List MapEntry) (r:Option V) (i:Nat),jM (jU bc) k es=some r→dF E es l→
 ∃R,Instr.findNow bc K l i=some R∧(match r with
  | none=>R=none
  | some v=>∃j Y,R=some (j,Y)∧Rel E v Y)
 | [],l,r,i,h,aJ=>by
   simp only [dF] at aJ
   subst aJ
   simp only [jM,Option.some.injEq] at h
   subst h
   exact ⟨none,rfl,rfl⟩
 | m::ms,l,r,i,h,aJ=>by
   obtain ⟨e,es,rfl,aa,ae,aI,bu⟩:=aJ
   simp only [jM] at h
   cases aR:(jU bc).run k m.k with
   | none=>rw [aR] at h;cases h
   | some b=>
     rw [aR] at h
     simp only at h
     obtain ⟨al,aq⟩:=H9 aR aD aa
     cases b with
     | true=>
       simp only [cond_true,Option.some.injEq] at h
       subst h
       exact ⟨some (i,e.val),by simp only [Instr.findNow,al],i,e.val,rfl,ae⟩
     | false=>
       simp only [cond_false] at h
       obtain ⟨R,g1,g2⟩:=MH aD ms es r (i+1) h bu
       exact ⟨R,by simp only [Instr.findNow,al,g1],g2⟩
theorem QC {E:Env} {bc:TypeDesc} {k v:V} {K X:Value} (aD:Rel E k K) (bs:Rel E v X) (clock:Nat):∀(es:List ca) (l:List MapEntry) (r:List ca × Bool) (i:Nat),ku (jU bc) k v clock es=some r→dF E es l→
 (r.2=true→Instr.findNow bc K l i=some none∧dF E r.1 (l++[⟨K,X,clock⟩]))∧
 (r.2=false→∃j e Y,Instr.findNow bc K l i=some (some (i+j,Y))∧l[j]? =some e∧Instr.sameBits 10000 e.key K=true∧dF E r.1 (l.modify j fun e=>{e with key:=K,val:=X}))
 | [],l,r,i,h,aJ=>by
   simp only [dF] at aJ
   subst aJ
   simp only [ku,Option.some.injEq] at h
   subst h
   exact ⟨fun _=>⟨rfl,_,_,rfl,aD,bs,rfl,rfl⟩,fun h=>by cases h⟩
 | m::ms,l,r,i,h,aJ=>by
   obtain ⟨e,es,rfl,aa,ae,aI,bu⟩:=aJ
   simp only [ku] at h
   cases aR:(jU bc).run k m.k with
   | none=>rw [aR] at h;cases h
   | some b=>
     rw [aR] at h
     simp only at h
     obtain ⟨al,aq⟩:=H9 aR aD aa
     cases b with
     | true=>
       simp only [cond_true,Option.some.injEq] at h
       subst h
       obtain ⟨aK,bG⟩:=aq rfl
       refine ⟨fun h=>(by cases h),fun _=>⟨0,e,e.val,by simp only [Instr.findNow,al,Nat.add_zero],rfl,by rw [aK];exact bG _,?_⟩⟩
       exact ⟨_,es,rfl,aD,bs,aI,bu⟩
     | false=>
       simp only [cond_false] at h
       cases aj:ku (jU bc) k v clock ms with
       | none=>rw [aj] at h;cases h
       | some bt=>
         rw [aj] at h
         simp only [Option.some.injEq] at h
         subst h
         obtain ⟨g1,g2⟩:=QC aD bs clock ms es bt (i+1) aj bu
         refine ⟨fun h=>?_,fun h=>?_⟩
         · obtain ⟨bM,a2⟩:=g1 h
           exact ⟨by simp only [Instr.findNow,al,bM],⟨e,es++[⟨K,X,clock⟩],rfl,aa,ae,aI,a2⟩⟩
         · obtain ⟨j,db,Y,bM,a2,a3,a4⟩:=g2 h
           exact ⟨j+1,db,Y,by simp only [Instr.findNow,al,bM];congr 3;omega,by simpa using a2,a3,e,_,rfl,aa,ae,aI,a4⟩
theorem Ik {az:Fr} {E:Env} {h:af} {w:World} (s:a8 az E h w) {x:V} {X:Value} {es:List ca} (he:pr h x=some es) (au:Rel E x X):
 (X=.map none∧es=[])∨∃r a clock,X=.map (some r)∧(getObj r).run P w=.ok (.map a clock) w∧dF E es a.toList:=by
 cases x<;>simp only [pr] at he<;>try (cases he;done)
 · simp only [Rel] at au
   exact .inl ⟨au,by simpa using he.symm⟩
 · rename_i b
   simp only [Rel] at au
   obtain ⟨p,aj,rfl⟩:=au
   have ai:=s.at aj
   cases aH:h.get b<;>rw [aH] at he<;>simp only [b3.iU] at he<;>try (cases he;done)
   simp only [Option.some.injEq] at he
   subst he
   rw [aH] at ai
   obtain ⟨q,a,aa,_,aI,bu⟩:=ai
   rw [aj] at aa;cases aa
   exact .inr ⟨p.a7,a,_,rfl,by simp only [getObj,Sem.run,aI];rfl,bu⟩
theorem ME {bc:TypeDesc} {K:Value}:∀{l:List MapEntry} {i:Nat},(∀e ∈ l,Instr.sameNow bc K e.key=some false)→Instr.findNow bc K l i=some none
 | [],_,_=>rfl
 | e::es,i,h=>by
   simp only [Instr.findNow,h e (by simp)]
   exact ME fun db dO=>h db (by simp [dO])
theorem MF {bc:TypeDesc} {K:Value}:∀{l:List MapEntry} {i:Nat},(∀e ∈ l,∃b,Instr.sameNow bc K e.key=some b)→(∃e ∈ l,Instr.sameNow bc K e.key=some true)→
 ∃j,∃e ∈ l,Instr.sameNow bc K e.key=some true∧Instr.findNow bc K l i=some (some (j,e.val))
 | [],_,_,h=>by obtain ⟨e,he,_⟩:=h;simp at he
 | e::es,i,aa,ae=>by
   obtain ⟨b,ai⟩:=aa e (by simp)
   cases b with
   | true=>exact ⟨i,e,by simp,ai,by simp only [Instr.findNow,ai]⟩
   | false=>
     obtain ⟨db,dO,aG⟩:=ae
     simp only [List.mem_cons] at dO
     rcases dO with rfl | dO
     · rw [ai] at aG;cases aG
     · obtain ⟨j,aO,al,aq,aK⟩:=MF (i:=i+1) (fun x au=>aa x (by simp [au])) ⟨db,dO,aG⟩
       exact ⟨j,aO,by simp [al],aq,by simp only [Instr.findNow,ai,aK]⟩
theorem MG {E:Env} {bc:TypeDesc} {k:V} {K:Value} (aD:Rel E k K):∀(es:List ca) (l:List MapEntry) (r:Option V),lD (jU bc) k es=some r→jI E es l→
 (∀e ∈ l,∃b,Instr.sameNow bc K e.key=some b)∧(match r with
  | none=>∀e ∈ l,Instr.sameNow bc K e.key=some false
  | some v=>(∃e ∈ l,Instr.sameNow bc K e.key=some true)∧∀e ∈ l,Instr.sameNow bc K e.key=some true→Rel E v e.val)
 | [],l,r,h,aJ=>by
   simp only [jI] at aJ
   subst aJ
   simp only [lD,Option.some.injEq] at h
   subst h
   exact ⟨fun e he=>by simp at he,fun e he=>by simp at he⟩
 | m::ms,l,r,h,aJ=>by
   obtain ⟨e,es,rfl,aa,ae,bu⟩:=aJ
   simp only [lD] at h
   cases aA:lD (jU bc) k ms with
   | none=>rw [aA] at h;cases h
   | some bt=>
     rw [aA] at h
     simp only at h
     obtain ⟨g1,g2⟩:=MG aD ms es bt aA bu
     cases aR:(jU bc).run k m.k with
     | none=>rw [aR] at h;cases h
     | some b=>
       rw [aR] at h
       simp only at h
       obtain ⟨al,_⟩:=H9 aR aD aa
       have GH:∀db ∈ e::es,∃b,Instr.sameNow bc K db.key=some b:=by
        intro db dO
        rcases List.mem_cons.1 dO with rfl | dO
        · exact ⟨b,al⟩
        · exact g1 db dO
       refine ⟨GH,?_⟩
       cases b with
       | true=>
         simp only [cond_true] at h
         cases bt with
         | some _=>cases h
         | none=>
           simp only [Option.some.injEq] at h
           subst h
           refine ⟨⟨e,by simp,al⟩,fun db dO aG=>?_⟩
           rcases List.mem_cons.1 dO with rfl | dO
           · exact ae
           · have:=g2 db dO
             rw [aG] at this;cases this
       | false=>
         simp only [cond_false,Option.some.injEq] at h
         subst h
         cases bt with
         | none=>
           intro db dO
           rcases List.mem_cons.1 dO with rfl | dO
           · exact al
           · exact g2 db dO
         | some v=>
           obtain ⟨⟨cT,d_,gC⟩,y3⟩:=g2
           refine ⟨⟨cT,by simp [d_],gC⟩,fun db dO aG=>?_⟩
           rcases List.mem_cons.1 dO with rfl | dO
           · rw [al] at aG;cases aG
           · exact y3 db dO aG
theorem Zy {E:Env} {bc:TypeDesc} {k:V} {K:Value} (aD:Rel E k K) {es:List ca} {l a:List MapEntry} {r:Option V} (h:lD (jU bc) k es=some r) (aJ:jI E es l) (aj:l.Perm a):
 ∃R,Instr.findNow bc K a 0=some R∧(match r with
  | none=>R=none
  | some v=>∃j Y,R=some (j,Y)∧Rel E v Y):=by
 obtain ⟨aa,ae⟩:=MG aD es l r h aJ
 have hm:∀e,e ∈ a↔e ∈ l:=fun e=>aj.mem_iff.symm
 cases r with
 | none=>exact ⟨none,ME fun e he=>ae e ((hm e).1 he),rfl⟩
 | some v=>
   obtain ⟨⟨cT,d_,gC⟩,y3⟩:=ae
   obtain ⟨j,e,al,aq,aK⟩:=MF (i:=0) (fun e he=>aa e ((hm e).1 he)) ⟨cT,(hm cT).2 d_,gC⟩
   exact ⟨_,aK,j,e.val,rfl,y3 e ((hm e).1 al) aq⟩
theorem afx {e:dp} {z:V} {ok:Bool} {h:af} {x k v:V} (he:iR e z ok h x k=some v):
 ot e z ok h x k=some v∨∃b es r,x=.map b∧h.get b=.gW es∧lD e k es=some r∧v=(match r with
  | some u=>bif ok then .tuple [u,.bool true] else u
  | none=>bif ok then .tuple [z,.bool false] else z):=by
 unfold iR at he
 cases x<;>simp only at he<;>try (exact .inl he)
 rename_i b
 cases aH:h.get b<;>rw [aH] at he<;>simp only at he<;>try (exact .inl he)
 rename_i es
 cases aA:lD e k es with
 | none=>rw [aA] at he;cases he
 | some r=>
   rw [aA] at he
   refine .inr ⟨b,es,r,rfl,aH,aA,?_⟩
   cases r<;>simp only [Option.some.injEq] at he<;>exact he.symm
theorem afw {az:Fr} {E:Env} {h:af} {w:World} (s:a8 az E h w) {t:TypeId} {ok:Bool} {x k v:V} {X K:Value} (au:Rel E x X) (aD:Rel E k K) (he:(Ck P t ok).run h x k=some v):
 ∃Z,(Instr.lookup t X K ok).run P w=.ok Z w∧Rel E v Z:=by
 unfold Ck at he
 cases aG:a' P t with
 | none=>rw [aG] at he;cases he
 | some aP=>
   rw [aG] at he
   simp only at he
   have hu:=e1 aG w
   cases bP:aP.bc<;>rw [bP] at he<;>simp only at he<;>try (cases he;done)
   rename_i b5 jd
   rw [bP] at hu
   cases kU:a' P b5 with
   | none=>rw [kU] at he;cases he
   | some gM=>
     rw [kU] at he
     simp only at he
     cases het:a' P jd with
     | none=>rw [het] at he;cases he
     | some bf=>
       rw [het] at he
       simp only at he
       cases bj:bf.zero with
       | none=>rw [bj] at he;cases he
       | some z=>
         rw [bj] at he
         simp only at he
         cases aA:mu gM.bc with
         | false=>
           rw [aA] at he
           simp only [cond_false] at he
           have rE:∃e,w6 P w E b5 e K∧ot e z ok h x k=some v:=by
            cases lQ:k' P b5 with
            | true=>
              rw [lQ] at he
              exact ⟨_,Eo s lQ K,he⟩
            | false=>
              rw [lQ] at he
              simp only [cond_false] at he
              cases cz:q1 P b5 with
              | false=>rw [cz] at he;cases he
              | true=>
                rw [cz] at he
                simp only [cond_true] at he
                obtain ⟨aH,he⟩:=dW he
                exact ⟨_,Ep cz aH aD,he⟩
           clear he
           obtain ⟨e,ask,he⟩:=rE
           obtain ⟨sw,lR,k1,_⟩:=wQ (P:=P) het bj E w
           simp only [ot] at he
           cases hm:pr h x with
           | none=>rw [hm] at he;cases he
           | some es=>
             rw [hm] at he
             simp only at he
             cases ti:jM e k es with
             | none=>rw [ti] at he;cases he
             | some r=>
               rw [ti] at he
               simp only at he
               have main:∀(l:List MapEntry),dF E es l→∃R,(Instr.findKey b5 K l).run P w=.ok R w∧
                ((R=none∧Rel E v (if ok=true then .tuple #[sw,.bool false] else sw))∨∃j Y,R=some (j,Y)∧Rel E v (if ok=true then .tuple #[Y,.bool true] else Y)):=by
                intro l ak
                obtain ⟨R,g1,g2⟩:=MC ask.eq aD es l r 0 ti ak
                refine ⟨R,ask.find g1,?_⟩
                cases r with
                | none=>
                  simp only at g2 he
                  refine .inl ⟨g2,?_⟩
                  simp only [Option.some.injEq] at he
                  subst he
                  cases ok
                  · exact k1
                  · simp only [cond_true,if_true,Rel,a_];exact ⟨_,rfl,_,_,rfl,k1,_,_,rfl,rfl,rfl⟩
                | some u=>
                  simp only at g2 he
                  obtain ⟨j,Y,cE,eQ⟩:=g2
                  refine .inr ⟨j,Y,cE,?_⟩
                  simp only [Option.some.injEq] at he
                  subst he
                  cases ok
                  · exact eQ
                  · simp only [cond_true,if_true,Rel,a_];exact ⟨_,rfl,_,_,rfl,eQ,_,_,rfl,rfl,rfl⟩
               rcases Ik (P:=P) s hm au with ⟨rfl,rfl⟩ | ⟨bF,a,clock,rfl,ee,qq⟩
               · obtain ⟨R,g1,g2⟩:=main [] rfl
                 have iO:=ask.check true
                 rcases g2 with ⟨rfl,g3⟩ | ⟨j,Y,rfl,g3⟩
                 all_goals
                  refine ⟨_,?_,g3⟩
                  simp only [Instr.lookup,Sem.run_bind,hu,Result.andThen_ok,Sem.run_pure]
                  have aB:(#[]:Array MapEntry).isEmpty=true:=rfl
                  rw [aB,iO,Result.andThen_ok,g1,Result.andThen_ok]
                  simp only [Sem.run_bind,lR,Result.andThen_ok,Sem.run_pure]
               · obtain ⟨R,g1,g2⟩:=main a.toList qq
                 have iO:=ask.check a.isEmpty
                 rcases g2 with ⟨rfl,g3⟩ | ⟨j,Y,rfl,g3⟩
                 all_goals
                  refine ⟨_,?_,g3⟩
                  simp only [Instr.lookup,Sem.run_bind,hu,Result.andThen_ok,Sem.run_pure,ee]
                  rw [iO,Result.andThen_ok,g1,Result.andThen_ok]
                  simp only [Sem.run_bind,lR,Result.andThen_ok,Sem.run_pure]
         | true=>
           rw [aA] at he
           simp only [cond_true] at he
           obtain ⟨sw,lR,k1,_⟩:=wQ (P:=P) het bj E w
           have lL:=e1 kU w
           rcases afx he with he | ⟨b,es,r,rfl,aH,aba,rfl⟩
           case inr=>
            simp only [Rel] at au
            obtain ⟨p,aj,rfl⟩:=au
            have ai:=s.at aj
            rw [aH] at ai
            obtain ⟨p',a,c,l,gi,_,ba,acb,acd⟩:=ai
            rw [aj] at gi;cases gi
            obtain ⟨R,g1,g2⟩:=Zy aD aba acb acd
            have ee:(getObj p.a7).run P w=.ok (.map a c) w:=by simp only [getObj,Sem.run,ba]
            have iO:=run_checkKey (P:=P) aA lL a.isEmpty K
            have Bp:=run_findKey lL g1
            cases r with
            | none=>
              simp only at g2
              subst g2
              refine ⟨if ok=true then .tuple #[sw,.bool false] else sw,?_,?_⟩
              · simp only [Instr.lookup,Sem.run_bind,hu,Result.andThen_ok,Sem.run_pure,ee]
                rw [iO,Result.andThen_ok,Bp,Result.andThen_ok]
                simp only [Sem.run_bind,lR,Result.andThen_ok,Sem.run_pure]
              · cases ok
                · exact k1
                · simp only [cond_true,if_true,Rel,a_];exact ⟨_,rfl,_,_,rfl,k1,_,_,rfl,rfl,rfl⟩
            | some u=>
              simp only at g2
              obtain ⟨j,Y,rfl,eQ⟩:=g2
              refine ⟨if ok=true then .tuple #[Y,.bool true] else Y,?_,?_⟩
              · simp only [Instr.lookup,Sem.run_bind,hu,Result.andThen_ok,Sem.run_pure,ee]
                rw [iO,Result.andThen_ok,Bp,Result.andThen_ok]
                simp only [Sem.run_bind,Sem.run_pure,Result.andThen_ok]
              · cases ok
                · exact eQ
                · simp only [cond_true,if_true,Rel,a_];exact ⟨_,rfl,_,_,rfl,eQ,_,_,rfl,rfl,rfl⟩
           simp only [ot] at he
           cases hm:pr h x with
           | none=>rw [hm] at he;cases he
           | some es=>
             rw [hm] at he
             simp only at he
             cases ti:jM (jU gM.bc) k es with
             | none=>rw [ti] at he;cases he
             | some r=>
               rw [ti] at he
               simp only at he
               have main:∀(l:List MapEntry),dF E es l→∃R,(Instr.findKey b5 K l).run P w=.ok R w∧
                ((R=none∧Rel E v (if ok=true then .tuple #[sw,.bool false] else sw))∨∃j Y,R=some (j,Y)∧Rel E v (if ok=true then .tuple #[Y,.bool true] else Y)):=by
                intro l ak
                obtain ⟨R,g1,g2⟩:=MH aD es l r 0 ti ak
                refine ⟨R,run_findKey lL g1,?_⟩
                cases r with
                | none=>
                  simp only at g2 he
                  refine .inl ⟨g2,?_⟩
                  simp only [Option.some.injEq] at he
                  subst he
                  cases ok
                  · exact k1
                  · simp only [cond_true,if_true,Rel,a_];exact ⟨_,rfl,_,_,rfl,k1,_,_,rfl,rfl,rfl⟩
                | some u=>
                  simp only at g2 he
                  obtain ⟨j,Y,cE,eQ⟩:=g2
                  refine .inr ⟨j,Y,cE,?_⟩
                  simp only [Option.some.injEq] at he
                  subst he
                  cases ok
                  · exact eQ
                  · simp only [cond_true,if_true,Rel,a_];exact ⟨_,rfl,_,_,rfl,eQ,_,_,rfl,rfl,rfl⟩
               rcases Ik (P:=P) s hm au with ⟨rfl,rfl⟩ | ⟨bF,a,clock,rfl,ee,qq⟩
               · obtain ⟨R,g1,g2⟩:=main [] rfl
                 have iO:=run_checkKey (P:=P) aA lL true K
                 rcases g2 with ⟨rfl,g3⟩ | ⟨j,Y,rfl,g3⟩
                 all_goals
                  refine ⟨_,?_,g3⟩
                  simp only [Instr.lookup,Sem.run_bind,hu,Result.andThen_ok,Sem.run_pure]
                  have aB:(#[]:Array MapEntry).isEmpty=true:=rfl
                  rw [aB,iO,Result.andThen_ok,g1,Result.andThen_ok]
                  simp only [Sem.run_bind,lR,Result.andThen_ok,Sem.run_pure]
               · obtain ⟨R,g1,g2⟩:=main a.toList qq
                 have iO:=run_checkKey (P:=P) aA lL a.isEmpty K
                 rcases g2 with ⟨rfl,g3⟩ | ⟨j,Y,rfl,g3⟩
                 all_goals
                  refine ⟨_,?_,g3⟩
                  simp only [Instr.lookup,Sem.run_bind,hu,Result.andThen_ok,Sem.run_pure,ee]
                  rw [iO,Result.andThen_ok,g1,Result.andThen_ok]
                  simp only [Sem.run_bind,lR,Result.andThen_ok,Sem.run_pure]
theorem RV {az:Fr} {E:Env} {h ab:af} {w:World} (s:a8 az E h w) {t:TypeId} {x k v:V} {X K Y:Value} (au:Rel E x X) (aD:Rel E k K) (bs:Rel E v Y) (he:(nF P t).run h x k v=some ab):
 ∃ar,(Instr.mapUpdate t X K Y).run P w=.ok () ar∧a8 az E ab ar:=by
 unfold nF at he
 cases aG:a' P t with
 | none=>rw [aG] at he;cases he
 | some aP=>
   rw [aG] at he
   simp only at he
   have hu:=e1 aG w
   cases bP:aP.bc<;>rw [bP] at he<;>simp only at he<;>try (cases he;done)
   rename_i b5 jd
   rw [bP] at hu
   cases kU:a' P b5 with
   | none=>rw [kU] at he;cases he
   | some gM=>
     rw [kU] at he
     simp only at he
     cases aA:mu gM.bc with
     | false=>
       rw [aA] at he
       simp only [cond_false] at he
       have rE:∃e,w6 P w E b5 e K∧nG e h x k v=some ab:=by
        cases lQ:k' P b5 with
        | true=>
          rw [lQ] at he
          exact ⟨_,Eo s lQ K,he⟩
        | false=>
          rw [lQ] at he
          simp only [cond_false] at he
          cases cz:q1 P b5 with
          | false=>rw [cz] at he;cases he
          | true=>
            rw [cz] at he
            simp only [cond_true] at he
            obtain ⟨aH,he⟩:=dW he
            exact ⟨_,Ep cz aH aD,he⟩
       clear he
       obtain ⟨e,ask,he⟩:=rE
       cases x<;>simp only [nG] at he<;>try (cases he;done)
       rename_i b
       simp only [Rel] at au
       obtain ⟨p,aj,rfl⟩:=au
       have ai:=s.at aj
       cases aH:h.get b<;>rw [aH] at he<;>simp only [b3.iU] at he<;>try (cases he;done)
       rename_i es clock
       rw [aH] at ai
       obtain ⟨q,a,aa,cS,aI,bu⟩:=ai
       rw [aj] at aa;cases aa
       cases tz:ku e k v clock es with
       | none=>rw [tz] at he;cases he
       | some r=>
         rw [tz] at he
         simp only [Option.some.injEq] at he
         subst he
         have ee:(getObj p.a7).run P w=.ok (.map a clock) w:=by simp only [getObj,Sem.run,aI]
         have iO:=ask.check false
         have kh:=(Array.getElem?_eq_some_iff.1 aI).1
         have xP:∀(bk:Array MapEntry) (e3:Nat),dF E r.1 bk.toList→e3=(bif r.2 then clock+1 else clock)→
          ∃ar,(setObj p.a7 (.map bk e3)).run P w=.ok () ar∧a8 az E (h.set b (.mp r.1 (bif r.2 then clock+1 else clock))) ar:=by
          intro bk e3 hm aw
          refine ⟨{w with heap:=w.heap.setIfInBounds p.a7 (.map bk e3)},by simp only [setObj,Sem.run,aI],s.set (p:=p) (by rw [aH];rfl) aj cS (by simp) (fun j bH=>?_) rfl rfl rfl (fun _ _ _ e=>by cases e) ?_⟩
          · simp only [Array.getElem?_setIfInBounds]
            rw [if_neg (fun e=>bH e.symm)]
          · exact ⟨p,bk,aj,cS,by simp [kh,aw],hm⟩
         obtain ⟨g1,g2⟩:=Qx ask.eq aD bs clock es a.toList r 0 tz bu
         cases kj:r.2 with
         | true=>
           obtain ⟨bM,a2⟩:=g1 kj
           obtain ⟨ar,d1,d2⟩:=xP (a.push ⟨K,Y,clock⟩) (clock+1) (by simpa using a2) (by rw [kj];rfl)
           rw [kj] at d2
           refine ⟨ar,?_,d2⟩
           simp only [Instr.mapUpdate,Sem.run_bind,hu,Result.andThen_ok,ee,iO,ask.find bM,d1]
         | false=>
           obtain ⟨j,dN,TA,bM,a2,a3,a4⟩:=g2 kj
           obtain ⟨ar,d1,d2⟩:=xP (a.modify j fun dN=>{dN with key:=K,val:=Y}) clock (by simpa using a4) (by rw [kj];rfl)
           rw [kj] at d2
           refine ⟨ar,?_,d2⟩
           rw [Nat.zero_add] at bM
           have aB:a[j]? =some dN:=by simpa using a2
           simp only [Instr.mapUpdate,Sem.run_bind,hu,Result.andThen_ok,ee,iO,ask.find bM,aB,Option.map,Option.getD,Instr.keyThatStays,a3,if_true,Sem.run_pure,d1]
     | true=>
       rw [aA] at he
       simp only [cond_true] at he
       have lL:=e1 kU w
       cases x<;>simp only [nG] at he<;>try (cases he;done)
       rename_i b
       simp only [Rel] at au
       obtain ⟨p,aj,rfl⟩:=au
       have ai:=s.at aj
       cases aH:h.get b<;>rw [aH] at he<;>simp only [b3.iU] at he<;>try (cases he;done)
       rename_i es clock
       rw [aH] at ai
       obtain ⟨q,a,aa,cS,aI,bu⟩:=ai
       rw [aj] at aa;cases aa
       cases tz:ku (jU gM.bc) k v clock es with
       | none=>rw [tz] at he;cases he
       | some r=>
         rw [tz] at he
         simp only [Option.some.injEq] at he
         subst he
         have ee:(getObj p.a7).run P w=.ok (.map a clock) w:=by simp only [getObj,Sem.run,aI]
         have iO:=run_checkKey (P:=P) aA lL false K
         have kh:=(Array.getElem?_eq_some_iff.1 aI).1
         have done:∀(bk:Array MapEntry) (e3:Nat),dF E r.1 bk.toList→e3=(bif r.2 then clock+1 else clock)→
          ∃ar,(setObj p.a7 (.map bk e3)).run P w=.ok () ar∧a8 az E (h.set b (.mp r.1 (bif r.2 then clock+1 else clock))) ar:=by
          intro bk e3 hm aw
          refine ⟨{w with heap:=w.heap.setIfInBounds p.a7 (.map bk e3)},by simp only [setObj,Sem.run,aI],s.set (p:=p) (by rw [aH];rfl) aj cS (by simp) (fun j bH=>?_) rfl rfl rfl (fun _ _ _ e=>by cases e) ?_⟩
          · simp only [Array.getElem?_setIfInBounds]
            rw [if_neg (fun e=>bH e.symm)]
          · exact ⟨p,bk,aj,cS,by simp [kh,aw],hm⟩
         obtain ⟨g1,g2⟩:=QC aD bs clock es a.toList r 0 tz bu
         cases kj:r.2 with
         | true=>
           obtain ⟨bM,a2⟩:=g1 kj
           obtain ⟨ar,d1,d2⟩:=done (a.push ⟨K,Y,clock⟩) (clock+1) (by simpa using a2) (by rw [kj];rfl)
           rw [kj] at d2
           refine ⟨ar,?_,d2⟩
           simp only [Instr.mapUpdate,Sem.run_bind,hu,Result.andThen_ok,ee,iO,run_findKey lL bM,d1]
         | false=>
           obtain ⟨j,e,TA,bM,a2,a3,a4⟩:=g2 kj
           obtain ⟨ar,d1,d2⟩:=done (a.modify j fun e=>{e with key:=K,val:=Y}) clock (by simpa using a4) (by rw [kj];rfl)
           rw [kj] at d2
           refine ⟨ar,?_,d2⟩
           rw [Nat.zero_add] at bM
           have aB:a[j]? =some e:=by simpa using a2
           simp only [Instr.mapUpdate,Sem.run_bind,hu,Result.andThen_ok,ee,iO,run_findKey lL bM,aB,Option.map,Option.getD,Instr.keyThatStays,a3,if_true,Sem.run_pure,d1]
theorem Pz {az:Fr} {E:Env} {h ab:af} {w:World} (s:a8 az E h w) {v:V} (he:tS h=.val v ab):cV az P E w (do pure (.map (some (←newObj (.map #[] 0))))) v ab:=by
 unfold tS at he
 simp only [aZ.val.injEq] at he
 obtain ⟨rfl,rfl⟩:=he
 have de:=s.fresh h.next (Nat.le_refl _)
 have dy:E.put (aC h.next) ⟨w.heap.size,0,0⟩ (aC h.next)=some ⟨w.heap.size,0,0⟩:=by unfold Env.put;rw [if_pos rfl]
 refine ⟨.map (some w.heap.size),{w with heap:=w.heap.push (.map #[] 0)},_,?_,Env.jW (p:=⟨w.heap.size,0,0⟩) de,?_,s.alloc 0 ?_⟩
 · simp only [Sem.run_bind,run_newObj,Result.andThen_ok,Sem.run_pure]
 · simp only [Rel];exact ⟨_,dy,rfl⟩
 · exact ⟨_,#[],dy,s.frame.size,by simp,rfl⟩
theorem afC {az:Fr} {E:Env} {h ab:af} {w:World} (s:a8 az E h w) {t:TypeId} {x:Option V} {X:Option Value} {v:V} (au:gY E x X) (he:wk P t x h=.val v ab):cV az P E w (Instr.makeMap t X) v ab:=by
 unfold wk at he
 cases aG:a' P t with
 | none=>rw [aG] at he;cases he
 | some aP=>
   rw [aG] at he
   simp only at he
   have hu:=e1 aG
   cases ai:Nat.beq (ev aP.bc) 3 with
   | false=>rw [ai] at he;cases he
   | true=>
     rw [ai] at he
     simp only [cond_true] at he
     cases x with
     | none=>
       have:X=none:=by cases X with | none=>rfl | some _=>simp [gY] at au
       subst this
       simp only [r1] at he
       have:=Pz (P:=P) s he
       exact this
     | some u=>
       simp only [r1] at he
       obtain ⟨cU,n,rfl,aa⟩:=ze he
       obtain ⟨Y,rfl,eQ⟩:∃Y,X=some Y∧Rel E (.int cU n) Y:=by
        cases X with
        | none=>simp [gY] at au
        | some Y=>simp only [gY] at au;obtain ⟨aj1,aa,ae⟩:=au;cases aa;exact ⟨_,rfl,ae⟩
       have:=eQ.ic;subst this
       obtain ⟨Z,ar,ay,al,aq⟩:=Pz (P:=P) s aa
       refine ⟨Z,ar,ay,?_,aq⟩
       cases bP:aP.bc<;>rw [bP] at ai<;>simp [ev] at ai
       have hu:=hu w
       rw [bP] at hu
       simp only [Instr.makeMap,Sem.run_bind,hu,Result.andThen_ok,asInt,Sem.run_pure]
       exact al
theorem afa {az:Fr} {E:Env} {h ab:af} {w:World} (s:a8 az E h w) {t:TypeId} {aP:l_} (aG:a' P t=some aP) (hm:rU aP.bc=true) {x v:V} {X:Value} (au:Rel E x X) (ty:TypeId) (rest:List TypeId)
 (he:yX [x] h=.val v ab):cV az P E w (Builtin.len_ (t::rest).toArray ty #[X]) v ab:=by
 simp only [yX] at he
 cases aR:pr h x with
 | none=>rw [aR] at he;cases he
 | some es=>
   rw [aR] at he
   simp only [aZ.val.injEq] at he
   obtain ⟨rfl,rfl⟩:=he
   have hu:=e1 aG w
   cases bP:aP.bc<;>rw [bP] at hm<;>simp [rU] at hm
   rw [bP] at hu
   rcases Ik (P:=P) s aR au with ⟨rfl,rfl⟩ | ⟨bF,a,clock,rfl,ee,qq⟩
   · refine cV.plain (Z:=goInt 0) s ?_ (by simp [Rel,goInt])
     simp [Builtin.len_,hu]
   · have hlen:∀(ms:List ca) (l:List MapEntry),dF E ms l→l.length=ms.length:=by
      intro ms
      induction ms with
      | nil=>intro l h;simp only [dF] at h;subst h;rfl
      | cons m ms bg=>intro l h;obtain ⟨e,es,rfl,_,_,_,bu⟩:=h;simp [bg _ bu]
     refine cV.plain (Z:=goInt a.size) s ?_ ?_
     · simp [Builtin.len_,hu,ee]
     · have:=hlen _ _ qq
       simp only [Array.length_toList] at this
       simp [Rel,goInt,this]
end
end Go.Proofs.YtkehcalakofigaaGreatDoor.aS
namespace Go.Proofs.YtkehcalakofigaaGreatDoor.aS
variable [Lay]
open Go Go.RowKit
section
variable {P:Program}
theorem MB {E:Env} {v:V} {Y:Value} (bs:Rel E v Y) {n:Nat}:∀(es:List ca) (l:List MapEntry) (r:List ca),vh n v es=some r→dF E es l→
 ∃j,l.findIdx? (fun e=>(e.born:Int) == (n:Int))=some j∧dF E r (l.modify j fun e=>{e with val:=Y})
 | [],l,r,h,aJ=>by cases h
 | m::ms,l,r,h,aJ=>by
   obtain ⟨e,es,rfl,aa,ae,aI,bu⟩:=aJ
   simp only [vh] at h
   cases ai:Nat.beq m.born n with
   | true=>
     rw [ai] at h
     simp only [cond_true,Option.some.injEq] at h
     subst h
     have aX:=Nat.eq_of_beq_eq_true ai
     refine ⟨0,by simp [List.findIdx?_cons,aI,aX],?_⟩
     exact ⟨_,es,rfl,aa,bs,aI,bu⟩
   | false=>
     rw [ai] at h
     simp only [cond_false] at h
     cases aA:vh n v ms with
     | none=>rw [aA] at h;cases h
     | some bt=>
       rw [aA] at h
       simp only [Option.some.injEq] at h
       subst h
       obtain ⟨j,g1,g2⟩:=MB bs ms es bt aA bu
       have dn:¬((e.born:Int) == (n:Int))=true:=by
        rw [aI]
        intro aF
        have vP:(m.born:Int)=(n:Int):=by simpa using aF
        have abR:m.born=n:=by omega
        rw [abR,Nat.beq_refl] at ai
        cases ai
       refine ⟨j+1,by simp only [List.findIdx?_cons,dn];simp [g1],⟨e,_,by simp [List.modify],aa,ae,aI,g2⟩⟩
theorem Y7 {az:Fr} {E:Env} {h ab:af} {w:World} (s:a8 az E h w) {t:TypeId} {x st v:V} {X S Y:Value} (au:Rel E x X) (cz:Rel E st S) (bs:Rel E v Y) (he:A9 h x st v=some ab):
 ∃ar,(Instr.entryStore t X S Y).run P w=.ok () ar∧a8 az E ab ar:=by
 unfold A9 at he
 split at he
 case h_2=>cases he
 rename_i b
 split at he
 case h_2=>cases he
 rename_i cU m
 split at he
 case h_2=>cases he
 rename_i n
 simp only [Rel] at au cz
 obtain ⟨p,aj,rfl⟩:=au
 subst cz
 have ai:=s.at aj
 cases aH:h.get b<;>rw [aH] at he<;>simp only [b3.iU] at he<;>try (cases he;done)
 rename_i es clock
 rw [aH] at ai
 obtain ⟨q,a,aa,cS,aI,bu⟩:=ai
 rw [aj] at aa;cases aa
 cases aA:vh n v es with
 | none=>rw [aA] at he;cases he
 | some r=>
   rw [aA] at he
   simp only [Option.some.injEq] at he
   subst he
   obtain ⟨j,g1,g2⟩:=MB bs es a.toList r aA bu
   have ee:(getObj p.a7).run P w=.ok (.map a clock) w:=by simp only [getObj,Sem.run,aI]
   have kh:=(Array.getElem?_eq_some_iff.1 aI).1
   have Bp:a.findIdx? (fun e=>(e.born:Int) == (n:Int))=some j:=by
    rw [←g1]
    cases a with | mk aeS=>simp
   have br:(asInt (.int cU (Int.ofNat n))).run P w=.ok (n:Int) w:=by simp [asInt,asIntOf]
   refine ⟨{w with heap:=w.heap.setIfInBounds p.a7 (.map (a.modify j fun e=>{e with val:=Y}) clock)},?_,s.set (p:=p) (by rw [aH];rfl) aj cS (by simp) (fun j bH=>?_) rfl rfl rfl (fun _ _ _ e=>by cases e) ?_⟩
   · simp only [Instr.entryStore,Sem.run_bind,ee,Result.andThen_ok,br,Bp,setObj,Sem.run,aI]
   · simp only [Array.getElem?_setIfInBounds]
     rw [if_neg (fun e=>bH e.symm)]
   · exact ⟨p,a.modify j fun e=>{e with val:=Y},aj,cS,by simp [kh],by rw [Array.toList_modify];exact g2⟩
theorem MD {w:World} {E:Env} {b5:TypeId} {e:dp} (kQ:uN P w E b5 e) {k:V} {K:Value} (aD:Rel E k K):∀(es:List ca) (l:List MapEntry) (r:Option ca) (i:Nat),vi e k es=some r→dF E es l→
 (r=none→(Instr.findAsking b5 K l i).run P w=.ok none w)∧
 (∀m,r=some m→∃j dN,(Instr.findAsking b5 K l i).run P w=.ok (some (i+j,dN.val)) w∧l[j]? =some dN∧dN.key=K∧Rel E m.v dN.val∧dN.born=m.born∧Instr.sameBits 10000 K K=true∧dF E es (l.modify j fun dN=>{dN with key:=K}))
 | [],l,r,i,h,aJ=>by
   simp only [dF] at aJ
   subst aJ
   simp only [vi,Option.some.injEq] at h
   subst h
   exact ⟨fun _=>rfl,fun m hm=>by cases hm⟩
 | m::ms,l,r,i,h,aJ=>by
   obtain ⟨dN,es,rfl,aa,ae,aI,bu⟩:=aJ
   simp only [vi] at h
   cases aR:e.run k m.k with
   | none=>rw [aR] at h;cases h
   | some b=>
     rw [aR] at h
     simp only at h
     obtain ⟨al,aq⟩:=kQ _ _ _ _ _ aR aD aa
     cases b with
     | true=>
       simp only [cond_true,Option.some.injEq] at h
       subst h
       obtain ⟨aK,bG⟩:=aq rfl
       refine ⟨fun h=>(by cases h),fun c' hm=>?_⟩
       cases hm
       exact ⟨0,dN,by simp [Instr.findAsking,al],rfl,aK,ae,aI,bG,⟨_,es,rfl,by rw [←aK];exact aa,ae,aI,bu⟩⟩
     | false=>
       simp only [cond_false] at h
       obtain ⟨g1,g2⟩:=MD kQ aD ms es r (i+1) h bu
       refine ⟨fun h=>by simp [Instr.findAsking,al,g1 h],fun c' hm=>?_⟩
       obtain ⟨j,Y6,bM,a2,a3,a4,a5,iq,Ei⟩:=g2 c' hm
       exact ⟨j+1,Y6,by simp [Instr.findAsking,al,bM];omega,by simpa using a2,a3,a4,a5,iq,⟨dN,_,rfl,aa,ae,aI,Ei⟩⟩
theorem Pm {az:Fr} {E:Env} {h ab:af} {w:World} (s:a8 az E h w) {t b5 jd:TypeId} (hu:(underlying t).run P w=.ok (.map b5 jd) w) {e:dp} {z:V} {Z:Value} (bj:(zeroValue jd).run P w=.ok Z w) (k1:Rel E z Z)
 {x k v:V} {X K:Value} (au:Rel E x X) (aD:Rel E k K) (ask:w6 P w E b5 e K) (he:wo e z h x k=some (v,ab)):cV az P E w (Instr.mapEntry t X K) v ab:=by
 unfold wo at he
 split at he
 case h_2=>cases he
 rename_i b
 simp only [Rel] at au
 obtain ⟨p,aj,rfl⟩:=au
 have ai:=s.at aj
 cases aH:h.get b<;>rw [aH] at he<;>simp only [b3.iU] at he<;>try (cases he;done)
 rename_i es clock
 rw [aH] at ai
 obtain ⟨q,a,aa,cS,aI,bu⟩:=ai
 rw [aj] at aa;cases aa
 have ee:(getObj p.a7).run P w=.ok (.map a clock) w:=by simp only [getObj,Sem.run,aI]
 have iO:=ask.check false
 have kh:=(Array.getElem?_eq_some_iff.1 aI).1
 have xP:∀(h':List ca) (bk:Array MapEntry) (e3:Nat),dF E h' bk.toList→
  ∃ar,(setObj p.a7 (.map bk e3)).run P w=.ok () ar∧a8 az E (h.set b (.mp h' e3)) ar:=by
  intro h' bk e3 hm
  refine ⟨{w with heap:=w.heap.setIfInBounds p.a7 (.map bk e3)},by simp only [setObj,Sem.run,aI],s.set (p:=p) (by rw [aH];rfl) aj cS (by simp) (fun j bH=>?_) rfl rfl rfl (fun _ _ _ e=>by cases e) ?_⟩
  · simp only [Array.getElem?_setIfInBounds]
    rw [if_neg (fun e=>bH e.symm)]
  · exact ⟨p,bk,aj,cS,by simp [kh],hm⟩
 cases aA:vi e k es with
 | none=>rw [aA] at he;cases he
 | some r=>
   rw [aA] at he
   simp only at he
   obtain ⟨g1,g2⟩:=MD ask.eq aD es a.toList r 0 aA bu
   cases r with
   | none=>
     simp only [Option.some.injEq,Prod.mk.injEq] at he
     obtain ⟨rfl,rfl⟩:=he
     have bM:=ask.find (g1 rfl)
     obtain ⟨ar,d1,d2⟩:=xP (es++[⟨k,z,clock⟩]) (a.push ⟨K,Z,clock⟩) (clock+1) (by
      have:∀(es:List ca) (l:List MapEntry),dF E es l→dF E (es++[⟨k,z,clock⟩]) (l++[⟨K,Z,clock⟩]):=by
       intro es
       induction es with
       | nil=>intro l ak;simp only [dF] at ak;subst ak;exact ⟨_,_,rfl,aD,k1,rfl,rfl⟩
       | cons m ms bg=>intro l ak;obtain ⟨dN,h',rfl,bR,cb,hr,lr⟩:=ak;exact ⟨dN,_,rfl,bR,cb,hr,bg _ lr⟩
      simpa using this es a.toList bu)
     refine ⟨.tuple #[Z,goInt clock],ar,E,?_,Env.le.refl E,?_,d2⟩
     · simp only [Instr.mapEntry,Sem.run_bind,hu,Result.andThen_ok,ee,iO,bM,bj,d1,Sem.run_pure]
     · simp only [Rel,a_];exact ⟨_,rfl,_,_,rfl,k1,_,_,rfl,rfl,rfl⟩
   | some m=>
     simp only [Option.some.injEq,Prod.mk.injEq] at he
     obtain ⟨rfl,rfl⟩:=he
     obtain ⟨j,dN,bM,a2,a3,a4,a5,iq,Ei⟩:=g2 m rfl
     rw [Nat.zero_add] at bM
     have bR:=ask.find bM
     have aB:a[j]? =some dN:=by simpa using a2
     obtain ⟨ar,d1,d2⟩:=xP es (a.modify j fun dN=>{dN with key:=K}) clock (by rw [Array.toList_modify];exact Ei)
     refine ⟨.tuple #[dN.val,goInt dN.born],ar,E,?_,Env.le.refl E,?_,d2⟩
     · simp only [Instr.mapEntry,Sem.run_bind,hu,Result.andThen_ok,ee,iO,bR,aB,Option.map,Option.getD,a3,Instr.keyThatStays,iq,if_true,Sem.run_pure,d1]
     · simp only [Rel,a_];exact ⟨_,rfl,_,_,rfl,a4,_,_,rfl,by rw [a5];rfl,rfl⟩
theorem afF {az:Fr} {E:Env} {h ab:af} {w:World} (s:a8 az E h w) {t:TypeId} {x k v:V} {X K:Value} (au:Rel E x X) (aD:Rel E k K) (he:(Ij P t).run x k h=.val v ab):cV az P E w (Instr.mapEntry t X K) v ab:=by
 unfold Ij at he
 cases aG:a' P t with
 | none=>rw [aG] at he;cases he
 | some aP=>
   rw [aG] at he
   simp only at he
   have hu:=e1 aG w
   cases bP:aP.bc<;>rw [bP] at he<;>simp only at he<;>try (cases he;done)
   rename_i b5 jd
   rw [bP] at hu
   cases het:a' P jd with
   | none=>rw [het] at he;cases he
   | some bf=>
     rw [het] at he
     simp only at he
     cases bj:bf.zero with
     | none=>rw [bj] at he;cases he
     | some z=>
       rw [bj] at he
       simp only at he
       obtain ⟨sw,lR,k1,_⟩:=wQ (P:=P) het bj E w
       cases lQ:k' P b5 with
       | true=>
         rw [lQ] at he
         simp only [cond_true,Mn] at he
         cases hm:wo ⟨nB h⟩ z h x k with
         | none=>rw [hm] at he;cases he
         | some r=>
           rw [hm] at he
           simp only [aZ.val.injEq] at he
           obtain ⟨rfl,rfl⟩:=he
           exact Pm s hu lR k1 au aD (Eo s lQ K) hm
       | false=>
         rw [lQ] at he
         simp only [cond_false] at he
         cases cz:q1 P b5 with
         | false=>rw [cz] at he;cases he
         | true=>
           rw [cz] at he
           simp only [cond_true,Mo] at he
           cases aH:tN P b5 k with
           | false=>rw [aH] at he;cases he
           | true=>
             rw [aH] at he
             simp only [cond_true] at he
             cases hm:wo (structEq P b5) z h x k with
             | none=>rw [hm] at he;cases he
             | some r=>
               rw [hm] at he
               simp only [aZ.val.injEq] at he
               obtain ⟨rfl,rfl⟩:=he
               exact Pm s hu lR k1 au aD (Ep cz aH aD) hm
end
end Go.Proofs.YtkehcalakofigaaGreatDoor.aS
namespace Go.Proofs.YtkehcalakofigaaGreatDoor.aS
variable [Lay]
open Go Go.RowKit
section
variable {P:Program}
theorem No (n:Nat):∀(l:List Nat),rD l n=true↔n ∈ l
 | []=>by simp [rD]
 | x::xs=>by
   simp only [rD]
   cases ai:Nat.beq x n with
   | true=>have:=Nat.eq_of_beq_eq_true ai;subst this;simp
   | false=>
     have dn:x≠n:=fun e=>by subst e;rw [Nat.beq_refl] at ai;cases ai
     simp [No n xs,Ne.symm dn]
theorem aaM {a:Array Nat} {seen:List Nat} (h:a.toList=seen.reverse) (n:Nat):a.contains n=rD seen n:=by
 rw [Bool.eq_iff_iff,No,Array.contains_iff_mem,←Array.mem_toList_iff,h,List.mem_reverse]
theorem O1 {E:Env} {a:Array Nat} {seen:List Nat} (h:a.toList=seen.reverse):∀(ms:List ca) (l:List MapEntry),dF E ms l→dF E (leftOf seen ms) (l.filter fun e=>!a.contains e.born)
 | [],l,aJ=>by simp only [dF] at aJ;subst aJ;rfl
 | m::ms,l,aJ=>by
   obtain ⟨e,es,rfl,aa,ae,aI,bu⟩:=aJ
   have bg:=O1 h ms es bu
   have aF:a.contains e.born=rD seen m.born:=by rw [aaM h,aI]
   cases ai:rD seen m.born with
   | true=>
     rw [ai] at aF
     rw [List.filter_cons_of_neg (by rw [aF];decide)]
     simp only [leftOf,ai,cond_true]
     exact bg
   | false=>
     rw [ai] at aF
     rw [List.filter_cons_of_pos (by rw [aF];decide)]
     simp only [leftOf,ai,cond_false]
     exact ⟨e,_,rfl,aa,ae,aI,bg⟩
theorem KK {E:Env} {last:Nat}:∀(ms:List ca) (l:List MapEntry),dF E ms l→l.all (fun e=>decide (e.born≥last))=uS last ms
 | [],l,aJ=>by simp only [dF] at aJ;subst aJ;rfl
 | m::ms,l,aJ=>by
   obtain ⟨e,es,rfl,aa,ae,aI,bu⟩:=aJ
   simp only [uS,List.all_cons,KK ms es bu,aI]
   cases ai:Nat.ble last m.born with
   | true=>rw [Nat.ble_eq] at ai;simp [ai]
   | false=>
     have:¬last≤m.born:=by rw [←Nat.ble_eq,ai];simp
     simp [this]
theorem K' {E:Env} {n:Nat}:∀(ms:List ca) (l:List MapEntry) (m:ca),dF E ms l→xF n ms=some m→∃e,l.find? (fun e=>e.born == n)=some e∧Rel E m.k e.key∧Rel E m.v e.val
 | [],l,m,aJ,h=>by cases h
 | x::xs,l,m,aJ,h=>by
   obtain ⟨e,es,rfl,aa,ae,aI,bu⟩:=aJ
   simp only [xF] at h
   cases ai:Nat.beq x.born n with
   | true=>
     rw [ai] at h
     simp only [cond_true,Option.some.injEq] at h
     subst h
     have:=Nat.eq_of_beq_eq_true ai
     exact ⟨e,by simp [List.find?_cons,aI,this],aa,ae⟩
   | false=>
     rw [ai] at h
     simp only [cond_false] at h
     obtain ⟨db,g1,g2⟩:=K' xs es m bu h
     have dn:x.born≠n:=fun e=>by rw [e,Nat.beq_refl] at ai;cases ai
     exact ⟨db,by simp [List.find?_cons,aI,dn,g1],g2⟩
theorem IK {k:b3} {f:List ca→Nat→aZ} {v:V} {ab:af} (h:k.iU .fail f=.val v ab):∃es clock,k=.mp es clock∧f es clock=.val v ab:=by
 cases k<;>simp only [b3.iU] at h<;>first
  | (cases h;done)
  | exact ⟨_,_,rfl,h⟩
theorem PV {v:V} {f:aQ→Nat→aZ} {r:V} {ab:af} (h:v.h1 .fail f=.val r ab):∃b off,v=.ptr b off∧f b off=.val r ab:=by
 cases v<;>simp only [V.h1] at h<;>first
  | (cases h;done)
  | exact ⟨_,_,rfl,h⟩
theorem ahs {az:Fr} {E:Env} {h ab:af} {w:World} (s:a8 az E h w) {t b5 jd:TypeId} (hu:(underlying t).run P w=.ok (.map b5 jd) w) {x v:V} {X:Value} (au:Rel E x X) (he:rangeMap x h=.val v ab):cV az P E w (Instr.range t X) v ab:=by
 have de:=s.fresh h.next (Nat.le_refl _)
 have dy:E.put (aC h.next) ⟨w.heap.size,0,0⟩ (aC h.next)=some ⟨w.heap.size,0,0⟩:=by unfold Env.put;rw [if_pos rfl]
 unfold rangeMap at he
 split at he
 · simp only [aZ.val.injEq] at he
   obtain ⟨rfl,rfl⟩:=he
   simp only [Rel] at au
   subst au
   refine ⟨.pointer (some ⟨w.heap.size,0,none⟩),{w with heap:=w.heap.push (.mapIter none 0 #[] 0)},_,?_,Env.jW (p:=⟨w.heap.size,0,0⟩) de,?_,s.alloc 0 ?_⟩
   · simp only [Instr.range,Sem.run_bind,hu,Result.andThen_ok,Sem.run_pure,run_newObj]
   · simp only [Rel];exact ⟨_,dy,by simp⟩
   · exact ⟨_,none,#[],dy,s.frame.size,rfl,by simp,rfl,rfl⟩
 · rename_i c
   obtain ⟨es,clock,aH,he⟩:=IK he
   simp only [aZ.val.injEq] at he
   obtain ⟨rfl,rfl⟩:=he
   simp only [Rel] at au
   obtain ⟨p,aj,rfl⟩:=au
   have ai:=s.at aj
   rw [aH] at ai
   obtain ⟨q,a,aa,cS,aI,bu⟩:=ai
   rw [aj] at aa;cases aa
   have ee:(getObj p.a7).run P w=.ok (.map a clock) w:=by simp only [getObj,Sem.run,aI]
   have hle:E.le (E.put (aC h.next) ⟨w.heap.size,0,0⟩):=Env.jW de
   refine ⟨.pointer (some ⟨w.heap.size,0,none⟩),{w with heap:=w.heap.push (.mapIter (some p.a7) clock #[] clock)},_,?_,hle,?_,s.alloc 0 ?_⟩
   · simp only [Instr.range,Sem.run_bind,hu,Result.andThen_ok,Sem.run_pure,ee,run_newObj]
   · simp only [Rel];exact ⟨_,dy,by simp⟩
   · exact ⟨_,some p.a7,#[],dy,s.frame.size,rfl,by simp,rfl,p,hle _ _ aj,rfl⟩
 · cases he
theorem af2 {az:Fr} {E:Env} {h ab:af} {w:World} (s:a8 az E h w) {x v:V} {X:Value} {ty:TypeId} (au:Rel E x X) (he:gm x h=.val v ab):cV az P E w (Instr.next X false ty) v ab:=by
 unfold gm at he
 obtain ⟨b,off,rfl,aa⟩:=PV he
 clear he
 have ai:=s.at (p:=_) (by simp only [Rel] at au;exact au.choose_spec.1)
 cases aH:h.get b<;>rw [aH] at aa<;>simp only at aa<;>try (cases aa;done)
 rename_i src since seen last
 rw [aH] at ai
 cases bb:Nat.beq off 0 with
 | false=>rw [bb] at aa;cases aa
 | true=>
 rw [bb] at aa
 simp only [cond_true] at aa
 have bb:=Nat.eq_of_beq_eq_true bb
 subst bb
 obtain ⟨p,m,a,aj,cS,kc,ba,br,iA⟩:=ai
 simp only [Rel] at au
 obtain ⟨q,aF,rfl⟩:=au
 rw [aj] at aF;cases aF
 have ee:(getObj p.a7).run P w=.ok (.mapIter m since a last) w:=by simp only [getObj,Sem.run,ba]
 have over:Rel E (.tuple [.bool false]) (.tuple #[.bool false]):=by simp only [Rel,a_];exact ⟨_,rfl,_,_,rfl,rfl,rfl⟩
 cases src with
 | none=>
   simp only [sG] at iA
   subst iA
   simp only [aZ.val.injEq] at aa
   obtain ⟨rfl,rfl⟩:=aa
   refine cV.plain (Z:=.tuple #[.bool false]) s ?_ over
   simp only [Instr.next,kc,Sem.run_bind,ee,Result.andThen_ok,Sem.run_pure]
 | some c=>
   simp only [sG] at iA
   obtain ⟨wH,ob,rfl⟩:=iA
   simp only at aa
   obtain ⟨es,clock,GX,aa⟩:=IK aa
   have rF:=s.at ob
   rw [GX] at rF
   obtain ⟨q,lY,g1,_,g3,g4⟩:=rF
   rw [ob] at g1;cases g1
   have BJ:(getObj wH.a7).run P w=.ok (.map lY clock) w:=by simp only [getObj,Sem.run,g3]
   cases aw:(!seen.isEmpty&&(!es.isEmpty&&uS last es)) with
   | true=>rw [aw] at aa;cases aa
   | false=>
     rw [aw] at aa
     simp only [cond_false] at aa
     have aB:a.isEmpty=seen.isEmpty:=by
      have:a.toList.isEmpty=seen.reverse.isEmpty:=by rw [br]
      simpa using this
     have aO:lY.isEmpty=es.isEmpty:=by
      cases es with
      | nil=>simp only [dF] at g4;have:lY=#[]:=Array.toList_inj.1 g4
             simp [this]
      | cons y cm=>obtain ⟨e,l,ak,_⟩:=g4;have:lY.toList.isEmpty=false:=by rw [ak];rfl
                   simpa using this
     have cc:lY.all (fun e=>decide (e.born≥last))=uS last es:=by rw [←KK es _ g4,Array.all_toList]
     have Nt:(!a.isEmpty&&!lY.isEmpty&&lY.all (fun e=>decide (e.born≥last)))=false:=by rw [aB,aO,cc,Bool.and_assoc];exact aw
     have yi:=O1 (E:=E) br es _ g4
     have Nz:(lY.filter fun e=>!a.contains e.born).toList=lY.toList.filter fun e=>!a.contains e.born:=by simp
     cases ak:leftOf seen es with
     | nil=>
       rw [ak] at aa yi
       simp only [Iz,aZ.val.injEq] at aa
       obtain ⟨rfl,rfl⟩:=aa
       simp only [dF] at yi
       have ka:(lY.filter fun e=>!a.contains e.born)=#[]:=by
        apply Array.toList_inj.1;rw [Nz,yi]
       refine cV.plain (Z:=.tuple #[.bool false]) s ?_ over
       simp only [Instr.next,kc,Sem.run_bind,ee,Result.andThen_ok,BJ,Nt,Bool.false_eq_true,if_false,ka,Sem.run_pure]
       simp [choose,Sem.run,Question.forced]
     | cons y cm=>
       rw [ak] at aa yi
       cases cm with
       | cons _ _=>cases aa
       | nil=>
         simp only [Iz] at aa
         cases aN:Nat.blt y.born since with
         | false=>rw [aN] at aa;cases aa
         | true=>
           rw [aN] at aa
           simp only [cond_true,aZ.val.injEq] at aa
           obtain ⟨rfl,rfl⟩:=aa
           rw [Nat.blt_eq] at aN
           obtain ⟨e,r,aJ,ck,cJ,gk,gw⟩:=yi
           simp only [dF] at gw
           subst gw
           have ka:(lY.filter fun e=>!a.contains e.born)=#[e]:=by
            apply Array.toList_inj.1;rw [Nz,aJ]
           rw [←gk] at aN ⊢
           let b6:Obj:=.mapIter (some wH.a7) since (a.push e.born) clock
           let ar:World:={w with heap:=w.heap.setIfInBounds p.a7 b6}
           have kh:=(Array.getElem?_eq_some_iff.1 ba).1
           have qz:(setObj p.a7 b6).run P w=.ok () ar:=by simp only [setObj,Sem.run,ba];rfl
           have n_:¬since≤e.born:=by omega
           refine ⟨.tuple #[.bool true,e.key,e.val],ar,E,?_,Env.le.refl E,?_,s.set (p:=p) (by rw [aH];rfl) aj cS (by simp [ar]) (fun j bH=>?_) rfl rfl rfl (fun _ _ _ e=>by cases e) ?_⟩
           · simp only [Instr.next,kc,Sem.run_bind,ee,Result.andThen_ok,BJ,Nt,Bool.false_eq_true,if_false,ka,Sem.run_pure]
             have aa:(#[e]:Array MapEntry).filter (fun x=>decide (x.born<since))=#[e]:=by simp [aN]
             have ae:(#[e]:Array MapEntry).filter (fun x=>decide (x.born≥since))=#[]:=by simp [aN]
             have kR:(choose (.mapNext 1)).run P w=.ok 0 w:=by simp [choose,Sem.run,Question.forced]
             simp only [aa,ae]
             simp [kR]
             change ((setObj p.a7 b6).run P w).andThen _=_
             rw [qz]
             rfl
           · simp only [Rel,a_]
             exact ⟨_,rfl,_,_,rfl,rfl,_,_,rfl,ck,_,_,rfl,cJ,rfl⟩
           · simp only [ar,Array.getElem?_setIfInBounds]
             rw [if_neg (fun e=>bH e.symm)]
           · exact ⟨p,some wH.a7,a.push e.born,aj,cS,kc,by simp [ar,kh,b6],by simp [br],wH,ob,rfl⟩
theorem Y8 {az:Fr} {E:Env} {h ab:af} {w:World} (s:a8 az E h w) {x v:V} {X:Value} (au:Rel E x X) (he:F2 x h=.val v ab):cV az P E w (Instr.entry X) v ab:=by
 unfold F2 at he
 obtain ⟨b,off,rfl,aa⟩:=PV he
 clear he
 have ai:=s.at (p:=_) (by simp only [Rel] at au;exact au.choose_spec.1)
 cases aH:h.get b<;>rw [aH] at aa<;>simp only at aa<;>try (cases aa;done)
 rename_i src since seen last
 rw [aH] at ai
 cases bb:Nat.beq off 0 with
 | false=>rw [bb] at aa;cases aa
 | true=>
 rw [bb] at aa
 simp only [cond_true] at aa
 have bb:=Nat.eq_of_beq_eq_true bb
 subst bb
 obtain ⟨p,m,a,aj,cS,kc,ba,br,iA⟩:=ai
 simp only [Rel] at au
 obtain ⟨q,aF,rfl⟩:=au
 rw [aj] at aF;cases aF
 have ee:(getObj p.a7).run P w=.ok (.mapIter m since a last) w:=by simp only [getObj,Sem.run,ba]
 cases src with
 | none=>cases aa
 | some c=>
   simp only [sG] at iA
   obtain ⟨wH,ob,rfl⟩:=iA
   simp only at aa
   cases seen with
   | nil=>cases aa
   | cons n ak6=>
   simp only at aa
   obtain ⟨es,clock,GX,aa⟩:=IK aa
   have rF:=s.at ob
   rw [GX] at rF
   obtain ⟨q,lY,g1,_,g3,g4⟩:=rF
   rw [ob] at g1;cases g1
   have BJ:(getObj wH.a7).run P w=.ok (.map lY clock) w:=by simp only [getObj,Sem.run,g3]
   rename_i aar _
   clear aar
   cases iw:Nat.beq clock last with
   | false=>rw [iw] at aa;cases aa
   | true=>
     rw [iw] at aa
     simp only [cond_true] at aa
     have:=Nat.eq_of_beq_eq_true iw
     subst this
     cases qf:xF n es with
     | none=>rw [qf] at aa;cases aa
     | some y=>
       rw [qf] at aa
       simp only [aZ.val.injEq] at aa
       obtain ⟨rfl,rfl⟩:=aa
       obtain ⟨e,f1,f2,f3⟩:=K' es _ y g4 qf
       have aaR:a.back? =some n:=by
        have:a.toList.getLast? =some n:=by rw [br];simp
        simpa using this
       have rH:lY.find? (fun e=>e.born == n)=some e:=by rw [←f1];simp
       refine cV.plain (Z:=.tuple #[e.key,e.val]) s ?_ ?_
       · simp only [Instr.entry,kc,Sem.run_bind,ee,Result.andThen_ok,aaR,BJ,bne_self_eq_false,Bool.false_eq_true,if_false,rH,Sem.run_pure]
       · simp only [Rel,a_]
         exact ⟨_,rfl,_,_,rfl,f2,_,_,rfl,f3,rfl⟩
end
end Go.Proofs.YtkehcalakofigaaGreatDoor.aS
namespace Go.Proofs.YtkehcalakofigaaGreatDoor.aS
variable [Lay]
open Go Go.RowKit
section
variable {P:Program}
theorem T1 {az:Fr} {E:Env} {h ab:af} {w:World} (s:a8 az E h w) {t u e:TypeId} {size:Nat} (abN:1≤size) {x v:V} {X Y:Value} {ty:TypeId} {n:Nat} {new:List V} {l:List Value}
 (ak:a_ E new l) (gR:new.length=n * size) (gg:n≤top)
 (eY:∀(ar:World) (A:Option Addr) (cM eT:Nat),cM+n≤eT→(∀a,A=some a→(storeCells (a.add (cM * size)) l).run P w=.ok () ar)→(A=none→ar=w)→
   (Builtin.append_ #[t,u] ty #[.slice A cM eT,Y]).run P w=.ok (.slice A (cM+n) eT) ar)
 (qu:∀(A:Option Addr) (cM eT:Nat) (b0:List Value),(∀ar:World,ar.heap=w.heap→(Builtin.firstCells size cM (.slice A cM eT)).run P ar=.ok b0.toArray ar)→¬cM+n≤eT→cM+n≤top→b0.length=cM * size→l.length=n * size→
   ∃cap rest ar,cM+n≤cap∧cap * size≤((b0++l).toArray++rest).size∧
   (Builtin.append_ #[t,u] ty #[.slice A cM eT,Y]).run P w=.ok (.slice (some ⟨w.heap.size,0,none⟩) (cM+n) cap) ar∧
   ar.heap=w.heap.push (.cells ((b0++l).toArray++rest) e)∧ar.os=w.os∧ar.tape=w.tape∧ar.output=w.output)
 (he:En size n new x h=.val v ab) (au:Rel E x X):cV az P E w (Builtin.append_ #[t,u] ty #[X,Y]) v ab:=by
 have n1:l.length=n * size:=by rw [ak.length,gR]
 unfold En at he
 cases x<;>simp only at he<;>try (cases he;done)
 · -- a slice of known capacity
   rename_i b off len cap
   simp only [Rel] at au
   obtain ⟨p,aj,qo,rfl⟩:=au
   simp only [uU] at he
   cases eB:Nat.ble (len+n) cap with
   | true=>
     rw [eB] at he
     simp only [cond_true] at he
     rw [Nat.ble_eq] at eB
     cases jR:lay h b (off+len * size) new with
     | none=>rw [jR] at he;cases he
     | some aa=>
     rw [jR] at he
     simp only [aZ.val.injEq] at he
     obtain ⟨rfl,rfl⟩:=he
     obtain ⟨ar,cz,gT⟩:=wh (P:=P) s ak jR aj
     refine ⟨_,ar,E,eY ar _ _ _ eB (fun a br=>?_) (fun br=>by cases br),Env.le.refl E,?_,gT⟩
     · cases br
       rw [add_eq,Nat.add_assoc]
       exact cz
     · simp only [Rel];exact ⟨p,aj,eB,rfl⟩
   | false=>
     rw [eB] at he
     simp only [cond_false] at he
     have Hy:¬len+n≤cap:=by rw [←Nat.ble_eq,eB];simp
     obtain ⟨ai,he⟩:=jK he
     simp only [Bool.and_eq_true,Nat.ble_eq] at ai
     cases hold:nE h size b off len with
     | none=>rw [hold] at he;cases he
     | some b0=>
     rw [hold] at he
     simp only at he
     cases fr:hK h (b0++new) size false with
     | none=>rw [fr] at he;cases he
     | some aa=>
     rw [fr] at he
     simp only [aZ.val.injEq] at he
     obtain ⟨rfl,rfl⟩:=he
     obtain ⟨q,bm,aF,dI,qt,gS⟩:=wW (P:=P) s ⟨p,aj⟩ hold
     rw [aj] at aF;cases aF
     obtain ⟨c,rest,ar,ck,cJ,gk,gw,ko,oi,oj⟩:=qu (some ⟨p.a7,p.base+off,none⟩) (len) (cap) _
      (fun ar hw=>by simp only [Builtin.firstCells];exact gS ar hw) Hy ai.1 (by rw [dI.length,qt]) n1
     obtain ⟨ay,g1,g2,g3⟩:=tR (ar:=ar) (bS:=(0,0)) s (dI.append ak) fr cJ (.inr (Nat.le_refl _)) (fun _=>rfl) gw ko oi oj
     refine ⟨_,ar,ay,gk,g1,?_,g3⟩
     simp only [Rel]
     exact ⟨_,g2,by simp only;omega,by simp⟩
 · -- one that was appended to
   rename_i b off len idx
   have yG:=au
   simp only [Rel] at au
   obtain ⟨p,aj,ND,rfl⟩:=au
   simp only [uT] at he
   cases hW:Nat.beq n 0 with
   | true=>
     rw [hW] at he
     simp only [cond_true] at he
     cases he
     rw [Nat.beq_eq] at hW
     subst hW
     have mj:l=[]:=by cases l with | nil=>rfl | cons _ _=>simp at n1
     subst mj
     refine ⟨_,w,E,eY w _ _ _ (by omega) (fun a _=>rfl) (fun br=>by cases br),Env.le.refl E,?_,s⟩
     simpa using yG
   | false=>
     rw [hW] at he
     simp only [cond_false] at he
     have nb:=s.at aj
     cases aH:h.get b with
     | dead=>rw [aH] at he;cases he
     | view _ _=>rw [aH] at he;cases he
     | iter _ _=>rw [aH] at he;cases he
     | mp _ _=>rw [aH] at he;cases he
     | dk _=>rw [aH] at he;cases he
     | fb=>rw [aH] at he;cases he
     | gW _=>rw [aH] at he;cases he
     | hZ _ _ _ _=>rw [aH] at he;cases he
     | cells N cs cp st=>
       rw [aH] at he nb
       simp only [b3.on] at he
       obtain ⟨ai,he⟩:=jK he
       simp only [Bool.and_eq_true,Nat.ble_eq,Nat.beq_eq] at ai
       obtain ⟨⟨GN,Hm,Ho⟩,yp⟩:=ai
       cases hold:nE h size b off len with
       | none=>rw [hold] at he;cases he
       | some b0=>
       rw [hold] at he
       simp only at he
       cases fr:hK (h.set b .dead) (b0++new) size st with
       | none=>rw [fr] at he;cases he
       | some aa=>
       rw [fr] at he
       simp only [aZ.val.injEq] at he
       obtain ⟨rfl,rfl⟩:=he
       obtain ⟨q,bm,aF,dI,qt,gS⟩:=wW (P:=P) s ⟨p,aj⟩ hold
       rw [aj] at aF;cases aF
       obtain ⟨bD,q,c,el,bS,aB,cS,ba,o8,cz,jh,bl⟩:=nb
       rw [aj] at aB;cases aB
       have yr:=abN
       have jh:=jh (by omega)
       rw [GN] at jh
       have zz:=s.kill aj
       by_cases eB:len+n≤p.cap-idx
       · -- in place
         have aN:=(Array.getElem?_eq_some_iff.1 ba).1
         have abk:(idx+len+n) * size≤p.cap * size:=Nat.mul_le_mul_right _ (by omega)
         have hbound:p.base+off+len * size+0+l.length≤c.size:=by
          rw [n1,yp]
          have:(idx+len+n) * size=idx * size+len * size+n * size:=by rw [Nat.add_mul,Nat.add_mul]
          omega
         have yD:=Df (P:=P) aN el bS (p.base+off+len * size) l c 0 (CI Ho ak) hbound o8
         rw [JW ba,Nat.add_zero] at yD
         have HB:=eY (j3 w p.a7 (om c (p.base+off+len * size) l) el bS) (some ⟨p.a7,p.base+off,none⟩) _ _ eB
          (fun a br=>by cases br;rw [add_eq];exact yD) (fun br=>by cases br)
         unfold hK at fr
         obtain ⟨aw,fr⟩:=dW fr
         simp only [Bool.and_eq_true,Nat.ble_eq] at aw
         simp only [Option.some.injEq] at fr
         subst fr
         have de:=s.fresh h.next (Nat.le_refl _)
         have hle:E.le (E.put (aC h.next) ⟨p.a7,p.base+off,p.cap-idx⟩):=Env.jW de
         have dy:E.put (aC h.next) ⟨p.a7,p.base+off,p.cap-idx⟩ (aC h.next)=some ⟨p.a7,p.base+off,p.cap-idx⟩:=by unfold Env.put;rw [if_pos rfl]
         refine ⟨_,_,_,HB,hle,?_,a8.add (p:=⟨p.a7,p.base+off,p.cap-idx⟩) zz (by rw [JX];exact Nat.le_refl _) (fun j _ bH=>JV _ _ _ bH) cS (fun bJ dZ fK mo heq=>?_) rfl rfl rfl (fun _ _ _ e=>by injection e with _ _ cc;omega) ?_⟩
         · simp only [Rel]
           exact ⟨_,dy,by simp only;omega,by simp⟩
         · rw [af.dG] at fK
           by_cases gI:b=bJ
           · rw [if_pos gI] at fK;cases fK
           · rw [if_neg gI] at fK
             exact gI (s.inj b bJ p dZ (by rw [aH];rfl) fK aj mo heq.symm)
         · have G9:(b0++new).length=(len+n) * size:=by rw [List.length_append,qt,gR,Nat.add_mul]
           have aa_:(len+n) * size=len * size+n * size:=Nat.add_mul _ _ _
           refine ⟨aw.1,_,_,el,bS,dy,cS,zJ aN _ _ _,by rw [pn];exact o8,cz,fun _=>?_,?_⟩
           · rw [pn]
             simp only
             have:idx * size + (p.cap-idx) * size=p.cap * size:=by rw [←Nat.add_mul];congr 1;omega
             omega
           · refine ⟨by rw [pn,G9,Nat.add_mul];simp only;omega,fun i y av a1=>?_⟩
             rw [zs _ _ _ _ (by omega) (by omega),if_pos (by omega),Nat.sub_zero]
             rw [Cc _ _ _ _ (by omega)] at a1
             simp only at a1
             by_cases cn:i<len * size
             · rw [if_neg (by omega)] at a1
               rw [List.getElem?_append_left (by omega)]
               have ee:=gS w rfl
               have Hv:=run_loadCells (P:=P) (w:=w) (off:=p.base+off) (n:=len * size) ba (by omega)
               rw [Hv] at ee
               simp only [Result.ok.injEq,and_true] at ee
               have yj:bm=(c.toList.drop (p.base+off)).take (len * size):=by
                have:=congrArg Array.toList ee
                simpa using this.symm
               obtain ⟨q8,hx,aJ⟩:=dI.get i b0[i] (List.getElem?_eq_getElem (by omega))
               rw [List.getElem?_eq_getElem (by omega)]
               rw [yj] at hx
               rw [List.getElem?_take_of_lt (by omega),List.getElem?_drop] at hx
               simp only [Array.getElem?_toList] at hx
               rw [a1] at hx
               cases hx
               exact Rel.mono hle _ _ aJ
             · rw [if_pos (by omega)] at a1
               rw [List.getElem?_append_right (by omega)]
               have cc:p.base+off+i - (p.base+off+len * size)=i-b0.length:=by omega
               rw [cc] at a1
               have yk:i-b0.length<new.length:=by omega
               obtain ⟨q8,hx,aJ⟩:=ak.get (i-b0.length) new[i-b0.length] (List.getElem?_eq_getElem yk)
               rw [a1] at hx;cases hx
               rw [List.getElem?_eq_getElem yk]
               exact Rel.mono hle _ _ aJ
       · -- elsewhere
         obtain ⟨bN,rest,ar,ck,cJ,gk,gw,ko,oi,oj⟩:=qu (some ⟨p.a7,p.base+off,none⟩) (len) (p.cap-idx) _
          (fun ar hw=>by simp only [Builtin.firstCells];exact gS ar hw) eB Hm (by rw [dI.length,qt]) n1
         obtain ⟨ay,g1,g2,g3⟩:=tR (ar:=ar) (bS:=(0,0)) zz (dI.append ak) fr cJ (.inr (Nat.le_refl _)) (fun _=>rfl) gw ko oi oj
         refine ⟨_,ar,ay,gk,g1,?_,g3⟩
         simp only [Rel]
         exact ⟨_,g2,by simp only;omega,by simp⟩
 · -- nil
   simp only [Rel] at au
   subst au
   simp only [uW] at he
   cases hW:Nat.beq n 0 with
   | true=>
     rw [hW] at he
     simp only [cond_true] at he
     cases he
     rw [Nat.beq_eq] at hW
     subst hW
     exact cV.plain s (eY w _ _ _ (by omega) (fun a br=>by cases br) (fun _=>rfl)) (by simp [Rel])
   | false=>
     rw [hW] at he
     simp only [cond_false] at he
     have tu:¬n=0:=by intro e;subst e;simp at hW
     cases fr:hK h new size false with
     | none=>rw [fr] at he;cases he
     | some aa=>
     rw [fr] at he
     simp only [aZ.val.injEq] at he
     obtain ⟨rfl,rfl⟩:=he
     obtain ⟨c,rest,ar,ck,cJ,gk,gw,ko,oi,oj⟩:=qu (none) (0) (0) []
      (fun ar _=>by simp [Builtin.firstCells]) (by omega) (by omega) (by simp) n1
     obtain ⟨ay,g1,g2,g3⟩:=tR (ar:=ar) (bS:=(0,0)) s ak fr cJ (.inr (Nat.le_refl _)) (fun _=>rfl) gw ko oi oj
     refine ⟨_,ar,ay,gk,g1,?_,g3⟩
     simp only [Rel]
     exact ⟨_,g2,by simp only;omega,by simp⟩
structure Eg (P:Program) (t u e:TypeId) (size bytes:Nat) (k:IntKind) (z:Value):Prop where
 ut:∀w,(underlying t).run P w=.ok (.slice e) w
 q4:∀w,(underlying u).run P w=.ok (.int k) w
 jA:∀w,(sizeOf e).run P w=.ok size w
 AR:∀w,∃i,(typeInfo e).run P w=.ok i w∧i.bytes=bytes
 w3:∀w,(zeroValue e).run P w=.ok z w
 gD:z.cells.size=size
 pos:1≤size
 small:bytes≤4096
theorem Sd (c:Array Value):Builtin.zeroCells c 0=#[]:=by simp [Builtin.zeroCells]
theorem ahT {t u e:TypeId} {size bytes:Nat} {k:IntKind} {z:Value} (H:Eg P t u e size bytes k z) {n:Nat} (aX:n≤100000) {ty:TypeId} {w ar:World} {A:Option Addr} {cM eT:Nat} (eB:cM+n≤eT)
 (cz:∀a,A=some a→(storeCells (a.add (cM * size)) (Builtin.zeroCells z.cells n).toList).run P w=.ok () ar) (de:A=none→ar=w):
 (Builtin.append_ #[t,u] ty #[.slice A cM eT,.int .i64 n]).run P w=.ok (.slice A (cM+n) eT) ar:=by
 have hw:IntKind.i64.wrap (n:Int)=n:=by unfold IntKind.wrap;simp [IntKind.bits,IntKind.signed];omega
 obtain ⟨i,av,rJ⟩:=H.AR w
 have rB:¬(281474976710656 < (n:Int) * (i.bytes:Int)):=by
  rw [rJ]
  have aa:n * bytes≤100000 * 4096:=Nat.mul_le_mul aX H.small
  have ae:((n * bytes:Nat):Int)=(n:Int) * (bytes:Int):=Int.natCast_mul _ _
  omega
 have BQ:¬((n:Int)<0):=by omega
 have b7:size≠0:=by have:=H.pos;omega
 have br:∀w,(asInt (.int .i64 (n:Int))).run P w=.ok (n:Int) w:=fun w=>by simp [asInt,asIntOf]
 have BC:∀w,(asInt (.int .i64 0)).run P w=.ok 0 w:=fun w=>by simp [asInt,asIntOf]
 have v8:IntKind.i64.wrap 0=0:=by decide
 cases A with
 | none=>
   have:=de rfl;subst this
   by_cases bb:n=0
   · subst bb
     simp [Builtin.append_,H.ut,H.q4,H.jA,BC,av,v8,(show cM≤eT from by omega)]
   · simp [Builtin.append_,H.ut,H.q4,H.jA,H.w3,br,av,rB,hw,eB,BQ,b7,bb]
 | some a=>
   have:=cz a rfl
   by_cases bb:n=0
   · subst bb
     rw [Sd] at this
     simp [Builtin.append_,H.ut,H.q4,H.jA,BC,av,v8,(show cM≤eT from by omega),this]
   · simp [Builtin.append_,H.ut,H.q4,H.jA,H.w3,br,av,rB,hw,eB,BQ,Nat.mul_ne_zero bb b7,this]
theorem ahU {t u e:TypeId} {size bytes:Nat} {k:IntKind} {z:Value} (H:Eg P t u e size bytes k z) {n:Nat} (aX:n≤100000) {ty:TypeId} {w:World} (A:Option Addr) (cM eT:Nat) (b0:List Value)
 (hold:∀ar:World,ar.heap=w.heap→(Builtin.firstCells size cM (.slice A cM eT)).run P ar=.ok b0.toArray ar) (eB:¬cM+n≤eT) (yC:cM+n≤top) (aU:b0.length=cM * size) (ak:(Builtin.zeroCells z.cells n).toList.length=n * size):
 ∃cap rest ar,cM+n≤cap∧cap * size≤((b0++(Builtin.zeroCells z.cells n).toList).toArray++rest).size∧
  (Builtin.append_ #[t,u] ty #[.slice A cM eT,.int .i64 n]).run P w=.ok (.slice (some ⟨w.heap.size,0,none⟩) (cM+n) cap) ar∧
  ar.heap=w.heap.push (.cells ((b0++(Builtin.zeroCells z.cells n).toList).toArray++rest) e)∧ar.os=w.os∧ar.tape=w.tape∧ar.output=w.output:=by
 have hw:IntKind.i64.wrap (n:Int)=n:=by simp only [IntKind.wrap,IntKind.bits,IntKind.signed];simp;omega
 obtain ⟨i,av,rJ⟩:=H.AR w
 have mr:P.info? e=some i:=by
  simp only [typeInfo,Sem.run_bind,run_program,Result.andThen_ok] at av
  cases aF:P.info? e with
  | none=>rw [aF] at av;simp at av
  | some j=>rw [aF] at av;simp at av;rw [av]
 have qm:∀ar,(typeInfo e).run P ar=.ok i ar:=fun ar=>wP mr ar
 have acy:¬(281474976710656 < (n:Int) * (i.bytes:Int)):=by
  rw [rJ]
  have aa:n * bytes≤100000 * 4096:=Nat.mul_le_mul aX H.small
  have ae:((n * bytes:Nat):Int)=(n:Int) * (bytes:Int):=Int.natCast_mul _ _
  omega
 have rB:¬(281474976710656<Builtin.nextslicecap (cM+n) eT * i.bytes):=by
  have aa:eT<cM+n:=by omega
  have:=growslice_fits (bytes:=i.bytes) aa (by
   rw [rJ]
   have ae:(cM+n) * bytes≤top * 4096:=Nat.mul_le_mul yC H.small
   unfold top at ae
   omega)
  omega
 have hG:¬(9223372036854775807 < ((cM:Int) + (n:Int))):=by unfold top at yC;omega
 have BQ:¬((n:Int)<0):=by omega
 have b7:size≠0:=by have:=H.pos;omega
 have br:∀w,(asInt (.int .i64 (n:Int))).run P w=.ok (n:Int) w:=fun w=>by simp [asInt,asIntOf]
 have BC:∀w,(asInt (.int .i64 0)).run P w=.ok 0 w:=fun w=>by simp [asInt,asIntOf]
 have v8:IntKind.i64.wrap 0=0:=by decide
 let q:Question:=.appendCap (cM+n) eT e
 let cap:=q.cut (w.tape w.drawn q)
 have jh:cM+n≤cap:=by show cM+n≤(cM+n)+_;omega
 refine ⟨cap,Builtin.zeroCells z.cells (cap - (cM+n)),w.drew.alloc (.cells ((b0++(Builtin.zeroCells z.cells n).toList).toArray++Builtin.zeroCells z.cells (cap - (cM+n))) e),jh,?_,?_,rfl,rfl,rfl,rfl⟩
 · simp only [Array.size_append,List.size_toArray,List.length_append,aU,ak]
   have:(Builtin.zeroCells z.cells (cap - (cM+n))).size=(cap - (cM+n)) * size:=by simp [Builtin.zeroCells,H.gD]
   rw [this,←Nat.add_mul,←Nat.add_mul]
   exact Nat.mul_le_mul_right _ (by omega)
 · have f2:=hold w.drew rfl
   by_cases bb:n=0
   · subst bb
     have yx:¬cM≤eT:=by omega
     have aaQ:¬(9223372036854775807 < (cM:Int)):=by omega
     rw [Nat.add_zero] at rB
     simp [Builtin.append_,H.ut,H.q4,H.jA,H.w3,BC,v8,qm,yx,rB,aaQ,Question.forced,f2,newRow]
     refine ⟨rfl,?_⟩
     have aB:(b0++(Builtin.zeroCells z.cells 0).toList).toArray=b0.toArray:=by rw [Sd];simp
     rw [aB]
     rfl
   · simp [Builtin.append_,H.ut,H.q4,H.jA,H.w3,br,hw,acy,BQ,Nat.mul_ne_zero bb b7,eB,qm,rB,hG,Question.forced,f2,newRow]
     refine ⟨rfl,?_⟩
     have aB:(b0++(Builtin.zeroCells z.cells n).toList).toArray=b0.toArray++Builtin.zeroCells z.cells n:=by simp
     rw [aB,Array.append_assoc]
end
end Go.Proofs.YtkehcalakofigaaGreatDoor.aS
namespace Go.Proofs.YtkehcalakofigaaGreatDoor.aS
variable [Lay]
open Go Go.RowKit
section
variable {P:Program}
abbrev b4 (rd:Option Nat):Fence:={fn:=fun _=>True,depth:=none,alive:=false,round:=rd}
theorem rr {rd:Option Nat} {n:Nat} {f:FuncId} {args:Array Value} {w:World} {R:Ending→World→Prop}:CallsIn (b4 rd) n P f args w R↔Calls P f args w R:=callsIn_wide
theorem Jo {rd:Option Nat} (n:Nat):(b4 rd).room n:=fun _ h=>by simp [b4] at h
abbrev ow (x:Value):List PanicEntry:=[{v:=x,recovered:=false}]
structure fP (P:Program) (call:du):Prop where
 fn:∀(az:Fr) f args h v ab,f≠c7→call f args h=.val v ab→∀E w xs,a_ E args xs→a8 az E h w→
  ((∃fn,P.funcs[f]? =some fn∧fn.body.isSome=true)∧Calls P f xs.toArray w fun e ar=>∃ay x,e=.returned x∧E.le ay∧Rel ay v x∧a8 az ay ab ar)∨
  ∃ay x ar,(callFunc f xs.toArray).run P w=.ok (.value x) ar∧E.le ay∧Rel ay v x∧a8 az ay ab ar
 cw:∀(az:Fr) f args h v ab,f≠c7→call f args h=.cw v ab→∀E w xs,a_ E args xs→a8 az E h w→
  (∃fn,P.funcs[f]? =some fn∧fn.body.isSome=true)∧Calls P f xs.toArray w fun e ar=>∃ay x,e=.panicked (ow x)∧E.le ay∧Rel ay v x∧a8 az ay ab ar
 Sb:∀(az:Fr) args b h v ab,call c7 (args++[.ptr b 0]) h=.val v ab→∀E w xs p,a_ E args xs→a8 az E h w→E b=some p→
  ∃f tmps assign body,(Instr.yield p.a7 xs.toArray).run P w=.ok (.round p.a7 f tmps assign body) w∧
   RoundIn (b4 none) 0 P p.a7 f tmps assign body w fun e ar=>∃ay x,e=.returned x∧E.le ay∧Rel ay v x∧a8 az ay ab ar
 Sc:∀args h v ab,call c7 args h≠.cw v ab
theorem oA {rd:Option Nat} {o:Oper} (nd:∀c,o.op≠.defer c) (ρ:Operand→Value):o.semAt (b4 rd).round ρ=execOp ρ o:=Oper.semAt_eq _ ρ o nd
theorem fF {rd:Option Nat} {o:Oper} {a:Act} {w:World} {az:Fr} {E:Env} {ab:af} {v:V} {m:Sem Value} {K:Act→World→Prop} {Q:Exit→Act→World→Prop}
 (au:execOp a.eval o=(do pure (.value (←m)))) (g:cV az P E w m v ab) (dC:∀ay x ar,E.le ay→Rel ay v x→a8 az ay ab ar→K (a.put o.dst x) ar) (nd:∀c,o.op≠.defer c:=by intro c h;cases h):
 o.wpIn (b4 rd) 0 P a w K Q:=by
 obtain ⟨Z,ar,ay,aa,ae,aI,bu⟩:=g
 refine ⟨fun _ _=>trivial,?_⟩
 rw [oA nd,au,Sem.run_bind,aa]
 exact dC ay Z ar ae aI bu
theorem CO {E:Env} {ax:Nat} {r:bx} {a:Act} (k:RegRel0 E ax r a):∀l:List (Nat × Operand),pQ E ((r' l).run r) (l.map fun (i,x)=>(i,a.eval x))
 | []=>rfl
 | (i,x)::l=>by
   simp only [r',List.map,pQ]
   exact ⟨_,_,rfl,dv k x,CO k l⟩
theorem CM {E:Env} {ax:Nat} {r:bx} {a:Act} (k:RegRel0 E ax r a) (x:Option Operand):gY E ((pt x).run r) (x.map a.eval):=by
 cases x with
 | none=>rfl
 | some x=>simp only [pt,gY,Option.map];exact ⟨_,rfl,dv k x⟩
theorem agr {v:V} {f:aQ→Nat→aZ} {r:V} {h:af} (he:v.h1 .fail f=.val r h):∃b off,v=.ptr b off∧f b off=.val r h:=by
 cases v<;>simp only [V.h1] at he<;>first
  | (cases he;done)
  | exact ⟨_,_,rfl,he⟩
theorem af4 {az:Fr} {E:Env} {h ab:af} {w:World} (s:a8 az E h w) {x v:V} {X:Value} {ty:TypeId} (au:Rel E x X) (he:tT x h=.val v ab):cV az P E w (Instr.next X true ty) v ab:=by
 unfold tT at he
 obtain ⟨b,off,rfl,aa⟩:=agr he
 have ai:=s.at (p:=_) (by simp only [Rel] at au;exact au.choose_spec.1)
 cases aH:h.get b with
 | dead=>rw [aH] at aa;cases aa
 | view _ _=>rw [aH] at aa;cases aa
 | cells _ _ _ _=>rw [aH] at aa;cases aa
 | mp _ _=>rw [aH] at aa;cases aa
 | dk _=>rw [aH] at aa;cases aa
 | fb=>rw [aH] at aa;cases aa
 | gW _=>rw [aH] at aa;cases aa
 | hZ _ _ _ _=>rw [aH] at aa;cases aa
 | iter st pos=>
   rw [aH] at aa ai
   simp only at aa
   obtain ⟨bb,ae⟩:=jK aa
   rw [Nat.beq_eq] at bb
   subst bb
   obtain ⟨p,aj,cS,kc,ba⟩:=ai
   simp only [Rel] at au
   obtain ⟨q,aF,rfl⟩:=au
   rw [aj] at aF;cases aF
   have ee:(getObj p.a7).run P w=.ok (.stringIter ⟨⟨st⟩⟩ pos) w:=by simp only [getObj,Sem.run,ba]
   have b7:(⟨⟨st⟩⟩:ByteArray).size=st.length:=rfl
   cases aN:Nat.blt pos st.length with
   | true=>
     rw [aN] at ae
     simp only [cond_true,aZ.val.injEq] at ae
     obtain ⟨rfl,rfl⟩:=ae
     rw [Nat.blt_eq] at aN
     let b6:Obj:=.stringIter ⟨⟨st⟩⟩ (pos + (decodeL st pos).2)
     let ar:World:={w with heap:=w.heap.setIfInBounds p.a7 b6}
     have kh:=(Array.getElem?_eq_some_iff.1 ba).1
     have qz:(setObj p.a7 b6).run P w=.ok () ar:=by simp only [setObj,Sem.run,ba];rfl
     refine ⟨.tuple #[.bool true,goInt pos,.int .i32 (decodeL st pos).1],ar,E,?_,Env.le.refl E,?_,s.set (p:=p) (by rw [aH];rfl) aj cS (by simp [ar]) (fun j bH=>?_) rfl rfl rfl (fun _ _ _ e=>by cases e) ?_⟩
     · simp only [Instr.next,kc,Sem.run_bind,ee,Result.andThen_ok,b7,if_pos aN]
       have:(Utf8.decode (⟨⟨st⟩⟩:ByteArray) pos)=decodeL st pos:=rfl
       simp only [this]
       rw [qz]
       rfl
     · simp only [Rel,a_]
       exact ⟨_,rfl,_,_,rfl,rfl,_,_,rfl,rfl,_,_,rfl,rfl,rfl⟩
     · simp only [ar,Array.getElem?_setIfInBounds]
       rw [if_neg (fun e=>bH e.symm)]
     · exact ⟨p,aj,cS,kc,by simp [ar,kh,b6]⟩
   | false=>
     rw [aN] at ae
     simp only [cond_false,aZ.val.injEq] at ae
     obtain ⟨rfl,rfl⟩:=ae
     have lM:¬pos<st.length:=by rw [←Nat.blt_eq,aN];simp
     refine cV.plain (Z:=.tuple #[.bool false]) s ?_ ?_
     · simp only [Instr.next,kc,Sem.run_bind,ee,Result.andThen_ok,b7,if_neg lM,Sem.run_pure]
     · simp only [Rel,a_]
       exact ⟨_,rfl,_,_,rfl,rfl,rfl⟩
theorem ahr {az:Fr} {E:Env} {h ab:af} {w:World} (s:a8 az E h w) {t:TypeId} {x v:V} {X:Value} (au:Rel E x X) (he:(C5 P t).run x h=.val v ab):cV az P E w (Instr.range t X) v ab:=by
 unfold C5 at he
 cases aG:a' P t with
 | none=>rw [aG] at he;cases he
 | some aP=>
   rw [aG] at he
   simp only at he
   have hu:=e1 aG
   cases bP:aP.bc with
   | string=>
     rw [bP] at he hu
     simp only at he
     cases x<;>simp only at he<;>try (cases he;done)
     rename_i st
     simp only [aZ.val.injEq] at he
     obtain ⟨rfl,rfl⟩:=he
     have:=au.q0;subst this
     have de:=s.fresh h.next (Nat.le_refl _)
     have dy:E.put (aC h.next) ⟨w.heap.size,0,0⟩ (aC h.next)=some ⟨w.heap.size,0,0⟩:=by unfold Env.put;rw [if_pos rfl]
     refine ⟨.pointer (some ⟨w.heap.size,0,none⟩),{w with heap:=w.heap.push (.stringIter ⟨⟨st⟩⟩ 0)},_,?_,Env.jW (p:=⟨w.heap.size,0,0⟩) de,?_,s.alloc 0 ?_⟩
     · simp only [Instr.range,Sem.run_bind,hu,Result.andThen_ok,Sem.run_pure,run_newObj]
     · simp only [Rel];exact ⟨_,dy,by simp⟩
     · exact ⟨_,dy,s.frame.size,rfl,by simp⟩
   | map b5 jd=>
     rw [bP] at he hu
     exact ahs s (hu w) au he
   | _=>rw [bP] at he;cases he
theorem TY {az:Fr} {E:Env} {h ab:af} {w:World} (s:a8 az E h w) {t u:TypeId} {x y v:V} {X Y:Value} {ty:TypeId}
 (he:(AE P t u).run x y h=.val v ab) (au:Rel E x X) (a1:Rel E y Y):cV az P E w (Builtin.append_ #[t,u] ty #[X,Y]) v ab:=by
 unfold AE at he
 cases aG:a' P t with
 | none=>rw [aG] at he;cases he
 | some aP=>
   cases hu:a' P u with
   | none=>rw [aG,hu] at he;cases he
   | some q3=>
     rw [aG,hu] at he
     simp only at he
     have main:(∀k,q3.bc≠.int k)→(match aP.bc with
      | .slice e=>match a' P e with
        | none=>(⟨fun _ _ _=>.fail⟩:zP)
        | some bf=>match bf.zero with
          | none=>⟨fun _ _ _=>.fail⟩
          | some z=>bif Nat.ble 1 bf.size&&Nat.ble bf.bytes 4096&&Nat.beq z.cells.length bf.size then ⟨kH bf.size⟩ else ⟨fun _ _ _=>.fail⟩
      | _=>⟨fun _ _ _=>.fail⟩).run x y h=.val v ab→cV az P E w (Builtin.append_ #[t,u] ty #[X,Y]) v ab:=by
      intro pb he
      cases bP:aP.bc with
      | slice e=>
        rw [bP] at he
        simp only at he
        cases cr:a' P e with
        | none=>rw [cr] at he;cases he
        | some bf=>
          rw [cr] at he
          simp only at he
          cases bj:bf.zero with
          | none=>rw [bj] at he;cases he
          | some z=>
            rw [bj] at he
            simp only at he
            cases aw:(Nat.ble 1 bf.size&&Nat.ble bf.bytes 4096&&Nat.beq z.cells.length bf.size) with
            | false=>rw [aw] at he;cases he
            | true=>
              rw [aw] at he
              simp only [cond_true] at he
              simp only [Bool.and_eq_true,Nat.ble_eq,Nat.beq_eq] at aw
              obtain ⟨pI,yH,_,pf⟩:=sv (P:=P) (E:=E) cr bj w
              refine T0 s ⟨fun w=>?_,⟨q3.bc,fun w=>e1 hu w,pb⟩,fun w=>iW cr w,fun w=>Js cr w,⟨pI,yH,by rw [pf];exact aw.2⟩,aw.1.1,aw.1.2⟩ he au a1
              have:=e1 aG w
              rw [bP] at this
              exact this
      | _=>rw [bP] at he;cases he
     cases vY:q3.bc with
     | int k=>
       rw [vY] at he
       simp only at he
       cases bP:aP.bc with
       | slice e=>
         rw [bP] at he
         simp only at he
         cases cr:a' P e with
         | none=>rw [cr] at he;cases he
         | some bf=>
           rw [cr] at he
           simp only at he
           cases bj:bf.zero with
           | none=>rw [bj] at he;cases he
           | some z=>
             rw [bj] at he
             simp only at he
             cases aw:(Nat.ble 1 bf.size&&Nat.ble bf.bytes 4096&&Nat.beq z.cells.length bf.size) with
             | false=>rw [aw] at he;cases he
             | true=>
               rw [aw] at he
               simp only [cond_true] at he
               simp only [Bool.and_eq_true,Nat.ble_eq,Nat.beq_eq] at aw
               obtain ⟨pI,yH,HR,pf⟩:=sv (P:=P) (E:=E) cr bj w
               have vZ:∀w,(underlying t).run P w=.ok (.slice e) w:=fun w=>by have:=e1 aG w;rw [bP] at this;exact this
               have HH:∀w,(underlying u).run P w=.ok (.int k) w:=fun w=>by have:=e1 hu w;rw [vY] at this;exact this
               have H:Eg P t u e bf.size bf.bytes k pI:=⟨vZ,HH,fun w=>iW cr w,fun w=>Js cr w,yH,by rw [pf];exact aw.2,aw.1.1,aw.1.2⟩
               unfold KP at he
               split at he
               case h_2=>cases he
               rename_i cU m
               split at he
               case h_2=>cases he
               rename_i n
               obtain ⟨nY,bs⟩:=jK he
               simp only [Bool.and_eq_true,Nat.ble_eq] at nY
               have aD:=ry nY.1
               subst aD
               simp only [Rel] at a1
               subst a1
               have Hx:=zw HR n
               have hlen:(hN z.cells n).length=n * bf.size:=by
                rw [←Hx.length]
                simp [Builtin.zeroCells,pf,aw.2]
               exact T1 s aw.1.1 Hx hlen (by have:=nY.2;unfold top;omega) (fun ar A cM eT a b c=>ahT H nY.2 a b c) (fun A cM eT b0 a b c d f=>ahU H nY.2 A cM eT b0 a b c d f) bs au
       | _=>rw [bP] at he;cases he
     | _=>rw [vY] at he;exact main (by rw [vY];simp) he
theorem YE {az:Fr} {E:Env} {h ab:af} {w:World} (s:a8 az E h w) {t:TypeId} {rest:List TypeId} {x y v:V} {X Y:Value} {ty:TypeId}
 (he:(A0 P t).run x y h=.val v ab) (au:Rel E x X) (a1:Rel E y Y):cV az P E w (Builtin.copy_ (t::rest).toArray ty #[X,Y]) v ab:=by
 unfold A0 at he
 cases aG:a' P t with
 | none=>rw [aG] at he;cases he
 | some aP=>
   rw [aG] at he
   simp only at he
   cases bP:aP.bc with
   | slice e=>
     rw [bP] at he
     simp only at he
     cases cr:a' P e with
     | none=>rw [cr] at he;cases he
     | some bf=>
       rw [cr] at he
       simp only at he
       exact YF s (fun w=>by have:=e1 aG w;rw [bP] at this;exact this) (fun w=>iW cr w) he au a1
   | _=>rw [bP] at he;cases he
theorem Ym {az:Fr} {E:Env} {h ab:af} {w:World} (s:a8 az E h w) {t:TypeId} {x v:V} {X:Value} {ty:TypeId} {z:List V} (aw:xK P t=some z)
 (he:AZ z x h=.val v ab) (au:Rel E x X):cV az P E w (Builtin.clear_ #[t] ty #[X]) v ab:=by
 unfold xK at aw
 cases aG:a' P t with
 | none=>rw [aG] at aw;cases aw
 | some aP=>
   rw [aG] at aw
   simp only at aw
   cases bP:aP.bc with
   | slice e=>
     rw [bP] at aw
     simp only at aw
     cases cr:a' P e with
     | none=>rw [cr] at aw;cases aw
     | some bf=>
       rw [cr] at aw
       simp only at aw
       cases bj:bf.zero with
       | none=>rw [bj] at aw;cases aw
       | some z0=>
         rw [bj] at aw
         simp only [Option.some.injEq] at aw
         subst aw
         have hu:∀w,(underlying t).run P w=.ok (.slice e) w:=fun w=>by have:=e1 aG w;rw [bP] at this;exact this
         obtain ⟨z,k1,HR,Oh⟩:=sv (P:=P) (E:=E) cr bj w
         have nothing:∀a c,X=.slice a 0 c→v=.tuple []→ab=h→cV az P E w (Builtin.clear_ #[t] ty #[X]) v ab:=by
          intro a c c4 bs ba
          subst c4 bs ba
          refine ⟨.tuple #[],w,E,?_,Env.le.refl E,?_,s⟩
          · cases a<;>simp [Builtin.clear_,Sem.run_bind,hu,Result.andThen_ok,Sem.run_pure]
          · simp only [Rel];exact ⟨_,rfl,rfl⟩
         have Rn:∀(b:aQ) (off n c:Nat) (p:hS),E b=some p→X=.slice (some ⟨p.a7,p.base+off,none⟩) n c→(bif Nat.beq n 0 then (aZ.val (.tuple []) h) else (match lay h b off (hN z0.cells n) with
          | some ab=>aZ.val (.tuple []) ab
          | none=>.fail))=.val v ab→cV az P E w (Builtin.clear_ #[t] ty #[X]) v ab:=by
          intro b off n c p aj c4 he
          cases n with
          | zero=>
            simp only [Nat.beq_refl,cond_true,aZ.val.injEq] at he
            exact nothing _ _ c4 he.1.symm he.2.symm
          | succ n=>
            simp only [show Nat.beq (n+1) 0=false from rfl,cond_false] at he
            cases ak:lay h b off (hN z0.cells (n+1)) with
            | none=>rw [ak] at he;cases he
            | some aa=>
              rw [ak] at he
              simp only [aZ.val.injEq] at he
              obtain ⟨rfl,rfl⟩:=he
              obtain ⟨ar,g1,g2⟩:=wh (P:=P) s (zw HR (n+1)) ak aj
              subst c4
              refine ⟨.tuple #[],ar,E,?_,Env.le.refl E,?_,g2⟩
              · simp only [Builtin.clear_,Sem.run_bind,List.getElem?_toArray,List.getElem?_cons_zero,hu,k1,Result.andThen_ok]
                have:(storeCells ⟨p.a7,p.base+off,none⟩ (Builtin.zeroCells z.cells (n+1)).toList).run P w=.ok () ar:=g1
                simp [this,Sem.run_pure,Result.andThen_ok]
              · simp only [Rel];exact ⟨_,rfl,rfl⟩
         unfold AZ at he
         cases x<;>simp only at he<;>try (cases he;done)
         · simp only [Rel] at au
           obtain ⟨p,g1,g2,g3⟩:=au
           exact Rn _ _ _ _ p g1 g3 he
         · simp only [Rel] at au
           obtain ⟨p,g1,g2,g3⟩:=au
           exact Rn _ _ _ _ p g1 g3 he
         · simp only [Rel] at au
           obtain ⟨a,c,rfl⟩:=au
           simp only [aZ.val.injEq] at he
           exact nothing _ _ rfl he.1.symm he.2.symm
         · simp only [Rel] at au
           simp only [aZ.val.injEq] at he
           exact nothing _ _ au he.1.symm he.2.symm
   | _=>rw [bP] at aw;cases aw
theorem X4 {E:Env} {t:TypeId} {aP:l_} {x v:V} {X:Value} {ty:TypeId} (aG:a' P t=some aP) (aR:H6 aP.bc=true) (he:FH x=some v) (au:Rel E x X) (w:World):
 ∃Z,(Builtin.cap_ #[t] ty #[X]).run P w=.ok Z w∧Rel E v Z:=by
 cases bP:aP.bc with
 | slice e=>
   have hu:∀w,(underlying t).run P w=.ok (.slice e) w:=fun w=>by have:=e1 aG w;rw [bP] at this;exact this
   cases x<;>simp only [FH] at he<;>try (cases he;done)
   · simp only [Rel] at au
     obtain ⟨p,_,_,rfl⟩:=au
     cases he
     refine ⟨_,?_,rfl⟩
     simp [Builtin.cap_,Sem.run_bind,hu,Result.andThen_ok,Sem.run_pure]
     rfl
   · simp only [Rel] at au
     subst au
     cases he
     refine ⟨_,?_,rfl⟩
     simp [Builtin.cap_,Sem.run_bind,hu,Result.andThen_ok,Sem.run_pure]
     rfl
 | _=>rw [bP] at aR;cases aR
theorem zE {α:Type} (a:Array α):a.toList.toArray=a:=by simp
theorem UF {az:Fr} {E:Env} {h ab:af} {w:World} (s:a8 az E h w) {b:Builtin} {cx:Array TypeId} {args:List V} {xs:List Value} {v:V} {ty:TypeId} {cs:Array Bool} (ak:a_ E args xs)
 (he:(pZ P b cx.toList).run args h=.val v ab):∃m:Sem Value,Go.builtin b cx ty cs xs.toArray=(do pure (.value (←m)))∧cV az P E w m v ab:=by
 have one:∀{x:V},a_ E [x] xs→∃X,xs=[X]∧Rel E x X:=by
  intro x h
  simp only [a_] at h
  obtain ⟨y,cm,rfl,a1,rfl⟩:=h
  exact ⟨y,rfl,a1⟩
 have two:∀{x y:V},a_ E [x,y] xs→∃X Y,xs=[X,Y]∧Rel E x X∧Rel E y Y:=by
  intro x y h
  simp only [a_] at h
  obtain ⟨X,_,rfl,c4,Y,_,rfl,eQ,rfl⟩:=h
  exact ⟨X,Y,rfl,c4,eQ⟩
 cases b<;>simp only [pZ] at he<;>try (simp [ff.none] at he;done)
 · -- append
   cases eS:cx.toList with
   | nil=>rw [eS] at he;simp [ff.none] at he
   | cons t q2=>
     rw [eS] at he
     cases q2 with
     | nil=>simp [ff.none] at he
     | cons u ai9=>
       cases ai9 with
       | cons _ _=>simp [ff.none] at he
       | nil=>
         simp only at he
         match args,he,ak with
         | [x,y],he,ak=>
           obtain ⟨X,Y,rfl,c4,eQ⟩:=two ak
           have e:cx=#[t,u]:=by rw [←zE cx,eS]
           exact ⟨_,rfl,by rw [e];exact TY s he c4 eQ⟩
         | [],he,_=>cases he
         | [_],he,_=>cases he
         | _::_::_::_,he,_=>cases he
 · -- cap
   cases eS:cx.toList with
   | nil=>rw [eS] at he;simp [ff.none] at he
   | cons t q2=>
     rw [eS] at he
     cases q2 with
     | cons _ _=>simp [ff.none] at he
     | nil=>
       simp only at he
       cases aG:a' P t with
       | none=>rw [aG] at he;simp [ff.none] at he
       | some aP=>
         rw [aG] at he
         simp only at he
         cases aR:H6 aP.bc with
         | false=>rw [aR] at he;simp [ff.none] at he
         | true=>
           rw [aR] at he
           simp only [cond_true] at he
           match args,he,ak with
           | [x],he,ak=>
             obtain ⟨X,rfl,c4⟩:=one ak
             have e:cx=#[t]:=by rw [←zE cx,eS]
             obtain ⟨dX,rfl⟩:=aZ.hB he
             obtain ⟨Z,e6,cE⟩:=X4 (P:=P) (ty:=ty) aG aR dX c4 w
             exact ⟨_,rfl,by rw [e];exact cV.plain s e6 cE⟩
           | [],he,_=>cases he
           | _::_::_,he,_=>cases he
 · -- clear
   cases eS:cx.toList with
   | nil=>rw [eS] at he;simp [ff.none] at he
   | cons t q2=>
     rw [eS] at he
     cases q2 with
     | cons _ _=>simp [ff.none] at he
     | nil=>
       simp only at he
       cases aw:xK P t with
       | none=>rw [aw] at he;simp [ff.none] at he
       | some z=>
         rw [aw] at he
         simp only at he
         match args,he,ak with
         | [x],he,ak=>
           obtain ⟨X,rfl,c4⟩:=one ak
           have e:cx=#[t]:=by rw [←zE cx,eS]
           exact ⟨_,rfl,by rw [e];exact Ym s aw he c4⟩
         | [],he,_=>cases he
         | _::_::_,he,_=>cases he
 · -- copy
   cases eS:cx.toList with
   | nil=>rw [eS] at he;simp [ff.none] at he
   | cons t q2=>
     rw [eS] at he
     simp only at he
     match args,he,ak with
     | [x,y],he,ak=>
       obtain ⟨X,Y,rfl,c4,eQ⟩:=two ak
       have e:cx=(t::q2).toArray:=by rw [←zE cx,eS]
       exact ⟨_,rfl,by rw [e];exact YE s he c4 eQ⟩
     | [],he,_=>cases he
     | [_],he,_=>cases he
     | _::_::_::_,he,_=>cases he
 · -- len
   cases eS:cx.toList with
   | nil=>rw [eS] at he;simp [ff.none] at he
   | cons t q2=>
     rw [eS] at he
     cases q2 with
     | cons _ _=>simp [ff.none] at he
     | nil=>
       simp only at he
       cases aG:a' P t with
       | none=>rw [aG] at he;simp [ff.none] at he
       | some aP=>
         rw [aG] at he
         simp only at he
         match args,he,ak with
         | [x],he,ak=>
           obtain ⟨X,rfl,c4⟩:=one ak
           have e:cx=[t].toArray:=by rw [←zE cx,eS]
           cases hm:rU aP.bc with
           | true=>
             rw [hm] at he
             exact ⟨_,rfl,by rw [e];exact afa s aG hm c4 ty [] he⟩
           | false=>
             rw [hm] at he
             simp only [cond_false] at he
             obtain ⟨dX,rfl⟩:=aZ.hB he
             obtain ⟨Z,e6,cE⟩:=afb (P:=P) aG dX c4 ty [] w
             exact ⟨_,rfl,by rw [e];exact cV.plain s e6 cE⟩
         | [],he,_=>cases hm:rU aP.bc<;>rw [hm] at he<;>cases he
         | _::_::_,he,_=>cases hm:rU aP.bc<;>rw [hm] at he<;>cases he
 · -- max
   obtain ⟨dX,rfl⟩:=aZ.hB he
   clear he
   cases args with
   | nil=>cases dX
   | cons x args=>
     simp only [ju] at dX
     obtain ⟨k,a,rfl,aa⟩:=iD dX
     simp only [a_] at ak
     obtain ⟨X,cm,rfl,c4,ak⟩:=ak
     have:=c4.ic;subst this
     obtain ⟨Z,e6,cE⟩:=IZ (P:=P) false args cm k a v ak aa w
     exact ⟨_,rfl,cV.plain (Z:=Z) s (by simpa [Builtin.max_] using e6) cE⟩
 · -- min
   obtain ⟨dX,rfl⟩:=aZ.hB he
   clear he
   cases args with
   | nil=>cases dX
   | cons x args=>
     simp only [ju] at dX
     obtain ⟨k,a,rfl,aa⟩:=iD dX
     simp only [a_] at ak
     obtain ⟨X,cm,rfl,c4,ak⟩:=ak
     have:=c4.ic;subst this
     obtain ⟨Z,e6,cE⟩:=IZ (P:=P) true args cm k a v ak aa w
     exact ⟨_,rfl,cV.plain (Z:=Z) s (by simpa [Builtin.min_] using e6) cE⟩
end
end Go.Proofs.YtkehcalakofigaaGreatDoor.aS
namespace Go.Proofs.YtkehcalakofigaaGreatDoor.aS
variable [Lay]
open Go Go.RowKit
section
variable {P:Program}
def ec (P:Program):Prop:=∀(f:FuncId) (fn:Func),P.funcs[f]? =some fn→(fn.name == "runtime.NumGoroutine")=false
theorem si (bD:ec P) {f:FuncId} {fn:Func} (aA:P.funcs[f]? =some fn) (ai:fn.body.isSome=true) (args:Array Value) (w:World):(callFunc f args).run P w=.ok (.enter f args) w:=by
 have gu:fn.body.isNone=false:=by cases h:fn.body with | none=>rw [h] at ai;cases ai | some c=>rfl
 simp only [callFunc,Sem.run_bind,run_program,Result.andThen_ok,aA]
 rw [if_neg (by rw [bD f fn aA];simp)]
 simp [gu]
theorem Il {α β:Type} (f:α→β) (a:Array α):a.map f=(a.toList.map f).toArray:=by
 apply Array.ext'
 simp
theorem IY (ρ:Operand→Value) (bd:Array (Nat × Operand)):(bd.map fun (i,x)=>(i,ρ x))=(bd.toList.map fun (i,x)=>(i,ρ x)).toArray:=by
 apply Array.ext'
 simp
theorem Ub {E:Env} {t ss:TypeId} {aP:l_} {ok:Bool} {x v:V} {X:Value} (aG:a' P t=some aP) (ai:Nat.beq (ev aP.bc) 5=false) (au:Rel E x X)
 (he:xz t aP.zero ok x=some v) (w:World):∃Z,(Instr.typeAssert X ss t ok).run P w=.ok Z w∧Rel E v Z:=by
 have hu:=e1 aG w
 have pb:∀ms,aP.bc≠.interface ms:=fun ms e=>by rw [e] at ai;simp [ev] at ai
 have zero:∀z,aP.zero=some z→∃x,(zeroValue t).run P w=.ok x w∧Rel E z x:=fun z bj=>by
  obtain ⟨x,aa,ae,_⟩:=wQ (P:=P) aG bj E w
  exact ⟨x,aa,ae⟩
 unfold xz at he
 cases x<;>simp only at he<;>try (cases he;done)
 case iface u y=>
  simp only [Rel] at au
  obtain ⟨Y,rfl,eQ⟩:=au
  rw [gE] at he
  by_cases vZ:u=t
  · rw [if_pos vZ] at he
    simp only [Option.some.injEq] at he
    subst vZ
    cases ok with
    | true=>
      simp only [cond_true] at he
      subst he
      refine ⟨.tuple #[Y,.bool true],?_,by simp only [Rel,a_];exact ⟨_,rfl,_,_,rfl,eQ,_,_,rfl,rfl,rfl⟩⟩
      simp only [Instr.typeAssert,Sem.run_bind,hu,Result.andThen_ok]
      cases bP:aP.bc<;>first
       | exact absurd bP (pb _)
       | (simp only [if_true];rfl)
    | false=>
      simp only [cond_false] at he
      subst he
      refine ⟨Y,?_,eQ⟩
      simp only [Instr.typeAssert,Sem.run_bind,hu,Result.andThen_ok]
      cases bP:aP.bc<;>first
       | exact absurd bP (pb _)
       | (simp only [if_true];rfl)
  · rw [if_neg vZ] at he
    cases ok with
    | false=>cases he
    | true=>
      simp only [cond_true] at he
      cases bj:aP.zero with
      | none=>rw [bj] at he;cases he
      | some z=>
        rw [bj] at he
        simp only [Option.some.injEq] at he
        subst he
        obtain ⟨aV,cy,z2⟩:=zero z bj
        refine ⟨.tuple #[aV,.bool false],?_,by simp only [Rel,a_];exact ⟨_,rfl,_,_,rfl,z2,_,_,rfl,rfl,rfl⟩⟩
        simp only [Instr.typeAssert,Sem.run_bind,hu,Result.andThen_ok]
        cases bP:aP.bc<;>first
         | exact absurd bP (pb _)
         | (simp only [if_neg vZ,if_true,Sem.run_bind,cy,Result.andThen_ok];rfl)
 case nilIface=>
  simp only [Rel] at au
  subst au
  cases ok with
  | false=>cases he
  | true=>
    simp only [cond_true] at he
    cases bj:aP.zero with
    | none=>rw [bj] at he;cases he
    | some z=>
      rw [bj] at he
      simp only [Option.some.injEq] at he
      subst he
      obtain ⟨aV,cy,z2⟩:=zero z bj
      refine ⟨.tuple #[aV,.bool false],?_,by simp only [Rel,a_];exact ⟨_,rfl,_,_,rfl,z2,_,_,rfl,rfl,rfl⟩⟩
      simp only [Instr.typeAssert,Sem.run_bind,hu,Result.andThen_ok]
      cases bP:aP.bc<;>first
       | exact absurd bP (pb _)
       | (simp only [if_true,Sem.run_bind,cy,Result.andThen_ok];rfl)
def f' (P:Program) (call:du):Prop:=∀f args h v ab,call f args h=.val v ab→True
set_option maxHeartbeats 2000000 in
theorem LV {rd:Option Nat} {az:Fr} {E:Env} {h ab:af} {w:World} {call:du} (bD:ec P) (cH:fP P call) (dh:f' P call) {o:Oper} {ax:Nat} {r:bx} {a:Act} {v:V}
 (he:(eG P o).run call r h=.val v ab) (k:RegRel0 E ax r a) (s:a8 az E h w) {K:Act→World→Prop} {Q:Exit→Act→World→Prop}
 (dC:∀ay x ar,E.le ay→Rel ay v x→a8 az ay ab ar→K (a.put o.dst x) ar):o.wpIn (b4 rd) 0 P a w K Q:=by
 obtain ⟨dst,op,type,pos,after,guard⟩:=o
 cases op<;>simp only [eG] at he<;>try (simp [c9.none] at he;done)
 case move x=>
  simp only [aZ.val.injEq] at he;obtain ⟨rfl,rfl⟩:=he
  exact fF (m:=pure (a.eval x)) rfl (cV.plain s rfl (dv k x)) dC
 case assign x=>
  simp only [aZ.val.injEq] at he;obtain ⟨rfl,rfl⟩:=he
  exact fF (m:=pure (a.eval x)) rfl (cV.plain s rfl (dv k x)) dC
 case pick c x y=>
  have aw:=dv k c
  generalize (bO c).run r=JT at he aw
  cases JT<;>simp only at he<;>try (cases he;done)
  rename_i t
  simp only [aZ.val.injEq] at he;obtain ⟨rfl,rfl⟩:=he
  simp only [Rel] at aw
  refine fF (m:=do pure (if ←asBool (a.eval c) then a.eval x else a.eval y)) (by simp only [execOp,bind_assoc,pure_bind]) (cV.plain (Z:=if t then a.eval x else a.eval y) s ?_ ?_) dC
  · rw [aw];rfl
  · cases t
    · exact dv k y
    · exact dv k x
 case alloc t=>
  cases aG:a' P t with
  | none=>rw [aG] at he;simp [c9.none] at he
  | some aP=>
    rw [aG] at he
    simp only at he
    cases bj:aP.zero with
    | none=>rw [bj] at he;simp [c9.none] at he
    | some z=>
      rw [bj] at he
      simp only at he
      cases aX:fE h z.cells with
      | none=>rw [aX] at he;cases he
      | some aa=>
        rw [aX] at he
        simp only [gO,aZ.val.injEq] at he;obtain ⟨rfl,rfl⟩:=he
        obtain ⟨x,au,pe,_⟩:=sv (P:=P) (E:=E) aG bj w
        obtain ⟨ay,g1,g2,g3,g4⟩:=Cq (P:=P) s pe aX t
        have Gh:(newRow t x.cells).run P w=.ok ⟨w.heap.size,0,none⟩ {w with heap:=w.heap.push (.cells x.cells t)}:=by simpa using g3
        have Gi:a8 az ay aa {w with heap:=w.heap.push (.cells x.cells t)}:=by simpa using g4
        exact fF (m:=Instr.alloc t true (.tuple #[])) rfl ⟨.pointer (some ⟨w.heap.size,0,none⟩),_,ay,by simp only [Instr.alloc,Sem.run_bind,au,Result.andThen_ok,newVar,Gh,Sem.run_pure],g1,by simp only [Rel];exact ⟨_,g2,by simp⟩,Gi⟩ dC
 case box t x=>
  obtain ⟨aH,he⟩:=jK he
  cases aX:fE h ((bO x).run r).cells with
  | none=>rw [aX] at he;cases he
  | some aa=>
    rw [aX] at he
    simp only [gO,aZ.val.injEq] at he;obtain ⟨rfl,rfl⟩:=he
    have ak:=(dv k x).cells (fun e=>by rw [e] at aH;cases aH)
    obtain ⟨ay,g1,g2,g3,g4⟩:=Cq (P:=P) s ak aX t
    have Gh:(newRow t (a.eval x).cells).run P w=.ok ⟨w.heap.size,0,none⟩ {w with heap:=w.heap.push (.cells (a.eval x).cells t)}:=by simpa using g3
    have Gi:a8 az ay aa {w with heap:=w.heap.push (.cells (a.eval x).cells t)}:=by simpa using g4
    exact fF (m:=Instr.box t (a.eval x)) rfl ⟨.pointer (some ⟨w.heap.size,0,none⟩),_,ay,by simp only [Instr.box,Sem.run_bind,newVar,Gh,Result.andThen_ok,Sem.run_pure],g1,by simp only [Rel];exact ⟨_,g2,by simp⟩,Gi⟩ dC
 case build t bd=>
  obtain ⟨dX,rfl⟩:=aZ.hB he
  clear he
  obtain ⟨Z,e6,cE⟩:=UB (P:=P) (CO k bd.toList) dX w
  refine fF (m:=Instr.build t (bd.map fun (i,x)=>(i,a.eval x))) rfl (cV.plain (Z:=Z) s ?_ cE) dC
  rw [IY];exact e6
 case buildSlice t n bd=>
  refine fF (m:=Instr.buildSlice t n (bd.map fun (i,x)=>(i,a.eval x))) rfl ?_ dC
  rw [IY]
  exact UD s (CO k bd.toList) he
 case load t x=>
  obtain ⟨dX,rfl⟩:=aZ.hB he
  clear he
  obtain ⟨Y,eQ,cE,_⟩:=Pb (P:=P) s (dv k x) dX
  exact fF (m:=Instr.loadAt t (a.eval x)) rfl (cV.plain s eQ cE) dC
 case store t x y=>
  cases cz:(qW P t).run h ((bO x).run r) ((bO y).run r) with
  | none=>rw [cz] at he;cases he
  | some aa=>
    rw [cz] at he
    simp only [gO,aZ.val.injEq] at he;obtain ⟨rfl,rfl⟩:=he
    obtain ⟨ar,cK,gT⟩:=aiE (P:=P) s (dv k x) (dv k y) cz
    refine ⟨fun _ _=>trivial,?_⟩
    rw [oA (by intro c h;cases h)]
    have:execOp a.eval ⟨dst,.store t x y,type,pos,after,guard⟩=(do Instr.storeAt t (a.eval x) (a.eval y);pure .skip):=rfl
    rw [this,Sem.run_bind,cK]
    exact dC E undef ar (Env.le.refl E) (by simp [Rel]) gT
 case nilCheck x=>
  obtain ⟨dX,rfl⟩:=aZ.hB he
  clear he
  have au:=dv k x
  generalize (bO x).run r=uw at dX au
  have ee:∀X,Rel E uw X→(match X with
   | .pointer none | .nilIface | .nilFunc=>(runtimePanic .nilDeref:Sem Next)
   | .func (.method name) first captured=>
     match (first[0]? :Option Value) with
     | some .nilIface=>runtimePanic .nilDeref
     | some (.iface t w)=>do
       if (←nilAhead ((←program).types.size+Made.depth) t w name) != some false then
        unsupported (.noEntry "op/nilCheck.the method's receiver behind this interface value is a nil pointer, or cannot be seen to be none, and the arguments act or may panic (ledger 612)")
       pure (.value (.func (.method name) first captured))
     | _=>pure (.value (.func (.method name) first captured))
   | x=>pure (.value x))=pure (.value X)∧v=uw:=by
   intro X c4
   cases uw<;>simp only [r4] at dX<;>try (cases dX;done)
   all_goals simp only [Option.some.injEq] at dX
   all_goals simp only [Rel] at c4
   · obtain ⟨p,_,rfl⟩:=c4;exact ⟨rfl,dX.symm⟩
   · rcases c4 with ⟨_,_,rfl,_⟩ | ⟨_,_,_,_,_,rfl⟩<;>exact ⟨rfl,dX.symm⟩
   · obtain ⟨p,rfl,_⟩:=c4;exact ⟨rfl,dX.symm⟩
   · obtain ⟨_,p,rfl,_⟩:=c4;exact ⟨rfl,dX.symm⟩
  obtain ⟨aa,rfl⟩:=ee _ au
  exact fF (m:=pure (a.eval x)) (by simp only [execOp];rw [pure_bind];exact aa) (cV.plain s rfl au) dC
 case binOp op t x y u=>
  obtain ⟨dX,rfl⟩:=aZ.hB he
  clear he
  obtain ⟨Z,e6,cE⟩:=Ut (P:=P) (fN:=x) (gZ:=y) dX (dv k x) (dv k y) w
  exact fF rfl (cV.plain s e6 cE) dC
 case unOp op t x=>
  obtain ⟨dX,rfl⟩:=aZ.hB he
  clear he
  obtain ⟨Z,e6,cE⟩:=aji (P:=P) dX (dv k x) w
  exact fF (m:=Op.unary op (a.eval x)) rfl (cV.plain s e6 cE) dC
 case convert t u x=>exact fF (m:=convert t u (a.eval x)) rfl (YB s he (dv k x)) dC
 case makeInterface t x=>
  cases aG:a' P t with
  | none=>rw [aG] at he;simp [c9.none] at he
  | some aP=>
    rw [aG] at he
    simp only at he
    cases ai:Nat.beq (ev aP.bc) 5 with
    | true=>rw [ai] at he;simp [c9.none] at he
    | false=>
      rw [ai] at he
      simp only [cond_false,aZ.val.injEq] at he;obtain ⟨rfl,rfl⟩:=he
      refine fF (m:=Instr.makeInterface t (a.eval x)) rfl (cV.plain (Z:=.iface t (a.eval x)) s ?_ ?_) dC
      · have hu:=e1 aG w
        simp only [Instr.makeInterface,Sem.run_bind,hu,Result.andThen_ok]
        cases bP:aP.bc<;>first
         | rfl
         | (rw [bP] at ai;simp [ev] at ai)
      · simp only [Rel];exact ⟨_,rfl,dv k x⟩
 case makeFunc fn first ei=>
  cases fn<;>simp only at he<;>try (simp [c9.none] at he;done)
  rename_i f
  cases aA:(first.isEmpty&&!Nat.beq f c7) with
  | false=>
    rw [aA] at he
    simp only [cond_false] at he
    cases h_:(ei.isEmpty&&!Nat.beq f c7) with
    | false=>rw [h_] at he;simp [c9.none] at he
    | true=>
      rw [h_] at he
      simp only [cond_true,aZ.val.injEq] at he;obtain ⟨rfl,rfl⟩:=he
      simp only [Bool.and_eq_true,Bool.not_eq_true'] at h_
      have GV:f≠c7:=fun e=>by rw [e] at h_;exact absurd h_.2 (by decide)
      have GQ:ei=#[]:=by simpa using h_.1
      subst GQ
      refine fF (m:=Instr.makeFunc (.func f) (first.map a.eval) #[]) (by simp [execOp]) (cV.plain s rfl ?_) dC
      simp only [Rel]
      exact ⟨GV,_,rfl,by rw [Il];simpa using o3 k first.toList⟩
  | true=>
    rw [aA] at he
    simp only [cond_true,aZ.val.injEq] at he;obtain ⟨rfl,rfl⟩:=he
    simp only [Bool.and_eq_true,Bool.not_eq_true'] at aA
    have GV:f≠c7:=fun e=>by rw [e] at aA;exact absurd aA.2 (by decide)
    have GQ:first=#[]:=by simpa using aA.1
    subst GQ
    refine fF (m:=Instr.makeFunc (.func f) #[] (ei.map a.eval)) (by simp [execOp]) (cV.plain s rfl ?_) dC
    simp only [Rel]
    exact .inl ⟨GV,_,rfl,by rw [Il];simpa using o3 k ei.toList⟩
 case makeSlice t l c=>exact fF (m:=Instr.makeSlice t (a.eval l) (a.eval c)) rfl (afD s (dv k l) (dv k c) he) dC
 case slice t x bm av dU=>
  obtain ⟨dX,rfl⟩:=aZ.hB he
  clear he
  obtain ⟨Z,e6,cE⟩:=ain (P:=P) dX (dv k x) (CM k bm) (CM k av) (CM k dU) w
  exact fF (m:=Instr.sliceAt t (a.eval x) (bm.map a.eval) (av.map a.eval) (dU.map a.eval)) rfl (cV.plain s e6 cE) dC
 case fieldAddr t x i=>
  obtain ⟨dX,rfl⟩:=aZ.hB he
  clear he
  obtain ⟨Z,e6,cE⟩:=Zr (P:=P) dX (dv k x) w
  exact fF (m:=Instr.fieldAt t (a.eval x) i) rfl (cV.plain s e6 cE) dC
 case field t x i=>
  obtain ⟨dX,rfl⟩:=aZ.hB he
  clear he
  obtain ⟨Z,e6,cE⟩:=Zs (P:=P) dX (dv k x) w
  exact fF (m:=Instr.field t (a.eval x) i) rfl (cV.plain s e6 cE) dC
 case indexAddr t x i=>
  obtain ⟨dX,rfl⟩:=aZ.hB he
  clear he
  obtain ⟨Z,e6,cE⟩:=acJ (P:=P) dX (dv k x) (dv k i) w
  exact fF (m:=Instr.indexAt t (a.eval x) (a.eval i)) rfl (cV.plain s e6 cE) dC
 case index t x i=>
  obtain ⟨dX,rfl⟩:=aZ.hB he
  clear he
  obtain ⟨Z,e6,cE⟩:=acL (P:=P) dX (dv k x) (dv k i) w
  exact fF (m:=Instr.index t (a.eval x) (a.eval i)) rfl (cV.plain s e6 cE) dC
 case range t x=>exact fF (m:=Instr.range t (a.eval x)) rfl (ahr s (dv k x) he) dC
 case next it wb=>
  cases wb with
  | true=>exact fF (m:=Instr.next (a.eval it) true type) rfl (af4 s (dv k it) he) dC
  | false=>exact fF (m:=Instr.next (a.eval it) false type) rfl (af2 s (dv k it) he) dC
 case entry it=>exact fF (m:=Instr.entry (a.eval it)) rfl (Y8 s (dv k it) he) dC
 case lookup t x y ok=>
  obtain ⟨dX,rfl⟩:=aZ.hB he
  clear he
  obtain ⟨Z,e6,cE⟩:=afw (P:=P) s (dv k x) (dv k y) dX
  exact fF (m:=Instr.lookup t (a.eval x) (a.eval y) ok) rfl (cV.plain s e6 cE) dC
 case mapEntry t m y=>exact fF (m:=Instr.mapEntry t (a.eval m) (a.eval y)) rfl (afF s (dv k m) (dv k y) he) dC
 case entryStore t m st x=>
  cases cz:A9 h ((bO m).run r) ((bO st).run r) ((bO x).run r) with
  | none=>rw [cz] at he;cases he
  | some aa=>
    rw [cz] at he
    simp only [gO,aZ.val.injEq] at he;obtain ⟨rfl,rfl⟩:=he
    obtain ⟨ar,cK,gT⟩:=Y7 (P:=P) (t:=t) s (dv k m) (dv k st) (dv k x) cz
    refine ⟨fun _ _=>trivial,?_⟩
    rw [oA (by intro c h;cases h)]
    have:execOp a.eval ⟨dst,.entryStore t m st x,type,pos,after,guard⟩=(do Instr.entryStore t (a.eval m) (a.eval st) (a.eval x);pure .skip):=rfl
    rw [this,Sem.run_bind,cK]
    exact dC E undef ar (Env.le.refl E) (by simp [Rel]) gT
 case mapUpdate t m y x=>
  cases cz:(nF P t).run h ((bO m).run r) ((bO y).run r) ((bO x).run r) with
  | none=>rw [cz] at he;cases he
  | some aa=>
    rw [cz] at he
    simp only [gO,aZ.val.injEq] at he;obtain ⟨rfl,rfl⟩:=he
    obtain ⟨ar,cK,gT⟩:=RV (P:=P) s (dv k m) (dv k y) (dv k x) cz
    refine ⟨fun _ _=>trivial,?_⟩
    rw [oA (by intro c h;cases h)]
    have:execOp a.eval ⟨dst,.mapUpdate t m y x,type,pos,after,guard⟩=(do Instr.mapUpdate t (a.eval m) (a.eval y) (a.eval x);pure .skip):=rfl
    rw [this,Sem.run_bind,cK]
    exact dC E undef ar (Env.le.refl E) (by simp [Rel]) gT
 case insert t m y x=>
  cases cz:(nF P t).run h ((bO m).run r) ((bO y).run r) ((bO x).run r) with
  | none=>rw [cz] at he;cases he
  | some aa=>
    rw [cz] at he
    simp only [gO,aZ.val.injEq] at he;obtain ⟨rfl,rfl⟩:=he
    obtain ⟨ar,cK,gT⟩:=RV (P:=P) s (dv k m) (dv k y) (dv k x) cz
    refine ⟨fun _ _=>trivial,?_⟩
    rw [oA (by intro c h;cases h)]
    have:execOp a.eval ⟨dst,.insert t m y x,type,pos,after,guard⟩=(do Instr.mapUpdate t (a.eval m) (a.eval y) (a.eval x);pure .skip):=rfl
    rw [this,Sem.run_bind,cK]
    exact dC E undef ar (Env.le.refl E) (by simp [Rel]) gT
 case makeMap t x=>exact fF (m:=Instr.makeMap t (x.map a.eval)) rfl (afC s (CM k x) he) dC
 case panic x=>
  exfalso
  unfold IX at he
  split at he<;>cases he
 case typeAssert x ss t ok=>
  cases aG:a' P t with
  | none=>rw [aG] at he;simp [c9.none] at he
  | some aP=>
    rw [aG] at he
    simp only at he
    cases ai:Nat.beq (ev aP.bc) 5 with
    | true=>rw [ai] at he;simp [c9.none] at he
    | false=>
      rw [ai] at he
      simp only [cond_false] at he
      obtain ⟨dX,rfl⟩:=aZ.hB he
      clear he
      obtain ⟨Z,e6,cE⟩:=Ub aG ai (ss:=ss) (dv k x) dX w
      exact fF (m:=Instr.typeAssert (a.eval x) ss t ok) rfl (cV.plain s e6 cE) dC
 case extract x i=>
  have au:=dv k x
  generalize (bO x).run r=uw at he au
  cases uw<;>simp only at he<;>try (cases he;done)
  obtain ⟨dX,rfl⟩:=aZ.hB he
  clear he
  simp only [Rel] at au
  obtain ⟨arr,c4,ak⟩:=au
  obtain ⟨y,a1,cE⟩:=ak.get i v dX
  refine fF (m:=Instr.extract (a.eval x) i) rfl (cV.plain (Z:=y) s ?_ cE) dC
  rw [c4]
  have:arr[i]? =some y:=by simpa using a1
  simp only [Instr.extract,this,Sem.run_pure]
 case call c=>
  obtain ⟨callee,args,types⟩:=c
  cases callee with
  | invoke _ _=>simp [p2,c9.none] at he
  | builtin b=>
    simp only [p2] at he
    obtain ⟨cs,fU⟩:∃cs,execOp a.eval ⟨dst,.call ⟨.builtin b,args,types⟩,type,pos,after,guard⟩=Go.builtin b types type cs (args.map a.eval):=by
     simp only [execOp,resolve,pure_bind,invoke]
     exact ⟨_,rfl⟩
    obtain ⟨m,hm,aH⟩:=UF (P:=P) (ty:=type) (cs:=cs) s (o3 k args.toList) he
    refine fF (m:=m) ?_ aH dC
    rw [fU,←hm,Il]
  | value f=>
    simp only [p2] at he
    have aA:=dv k f
    generalize aci:(bO f).run r=uu at he aA
    cases uu<;>simp only [V.wD] at he<;>try (cases he;done)
    rotate_left
    · rename_i g cs
      simp only [Rel] at aA
      refine ⟨fun _ _=>trivial,?_⟩
      rw [oA (by intro c h;cases h)]
      obtain ⟨aH,first,c4,ak⟩:=aA
      have nW:=a_.append ak (o3 k args.toList)
      have nY:=cH.fn _ _ _ _ _ _ aH he E w _ nW s
      have hex:execOp a.eval ⟨dst,.call ⟨.value f,args,types⟩,type,pos,after,guard⟩=callFunc g (first++args.map a.eval):=by
       simp only [execOp,resolve,c4,Deferred.ofValue,pure_bind,invoke]
       simp
      have e:first++args.map a.eval=(first.toList++args.toList.map a.eval).toArray:=by
       apply Array.ext';simp
      rw [hex,e]
      rcases nY with ⟨⟨fn,hg,ai⟩,aw⟩ | ⟨ay,x,ar,aJ,al,aq,aK⟩
      case inr=>
       rw [aJ]
       exact dC ay x ar al aq aK
      rw [si bD hg ai]
      refine ⟨fun h=>by simp at h,rr.2 (aw.mono fun e ar aF=>?_)⟩
      obtain ⟨ay,x,rfl,al,aq,aK⟩:=aF
      exact dC ay x ar al aq aK
    rename_i g cs
    simp only [Rel] at aA
    refine ⟨fun _ _=>trivial,?_⟩
    rw [oA (by intro c h;cases h)]
    rcases aA with ⟨aH,ei,c4,ak⟩ | ⟨aH,b,p,fU,aj,c4⟩
    · have nW:=(o3 k args.toList).append ak
      have nY:=cH.fn _ _ _ _ _ _ aH he E w _ nW s
      have hex:execOp a.eval ⟨dst,.call ⟨.value f,args,types⟩,type,pos,after,guard⟩=callFunc g (args.map a.eval++ei):=by
       simp only [execOp,resolve,c4,Deferred.ofValue,pure_bind,invoke]
       simp
      have e:args.map a.eval++ei=(args.toList.map a.eval++ei.toList).toArray:=by
       apply Array.ext';simp
      rw [hex,e]
      rcases nY with ⟨⟨fn,hg,ai⟩,aw⟩ | ⟨ay,x,ar,aJ,al,aq,aK⟩
      case inr=>
       rw [aJ]
       exact dC ay x ar al aq aK
      rw [si bD hg ai]
      refine ⟨fun h=>by simp at h,rr.2 (aw.mono fun e ar aF=>?_)⟩
      obtain ⟨ay,x,rfl,al,aq,aK⟩:=aF
      exact dC ay x ar al aq aK
    · subst aH fU
      obtain ⟨p9,tmps,assign,body,al,aq⟩:=cH.Sb _ _ _ _ _ _ he E w _ p (o3 k args.toList) s aj
      have hex:execOp a.eval ⟨dst,.call ⟨.value f,args,types⟩,type,pos,after,guard⟩=Instr.yield p.a7 (args.map a.eval):=by
       simp only [execOp,resolve,c4,Deferred.ofValue,pure_bind,invoke]
       simp
      have e:args.map a.eval=(args.toList.map a.eval).toArray:=by
       apply Array.ext';simp
      rw [hex,e,al]
      refine ⟨fun h=>by simp at h,RoundIn.mono aq fun e ar aF=>?_⟩
      obtain ⟨ay,x,rfl,bp,bT,bX⟩:=aF
      exact dC ay x ar bp bT bX
end
end Go.Proofs.YtkehcalakofigaaGreatDoor.aS
namespace Go.Proofs.YtkehcalakofigaaGreatDoor.aS
variable [Lay]
open Go Go.RowKit
section
variable {P:Program}
theorem Gl {E:Env} {ax:Nat} {r:bx} {a:Act} (k:RegRel0 E ax r a) {all:Array Oper} {j:Nat} {g:Oper} {d:Nat} (bH:all[j]? =some g) (aY:g.dst=some d) (GI:d<ax) (tf:d≤top):
 (∀b,T.get .bad (aC d) r=.bool b→yielded all a.tmps j=some b)∧(∀ad,T.get .bad (aC d) r=.tuple ad→yielded all a.tmps j=none):=by
 have aJ:=k.an d tf
 have aN:d<a.tmps.size:=by rw [k.size];exact GI
 have he:a.tmps[d]? =some (a.tmps.getD d undef):=by simp [Array.getD_eq_getD_getElem?,aN]
 refine ⟨fun b ai=>?_,fun ad ai=>?_⟩
 · rw [ai] at aJ
   simp only [Rel] at aJ
   simp only [yielded,bH,Option.bind,aY,he,aJ]
 · rw [ai] at aJ
   simp only [Rel] at aJ
   obtain ⟨arr,aJ,_⟩:=aJ
   simp only [yielded,bH,Option.bind,aY,he,aJ]
theorem LR {rd:Option Nat} {az:Fr} {E:Env} {h ab:af} {w:World} {call:du} (bD:ec P) (cH:fP P call) {o:Oper} {ax:Nat} {r:bx} {a:Act} {v:V} (hm:kq o.op=true)
 (he:(eG P o).run call r h=.cw v ab) (k:RegRel0 E ax r a) (s:a8 az E h w) {K:Act→World→Prop} {Q:Exit→Act→World→Prop}
 (c2:∀ay x ar,E.le ay→Rel ay v x→a8 az ay ab ar→Q (.panic (ow x)) a ar):o.wpIn (b4 rd) 0 P a w K Q:=by
 obtain ⟨dst,op,type,pos,after,guard⟩:=o
 cases op<;>simp only [kq] at hm<;>try (cases hm;done)
 all_goals simp only [eG] at he
 case panic x=>
  have au:=dv k x
  generalize (bO x).run r=uw at he au
  unfold IX at he
  cases uw<;>simp only at he<;>try (cases he;done)
  simp only [aZ.cw.injEq] at he
  obtain ⟨rfl,rfl⟩:=he
  have yG:=au
  simp only [Rel] at au
  obtain ⟨Y,c4,eQ⟩:=au
  refine ⟨fun _ _=>trivial,?_⟩
  rw [oA (by intro c h;cases h)]
  have hex:(execOp a.eval ⟨dst,.panic x,type,pos,after,guard⟩).run P w=.halt (.panic (a.eval x)) w:=by
   simp only [execOp,c4,Instr.panic,Sem.run_bind]
   rfl
  rw [hex]
  exact c2 E _ w (Env.le.refl E) yG s
 case call c=>
  obtain ⟨callee,args,types⟩:=c
  cases callee<;>simp only at hm<;>try (cases hm;done)
  rename_i f
  simp only [p2] at he
  have aA:=dv k f
  generalize aci:(bO f).run r=uu at he aA
  cases uu<;>simp only [V.wD] at he<;>try (cases he;done)
  rotate_left
  · rename_i g cs
    simp only [Rel] at aA
    refine ⟨fun _ _=>trivial,?_⟩
    rw [oA (by intro c h;cases h)]
    obtain ⟨aH,first,c4,ak⟩:=aA
    have nW:=a_.append ak (o3 k args.toList)
    obtain ⟨⟨fn,hg,ai⟩,aw⟩:=cH.cw _ _ _ _ _ _ aH he E w _ nW s
    have hex:execOp a.eval ⟨dst,.call ⟨.value f,args,types⟩,type,pos,after,guard⟩=callFunc g (first++args.map a.eval):=by
     simp only [execOp,resolve,c4,Deferred.ofValue,pure_bind,invoke]
     simp
    have e:first++args.map a.eval=(first.toList++args.toList.map a.eval).toArray:=by
     apply Array.ext';simp
    rw [hex,e,si bD hg ai]
    refine ⟨fun h=>by simp at h,rr.2 (aw.mono fun e ar aF=>?_)⟩
    obtain ⟨ay,x,rfl,al,aq,aK⟩:=aF
    exact c2 ay x ar al aq aK
  rename_i g cs
  simp only [Rel] at aA
  refine ⟨fun _ _=>trivial,?_⟩
  rw [oA (by intro c h;cases h)]
  rcases aA with ⟨aH,ei,c4,ak⟩ | ⟨aH,b,p,fU,aj,c4⟩
  · have nW:=(o3 k args.toList).append ak
    obtain ⟨⟨fn,hg,ai⟩,aw⟩:=cH.cw _ _ _ _ _ _ aH he E w _ nW s
    have hex:execOp a.eval ⟨dst,.call ⟨.value f,args,types⟩,type,pos,after,guard⟩=callFunc g (args.map a.eval++ei):=by
     simp only [execOp,resolve,c4,Deferred.ofValue,pure_bind,invoke]
     simp
    have e:args.map a.eval++ei=(args.toList.map a.eval++ei.toList).toArray:=by
     apply Array.ext';simp
    rw [hex,e,si bD hg ai]
    refine ⟨fun h=>by simp at h,rr.2 (aw.mono fun e ar aF=>?_)⟩
    obtain ⟨ay,x,rfl,al,aq,aK⟩:=aF
    exact c2 ay x ar al aq aK
  · subst aH
    exact absurd he (cH.Sc _ _ _ _)
def l9 (az:Fr) (E:Env) (ax:Nat) (K:Act→World→Prop) (Q:Exit→Act→World→Prop):mR→Prop
 | .ok r h=>∀ay bk ar,E.le ay→eP ay ax r bk→a8 az ay h ar→K bk ar
 | .cw v r h=>∀ay bk ar x,E.le ay→eP ay ax r bk→Rel ay v x→a8 az ay h ar→Q (.panic (ow x)) bk ar
 | .fail=>False
theorem l9.up {az:Fr} {E ay:Env} (h:E.le ay) {ax:Nat} {K:Act→World→Prop} {Q:Exit→Act→World→Prop} {x:mR} (k:l9 az E ax K Q x):l9 az ay ax K Q x:=by
 cases x with
 | ok r ba=>exact fun bV a w ae=>k bV a w (h.trans ae)
 | cw v r ba=>exact fun bV a w x ae=>k bV a w x (h.trans ae)
 | fail=>exact k
theorem PZ {rd:Option Nat} {az:Fr} {E:Env} {h:af} {w:World} {call:du} (bD:ec P) (cH:fP P call) (dh:f' P call) {all:Array Oper} {i:Nat} {o:Oper} (av:all[i]? =some o) {ax:Nat} {r:bx} {a:Act}
 (aY:eI ax o.dst=true) (k:eP E ax r a) (s:a8 az E h w) {K:Act→World→Prop} {Q:Exit→Act→World→Prop} (hw:Region.wanted o (yielded all a.tmps)=true)
 (aj:l9 az E ax K Q (CL (kq o.op) (eG P o) (eZ o.dst) call r h)):wpOpIn (b4 rd) 0 P all Q i K a w:=by
 simp only [wpOpIn,av,hw,if_true]
 unfold CL at aj
 cases aU:(eG P o).run call r h with
 | fail=>rw [aU] at aj;exact aj.elim
 | val v aa=>
   rw [aU] at aj
   exact LV bD cH dh aU k.toRegRel0 s fun ay x ar al aq aK=>aj ay _ ar al ((k.mono al).put aY aq) aK
 | cw v aa=>
   rw [aU] at aj
   simp only at aj
   cases hm:kq o.op with
   | false=>rw [hm] at aj;exact aj.elim
   | true=>
     rw [hm] at aj
     exact LR bD cH hm aU k.toRegRel0 s fun ay x ar al aq aK=>aj ay a ar x al (k.mono al) aq aK
theorem RU {rd:Option Nat} {az:Fr} {E:Env} {h:af} {w:World} {all:Array Oper} {i:Nat} {o:Oper} (av:all[i]? =some o) {ax:Nat} {r:bx} {a:Act}
 (aY:eI ax o.dst=true) (k:eP E ax r a) (s:a8 az E h w) {K:Act→World→Prop} {Q:Exit→Act→World→Prop} (hw:Region.wanted o (yielded all a.tmps)=false)
 (aj:l9 az E ax K Q (.ok ((eZ o.dst).run r (.tuple [])) h)):wpOpIn (b4 rd) 0 P all Q i K a w:=by
 simp only [wpOpIn,av,hw,Bool.false_eq_true,if_false]
 exact ⟨fun _ _=>trivial,aj E _ w (Env.le.refl E) (k.put aY (by simp only [Rel];exact ⟨#[],rfl,rfl⟩)) s⟩
theorem CK {rd:Option Nat} {az:Fr} {E:Env} {h:af} {w:World} {call:du} (bD:ec P) (cH:fP P call) (dh:f' P call) {all:Array Oper} {i:Nat} {o:Oper} (av:all[i]? =some o) {ax:Nat} {r:bx} {a:Act}
 (aY:eI ax o.dst=true) (k:eP E ax r a) (s:a8 az E h w) {K:Act→World→Prop} {Q:Exit→Act→World→Prop}
 (aj:l9 az E ax K Q ((wG P ax all o).run call r h)):wpOpIn (b4 rd) 0 P all Q i K a w:=by
 unfold wG at aj
 cases aH:o.guard with
 | none=>
   rw [aH] at aj
   exact PZ bD cH dh av aY k s (by simp [Region.wanted,aH]) aj
 | some og=>
   obtain ⟨j,want⟩:=og
   rw [aH] at aj
   simp only at aj
   cases bH:all[j]? with
   | none=>rw [bH] at aj;exact aj.elim
   | some g=>
     rw [bH] at aj
     simp only at aj
     cases jj:g.dst with
     | none=>rw [jj] at aj;exact aj.elim
     | some d=>
       rw [jj] at aj
       simp only at aj
       cases aw:(Nat.blt d ax&&Nat.ble d top) with
       | false=>rw [aw] at aj;exact aj.elim
       | true=>
         rw [aw] at aj
         simp only [cond_true,M',m'] at aj
         simp only [Bool.and_eq_true,Nat.blt_eq,Nat.ble_eq] at aw
         obtain ⟨g1,g2⟩:=Gl k.toRegRel0 bH jj aw.1 aw.2
         cases bs:T.get .bad (aC d) r<;>rw [bs] at aj<;>simp only at aj<;>try (exact aj.elim)
         · rename_i b
           have a1:=g1 b bs
           cases ai:(bif want then b else !b) with
           | true=>
             rw [ai] at aj
             simp only [cond_true] at aj
             refine PZ bD cH dh av aY k s ?_ aj
             simp only [Region.wanted,aH,a1]
             cases want<;>cases b<;>simp_all
           | false=>
             rw [ai] at aj
             simp only [cond_false] at aj
             refine RU av aY k s ?_ aj
             simp only [Region.wanted,aH,a1]
             cases want<;>cases b<;>simp_all
         · rename_i ad
           have a1:=g2 ad bs
           refine RU av aY k s ?_ aj
           simp only [Region.wanted,aH,a1]
           rfl
theorem j5.list {E:Env} {v:V} {ds:List Deferred} (k:j5 E v ds):l6 E v.list ds:=by
 cases v<;>first
  | exact k
theorem agL {rd:Option Nat} {az:Fr} {E:Env} {h:af} {w:World} {call:du} (bD:ec P) (cH:fP P call) (dh:f' P call) {all:Array Oper} {i:Nat} {o:Oper} (av:all[i]? =some o) {ax:Nat} {r:bx} {a:Act}
 (aJ:rd=none∨ID o=true) (k:eP E ax r a) (s:a8 az E h w) {K:Act→World→Prop} {Q:Exit→Act→World→Prop}
 (aj:l9 az E ax K Q ((CJ P ax all o).run call r h)):wpOpIn (b4 rd) 0 P all Q i K a w:=by
 unfold CJ at aj
 cases aY:eI ax o.dst with
 | false=>rw [aY] at aj;exact aj.elim
 | true=>
   rw [aY] at aj
   simp only [cond_true] at aj
   obtain ⟨dst,op,type,pos,after,guard⟩:=o
   cases op with
   | defer c=>
     rcases aJ with rfl | aJ
     case inr=>cases aJ
     simp only at aj
     cases guard with
     | some _=>exact aj.elim
     | none=>
       simp only at aj
       obtain ⟨callee,args,types⟩:=c
       simp only [L4] at aj
       cases callee<;>simp only at aj<;>try (exact aj.elim)
       rename_i f
       unfold L5 at aj
       have aA:=dv k.toRegRel0 f
       generalize (bO f).run r=uu at aj aA
       cases uu<;>simp only at aj<;>try (exact aj.elim)
       rename_i g cs
       cases a1:Nat.beq g c7 with
       | true=>rw [a1] at aj;exact aj.elim
       | false=>
         rw [a1] at aj
         simp only [cond_false] at aj
         have vF:g≠c7:=fun e=>by rw [e] at a1;exact absurd a1 (by decide)
         simp only [Rel] at aA
         rcases aA with ⟨_,ei,c4,ak⟩ | ⟨aH,_⟩
         case inr=>exact absurd aH vF
         simp only [wpOpIn,av,Region.wanted,if_true]
         refine ⟨fun _ _=>trivial,?_⟩
         have hex:((Oper.mk dst (.defer ⟨.value f,args,types⟩) type pos after none).semAt (b4 none).round a.eval).run P w=.ok (.defer {target:=.fn (.func g) ei,args:=#[]++args.map a.eval}) w:=by
          simp only [Oper.semAt_none,execOp,resolve,c4,Deferred.ofValue,pure_bind]
          rfl
         rw [hex]
         refine aj E _ w (Env.le.refl E) (eP.put ?_ aY (by simp only [Rel];exact ⟨#[],rfl,rfl⟩)) s
         refine ⟨⟨k.size,fun t aG=>?_⟩,?_⟩
         rotate_left
         · rw [T.hd,if_pos rfl]
           simp only [j5,l6]
           refine ⟨_,_,rfl,⟨vF,ei,rfl,?_⟩,k.defers.list⟩
           have:=(o3 k.toRegRel0 args.toList).append ak
           simpa using this
         · rw [T.hd,if_neg (fun e=>tZ aG e.symm)]
           exact k.an t aG
   | binOp op t x y u=>
     simp only at aj
     cases guard with
     | some g=>exact CK bD cH dh av aY k s aj
     | none=>
       simp only at aj
       cases ki:CZ P op t with
       | none=>rw [ki] at aj;exact CK bD cH dh av aY k s aj
       | some neg=>
         rw [ki] at aj
         simp only [Qv] at aj
         cases aF:nB h ((bO x).run r) ((bO y).run r) with
         | none=>rw [aF] at aj;exact CK bD cH dh av aY k s aj
         | some b=>
           rw [aF] at aj
           simp only [wpOpIn,av,Region.wanted,if_true]
           obtain ⟨Z,e6,cE⟩:=ag' (P:=P) (fN:=x) (gZ:=y) s ki aF (dv k.toRegRel0 x) (dv k.toRegRel0 y)
           exact fF rfl (cV.plain s e6 cE) fun ay v ar al aq aK=>aj ay _ ar al ((k.mono al).put aY aq) aK
   | _=>exact CK bD cH dh av aY k s aj
theorem P0 {rd:Option Nat} {az:Fr} {call:du} (bD:ec P) (cH:fP P call) (dh:f' P call) {all:Array Oper} {ax:Nat} {Q:Exit→Act→World→Prop}:∀(l:List Oper) (i:Nat),(∀j,l[j]? =all[i+j]?)→(rd=none∨∀o ∈ l,ID o=true)→
 ∀(E:Env) (r:bx) (h:af) (a:Act) (w:World),l9 az E ax (Q .normal) Q ((zh P ax all l).run call r h)→eP E ax r a→a8 az E h w→
 wpOpsIn (b4 rd) 0 P all Q (List.range' i l.length) a w
 | [],i,_,_,E,r,h,a,w,aj,k,s=>by
   simp only [zh] at aj
   simp only [List.length_nil,List.range'_zero,wpOpsIn]
   exact aj E a w (Env.le.refl E) k s
 | o::os,i,ak,aJ,E,r,h,a,w,aj,k,s=>by
   simp only [zh,Re] at aj
   have av:all[i]? =some o:=by have:=ak 0;simpa using this.symm
   rw [List.length_cons,List.range'_succ,wpOpsIn_cons]
   refine agL bD cH dh av (aJ.imp id fun h=>h o (by simp)) k s ?_
   cases aa:(CJ P ax all o).run call r h with
   | fail=>rw [aa] at aj;exact aj
   | cw v bp o9=>rw [aa] at aj;exact aj
   | ok bp o9=>
     rw [aa] at aj
     simp only at aj
     intro ay bk ar al aq aK
     refine P0 bD cH dh os (i+1) (fun j=>?_) (aJ.imp id fun h b6 gh=>h b6 (by simp [gh])) ay bp o9 bk ar (aj.up al) aq aK
     have:=ak (j+1)
     simp only [List.getElem?_cons_succ] at this
     rw [this]
     congr 1
     omega
end
end Go.Proofs.YtkehcalakofigaaGreatDoor.aS
namespace Go.Proofs.YtkehcalakofigaaGreatDoor.aS
variable [Lay]
open Go Go.RowKit
theorem Mv {a b:V} (h:A_ a b=true):a=b:=by
 cases a<;>cases b<;>simp only [A_] at h<;>first
  | rfl
  | (cases h;done)
  | (rename_i x y;cases x<;>cases y<;>simp_all;done)
  | (rename_i k x l y
     simp only [Bool.and_eq_true] at h
     have aa:=ry h.1
     have ae:=h.2
     rw [kN,beq_iff_eq] at ae
     rw [aa,ae];done)
  | (rw [sL,beq_iff_eq] at h;rw [h];done)
  | (simp only [Bool.and_eq_true,Nat.beq_eq] at h
     obtain ⟨aa,ae,aI,bu⟩:=h
     rw [aQ.kN aa,ae,aI,bu];done)
  | (simp only [Bool.and_eq_true,Nat.beq_eq] at h
     rw [aQ.kN h.1,h.2];done)
  | (rw [aQ.kN h];done)
  | (simp only [Bool.and_eq_true,Nat.beq_eq,List.isEmpty_iff] at h
     obtain ⟨aa,ae,aI⟩:=h
     rw [aa,ae,aI];done)
  | (simp only [Bool.and_eq_true,List.isEmpty_iff] at h
     rw [h.1,h.2];done)
theorem F5 {f:V→V→Bool} (aA:∀a b,f a b=true→a=b):∀{a b:List V},vc f a b=true→a=b
 | [],[],_=>rfl
 | [],_::_,h=>by cases h
 | _::_,[],h=>by cases h
 | a::x,b::y,h=>by
   simp only [vc] at h
   cases aa:f a b with
   | false=>rw [aa] at h;cases h
   | true=>
     rw [aa] at h
     rw [aA a b aa,F5 aA h]
theorem Ur {c x:Bool} (h:(bif c then x else false)=true):c=true∧x=true:=by
 cases c with
 | false=>cases h
 | true=>exact ⟨rfl,h⟩
theorem Mw:∀(d:Nat) (a b:V),sZ d a b=true→a=b
 | 0,a,b,h=>Mv h
 | d+1,a,b,h=>by
   have bg:=Mw d
   cases a<;>simp only [sZ] at h<;>first
    | exact Mv h
    | (cases b<;>simp only at h<;>first
        | (cases h;done)
        | rfl
        | (rw [F5 bg h];done)
        | (obtain ⟨aa,ae⟩:=Ur h
           rw [Nat.beq_eq] at aa
           rw [aa]
           first
            | rw [F5 bg ae]
            | rw [bg _ _ ae]))
theorem F6 {a b:V} (h:xU a b=true):a=b:=Mw 5 a b h
theorem xC (m i:Nat):e_ m i=m.testBit i:=by
 rw [Nat.testBit_eq_decide_div_mod_eq]
 unfold e_
 have e:Nat.mod (Nat.shiftRight m i) 2=m / 2 ^ i % 2:=by
  show (m >>> i) % 2=_
  rw [Nat.shiftRight_eq_div_pow]
 rw [e,Bool.eq_iff_iff,Nat.beq_eq,decide_eq_true_eq]
theorem Im {dE:List Nat} {i:Nat}:∀{es:List Edge},e_ (r2 dE es) i=true→∃e ∈ es,sM e=true∧(e.on=i∨e_ ((dE[e.on]?).getD 0) i=true)
 | [],h=>by simp [r2,xC] at h
 | e::es,h=>by
   simp only [r2] at h
   cases ai:sM e with
   | false=>
     rw [ai] at h
     obtain ⟨db,aa,ae⟩:=Im (es:=es) h
     exact ⟨db,by simp [aa],ae⟩
   | true=>
     rw [ai] at h
     simp only [cond_true,xC] at h
     have ab:((1 <<< e.on||| (dE[e.on]?).getD 0)||| r2 dE es).testBit i=true:=h
     rw [Nat.testBit_or,Nat.testBit_or,Bool.or_eq_true,Bool.or_eq_true] at ab
     rcases ab with (aa | aa) | aa
     · refine ⟨e,by simp,ai,.inl ?_⟩
       rw [Nat.testBit_shiftLeft] at aa
       simp only [Bool.and_eq_true,decide_eq_true_eq] at aa
       have:=aa.2
       rw [Nat.testBit_one_eq_true_iff_self_eq_zero] at this
       omega
     · exact ⟨e,by simp,ai,.inr (by rw [xC];exact aa)⟩
     · rw [←xC] at aa
       obtain ⟨db,al,aq⟩:=Im (es:=es) aa
       exact ⟨db,by simp [al],aq⟩
def oL (ops:Array Oper) (L:Nat→Prop):Prop:=∀k o e,L k→ops[k]? =some o→e ∈ o.after.toList→sM e=true→L e.on
theorem y2 {ops:Array Oper} {L:Nat→Prop} (nU:oL ops L):∀(os:List Oper) (dE:List Nat),(∀j,os[j]? =ops[dE.length+j]?)→
 (∀k m i,dE[k]? =some m→e_ m i=true→L k→L i)→∀k m i,(ef dE os)[k]? =some m→e_ m i=true→L k→L i
 | [],dE,_,h,k,m,i,aD,ai,cI=>h k m i aD ai cI
 | o::os,dE,ng,h,k,m,i,aD,ai,cI=>by
   simp only [ef] at aD
   refine y2 nU os (dE++[r2 dE o.after.toList]) (fun j=>?_) (fun k m i aD ai cI=>?_) k m i aD ai cI
   · have:=ng (j+1)
     simp only [List.getElem?_cons_succ] at this
     rw [this]
     congr 1
     simp
     omega
   · by_cases aN:k<dE.length
     · rw [List.getElem?_append_left aN] at aD
       exact h k m i aD ai cI
     · rw [List.getElem?_append_right (by omega)] at aD
       have yf:k-dE.length=0:=by
        cases bj:k-dE.length with
        | zero=>rfl
        | succ n=>rw [bj] at aD;simp at aD
       rw [yf] at aD
       simp only [List.getElem?_cons_zero,Option.some.injEq] at aD
       subst aD
       have BM:k=dE.length:=by omega
       have aU:ops[k]? =some o:=by have:=ng 0;simp only [List.getElem?_cons_zero,Nat.add_zero] at this;rw [BM];exact this.symm
       obtain ⟨e,he,x4,gS⟩:=Im ai
       have Nj:=nU k o e cI aU he x4
       rcases gS with rfl | gS
       · exact Nj
       · cases hm:dE[e.on]? with
         | none=>rw [hm] at gS;simp [xC] at gS
         | some c'=>rw [hm] at gS;exact h e.on c' i hm gS Nj
theorem oF {f:Nat→Nat→Oper→Bool}:∀{k:Nat} {ms:List Nat} {os:List Oper},l5 f k ms os=true→∀j o,os[j]? =some o→∃m,ms[j]? =some m∧f (k+j) m o=true
 | _,_,[],_,j,o,h=>by simp at h
 | _,[],_::_,h,_,_,_=>by cases h
 | k,m::ms,b6::os,h,j,o,aU=>by
   simp only [l5,Bool.and_eq_true] at h
   cases j with
   | zero=>simp only [List.getElem?_cons_zero,Option.some.injEq] at aU;subst aU;exact ⟨m,rfl,h.1⟩
   | succ j=>
     obtain ⟨c',aa,ae⟩:=oF h.2 j o (by simpa using aU)
     exact ⟨c',by simpa using aa,by rw [show k + (j+1)=k+1+j from by omega];exact ae⟩
theorem J4 {f:Nat→Nat→Oper→Bool}:∀{k:Nat} {ms:List Nat} {os:List Oper},ms.length=os.length→(∀j m o,ms[j]? =some m→os[j]? =some o→f (k+j) m o=true)→l5 f k ms os=true
 | _,[],[],_,_=>rfl
 | _,[],_::_,h,_=>by simp at h
 | _,_::_,[],h,_=>by simp at h
 | k,m::ms,o::os,h,aA=>by
   simp only [l5,Bool.and_eq_true]
   refine ⟨aA 0 m o rfl rfl,J4 (by simpa using h) fun j c' b6 aa ae=>?_⟩
   have:=aA (j+1) c' b6 (by simpa using aa) (by simpa using ae)
   rw [show k+1+j=k + (j+1) from by omega]
   exact this
theorem Io:∀(os:List Oper) (dE:List Nat),(ef dE os).length=dE.length+os.length
 | [],dE=>rfl
 | o::os,dE=>by simp [ef,Io os];omega
section
variable {P:Program}
theorem LU {o:Oper} {call:du} {r:bx} {h ab:af} {v:V} (aF:er P o.op=false) (he:(eG P o).run call r h=.val v ab):ab=h:=by
 obtain ⟨dst,op,type,pos,after,guard⟩:=o
 cases op<;>simp only [er] at aF<;>try (cases aF;done)
 all_goals simp only [eG] at he
 case convert s d x=>
  unfold oW at he
  cases aR:a' P s with
  | none=>rw [aR] at he;cases he
  | some sj=>
    cases aY:a' P d with
    | none=>rw [aY] at aF;cases aF
    | some mX=>
      rw [aR,aY] at he
      rw [aY] at aF
      simp only at he aF
      cases hu:mX.bc with
      | int k=>
        rw [hu] at he
        obtain ⟨bn,n,_,aa⟩:=ze he
        simp only [aZ.val.injEq] at aa
        exact aa.2.symm
      | slice e=>rw [hu] at aF;cases aF
      | string=>
        rw [hu] at he
        simp only at he
        have other:∀x:V,(match x with
         | .str s=>aZ.val (.str s) h
         | .int _ n=>.val (.str (Utf8.encode n).data.toList) h
         | _=>.fail)=.val v ab→ab=h:=by
         intro x he
         cases x<;>simp only at he<;>first
          | (cases he;done)
          | (simp only [aZ.val.injEq] at he;exact he.2.symm)
        cases HG:sj.bc with
        | slice e=>
          rw [HG] at he
          simp only at he
          cases cr:a' P e with
          | none=>rw [cr] at he;cases he
          | some bf=>
            rw [cr] at he
            simp only at he
            have aiH:∀b off len,sn b off len h=.val v ab→ab=h:=by
             intro b off len he
             unfold sn at he
             cases aH:h.get b<;>rw [aH] at he<;>simp only [b3.nC] at he<;>try (cases he;done)
             all_goals
              obtain ⟨_,ae⟩:=jK he
              cases ace:mK (gH _ off len)<;>rw [ace] at ae<;>first
               | (cases ae;done)
               | (simp only [aZ.val.injEq] at ae;exact ae.2.symm)
            cases eR:bf.bc with
            | int yS=>
              rw [eR] at he
              cases yS<;>simp only at he<;>try (cases he;done)
              simp only [ru] at he
              cases au:(bO x).run r<;>rw [au] at he<;>simp only at he<;>first
               | (cases he;done)
               | exact aiH _ _ _ he
               | (simp only [aZ.val.injEq] at he;exact he.2.symm)
            | _=>rw [eR] at he;cases he
        | _=>rw [HG] at he;exact other _ he
      | _=>rw [hu] at he;cases he
 case call c=>
  obtain ⟨callee,args,types⟩:=c
  cases callee<;>simp only at aF<;>try (cases aF;done)
  rename_i b
  simp only [p2] at he
  cases b<;>simp only at aF<;>try (cases aF;done)
  · simp only [pZ] at he
    cases eS:types.toList with
    | nil=>rw [eS] at he;simp [ff.none] at he
    | cons t cx=>
      cases cx with
      | cons _ _=>rw [eS] at he;simp [ff.none] at he
      | nil=>
        rw [eS] at he
        simp only at he
        cases aG:a' P t with
        | none=>rw [aG] at he;simp [ff.none] at he
        | some aP=>
          rw [aG] at he
          rw [eS] at aF
          simp only [H5,aG] at aF
          simp only [aF,cond_false] at he
          split at he
          · exact (aZ.hB he).2
          · cases he
  · exact (aZ.hB he).2
  · exact (aZ.hB he).2
 case move=>simp only [aZ.val.injEq] at he;exact he.2.symm
 case assign=>simp only [aZ.val.injEq] at he;exact he.2.symm
 case pick c a b=>
  split at he
  · simp only [aZ.val.injEq] at he;exact he.2.symm
  · cases he
 case makeFunc fn first ei=>
  cases fn<;>simp only at he<;>try (simp [c9.none] at he;done)
  rename_i f
  cases aA:(first.isEmpty&&!Nat.beq f c7)<;>rw [aA] at he
  · simp only [cond_false] at he
    cases h_:(ei.isEmpty&&!Nat.beq f c7)<;>rw [h_] at he
    · simp [c9.none] at he
    · simp only [cond_true,aZ.val.injEq] at he;exact he.2.symm
  · simp only [cond_true,aZ.val.injEq] at he;exact he.2.symm
 case typeAssert x ss t ok=>
  cases aG:a' P t with
  | none=>rw [aG] at he;simp [c9.none] at he
  | some aP=>
    rw [aG] at he
    simp only at he
    cases ai:Nat.beq (ev aP.bc) 5<;>rw [ai] at he
    · exact (aZ.hB he).2
    · simp [c9.none] at he
 case makeInterface t x=>
  cases aG:a' P t with
  | none=>rw [aG] at he;simp [c9.none] at he
  | some aP=>
    rw [aG] at he
    simp only at he
    cases ai:Nat.beq (ev aP.bc) 5<;>rw [ai] at he
    · simp only [cond_false,aZ.val.injEq] at he;exact he.2.symm
    · simp [c9.none] at he
 case extract x i=>
  split at he
  · exact (aZ.hB he).2
  · cases he
 all_goals exact (aZ.hB he).2
theorem aZ.tW {h ab:af} {x:Option V} {v:V} (he:aZ.of h x=.val v ab) (H:af):aZ.of H x=.val v H:=by
 rw [(aZ.hB he).1];rfl
theorem LS {o:Oper} {call:du} {r:bx} {h ab:af} {v:V} (aF:er P o.op=false) (ak:looks o.op=false) (he:(eG P o).run call r h=.val v ab) (H:af):(eG P o).run call r H=.val v H:=by
 obtain ⟨dst,op,type,pos,after,guard⟩:=o
 cases op<;>simp only [er] at aF<;>try (cases aF;done)
 all_goals simp only [looks] at ak<;>try (cases ak;done)
 all_goals simp only [eG] at he ⊢
 case call c=>
  obtain ⟨callee,args,types⟩:=c
  cases callee<;>simp only at aF<;>try (cases aF;done)
  rename_i b
  simp only [p2] at he ⊢
  cases b<;>simp only at aF<;>try (cases aF;done)
  · simp only [pZ] at he ⊢
    cases eS:types.toList with
    | nil=>rw [eS] at he;simp [ff.none] at he
    | cons t cx=>
      cases cx with
      | cons _ _=>rw [eS] at he;simp [ff.none] at he
      | nil=>
        rw [eS] at he
        simp only at he ⊢
        cases aG:a' P t with
        | none=>rw [aG] at he;simp [ff.none] at he
        | some aP=>
          rw [aG] at he
          rw [eS] at aF
          simp only [H5,aG] at aF
          simp only [aF,cond_false] at he ⊢
          split at he
          · exact aZ.tW he H
          · cases he
  · exact aZ.tW he H
  · exact aZ.tW he H
 case move=>simp only [aZ.val.injEq] at he;rw [he.1]
 case assign=>simp only [aZ.val.injEq] at he;rw [he.1]
 case pick c a b=>
  split at he
  · simp only [aZ.val.injEq] at he;rw [he.1]
  · cases he
 case makeFunc fn first ei=>
  cases fn<;>simp only at he ⊢<;>try (simp [c9.none] at he;done)
  rename_i f
  cases aA:(first.isEmpty&&!Nat.beq f c7)<;>rw [aA] at he
  · simp only [cond_false] at he ⊢
    cases h_:(ei.isEmpty&&!Nat.beq f c7)<;>rw [h_] at he
    · simp [c9.none] at he
    · simp only [cond_true,aZ.val.injEq] at he ⊢;exact ⟨he.1,trivial⟩
  · simp only [cond_true,aZ.val.injEq] at he ⊢;exact ⟨he.1,trivial⟩
 case typeAssert x ss t ok=>
  cases aG:a' P t with
  | none=>rw [aG] at he;simp [c9.none] at he
  | some aP=>
    rw [aG] at he
    simp only at he ⊢
    cases ai:Nat.beq (ev aP.bc) 5<;>rw [ai] at he
    · exact aZ.tW he H
    · simp [c9.none] at he
 case makeInterface t x=>
  cases aG:a' P t with
  | none=>rw [aG] at he;simp [c9.none] at he
  | some aP=>
    rw [aG] at he
    simp only at he ⊢
    cases ai:Nat.beq (ev aP.bc) 5<;>rw [ai] at he
    · simp only [cond_false,aZ.val.injEq] at he ⊢;exact ⟨he.1,trivial⟩
    · simp [c9.none] at he
 case extract x i=>
  split at he
  · exact aZ.tW he H
  · cases he
 all_goals exact aZ.tW he H
end
end Go.Proofs.YtkehcalakofigaaGreatDoor.aS
namespace Go.Proofs.YtkehcalakofigaaGreatDoor.aS
variable [Lay]
open Go Go.RowKit
section
variable {P:Program}
def Kx (P:Program) (E:Env) (m:Sem Value) (v:V) (h ab:af):Prop:=
 ∃k,ab=h.new k∧True∧∀w,∃X cX,m.run P w=.ok X {w with heap:=w.heap.push cX}∧
  ∀ay,E.le ay→ay (aC h.next)=some ⟨w.heap.size,0,0⟩→Rel ay v X∧∀B,B≤w.heap.size→fH B ay {w with heap:=w.heap.push cX} (aC h.next) k
theorem Ix {E:Env} {h ab:af} {ad:List V} {l:List Value} (ak:a_ E ad l) (he:fE h ad=some ab) (t:TypeId):
 ∃k,ab=h.new k∧True∧∀w,(newRow t l.toArray).run P w=.ok ⟨w.heap.size,0,none⟩ {w with heap:=w.heap.push (.cells l.toArray t)}∧
  ∀ay,E.le ay→ay (aC h.next)=some ⟨w.heap.size,0,0⟩→∀B,B≤w.heap.size→fH B ay {w with heap:=w.heap.push (.cells l.toArray t)} (aC h.next) k:=by
 unfold fE at he
 obtain ⟨aw,he⟩:=dW he
 rw [Nat.ble_eq] at aw
 cases he
 refine ⟨_,rfl,trivial,fun w=>⟨by simp [newRow],fun ay hle dy B cS=>?_⟩⟩
 have:=xW (a_.mono hle _ _ ak) aw #[]
 rw [Array.append_empty] at this
 exact ⟨aw,_,_,t,(0,0),dy,cS,by simp,.inr (Nat.le_refl _),fun _=>rfl,fun h=>absurd rfl h,this⟩
theorem UE {E:Env} {h ab:af} {t:TypeId} {n:Nat} {bd:List (Nat × V)} {iF:List (Nat × Value)} {v:V} (aj:pQ E bd iF) (he:(sO P t n).run bd h=.val v ab):
 Kx P E (Instr.buildSlice t n iF.toArray) v h ab:=by
 unfold sO at he
 cases aG:a' P t with
 | none=>rw [aG] at he;cases he
 | some aP=>
   rw [aG] at he
   simp only at he
   have hu:=e1 aG
   cases bP:aP.bc with
   | slice e=>
     rw [bP] at he hu
     simp only at he
     cases cr:a' P e with
     | none=>rw [cr] at he;cases he
     | some bf=>
       rw [cr] at he
       simp only at he
       cases bj:bf.zero with
       | none=>rw [bj] at he;cases he
       | some z=>
         rw [bj] at he
         simp only at he
         cases aw:(Nat.ble (n * bf.size) 1000000&&Nat.beq z.cells.length bf.size) with
         | false=>rw [aw] at he;cases he
         | true=>
           rw [aw] at he
           simp only [cond_true] at he
           simp only [Bool.and_eq_true,Nat.ble_eq,Nat.beq_eq] at aw
           cases aA:lC (fun i=>some (i * bf.size,bf.size)) (hN z.cells n) bd with
           | none=>rw [aA] at he;cases he
           | some cs=>
             rw [aA] at he
             simp only at he
             cases aX:fE h cs with
             | none=>rw [aX] at he;cases he
             | some aa=>
               rw [aX] at he
               simp only [aZ.val.injEq] at he
               obtain ⟨rfl,rfl⟩:=he
               obtain ⟨x,au,pe,pf⟩:=sv (P:=P) (E:=E) cr bj ⟨#[],fun _ _=>0,0,default,#[]⟩
               have tE:x.cells.size=bf.size:=by rw [pf,aw.2]
               have tB:=zw pe n
               rw [tE] at tB
               obtain ⟨b,jg,o7⟩:=xV (a:=(Array.range (n * bf.size)).map (x.cells[· % x.cells.size]!)) aj (by rw [tE];exact tB) aA
               obtain ⟨k,g1,g2,g3⟩:=Ix (P:=P) o7 aX e
               refine ⟨k,g1,g2,fun w=>⟨.slice (some ⟨w.heap.size,0,none⟩) n n,.cells b e,?_,fun ay hle dy=>⟨?_,?_⟩⟩⟩
               · have ts:¬16777216<n * bf.size:=by omega
                 have lJ:(newRow e b).run P w=.ok ⟨w.heap.size,0,none⟩ {w with heap:=w.heap.push (.cells b e)}:=by simpa using (g3 w).1
                 by_cases bb:n * bf.size=0
                 · have GA:Instr.fill (fun i=>some (i * bf.size,bf.size)) ((Array.range (n * bf.size)).map ((#[]:Array Value)[· % 0]!)) iF=some b:=by
                    have aB:(Array.range (n * bf.size)).map ((#[]:Array Value)[· % 0]!)=(Array.range (n * bf.size)).map (x.cells[· % x.cells.size]!):=by
                     rw [bb];simp
                    rw [aB];exact jg
                   have GB:Instr.fill (fun i=>some (i * bf.size,bf.size)) ((Array.range (n * bf.size)).map (fun x=>(#[]:Array Value)[x % (#[]:Array Value).size]!)) iF=some b:=GA
                   simp only [Instr.buildSlice,Sem.run_bind,hu,Result.andThen_ok,iW cr,Sem.run_ite]
                   rw [if_neg ts]
                   simp only [Sem.run_pure,Result.andThen_ok,if_pos bb]
                   rw [GB]
                   simp only [Sem.run_bind,lJ,Result.andThen_ok,Sem.run_pure]
                 · simp only [Instr.buildSlice,Sem.run_bind,hu,Result.andThen_ok,iW cr,Sem.run_ite]
                   rw [if_neg ts]
                   simp only [Sem.run_pure,Result.andThen_ok,if_neg bb,au]
                   rw [jg]
                   simp only [Sem.run_bind,lJ,Result.andThen_ok,Sem.run_pure]
               · simp only [Rel]
                 exact ⟨_,dy,Nat.le_refl _,by simp⟩
               · simpa using (g3 w).2 ay hle dy
   | _=>rw [bP] at he;cases he
set_option maxHeartbeats 2000000 in
theorem YC {E:Env} {h ab:af} {call:du} {o:Oper} {ax:Nat} {r:bx} {a:Act} {v:V} (br:fL o=true) (he:(eG P o).run call r h=.val v ab) (k:RegRel0 E ax r a):
 ∃m:Sem Value,execOp a.eval o=(do pure (.value (←m)))∧Kx P E m v h ab:=by
 obtain ⟨dst,op,type,pos,after,guard⟩:=o
 cases op<;>simp only [fL] at br<;>try (cases br;done)
 all_goals simp only [eG] at he
 case alloc t=>
  refine ⟨Instr.alloc t true (.tuple #[]),rfl,?_⟩
  cases aG:a' P t with
  | none=>rw [aG] at he;simp [c9.none] at he
  | some aP=>
    rw [aG] at he
    simp only at he
    cases bj:aP.zero with
    | none=>rw [bj] at he;simp [c9.none] at he
    | some z=>
      rw [bj] at he
      simp only at he
      cases aX:fE h z.cells with
      | none=>rw [aX] at he;cases he
      | some aa=>
        rw [aX] at he
        simp only [gO,aZ.val.injEq] at he;obtain ⟨rfl,rfl⟩:=he
        obtain ⟨x,au,pe,_⟩:=sv (P:=P) (E:=E) aG bj ⟨#[],fun _ _=>0,0,default,#[]⟩
        obtain ⟨cU,g1,g2,g3⟩:=Ix (P:=P) pe aX t
        refine ⟨cU,g1,g2,fun w=>⟨.pointer (some ⟨w.heap.size,0,none⟩),.cells x.cells t,?_,fun ay hle dy=>⟨?_,?_⟩⟩⟩
        · have:=(g3 w).1
          simp only [Array.toArray_toList] at this
          simp only [Instr.alloc,Sem.run_bind,au,Result.andThen_ok,newVar,this,Sem.run_pure]
        · simp only [Rel];exact ⟨_,dy,by simp⟩
        · simpa using (g3 w).2 ay hle dy
 case box t x=>
  refine ⟨Instr.box t (a.eval x),rfl,?_⟩
  obtain ⟨aH,he⟩:=jK he
  cases aX:fE h ((bO x).run r).cells with
  | none=>rw [aX] at he;cases he
  | some aa=>
    rw [aX] at he
    simp only [gO,aZ.val.injEq] at he;obtain ⟨rfl,rfl⟩:=he
    have ak:=(dv k x).cells (fun e=>by rw [e] at aH;cases aH)
    obtain ⟨cU,g1,g2,g3⟩:=Ix (P:=P) ak aX t
    refine ⟨cU,g1,g2,fun w=>⟨.pointer (some ⟨w.heap.size,0,none⟩),.cells (a.eval x).cells t,?_,fun ay hle dy=>⟨?_,?_⟩⟩⟩
    · have:=(g3 w).1
      simp only [Array.toArray_toList] at this
      simp only [Instr.box,Sem.run_bind,newVar,this,Result.andThen_ok,Sem.run_pure]
    · simp only [Rel];exact ⟨_,dy,by simp⟩
    · simpa using (g3 w).2 ay hle dy
 case buildSlice t n bd=>
  refine ⟨Instr.buildSlice t n (bd.map fun (i,x)=>(i,a.eval x)),rfl,?_⟩
  rw [IY]
  exact UE (CO k bd.toList) he
 case makeMap t x=>
  cases x with
  | some _=>cases br
  | none=>
    refine ⟨Instr.makeMap t none,rfl,?_⟩
    simp only [pt,wk] at he
    cases aG:a' P t with
    | none=>rw [aG] at he;cases he
    | some aP=>
      rw [aG] at he
      simp only at he
      cases ai:Nat.beq (ev aP.bc) 3 with
      | false=>rw [ai] at he;cases he
      | true=>
        rw [ai] at he
        simp only [cond_true,r1,tS] at he
        simp only [aZ.val.injEq] at he
        obtain ⟨rfl,rfl⟩:=he
        refine ⟨_,rfl,trivial,fun w=>⟨.map (some w.heap.size),.map #[] 0,?_,fun ay hle dy=>⟨?_,fun B cS=>?_⟩⟩⟩
        · simp only [Instr.makeMap,Sem.run_bind,run_newObj,Result.andThen_ok,Sem.run_pure]
        · simp only [Rel];exact ⟨_,dy,rfl⟩
        · exact ⟨_,#[],dy,cS,by simp,rfl⟩
def Fr.hold (F:Fr) (b:aQ) (k:b3):Fr:=⟨F.w,fun bJ=>if bJ=b then some k else F.ed bJ⟩
def Fr.free (F:Fr) (b:aQ):Fr:=⟨F.w,fun bJ=>if bJ=b then none else F.ed bJ⟩
theorem a8.hold {F:Fr} {E:Env} {h:af} {w:World} (s:a8 F E h w) (k:b3):a8 (F.hold (aC h.next) k) E (h.new k) w:=by
 have de:=s.fresh h.next (Nat.le_refl _)
 refine ⟨fun b ai=>?_,fun b bn aD=>?_,fun b bJ p p' aa ae aB aO gI=>?_,fun i av=>s.fresh i (Nat.le_of_succ_le av),s.frame,s.laid,fun b p n cs st aa aB=>s.base b p n cs st (by
  have dc:aC h.next≠b:=fun e=>by rw [←e,de] at aB;cases aB
  rwa [af.ht,if_neg dc] at aa) aB⟩
 · simp only [Fr.hold] at ai
   by_cases aF:b=aC h.next
   · rw [if_pos aF] at ai;cases ai
   · rw [if_neg aF] at ai
     rw [af.ht,if_neg (fun e=>aF e.symm)]
     exact s.a7 b ai
 · simp only [Fr.hold] at aD
   by_cases aF:b=aC h.next
   · rw [if_pos aF] at aD
     cases aD
     exact ⟨by rw [af.ht,if_pos aF.symm],by rw [aF];exact de,h.next,Nat.lt_succ_self _,aF⟩
   · rw [if_neg aF] at aD
     obtain ⟨al,aq,i,aK,bG⟩:=s.nz b bn aD
     exact ⟨by rw [af.ht,if_neg (fun e=>aF e.symm)];exact al,aq,i,Nat.lt_succ_of_lt aK,bG⟩
 · have dc:aC h.next≠b:=fun e=>by rw [←e,de] at aB;cases aB
   have hJ:aC h.next≠bJ:=fun e=>by rw [←e,de] at aO;cases aO
   rw [af.ht,if_neg dc] at aa
   rw [af.ht,if_neg hJ] at ae
   exact s.inj b bJ p p' aa ae aB aO gI
theorem a8.link {F:Fr} {E:Env} {h:af} {w:World} (s:a8 F E h w) {b:aQ} {k:b3} (aj:F.ed b=some k) {o:Obj}
 (hI:fH F.w.heap.size (E.put b ⟨w.heap.size,0,0⟩) {w with heap:=w.heap.push o} b k):
 E.le (E.put b ⟨w.heap.size,0,0⟩)∧a8 (F.free b) (E.put b ⟨w.heap.size,0,0⟩) h {w with heap:=w.heap.push o}:=by
 obtain ⟨aD,de,i0,tl,mg⟩:=s.nz b k aj
 have hle:E.le (E.put b ⟨w.heap.size,0,0⟩):=Env.jW de
 have dy:E.put b ⟨w.heap.size,0,0⟩ b=some ⟨w.heap.size,0,0⟩:=by unfold Env.put;rw [if_pos rfl]
 have hold:∀bJ,bJ≠b→E.put b ⟨w.heap.size,0,0⟩ bJ=E bJ:=by intro bJ ai;unfold Env.put;rw [if_neg ai]
 have iv:∀bJ q,E bJ=some q→(h.get bJ)≠.dead→q.a7<w.heap.size:=by
  intro bJ q aF aY
  have ai:=s.at aF
  cases aH:h.get bJ with
  | dead=>exact absurd aH aY
  | view n cs=>rw [aH] at ai;obtain ⟨_,dZ,c,el,bS,e,_,ba,_⟩:=ai;rw [e] at aF;cases aF;exact (Array.getElem?_eq_some_iff.1 ba).1
  | cells n cs cp st=>rw [aH] at ai;obtain ⟨_,dZ,c,el,bS,e,_,ba,_⟩:=ai;rw [e] at aF;cases aF;exact (Array.getElem?_eq_some_iff.1 ba).1
  | iter st pos=>rw [aH] at ai;obtain ⟨dZ,e,_,_,ba⟩:=ai;rw [e] at aF;cases aF;exact (Array.getElem?_eq_some_iff.1 ba).1
  | mp es clock=>rw [aH] at ai;obtain ⟨dZ,a,e,_,ba,_⟩:=ai;rw [e] at aF;cases aF;exact (Array.getElem?_eq_some_iff.1 ba).1
  | dk l=>rw [aH] at ai;obtain ⟨dZ,a,e,_,ba,_⟩:=ai;rw [e] at aF;cases aF;exact (Array.getElem?_eq_some_iff.1 ba).1
  | fb=>rw [aH] at ai;obtain ⟨dZ,e,_,ba⟩:=ai;rw [e] at aF;cases aF;exact (Array.getElem?_eq_some_iff.1 ba).1
  | gW es=>rw [aH] at ai;obtain ⟨dZ,a,c,l,e,_,ba,_⟩:=ai;rw [e] at aF;cases aF;exact (Array.getElem?_eq_some_iff.1 ba).1
  | hZ src since seen last=>rw [aH] at ai;obtain ⟨dZ,m,a,e,_,_,ba,_⟩:=ai;rw [e] at aF;cases aF;exact (Array.getElem?_eq_some_iff.1 ba).1
 refine ⟨hle,fun bJ gu=>?_,fun bJ bn fV=>?_,fun bR cb b1 cg aa ae aB aO gI=>?_,fun i av=>?_,⟨s.frame.os,s.frame.tape,s.frame.output,?_,fun j bH=>?_⟩,s.laid,fun bR b1 n cs st aa aB=>by
  by_cases bz:bR=b
  · subst bz;rw [dy] at aB;cases aB;rfl
  · rw [hold bR bz] at aB;exact s.base _ _ _ _ _ aa aB⟩
 · by_cases aF:bJ=b
   · subst aF;rw [aD];exact hI
   · simp only [Fr.free,if_neg aF] at gu
     have bb:=(s.a7 bJ gu).mono hle
     by_cases aY:h.get bJ=.dead
     · rw [aY];trivial
     · refine fH.e8 bb fun q mo=>?_
       rw [hold bJ aF] at mo
       have:=iv bJ q mo aY
       simp only [Array.getElem?_push]
       rw [if_neg (by omega)]
 · simp only [Fr.free] at fV
   by_cases aF:bJ=b
   · rw [if_pos aF] at fV;cases fV
   · rw [if_neg aF] at fV
     obtain ⟨al,aq,aK⟩:=s.nz bJ bn fV
     exact ⟨al,by rw [hold bJ aF];exact aq,aK⟩
 · by_cases bz:bR=b<;>by_cases bN:cb=b
   · exact bz.trans bN.symm
   · subst bz
     rw [dy] at aB;cases aB
     rw [hold cb bN] at aO
     have:=iv cb cg aO (fun e=>by rw [e] at ae;cases ae)
     simp only at gI
     omega
   · subst bN
     rw [dy] at aO;cases aO
     rw [hold bR bz] at aB
     have:=iv bR b1 aB (fun e=>by rw [e] at aa;cases aa)
     simp only at gI
     omega
   · rw [hold bR bz] at aB
     rw [hold cb bN] at aO
     exact s.inj bR cb b1 cg aa ae aB aO gI
 · rw [hold _ (fun e=>?_)]
   · exact s.fresh i av
   · rw [mg] at e
     have:=g' e
     omega
 · have:=s.frame.size
   simp only [Array.size_push,Fr.free]
   omega
 · have aa:=s.frame.size
   simp only [Fr.free,Array.getElem?_push]
   rw [if_neg (by simp only [Fr.free] at bH;omega)]
   exact s.frame.block j bH
end
end Go.Proofs.YtkehcalakofigaaGreatDoor.aS
namespace Go.Proofs.YtkehcalakofigaaGreatDoor.aS
variable [Lay]
open Go Go.RowKit
section
variable {P:Program}
def dS (es:List eo) (cL:bx) (i:Nat):bx:=
 match es[i]? with
 | some e=>e.r
 | none=>cL
theorem vC (e:eo) (es:List eo) (aA:af) (i:Nat):b' (e::es) aA (i+1)=b' es aA i:=by simp [b']
theorem wM (e:eo) (es:List eo) (cL:bx) (i:Nat):dS (e::es) cL (i+1)=dS es cL i:=by simp [dS]
theorem sl {ax:Nat} {all:Array Oper} {call:du}:∀{l:List Oper} {r cL:bx} {h aA:af} {es:List eo},(eU P ax all l).run call r h=.ok es cL aA→
 es.length=l.length∧b' es aA 0=h∧dS es cL 0=r∧∀j o,l[j]? =some o→∃e,es[j]? =some e∧(ct P ax all o).run call e.r e.h=.val e.v (b' es aA (j+1))∧dS es cL (j+1)=(eZ o.dst).run e.r e.v
 | [],r,cL,h,aA,es,he=>by
   simp only [eU,oK.ok.injEq] at he
   obtain ⟨rfl,rfl,rfl⟩:=he
   exact ⟨rfl,rfl,rfl,fun j o aU=>by simp at aU⟩
 | o::os,r,cL,h,aA,es,he=>by
   simp only [eU,zC] at he
   cases aa:(ct P ax all o).run call r h with
   | fail=>rw [aa] at he;cases he
   | cw _ _=>rw [aa] at he;simp only at he;cases hm:kq o.op<;>rw [hm] at he<;>cases he
   | val v ba=>
     rw [aa] at he
     simp only at he
     cases ae:(eU P ax all os).run call ((eZ o.dst).run r v) ba with
     | fail=>rw [ae] at he;cases he
     | cw _ _ _ _ _=>rw [ae] at he;cases he
     | ok gG bp aI=>
       rw [ae] at he
       simp only [oK.ok.injEq] at he
       obtain ⟨rfl,rfl,rfl⟩:=he
       obtain ⟨al,aq,aK,bG⟩:=sl ae
       refine ⟨by simp [al],by simp [b'],by simp [dS],fun j b6 aU=>?_⟩
       cases j with
       | zero=>
         simp only [List.getElem?_cons_zero,Option.some.injEq] at aU
         subst aU
         exact ⟨⟨r,h,v⟩,rfl,by rw [vC,aq];exact aa,by rw [wM,aK]⟩
       | succ j=>
         obtain ⟨e,b1,cg,cZ⟩:=bG j b6 (by simpa using aU)
         exact ⟨e,by simpa using b1,by rw [vC];exact cg,by rw [wM];exact cZ⟩
theorem Rz {ax:Nat} {all:Array Oper} {call:du}:∀{l:List Oper} {r cL:bx} {h aA ab:af} {es:List eo} {v:V},(eU P ax all l).run call r h=.cw es cL aA v ab→
 b' es aA 0=h∧dS es cL 0=r∧(∀j o,j<es.length→l[j]? =some o→∃e,es[j]? =some e∧(ct P ax all o).run call e.r e.h=.val e.v (b' es aA (j+1))∧dS es cL (j+1)=(eZ o.dst).run e.r e.v)∧
  ∃o,l[es.length]? =some o∧kq o.op=true∧(ct P ax all o).run call cL aA=.cw v ab
 | [],r,cL,h,aA,ab,es,v,he=>by simp [eU] at he
 | o::os,r,cL,h,aA,ab,es,v,he=>by
   simp only [eU,zC] at he
   cases aa:(ct P ax all o).run call r h with
   | fail=>rw [aa] at he;cases he
   | cw x au=>
     rw [aa] at he
     simp only at he
     cases hm:kq o.op with
     | false=>rw [hm] at he;cases he
     | true=>
       rw [hm] at he
       simp only [cond_true,oK.cw.injEq] at he
       obtain ⟨rfl,rfl,rfl,rfl,rfl⟩:=he
       exact ⟨rfl,rfl,fun j b6 bH=>by simp at bH,o,rfl,hm,aa⟩
   | val x ba=>
     rw [aa] at he
     simp only at he
     cases ae:(eU P ax all os).run call ((eZ o.dst).run r x) ba with
     | fail=>rw [ae] at he;cases he
     | ok _ _ _=>rw [ae] at he;cases he
     | cw gG bp aI v1 bu=>
       rw [ae] at he
       simp only [oK.cw.injEq] at he
       obtain ⟨rfl,rfl,rfl,rfl,rfl⟩:=he
       obtain ⟨aq,aK,bG,c_,di,e0,hM⟩:=Rz ae
       refine ⟨by simp [b'],by simp [dS],fun j b6 bH aU=>?_,c_,by simpa using di,e0,hM⟩
       cases j with
       | zero=>
         simp only [List.getElem?_cons_zero,Option.some.injEq] at aU
         subst aU
         exact ⟨⟨r,h,x⟩,rfl,by rw [vC,aq];exact aa,by rw [wM,aK]⟩
       | succ j=>
         obtain ⟨e,b1,cg,cZ⟩:=bG j b6 (by simpa using bH) (by simpa using aU)
         exact ⟨e,by simpa using b1,by rw [vC];exact cg,by rw [wM];exact cZ⟩
theorem M1 {ax:Nat} {d:Option Nat} (aY:eI ax d=true) {r:bx} {v:V} {t:Nat} (aG:t≤top):T.get .bad (aC t) ((eZ d).run r v)=if d=some t then v else T.get .bad (aC t) r:=by
 cases d with
 | none=>simp [eZ]
 | some d=>
   simp only [eI,Bool.and_eq_true,Nat.blt_eq,Nat.ble_eq] at aY
   simp only [eZ,T.hd,Option.some.injEq]
   by_cases h:d=t
   · subst h;simp
   · rw [if_neg (fun e=>h (g' e)),if_neg h]
theorem jc {ax:Nat} {all:Array Oper} {o:Oper} {call:du} {r:bx} {h ab:af} {v:V} (he:(ct P ax all o).run call r h=.val v ab):eI ax o.dst=true∧jz (b2 all o)=true:=by
 unfold ct at he
 cases aw:(eI ax o.dst&&jz (b2 all o)) with
 | false=>rw [aw] at he;simp [c9.none] at he
 | true=>simpa using aw
theorem RL {r:bx} {rs:List Nat} (aR:jz rs=true) {t:Nat} (aG:t≤top):T.get .bad (aC t) (df r rs)=if t ∈ rs then T.get .bad (aC t) r else .bad:=by
 induction rs with
 | nil=>simp [df]
 | cons u rs bg=>
   simp only [jz,List.all_cons,Bool.and_eq_true,Nat.ble_eq] at aR
   simp only [df,T.hd,List.mem_cons]
   by_cases h:u=t
   · subst h;simp
   · rw [if_neg (fun e=>h (g' e)),bg aR.2]
     have ab:¬t=u:=fun e=>h e.symm
     simp [ab]
theorem L7 {ax:Nat} {all:Array Oper} {o:Oper} {call:du} {r:bx} {h ab:af} {v:V} (he:(ct P ax all o).run call r h=.cw v ab):eI ax o.dst=true∧jz (b2 all o)=true:=by
 unfold ct at he
 cases aw:(eI ax o.dst&&jz (b2 all o)) with
 | false=>rw [aw] at he;simp [c9.none] at he
 | true=>simpa using aw
def Ec (az:Fr) (E:Env) (o:Oper) (a:Act) (K:Act→World→Prop) (Q:Exit→Act→World→Prop):aZ→Prop
 | .val v ab=>∀ay x ar,E.le ay→Rel ay v x→a8 az ay ab ar→K (a.put o.dst x) ar
 | .cw v ab=>kq o.op=true∧∀ay x ar,E.le ay→Rel ay v x→a8 az ay ab ar→Q (.panic (ow x)) a ar
 | .fail=>False
theorem L8 {rd:Option Nat} {az:Fr} {E:Env} {h:af} {w:World} {call:du} (bD:ec P) (cH:fP P call) (dh:f' P call) {all:Array Oper} {i:Nat} {o:Oper} (av:all[i]? =some o) {ax:Nat} {r:bx} {a:Act}
 (gv:eI ax o.dst=true∧jz (b2 all o)=true) (oc:a.tmps.size=ax) (jm:∀t ∈ b2 all o,Rel E (T.get .bad (aC t) r) (a.tmps.getD t undef)) (s:a8 az E h w)
 {K:Act→World→Prop} {Q:Exit→Act→World→Prop} (aj:Ec az E o a K Q ((ct P ax all o).run call r h)):wpOpIn (b4 rd) 0 P all Q i K a w:=by
 obtain ⟨aY,aR⟩:=gv
 have k:RegRel0 E ax (df r (b2 all o)) a:=⟨oc,fun t aG=>by
  rw [RL aR aG]
  by_cases hm:t ∈ b2 all o
  · rw [if_pos hm];exact jm t hm
  · rw [if_neg hm];simp [Rel]⟩
 unfold ct at aj
 rw [show (eI ax o.dst&&jz (b2 all o))=true from by rw [aY,aR];rfl] at aj
 simp only [cond_true] at aj
 have wanted:Ec az E o a K Q ((eG P o).run call (df r (b2 all o)) h)→Region.wanted o (yielded all a.tmps)=true→wpOpIn (b4 rd) 0 P all Q i K a w:=by
  intro aa hw
  simp only [wpOpIn,av,hw,if_true]
  cases aJ:(eG P o).run call (df r (b2 all o)) h with
  | fail=>rw [aJ] at aa;exact aa.elim
  | val v ab=>rw [aJ] at aa;exact LV bD cH dh aJ k s aa
  | cw v ab=>rw [aJ] at aa;exact LR bD cH aa.1 aJ k s aa.2
 have RT:Ec az E o a K Q (.val (.tuple []) h)→Region.wanted o (yielded all a.tmps)=false→wpOpIn (b4 rd) 0 P all Q i K a w:=by
  intro aa hw
  simp only [wpOpIn,av,hw,Bool.false_eq_true,if_false]
  exact ⟨fun _ _=>trivial,aa E undef w (Env.le.refl E) (by simp only [Rel];exact ⟨#[],rfl,rfl⟩) s⟩
 cases aH:o.guard with
 | none=>
   rw [aH] at aj
   exact wanted aj (by simp [Region.wanted,aH])
 | some og=>
   obtain ⟨j,want⟩:=og
   rw [aH] at aj
   simp only at aj
   cases bH:all[j]? with
   | none=>rw [bH] at aj;exact aj.elim
   | some g=>
     rw [bH] at aj
     simp only at aj
     cases jj:g.dst with
     | none=>rw [jj] at aj;exact aj.elim
     | some d=>
       rw [jj] at aj
       simp only at aj
       cases aw:(Nat.blt d ax&&Nat.ble d top) with
       | false=>rw [aw] at aj;exact aj.elim
       | true=>
         rw [aw] at aj
         simp only [cond_true,hU,m'] at aj
         simp only [Bool.and_eq_true,Nat.blt_eq,Nat.ble_eq] at aw
         obtain ⟨g1,g2⟩:=Gl k bH jj aw.1 aw.2
         cases bs:T.get .bad (aC d) (df r (b2 all o))<;>rw [bs] at aj<;>simp only at aj<;>try (exact aj.elim)
         · rename_i b
           have a1:=g1 b bs
           cases ai:(bif want then b else !b) with
           | true=>
             rw [ai] at aj
             simp only [cond_true] at aj
             refine wanted aj ?_
             simp only [Region.wanted,aH,a1]
             cases want<;>cases b<;>simp_all
           | false=>
             rw [ai] at aj
             simp only [cond_false] at aj
             refine RT aj ?_
             simp only [Region.wanted,aH,a1]
             cases want<;>cases b<;>simp_all
         · rename_i ad
           have a1:=g2 ad bs
           refine RT aj ?_
           simp only [Region.wanted,aH,a1]
           rfl
theorem oX {rd:Option Nat} {az:Fr} {E:Env} {h ab:af} {w:World} {call:du} (bD:ec P) (cH:fP P call) (dh:f' P call) {all:Array Oper} {i:Nat} {o:Oper} (av:all[i]? =some o) {ax:Nat} {r:bx} {a:Act} {v:V}
 (he:(ct P ax all o).run call r h=.val v ab) (oc:a.tmps.size=ax) (jm:∀t ∈ b2 all o,Rel E (T.get .bad (aC t) r) (a.tmps.getD t undef)) (s:a8 az E h w)
 {K:Act→World→Prop} {Q:Exit→Act→World→Prop} (dC:∀ay x ar,E.le ay→Rel ay v x→a8 az ay ab ar→K (a.put o.dst x) ar):wpOpIn (b4 rd) 0 P all Q i K a w:=
 L8 bD cH dh av (jc he) oc jm s (by rw [he];exact dC)
theorem YW {rd:Option Nat} {az:Fr} {E:Env} {h ab:af} {w:World} {call:du} (bD:ec P) (cH:fP P call) (dh:f' P call) {all:Array Oper} {i:Nat} {o:Oper} (av:all[i]? =some o) {ax:Nat} {r:bx} {a:Act} {v:V}
 (he:(ct P ax all o).run call r h=.cw v ab) (hm:kq o.op=true) (oc:a.tmps.size=ax) (jm:∀t ∈ b2 all o,Rel E (T.get .bad (aC t) r) (a.tmps.getD t undef)) (s:a8 az E h w)
 {K:Act→World→Prop} {Q:Exit→Act→World→Prop} (c2:∀ay x ar,E.le ay→Rel ay v x→a8 az ay ab ar→Q (.panic (ow x)) a ar):wpOpIn (b4 rd) 0 P all Q i K a w:=
 L8 bD cH dh av (L7 he) oc jm s (by rw [he];exact ⟨hm,c2⟩)
theorem sT {ax:Nat} {all:Array Oper} {o:Oper} {call:du} {r:bx} {h ab:af} {v:V} (aF:er P o.op=false) (he:(ct P ax all o).run call r h=.val v ab):
 ab=h∧(looks o.op=false→∀H,(ct P ax all o).run call r H=.val v H):=by
 obtain ⟨aY,aR⟩:=jc he
 have cT:(eI ax o.dst&&jz (b2 all o))=true:=by rw [aY,aR];rfl
 have key:ct P ax all o=(match o.guard with
  | none=>⟨hU none (eG P o) (b2 all o)⟩
  | some (j,want)=>match all[j]? with
    | some g=>match g.dst with
      | some d=>bif Nat.blt d ax&&Nat.ble d top then ⟨hU (some (m' (aC d),want)) (eG P o) (b2 all o)⟩ else c9.none
      | none=>c9.none
    | none=>c9.none):=by
  unfold ct;rw [cT];rfl
 rw [key] at he ⊢
 cases aH:o.guard with
 | none=>
   rw [aH] at he
   exact ⟨LU aF he,fun ak H=>LS aF ak he H⟩
 | some og=>
   obtain ⟨j,want⟩:=og
   rw [aH] at he
   simp only at he ⊢
   cases bH:all[j]? with
   | none=>rw [bH] at he;simp [c9.none] at he
   | some g=>
     rw [bH] at he
     simp only at he ⊢
     cases jj:g.dst with
     | none=>rw [jj] at he;simp [c9.none] at he
     | some d=>
       rw [jj] at he
       simp only at he ⊢
       cases aw:(Nat.blt d ax&&Nat.ble d top) with
       | false=>rw [aw] at he;simp [c9.none] at he
       | true=>
         rw [aw] at he
         simp only [cond_true,hU] at he ⊢
         cases bs:(m' (aC d)).run (df r (b2 all o))<;>rw [bs] at he<;>simp only at he ⊢<;>try (cases he;done)
         · rename_i b
           cases ai:(bif want then b else !b)<;>rw [ai] at he<;>simp only [cond_true,cond_false] at he ⊢
           · simp only [aZ.val.injEq] at he ⊢
             exact ⟨he.2.symm,fun _ H=>⟨he.1,trivial⟩⟩
           · exact ⟨LU aF he,fun ak H=>LS aF ak he H⟩
         · simp only [aZ.val.injEq] at he ⊢
           exact ⟨he.2.symm,fun _ H=>⟨he.1,trivial⟩⟩
theorem KU {op:c9} {call:du} {es:List eo} {aA:af} {r:bx} {v:V}:∀{eL:List Nat},AF op call es aA r v eL=true→∀s ∈ eL,∃ab,op.run call r (b' es aA s)=.val v ab
 | [],_,s,h=>by simp at h
 | fY::eL,he,s,hm=>by
   simp only [AF,Bool.and_eq_true] at he
   simp only [List.mem_cons] at hm
   rcases hm with rfl | hm
   · have aa:=he.1
     cases aJ:op.run call r (b' es aA s) with
     | fail=>rw [aJ] at aa;cases aa
     | cw _ _=>rw [aJ] at aa;cases aa
     | val cG ab=>
       rw [aJ] at aa
       rw [F6 aa]
       exact ⟨ab,rfl⟩
   · exact KU he.2 s hm
theorem Er {ax:Nat} {all:Array Oper} {dE aE dY:List Nat} {call:du} {es:List eo} {aA:af}:∀{l:List Oper} {i:Nat},(pW P ax all dE aE dY i l).run call es aA=true→
 ∀j o,l[j]? =some o→looks o.op=true→er P o.op=false→∀e,es[posOf aE (i+j)]? =some e→∀s ∈ dY,qJ P dE all.toList aE (i+j) ((dE[i+j]?).getD 0) s=true→∃ab,(ct P ax all o).run call e.r (b' es aA s)=.val e.v ab
 | [],_,_,j,o,aU,_,_=>by simp at aU
 | b6::os,i,he,j,o,aU,ak,aF=>by
   simp only [pW] at he
   cases j with
   | zero=>
     simp only [List.getElem?_cons_zero,Option.some.injEq] at aU
     subst aU
     rw [ak,aF] at he
     simp only [Bool.not_false,Bool.and_true,cond_true,Bool.and_eq_true,KV] at he
     have aa:=he.1
     intro e lI s aR hm
     · rw [Nat.add_zero] at lI
       rw [lI] at aa
       exact KU aa s (List.mem_filter.2 ⟨aR,by simpa using hm⟩)
   | succ j=>
     have rest:(pW P ax all dE aE dY (i+1) os).run call es aA=true:=by
      cases aw:(looks b6.op&&!er P b6.op) with
      | false=>rw [aw] at he;exact he
      | true=>rw [aw] at he;simp only [cond_true,Bool.and_eq_true] at he;exact he.2
     have:=Er rest j o (by simpa using aU) ak aF
     rw [show i + (j+1)=i+1+j from by omega]
     exact this
theorem wi {aE:List Nat}:∀{l:List Oper} {i j:Nat} {o:Oper},l[j]? =some o→dP P o=true→posOf aE (i+j) ∈ gN P aE i l
 | [],_,j,o,h,_=>by simp at h
 | b6::os,i,j,o,h,he=>by
   simp only [gN]
   cases j with
   | zero=>
     simp only [List.getElem?_cons_zero,Option.some.injEq] at h
     subst h
     rw [he]
     simp
   | succ j=>
     have:=wi (aE:=aE) (i:=i+1) (by simpa using h) he
     rw [show i + (j+1)=i+1+j from by omega]
     cases dP P b6 with
     | true=>simp [this]
     | false=>exact this
theorem Ch {aE:List Nat}:∀{l:List Oper} {i:Nat},i+l.length ∈ gN P aE i l
 | [],_=>by simp [gN]
 | o::os,i=>by
   have:=Ch (aE:=aE) (l:=os) (i:=i+1)
   simp only [gN,List.length_cons]
   rw [show i + (os.length+1)=i+1+os.length from by omega]
   cases dP P o with
   | true=>simp [this]
   | false=>exact this
theorem r0 {aE:List Nat}:∀{l:List Oper} {i s:Nat},s ∈ gN P aE i l→s=i+l.length∨∃j o,l[j]? =some o∧dP P o=true∧s=posOf aE (i+j)
 | [],i,s,h=>by simp only [gN,List.mem_singleton] at h;exact .inl (by simpa using h)
 | o::os,i,s,h=>by
   simp only [gN] at h
   have rest:s ∈ gN P aE (i+1) os→s=i + (o::os).length∨∃j b6,(o::os)[j]? =some b6∧dP P b6=true∧s=posOf aE (i+j):=by
    intro h
    rcases r0 h with h | ⟨j,b6,aa,ae,aI⟩
    · exact .inl (by simp only [List.length_cons];omega)
    · exact .inr ⟨j+1,b6,by simpa using aa,ae,by rw [aI];congr 1;omega⟩
   cases aw:dP P o with
   | true=>
     rw [aw] at h
     simp only [cond_true,List.mem_cons] at h
     rcases h with h | h
     · exact .inr ⟨0,o,rfl,aw,h⟩
     · exact rest h
   | false=>rw [aw] at h;exact rest h
theorem YD {o:Oper} {call:du} {r:bx} {h ab:af} {v:V} (br:fL o=true) (he:(eG P o).run call r h=.val v ab):∃k,ab=h.new k∧True:=by
 have cells:∀{ad:List V} {aa:af},fE h ad=some aa→∃k,aa=h.new k∧True:=by
  intro ad aa he
  unfold fE at he
  obtain ⟨aw,he⟩:=dW he
  cases he
  exact ⟨_,rfl,trivial⟩
 obtain ⟨dst,op,type,pos,after,guard⟩:=o
 cases op<;>simp only [fL] at br<;>try (cases br;done)
 all_goals simp only [eG] at he
 case alloc t=>
  cases aG:a' P t with
  | none=>rw [aG] at he;simp [c9.none] at he
  | some aP=>
    rw [aG] at he
    simp only at he
    cases bj:aP.zero with
    | none=>rw [bj] at he;simp [c9.none] at he
    | some z=>
      rw [bj] at he
      simp only at he
      cases aX:fE h z.cells with
      | none=>rw [aX] at he;cases he
      | some aa=>
        rw [aX] at he
        simp only [gO,aZ.val.injEq] at he;obtain ⟨_,rfl⟩:=he
        exact cells aX
 case box t x=>
  obtain ⟨aH,he⟩:=jK he
  cases aX:fE h ((bO x).run r).cells with
  | none=>rw [aX] at he;cases he
  | some aa=>
    rw [aX] at he
    simp only [gO,aZ.val.injEq] at he;obtain ⟨_,rfl⟩:=he
    exact cells aX
 case buildSlice t n bd=>
  unfold sO at he
  cases aG:a' P t with
  | none=>rw [aG] at he;cases he
  | some aP=>
    rw [aG] at he
    simp only at he
    cases bP:aP.bc<;>rw [bP] at he<;>simp only at he<;>try (cases he;done)
    rename_i e
    cases cr:a' P e with
    | none=>rw [cr] at he;cases he
    | some bf=>
      rw [cr] at he
      simp only at he
      cases bj:bf.zero with
      | none=>rw [bj] at he;cases he
      | some z=>
        rw [bj] at he
        simp only at he
        cases aw:(Nat.ble (n * bf.size) 1000000&&Nat.beq z.cells.length bf.size) with
        | false=>rw [aw] at he;cases he
        | true=>
          rw [aw] at he
          simp only [cond_true] at he
          cases aA:lC (fun i=>some (i * bf.size,bf.size)) (hN z.cells n) ((r' bd.toList).run r) with
          | none=>rw [aA] at he;cases he
          | some cs=>
            rw [aA] at he
            simp only at he
            cases aX:fE h cs with
            | none=>rw [aX] at he;cases he
            | some aa=>
              rw [aX] at he
              simp only [aZ.val.injEq] at he
              obtain ⟨_,rfl⟩:=he
              exact cells aX
 case makeMap t x=>
  cases x with
  | some _=>cases br
  | none=>
    simp only [pt,wk] at he
    cases aG:a' P t with
    | none=>rw [aG] at he;cases he
    | some aP=>
      rw [aG] at he
      simp only at he
      cases ai:Nat.beq (ev aP.bc) 3 with
      | false=>rw [ai] at he;cases he
      | true=>
        rw [ai] at he
        simp only [cond_true,r1,tS] at he
        simp only [aZ.val.injEq] at he
        exact ⟨_,he.2.symm,trivial⟩
theorem acQ {o:Oper} (br:fL o=true):er P o.op=true:=by
 obtain ⟨dst,op,type,pos,after,guard⟩:=o
 cases op<;>simp only [fL] at br<;>first | (cases br;done) | rfl
theorem L' {ax:Nat} {all:Array Oper} {o:Oper} {call:du} {r:bx} {h ab:af} {v:V} (he:(ct P ax all o).run call r h=.val v ab):
 ((eG P o).run call (df r (b2 all o)) h=.val v ab∧∀E a,RegRel0 E ax (df r (b2 all o)) a→Region.wanted o (yielded all a.tmps)=true)∨
 (ab=h∧∀H,(ct P ax all o).run call r H=.val v H):=by
 obtain ⟨aY,aR⟩:=jc he
 have cT:(eI ax o.dst&&jz (b2 all o))=true:=by rw [aY,aR];rfl
 have key:ct P ax all o=(match o.guard with
  | none=>⟨hU none (eG P o) (b2 all o)⟩
  | some (j,want)=>match all[j]? with
    | some g=>match g.dst with
      | some d=>bif Nat.blt d ax&&Nat.ble d top then ⟨hU (some (m' (aC d),want)) (eG P o) (b2 all o)⟩ else c9.none
      | none=>c9.none
    | none=>c9.none):=by
  unfold ct;rw [cT];rfl
 rw [key] at he ⊢
 cases aH:o.guard with
 | none=>
   rw [aH] at he
   exact .inl ⟨he,fun E a _=>by simp [Region.wanted,aH]⟩
 | some og=>
   obtain ⟨j,want⟩:=og
   rw [aH] at he
   simp only at he ⊢
   cases bH:all[j]? with
   | none=>rw [bH] at he;simp [c9.none] at he
   | some g=>
     rw [bH] at he
     simp only at he ⊢
     cases jj:g.dst with
     | none=>rw [jj] at he;simp [c9.none] at he
     | some d=>
       rw [jj] at he
       simp only at he ⊢
       cases aw:(Nat.blt d ax&&Nat.ble d top) with
       | false=>rw [aw] at he;simp [c9.none] at he
       | true=>
         rw [aw] at he
         simp only [cond_true,hU] at he ⊢
         have nX:=aw
         simp only [Bool.and_eq_true,Nat.blt_eq,Nat.ble_eq] at nX
         cases bs:(m' (aC d)).run (df r (b2 all o))<;>rw [bs] at he<;>simp only at he ⊢<;>try (cases he;done)
         · rename_i b
           cases ai:(bif want then b else !b)<;>rw [ai] at he<;>simp only [cond_true,cond_false] at he ⊢
           · simp only [aZ.val.injEq] at he ⊢
             exact .inr ⟨he.2.symm,fun H=>⟨he.1,trivial⟩⟩
           · refine .inl ⟨he,fun E a k=>?_⟩
             obtain ⟨g1,_⟩:=Gl k bH jj nX.1 nX.2
             have a1:=g1 b bs
             simp only [Region.wanted,aH,a1]
             cases want<;>cases b<;>simp_all
         · simp only [aZ.val.injEq] at he ⊢
           exact .inr ⟨he.2.symm,fun H=>⟨he.1,trivial⟩⟩
theorem L9 {ax:Nat} {all:Array Oper} {o:Oper} {call:du} {r:bx} {h ab:af} {v:V} (br:fL o=true) (he:(ct P ax all o).run call r h=.val v ab):
 (∃k,ab=h.new k∧True)∨(ab=h∧∀H,(ct P ax all o).run call r H=.val v H):=by
 rcases L' he with ⟨aa,_⟩ | aa
 · exact .inl (YD br aa)
 · exact .inr aa
theorem YU {rd:Option Nat} {F:Fr} {E:Env} {h ab H:af} {w:World} {call:du} {all:Array Oper} {i:Nat} {o:Oper} (av:all[i]? =some o) (br:fL o=true) {ax:Nat} {r:bx} {a:Act} {v:V}
 (he:(ct P ax all o).run call r h=.val v ab) (oc:a.tmps.size=ax) (jm:∀t ∈ b2 all o,Rel E (T.get .bad (aC t) r) (a.tmps.getD t undef)) (s:a8 F E H w)
 (Hc:ab.next≠h.next) (aj:F.ed (aC h.next)=some (ab.get (aC h.next)))
 {K:Act→World→Prop} {Q:Exit→Act→World→Prop} (dC:∀ay x ar,E.le ay→Rel ay v x→a8 (F.free (aC h.next)) ay H ar→K (a.put o.dst x) ar):wpOpIn (b4 rd) 0 P all Q i K a w:=by
 obtain ⟨aY,aR⟩:=jc he
 have k:RegRel0 E ax (df r (b2 all o)) a:=⟨oc,fun t aG=>by
  rw [RL aR aG]
  by_cases hm:t ∈ b2 all o
  · rw [if_pos hm];exact jm t hm
  · rw [if_neg hm];simp [Rel]⟩
 obtain ⟨dO,hw⟩:(eG P o).run call (df r (b2 all o)) h=.val v ab∧Region.wanted o (yielded all a.tmps)=true:=by
  rcases L' he with ⟨aa,ae⟩ | ⟨aa,_⟩
  · exact ⟨aa,ae E a k⟩
  · exact absurd (by rw [aa]) Hc
 obtain ⟨m,au,cU,al,aq,aK⟩:=YC br dO k
 simp only [wpOpIn,av,hw,if_true]
 obtain ⟨X,cX,b1,cg⟩:=aK w
 rw [al,af.ht,if_pos rfl] at aj
 have dy:E.put (aC h.next) ⟨w.heap.size,0,0⟩ (aC h.next)=some ⟨w.heap.size,0,0⟩:=by unfold Env.put;rw [if_pos rfl]
 have hle:E.le (E.put (aC h.next) ⟨w.heap.size,0,0⟩):=Env.jW (s.nz _ _ aj).2.1
 obtain ⟨bp,bT⟩:=cg _ hle dy
 have b7:F.w.heap.size≤w.heap.size:=s.frame.size
 obtain ⟨_,kf⟩:=s.link aj (o:=cX) (bT _ b7)
 refine ⟨fun _ _=>trivial,?_⟩
 rw [oA (by intro c h;have:=br;unfold fL at this;rw [h] at this;cases this),au,Sem.run_bind,b1]
 exact dC _ X _ hle bp kf
end
end Go.Proofs.YtkehcalakofigaaGreatDoor.aS
