/- The abstract machine and its walks (a verified interpreter of the model's code: plain definitions and lemmas, no condition). Printed by a program from longer texts: names made short. -/
import Derived.Test.YtkehcalakofigaaGreatDoorM1
import Derived.LaidEqlPtr
import Derived.RangeFuncLeaves
import Derived.RecoverIn
import Derived.OrdersIn
set_option linter.unusedSectionVars false
set_option linter.unusedSimpArgs false
set_option linter.unusedVariables false
namespace Go.Proofs.YtkehcalakofigaaGreatDoor.a1
variable [Lay]
open Go Go.RowKit
section
variable {P:Program}
theorem Mf {α β:Type} (g:α→Sem β) (k:α→β) (w:World):∀(l:List α),(∀x ∈ l,(g x).run P w=.ok (k x) w)→(l.mapM g).run P w=.ok (l.map k) w
 | [],_=>by simp
 | x::l,h=>by
   rw [List.mapM_cons,Sem.run_bind,h x (by simp)]
   simp only [Result.andThen_ok,Sem.run_bind,Mf g k w l (fun y aZ=>h y (by simp [aZ])),Sem.run_pure,List.map]
theorem OQ {E:Env} {t:TypeId} {ba:List (Nat × V)} {hM:List (Nat × Value)} {v:V} (ah:nU E ba hM) (he:(xJ P t).run ba=some v) (w:World):
 ∃Z,(Instr.build t hM.toArray).run P w=.ok Z w∧Rel E v Z:=by
 unfold xJ at he
 cases aC:aX P t with
 | none=>rw [aC] at he;cases he
 | some aL=>
   rw [aC] at he
   simp only at he
   cases bq:aL.zero with
   | none=>rw [bq] at he;cases he
   | some z=>
     rw [bq] at he
     simp only at he
     obtain ⟨x,ao,nn,kn⟩:=ud (P:=P) aC bq E w
     have hu:=eB aC w
     have JR:aY E z.cells x.cells.toList:=by
      rw [kn]
      have:∀y:Value,aY E (fE y).cells y.cells.toList:=by
       intro y
       cases y with
       | agg cs=>simp only [fE,V.cells,Value.cells];exact wo E _
       | pointer a=>cases a<;>simp [fE,hs,V.cells,Value.cells,aY,Rel]
       | slice a n c=>
         have:=p4 E (.slice a n c)
         cases a with
         | some a=>simp [fE,hs,V.cells,Value.cells,aY,Rel]
         | none=>
           simp only [fE,hs] at this ⊢
           cases af:(Nat.beq n 0&&Nat.beq c 0) with
           | false=>simp [V.cells,Value.cells,aY,Rel]
           | true=>rw [af] at this;simpa [V.cells,Value.cells,aY] using this
       | map r=>cases r<;>simp [fE,hs,V.cells,Value.cells,aY,Rel]
       | tuple cs=>
         have:=p4 E (.tuple cs)
         simp only [fE,V.cells,Value.cells,aY] at this ⊢
         exact ⟨_,_,rfl,this,rfl⟩
       | _=>simp [fE,hs,V.cells,Value.cells,aY,Rel]
      exact this x
     cases bD:aL.a_ with
     | struct bO=>
       rw [bD] at he hu
       simp only at he
       cases aA:ya P bO.toList with
       | false=>rw [aA] at he;cases he
       | true=>
         rw [aA] at he
         simp only [cond_true] at he
         cases ax:kc (sR P bO) z.cells ba with
         | none=>rw [ax] at he;cases he
         | some cs=>
           rw [ax] at he
           simp only [Option.some.injEq] at he
           subst he
           let k:Field→Nat × Nat:=fun f=>(f.offset,((aX P f.type).map (·.size)).getD 0)
           have mj:(bO.mapM fun f=>do pure (f.offset,←sizeOf f.type):Sem (Array (Nat × Nat))).run P w=.ok (bO.map k) w:=by
            rw [Array.mapM_eq_mapM_toList,Sem.run_map,Mf _ k w bO.toList]
            · simp only [Result.andThen_ok]
              congr 1
              apply Array.ext'
              simp
            · intro f hn
              have:=List.all_eq_true.1 aA f hn
              cases tr:aX P f.type with
              | none=>rw [tr] at this;simp at this
              | some h8=>simp only [Sem.run_bind,h1 tr,Result.andThen_ok,Sem.run_pure,k,tr];rfl
           have Vt:(fun i=>(bO.map k)[i]?)=sR P bO:=by
            funext i
            simp only [sR,Array.getElem?_map]
            cases aB:bO[i]? with
            | none=>rfl
            | some f=>
              have td:f ∈ bO.toList:=by
               have:=List.mem_of_getElem? (l:=bO.toList) (i:=i) (a:=f) (by simpa using aB)
               exact this
              have:=List.all_eq_true.1 aA f td
              cases tr:aX P f.type with
              | none=>rw [tr] at this;simp at this
              | some h8=>simp [k,tr]
           obtain ⟨b,gP,jH⟩:=vb (a:=x.cells) ah JR ax
           refine ⟨.agg b,?_,by simp only [Rel];exact ⟨b,rfl,jH⟩⟩
           simp only [Instr.build,Sem.run_bind,ao,hu,Result.andThen_ok,mj]
           rw [Vt]
           simp only [gP,Sem.run_pure]
     | array n e=>
       rw [bD] at he hu
       simp only at he
       cases b7:aX P e with
       | none=>rw [b7] at he;cases he
       | some bc=>
         rw [b7] at he
         simp only at he
         cases ax:kc (fun i=>some (i * bc.size,bc.size)) z.cells ba with
         | none=>rw [ax] at he;cases he
         | some cs=>
           rw [ax] at he
           simp only [Option.some.injEq] at he
           subst he
           obtain ⟨b,gP,jH⟩:=vb (a:=x.cells) ah JR ax
           refine ⟨.agg b,?_,by simp only [Rel];exact ⟨b,rfl,jH⟩⟩
           simp only [Instr.build,Sem.run_bind,ao,hu,Result.andThen_ok,h1 b7,gP,Sem.run_pure]
     | _=>rw [bD] at he;cases he
theorem wO {E:Env} {z:List V} {l:Array Value} (bq:aY E z l.toList):∀n:Nat,aY E (gV z n) ((Array.range (n * l.size)).map (l[· % l.size]!)).toList:=by
 have VJ:(List.range l.size).map (l[· % l.size]!)=l.toList:=by
  apply List.ext_getElem?
  intro i
  simp only [List.getElem?_map]
  by_cases aB:i<l.size
  · rw [List.getElem?_range aB]
    simp only [Option.map,Nat.mod_eq_of_lt aB,Array.getElem?_toList]
    rw [getElem!_pos l i aB,Array.getElem?_eq_getElem aB]
  · rw [List.getElem?_eq_none (by simp;omega),Array.getElem?_toList,Array.getElem?_eq_none (by omega)]
    rfl
 intro n
 simp only [Array.toList_map,Array.toList_range]
 induction n with
 | zero=>simp [gV,aY]
 | succ n bh=>
   have e:(n+1) * l.size=l.size+n * l.size:=by rw [Nat.add_mul];omega
   rw [e,List.range_add,List.map_append,VJ,List.map_map]
   have aM:((l[· % l.size]!) ∘ fun x=>l.size+x)=(l[· % l.size]!):=by
    funext x
    simp
   rw [aM]
   exact bq.append bh
theorem qo {E:Env} {t:TypeId} {aL:kL} {z:V} (aC:aX P t=some aL) (bq:aL.zero=some z) (w:World):∃x:Value,(∀w,(zeroValue t).run P w=.ok x w)∧aY E z.cells x.cells.toList∧x.cells.size=z.cells.length:=by
 obtain ⟨x,ao,_,kn⟩:=ud (P:=P) aC bq E w
 obtain ⟨i,U,_,_,_,_,f'⟩:=ql aC
 rw [bq] at f'
 have Wb:∃y,i.zero=some y:=by cases aF:i.zero with | none=>rw [aF] at f';cases f' | some y=>exact ⟨y,rfl⟩
 obtain ⟨y,aZ⟩:=Wb
 have cu:∀w,(zeroValue t).run P w=.ok y w:=fun w=>by simp only [zeroValue,Sem.run_bind,uc U,Result.andThen_ok,aZ];rfl
 have V8:y=x:=by have:=cu w;rw [ao] at this;simp at this;exact this.symm
 subst V8
 refine ⟨_,cu,?_,?_⟩
 · rw [kn]
   have:∀y:Value,aY E (fE y).cells y.cells.toList:=by
    intro y
    cases y with
    | agg cs=>simp only [fE,V.cells,Value.cells];exact wo E _
    | pointer a=>cases a<;>simp [fE,hs,V.cells,Value.cells,aY,Rel]
    | slice a n c=>
      have:=p4 E (.slice a n c)
      cases a with
      | some a=>simp [fE,hs,V.cells,Value.cells,aY,Rel]
      | none=>
        simp only [fE,hs] at this ⊢
        cases af:(Nat.beq n 0&&Nat.beq c 0) with
        | false=>simp [V.cells,Value.cells,aY,Rel]
        | true=>rw [af] at this;simpa [V.cells,Value.cells,aY] using this
    | map r=>cases r<;>simp [fE,hs,V.cells,Value.cells,aY,Rel]
    | tuple cs=>
      have:=p4 E (.tuple cs)
      simp only [fE,V.cells,Value.cells,aY] at this ⊢
      exact ⟨_,_,rfl,this,rfl⟩
    | _=>simp [fE,hs,V.cells,Value.cells,aY,Rel]
   exact this _
 · rw [kn,ZP]
theorem OS {aw:Fr} {E:Env} {h aa:ae} {w:World} (s:aW aw E h w) {t:TypeId} {n:Nat} {ba:List (Nat × V)} {hM:List (Nat × Value)} {v:V} (ah:nU E ba hM) (he:(qJ P t n).run ba h=.val v aa):
 cE aw P E w (Instr.buildSlice t n hM.toArray) v aa:=by
 unfold qJ at he
 cases aC:aX P t with
 | none=>rw [aC] at he;cases he
 | some aL=>
   rw [aC] at he
   simp only at he
   have hu:=eB aC
   cases bD:aL.a_ with
   | slice e=>
     rw [bD] at he hu
     simp only at he
     cases b7:aX P e with
     | none=>rw [b7] at he;cases he
     | some bc=>
       rw [b7] at he
       simp only at he
       cases bq:bc.zero with
       | none=>rw [bq] at he;cases he
       | some z=>
         rw [bq] at he
         simp only at he
         cases ar:(Nat.ble (n * bc.size) 1000000&&Nat.beq z.cells.length bc.size) with
         | false=>rw [ar] at he;cases he
         | true=>
           rw [ar] at he
           simp only [cond_true] at he
           simp only [Bool.and_eq_true,Nat.ble_eq,Nat.beq_eq] at ar
           cases ax:kc (fun i=>some (i * bc.size,bc.size)) (gV z.cells n) ba with
           | none=>rw [ax] at he;cases he
           | some cs=>
             rw [ax] at he
             simp only at he
             cases a7:e8 h cs with
             | none=>rw [a7] at he;cases he
             | some U=>
               rw [a7] at he
               simp only [aT.val.injEq] at he
               obtain ⟨rfl,rfl⟩:=he
               obtain ⟨x,ao,nn,np⟩:=qo (P:=P) (E:=E) b7 bq w
               have rz:x.cells.size=bc.size:=by rw [np,ar.2]
               have ru:=wO nn n
               rw [rz] at ru
               obtain ⟨b,gP,jH⟩:=vb (a:=(Array.range (n * bc.size)).map (x.cells[· % x.cells.size]!)) ah (by rw [rz];exact ru) ax
               obtain ⟨av,g1,g2,g3,g4⟩:=zg (P:=P) s jH a7 e
               refine ⟨.slice (some ⟨w.heap.size,0,none⟩) n n,_,av,?_,g1,?_,g4⟩
               · have rj:¬16777216<n * bc.size:=by omega
                 have kh:(newRow e b).run P w=.ok ⟨w.heap.size,0,none⟩ {w with heap:=w.heap.push (.cells b e)}:=by simpa using g3
                 by_cases bb:n * bc.size=0
                 · have CT:Instr.fill (fun i=>some (i * bc.size,bc.size)) ((Array.range (n * bc.size)).map ((#[]:Array Value)[· % 0]!)) hM=some b:=by
                    have aE:(Array.range (n * bc.size)).map ((#[]:Array Value)[· % 0]!)=(Array.range (n * bc.size)).map (x.cells[· % x.cells.size]!):=by
                     rw [bb];simp
                    rw [aE];exact gP
                   have CU:Instr.fill (fun i=>some (i * bc.size,bc.size)) ((Array.range (n * bc.size)).map (fun x=>(#[]:Array Value)[x % (#[]:Array Value).size]!)) hM=some b:=CT
                   simp only [Instr.buildSlice,Sem.run_bind,hu,Result.andThen_ok,h1 b7,Sem.run_ite]
                   rw [if_neg rj]
                   simp only [Sem.run_pure,Result.andThen_ok,if_pos bb]
                   rw [CU]
                   simp only [Sem.run_bind,kh,Result.andThen_ok,Sem.run_pure]
                 · simp only [Instr.buildSlice,Sem.run_bind,hu,Result.andThen_ok,h1 b7,Sem.run_ite]
                   rw [if_neg rj]
                   simp only [Sem.run_pure,Result.andThen_ok,if_neg bb,ao]
                   rw [gP]
                   simp only [Sem.run_bind,kh,Result.andThen_ok,Sem.run_pure]
               · simp only [Rel]
                 exact ⟨_,g2,Nat.le_refl _,by simp⟩
   | _=>rw [bD] at he;cases he
theorem Zc {aw:Fr} {E:Env} {h aa:ae} {w:World} (s:aW aw E h w) {t:TypeId} {x y v:V} {X Y:Value} (ao:Rel E x X) (aZ:Rel E y Y) (he:(ze P t).run x y h=.val v aa):
 cE aw P E w (Instr.makeSlice t X Y) v aa:=by
 unfold ze at he
 cases aC:aX P t with
 | none=>rw [aC] at he;cases he
 | some aL=>
   rw [aC] at he
   simp only at he
   have hu:=eB aC
   cases bD:aL.a_ with
   | slice e=>
     rw [bD] at he hu
     simp only at he
     cases b7:aX P e with
     | none=>rw [b7] at he;cases he
     | some bc=>
       rw [b7] at he
       simp only at he
       cases bq:bc.zero with
       | none=>rw [bq] at he;cases he
       | some z=>
         rw [bq] at he
         simp only at he
         cases CY:Nat.ble bc.bytes 4096 with
         | false=>rw [CY] at he;cases he
         | true=>
           rw [CY] at he
           simp only [cond_true,tG] at he
           obtain ⟨b_,l,rfl,yy⟩:=wv he
           obtain ⟨cA,c,rfl,dC⟩:=wv yy
           have:=ao.hq;subst this
           have:=aZ.hq;subst this
           obtain ⟨ar,vk⟩:=iC dC
           simp only [Bool.and_eq_true,mB,decide_eq_true_eq,Nat.beq_eq] at ar
           obtain ⟨⟨bb,U,ad⟩,aI⟩:=ar
           rw [Nat.ble_eq] at CY
           cases a7:e8 h (gV z.cells c.toNat) with
           | none=>rw [a7] at vk;cases vk
           | some a6=>
             rw [a7] at vk
             simp only [aT.val.injEq] at vk
             obtain ⟨rfl,rfl⟩:=vk
             obtain ⟨nL,vN,nn,np⟩:=qo (P:=P) (E:=E) b7 bq w
             have rz:nL.cells.size=bc.size:=by rw [np,aI]
             have ru:=wO nn c.toNat
             obtain ⟨av,g1,g2,g3,g4⟩:=zg (P:=P) s ru a7 e
             obtain ⟨i,aB,pH⟩:=Fx (P:=P) b7 w
             have D2:IntKind.i64.wrap l=l:=by simp only [IntKind.wrap,IntKind.bits,IntKind.signed];simp;omega
             have V4:IntKind.i64.wrap c=c:=by simp only [IntKind.wrap,IntKind.bits,IntKind.signed];simp;omega
             have hmul:(bc.bytes:Int) * c≤4096 * 1000000:=by
              have af:(bc.bytes:Int)≤4096:=by omega
              have:=Int.mul_le_mul_of_nonneg_right (c:=c) af (by omega)
              omega
             refine ⟨.slice (some ⟨w.heap.size,0,none⟩) l.toNat c.toNat,_,av,?_,g1,?_,g4⟩
             · have kh:=g3
               simp only [Array.toArray_toList] at kh
               have bC:¬c<0:=by omega
               have bY:¬((bc.bytes:Int) * c>281474976710656):=by omega
               have c3:¬l<0:=by omega
               have fZ:¬l>c:=by omega
               have same:(if c.toNat * bc.size=0 then (Array.range (c.toNat * bc.size)).map (fun x=>(#[]:Array Value)[x % (#[]:Array Value).size]!) else (Array.range (c.toNat * bc.size)).map (fun x=>nL.cells[x % nL.cells.size]!))=
                (Array.range (c.toNat * nL.cells.size)).map (nL.cells[· % nL.cells.size]!):=by
                rw [rz]
                by_cases aF:c.toNat * bc.size=0
                · rw [aF];simp
                · rw [if_neg aF]
               simp only [Instr.makeSlice,Sem.run_bind,hu,Result.andThen_ok,asInt,asIntOf,Sem.run_pure,aB,D2,V4,pH]
               rw [if_neg (by simp only [Bool.or_eq_true,decide_eq_true_eq,not_or];exact ⟨⟨⟨bC,bY⟩,c3⟩,fZ⟩)]
               simp only [Result.andThen_ok,Sem.run_bind,run_askRoom,h1 b7]
               by_cases aF:c.toNat * bc.size=0
               · rw [if_pos aF] at same
                 rw [if_pos aF]
                 simp only [Sem.run_pure,Result.andThen_ok,Sem.run_bind,same,kh,Array.toArray_toList]
               · rw [if_neg aF] at same
                 rw [if_neg aF]
                 simp only [Sem.run_pure,Result.andThen_ok,Sem.run_bind,vN,same,kh,Array.toArray_toList]
             · simp only [Rel]
               exact ⟨_,g2,by omega,by simp⟩
   | _=>rw [bD] at he;cases he
end
end Go.Proofs.YtkehcalakofigaaGreatDoor.a1
namespace Go.Proofs.YtkehcalakofigaaGreatDoor.a1
variable [Lay]
open Go Go.RowKit
theorem aO.jD:∀{p q:aO},aO.fp p q=true→p=q
 | .z,.z,_=>rfl
 | .l p,.l q,h=>by rw [aO.jD (p:=p) (q:=q) h]
 | .r p,.r q,h=>by rw [aO.jD (p:=p) (q:=q) h]
 | .z,.l _,h=>by cases h
 | .z,.r _,h=>by cases h
 | .l _,.z,h=>by cases h
 | .l _,.r _,h=>by cases h
 | .r _,.z,h=>by cases h
 | .r _,.l _,h=>by cases h
theorem aO.u':∀p:aO,aO.fp p p=true
 | .z=>rfl
 | .l p=>aO.u' p
 | .r p=>aO.u' p
section
variable {P:Program}
theorem Lw {aw:Fr} {E:Env} {h:ae} {w:World} (s:aW aw E h w) {b:aO} {p:gY} (ah:E b=some p) (af:(h.get b).zC=true):(h.get b).own=true∧∃c t,w.heap[p.bd]? =some (.cells c t (0,0)):=by
 have aA:=s.at ah
 cases aD:h.get b<;>rw [aD] at af<;>try (cases af;done)
 rename_i n cs cj st
 rw [aD] at aA
 obtain ⟨_,p',c,el,bG,aE,_,q',_,cf,_⟩:=aA
 rw [ah] at aE;cases aE
 have:st=false:=by simpa [bV.zC] using af
 rw [cf this] at q'
 exact ⟨rfl,c,el,q'⟩
theorem LK {t:TypeId} (h:jZ P t=true):∃e j,P.underlying t=some (.pointer e)∧P.info? e=some j∧j.size≠0:=by
 unfold jZ at h
 cases aC:aX P t with
 | none=>rw [aC] at h;cases h
 | some aL=>
   rw [aC] at h
   simp only at h
   cases hu:aL.a_<;>rw [hu] at h<;>simp only at h<;>try (cases h;done)
   rename_i e
   cases he:aX P e with
   | none=>rw [he] at h;cases h
   | some bc=>
     rw [he] at h
     simp only at h
     obtain ⟨_,_,ad,_⟩:=ql aC
     obtain ⟨j,g1,_,g3,_⟩:=ql he
     refine ⟨e,j,by rw [ad,hu],g1,fun cC=>?_⟩
     rw [g3,cC] at h
     cases h
theorem aaD {t:TypeId} (h:jZ P t=true) (w:World):∃e,(underlying t).run P w=.ok (.pointer e) w:=by
 obtain ⟨e,_,U,_⟩:=LK h
 exact ⟨e,Fy U w⟩
theorem abk {t e:TypeId} {w:World} (hu:(underlying t).run P w=.ok (.pointer e) w) (b:Bool) (v:Value):(Instr.checkKey b 10000 t v).run P w=.ok () w:=by
 show (Instr.checkKey b (9999+1) t v).run P w=.ok () w
 unfold Instr.checkKey
 rw [Sem.run_bind,hu]
 rfl
theorem LI {aw:Fr} {E:Env} {h:ae} {w:World} (s:aW aw E h w) {t:TypeId} (aC:jZ P t=true) {x y:V} {X Y:Value} {b:Bool} (he:lP h x y=some b) (ao:Rel E x X) (aZ:Rel E y Y):
 (∃a c,X=.pointer (some a)∧Y=.pointer (some c))∧∀d,(Op.equalIn (d+1) t X Y).run P w=.ok b w:=by
 obtain ⟨e,j,ah,b7,bZ⟩:=LK aC
 unfold lP at he
 split at he
 case h_2=>cases he
 rename_i bL cT
 split at he
 case h_2=>cases he
 rename_i ca cG
 simp only [Rel] at ao aZ
 obtain ⟨p,gQ,rfl⟩:=ao
 obtain ⟨q,gr,rfl⟩:=aZ
 refine ⟨⟨_,_,rfl,rfl⟩,fun d=>?_⟩
 cases heq:aO.fp bL ca with
 | true=>
   rw [heq] at he
   simp only [cond_true,Option.some.injEq] at he
   have:=aO.jD heq
   subst this
   rw [gQ] at gr;cases gr
   have af:b=decide (cT=cG):=by
    rw [←he]
    by_cases h:cT=cG
    · subst h;simp
    · rw [decide_eq_false h,←Bool.not_eq_true,Nat.beq_eq];exact h
   have key:(sameAddr ⟨p.bd,p.base+cT,none⟩ ⟨p.bd,p.base+cG,none⟩).run P w=.ok b w:=by
    rw [af]
    by_cases h:cT=cG
    · subst h
      simpa using run_sameAddr_same w (⟨p.bd,p.base+cT,none⟩:Addr)
    · have c8:((⟨p.bd,p.base+cT,none⟩:Addr) == ⟨p.bd,p.base+cG,none⟩)=false:=by
       rw [beq_eq_false_iff_ne]
       intro e
       injection e with _ aM _
       omega
      simp [sameAddr,c8,h]
   simp [Op.equalIn,run_underlying ah,sizeOf,typeInfo,b7,bZ,key]
 | false=>
   rw [heq] at he
   simp only [cond_false] at he
   obtain ⟨ar,he⟩:=dF he
   simp only [Bool.and_eq_true] at ar
   cases he
   obtain ⟨EX,bC,t1,ng⟩:=Lw s gQ ar.1
   obtain ⟨EY,bY,t2,Df⟩:=Lw s gr ar.2
   have c8:(⟨p.bd,p.base+cT,none⟩:Addr)≠⟨q.bd,q.base+cG,none⟩:=by
    intro e
    injection e with aE _ _
    have:=s.inj bL ca p q EX EY gQ gr aE
    subst this
    rw [aO.u'] at heq
    cases heq
   simp [Op.equalIn,run_underlying ah,sizeOf,typeInfo,b7,bZ,run_sameAddr_other w c8 ng Df]
theorem aaB {aw:Fr} {E:Env} {h:ae} {w:World} (s:aW aw E h w) {op:BinOp} {t:TypeId} {neg:Bool} (jg:zG P op t=some neg) {x y:V} {hv gh:Operand} {X Y:Value} {b:Bool} (he:lP h x y=some b) (ao:Rel E x X) (aZ:Rel E y Y):
 ∃Z,(do eqGuard op t hv gh X Y;binOp op t X Y:Sem Value).run P w=.ok Z w∧Rel E (.bool (bif neg then !b else b)) Z:=by
 unfold zG at jg
 have main:jZ P t=true→((op=.eql∧neg=false)∨(op=.neq∧neg=true))→∃Z,(do eqGuard op t hv gh X Y;binOp op t X Y:Sem Value).run P w=.ok Z w∧Rel E (.bool (bif neg then !b else b)) Z:=by
  intro aC jO
  obtain ⟨⟨a,c,rfl,rfl⟩,cu⟩:=LI s aC he ao aZ
  have aD:=fun (o:BinOp)=>x2 (P:=P) (op:=o) (t:=t) (x:=hv) (y:=gh) (X:=.pointer (some a)) (Y:=.pointer (some c)) (by simp) (.inl (by simp)) w
  have aE:(Op.equal t (.pointer (some a)) (.pointer (some c))).run P w=.ok b w:=cu 9999
  rcases jO with ⟨rfl,rfl⟩ | ⟨rfl,rfl⟩
  · refine ⟨.bool b,?_,by simp [Rel]⟩
    rw [Sem.run_bind,aD,Result.andThen_ok,binOp_eql (X:=.pointer (some a)) True.intro,Sem.run_bind,aE]
    rfl
  · refine ⟨.bool (!b),?_,by simp [Rel]⟩
    rw [Sem.run_bind,aD,Result.andThen_ok,binOp_neq (X:=.pointer (some a)) True.intro,Sem.run_bind,aE]
    rfl
 cases op<;>simp only at jg<;>try (cases jg;done)
 · obtain ⟨U,ad⟩:=dF jg
   cases ad
   exact main U (.inl ⟨rfl,rfl⟩)
 · obtain ⟨U,ad⟩:=dF jg
   cases ad
   exact main U (.inr ⟨rfl,rfl⟩)
end
end Go.Proofs.YtkehcalakofigaaGreatDoor.a1
namespace Go.Proofs.YtkehcalakofigaaGreatDoor.a1
variable [Lay]
open Go Go.RowKit
section
variable {P:Program}
def sq (P:Program) (w:World) (E:Env) (b4:TypeId) (e:c6):Prop:=
 ∀k bl K kI b,e.run k bl=some b→Rel E k K→Rel E bl kI→(Op.equal b4 K kI).run P w=.ok b w∧(b=true→kI=K∧Instr.sameBits 10000 K K=true)
theorem aaC {aw:Fr} {E:Env} {h:ae} {w:World} (s:aW aw E h w) {b4:TypeId} (aC:jZ P b4=true):sq P w E b4 ⟨lP h⟩:=by
 intro k bl K kI b he ao aZ
 obtain ⟨⟨a,c,rfl,rfl⟩,cu⟩:=LI s aC he ao aZ
 refine ⟨cu 9999,fun af=>?_⟩
 subst af
 simp only [lP] at he
 split at he
 case h_2=>cases he
 split at he
 case h_2=>cases he
 rename_i bL cT _ ca cG
 simp only [Rel] at ao aZ
 obtain ⟨p,gQ,ao⟩:=ao
 obtain ⟨q,gr,aZ⟩:=aZ
 cases heq:aO.fp bL ca with
 | false=>
   rw [heq] at he
   simp only [cond_false] at he
   obtain ⟨_,he⟩:=dF he
   cases he
 | true=>
   rw [heq] at he
   simp only [cond_true,Option.some.injEq] at he
   have:=aO.jD heq
   subst this
   rw [gQ] at gr;cases gr
   have:=Nat.eq_of_beq_eq_true he
   subst this
   rw [ao,aZ]
   exact ⟨rfl,by simp [Instr.sameBits]⟩
theorem Ii {w:World} {E:Env} {b4:TypeId} {e:c6} (jG:sq P w E b4 e) {k:V} {K:Value} (aA:Rel E k K):∀(es:List bX) (l:List MapEntry) (r:Option V) (i:Nat),jF e k es=some r→dp E es l→
 ∃R,(Instr.findAsking b4 K l i).run P w=.ok R w∧(match r with
  | none=>R=none
  | some v=>∃j Y,R=some (j,Y)∧Rel E v Y)
 | [],l,r,i,h,aG=>by
   simp only [dp] at aG
   subst aG
   simp only [jF,Option.some.injEq] at h
   subst h
   exact ⟨none,rfl,rfl⟩
 | m::ms,l,r,i,h,aG=>by
   obtain ⟨dq,es,rfl,U,ad,aI,br⟩:=aG
   simp only [jF] at h
   cases aQ:e.run k m.k with
   | none=>rw [aQ] at h;cases h
   | some b=>
     rw [aQ] at h
     simp only at h
     obtain ⟨aj,ay⟩:=jG _ _ _ _ _ aQ aA U
     cases b with
     | true=>
       simp only [cond_true,Option.some.injEq] at h
       subst h
       exact ⟨some (i,dq.val),by simp [Instr.findAsking,aj],i,dq.val,rfl,ad⟩
     | false=>
       simp only [cond_false] at h
       obtain ⟨R,g1,g2⟩:=Ii jG aA ms es r (i+1) h br
       exact ⟨R,by simp [Instr.findAsking,aj,g1],g2⟩
theorem LL {w:World} {E:Env} {b4:TypeId} {e:c6} (jG:sq P w E b4 e) {k v:V} {K X:Value} (aA:Rel E k K) (bx:Rel E v X) (clock:Nat):∀(es:List bX) (l:List MapEntry) (r:List bX × Bool) (i:Nat),kB e k v clock es=some r→dp E es l→
 (r.2=true→(Instr.findAsking b4 K l i).run P w=.ok none w∧dp E r.1 (l++[⟨K,X,clock⟩]))∧
 (r.2=false→∃j dq Y,(Instr.findAsking b4 K l i).run P w=.ok (some (i+j,Y)) w∧l[j]? =some dq∧Instr.sameBits 10000 dq.key K=true∧dp E r.1 (l.modify j fun dq=>{dq with key:=K,val:=X}))
 | [],l,r,i,h,aG=>by
   simp only [dp] at aG
   subst aG
   simp only [kB,Option.some.injEq] at h
   subst h
   exact ⟨fun _=>⟨rfl,_,_,rfl,aA,bx,rfl,rfl⟩,fun h=>by cases h⟩
 | m::ms,l,r,i,h,aG=>by
   obtain ⟨dq,es,rfl,U,ad,aI,br⟩:=aG
   simp only [kB] at h
   cases aQ:e.run k m.k with
   | none=>rw [aQ] at h;cases h
   | some b=>
     rw [aQ] at h
     simp only at h
     obtain ⟨aj,ay⟩:=jG _ _ _ _ _ aQ aA U
     cases b with
     | true=>
       simp only [cond_true,Option.some.injEq] at h
       subst h
       obtain ⟨aK,bE⟩:=ay rfl
       refine ⟨fun h=>(by cases h),fun _=>⟨0,dq,dq.val,by simp [Instr.findAsking,aj],rfl,by rw [aK];exact bE,?_⟩⟩
       exact ⟨_,es,rfl,aA,bx,aI,br⟩
     | false=>
       simp only [cond_false] at h
       cases ah:kB e k v clock ms with
       | none=>rw [ah] at h;cases h
       | some bn=>
         rw [ah] at h
         simp only [Option.some.injEq] at h
         subst h
         obtain ⟨g1,g2⟩:=LL jG aA bx clock ms es bn (i+1) ah br
         refine ⟨fun h=>?_,fun h=>?_⟩
         · obtain ⟨bK,a2⟩:=g1 h
           exact ⟨by simp [Instr.findAsking,aj,bK],⟨dq,es++[⟨K,X,clock⟩],rfl,U,ad,aI,a2⟩⟩
         · obtain ⟨j,cQ,Y,bK,a2,a3,a4⟩:=g2 h
           exact ⟨j+1,cQ,Y,by simp [Instr.findAsking,aj,bK];omega,by simpa using a2,a3,⟨dq,_,rfl,U,ad,aI,a4⟩⟩
theorem abm {b4:TypeId} {h6:TypeId} {w:World} (hu:(underlying b4).run P w=.ok (.pointer h6) w) {K:Value} {l:List MapEntry} {R:Option (Nat × Value)} (h:(Instr.findAsking b4 K l 0).run P w=.ok R w):
 (Instr.findKey b4 K l).run P w=.ok R w:=by
 cases l with
 | nil=>
   simp only [Instr.findAsking,Sem.run_pure] at h
   cases h
   simp [Instr.findKey,hu,Instr.findNow]
 | cons dq es=>
   have a7:Instr.findNow (.pointer h6) K (dq::es) 0=none:=by simp [Instr.findNow,Instr.sameNow]
   simp [Instr.findKey,hu,a7,h]
theorem SU {x y:V} (h:qP x y=true):x=y:=by
 cases x<;>simp only [qP] at h<;>try (cases h;done)
 all_goals (cases y<;>simp only at h<;>try (cases h;done))
 · rw [beq_iff_eq] at h;rw [h]
 · simp only [Bool.and_eq_true,jD,beq_iff_eq] at h
   rw [pt h.1,h.2]
 · rw [qH,beq_iff_eq] at h;rw [h]
theorem H9:∀{xs b2:List V},qQ xs b2=true→xs=b2
 | [],[],_=>rfl
 | [],_::_,h=>by cases h
 | _::_,[],h=>by cases h
 | x::xs,y::b2,h=>by
   simp only [qQ] at h
   cases U:qP x y with
   | false=>rw [U] at h;cases h
   | true=>rw [U] at h;rw [SU U,H9 h]
theorem SS {E:Env} {x:V} {X Y:Value} (h:qP x x=true) (cO:Rel E x X) (er:Rel E x Y):X=Y∧∀n,Instr.sameBits n X X=true:=by
 cases x<;>simp only [qP] at h<;>try (cases h;done)
 · simp only [Rel] at cO er;subst cO er;exact ⟨rfl,fun n=>by cases n<;>simp [Instr.sameBits]⟩
 · simp only [Rel] at cO er;subst cO er;exact ⟨rfl,fun n=>by cases n<;>simp [Instr.sameBits]⟩
 · simp only [Rel] at cO er;subst cO er;exact ⟨rfl,fun n=>by cases n<;>simp [Instr.sameBits,bytes_beq]⟩
theorem H8 {E:Env}:∀{xs:List V} {l dZ:List Value},qQ xs xs=true→aY E xs l→aY E xs dZ→l=dZ∧∀n,((l.zip l).all fun (x,y)=>Instr.sameBits n x y)=true
 | [],l,dZ,_,U,ad=>by
   simp only [aY] at U ad
   subst U ad
   exact ⟨rfl,fun _=>rfl⟩
 | x::xs,l,dZ,h,U,ad=>by
   obtain ⟨y,b2,rfl,bK,a2⟩:=U
   obtain ⟨o',aeK,rfl,bL,ca⟩:=ad
   simp only [qQ] at h
   cases ar:qP x x with
   | false=>rw [ar] at h;cases h
   | true=>
     rw [ar] at h
     obtain ⟨rfl,aj⟩:=SS ar bK bL
     obtain ⟨rfl,ay⟩:=H8 h a2 ca
     exact ⟨rfl,fun n=>by simp only [List.zip_cons_cons,List.all_cons,aj,ay,Bool.and_self]⟩
theorem ab6 {w:World} {E:Env} {b4:TypeId}:sq P w E b4 (structEq P b4):=by
 intro k bl K kI b he ao aZ
 simp only [structEq] at he
 split at he
 case h_2=>cases he
 split at he
 case h_2=>cases he
 rename_i xs _ b2
 cases aF:(fL P 12 b4).run (.agg xs) (.agg b2) with
 | none=>rw [aF] at he;cases he
 | some c=>
   rw [aF] at he
   have aQ:=Cr 12 Op.maxDepth b4 _ _ K kI c (by decide) aF ao aZ w
   cases c with
   | false=>
     simp only [cond_false,Option.some.injEq] at he
     subst he
     exact ⟨aQ,fun h=>by cases h⟩
   | true=>
     simp only [cond_true] at he
     cases ah:qQ xs b2 with
     | false=>rw [ah] at he;cases he
     | true=>
       rw [ah] at he
       simp only [cond_true,Option.some.injEq] at he
       subst he
       refine ⟨aQ,fun _=>?_⟩
       have:=H9 ah
       subst this
       simp only [Rel] at ao aZ
       obtain ⟨a,rfl,U⟩:=ao
       obtain ⟨bf,rfl,ad⟩:=aZ
       obtain ⟨e,q⟩:=H8 ah U ad
       have cQ:a=bf:=Array.toList_inj.1 e
       subst cQ
       exact ⟨rfl,by show Instr.sameBits (9999+1) _ _=true;simp only [Instr.sameBits,beq_self_eq_true,Bool.true_and];exact q _⟩
theorem run_checkKey_plain {a_:TypeDesc} (ax:kY a_=true) {t:TypeId} {w:World} (hu:(underlying t).run P w=.ok a_ w) (b:Bool) (n:Nat) (v:Value):(Instr.checkKey b (n+1) t v).run P w=.ok () w:=by
 unfold Instr.checkKey
 rw [Sem.run_bind,hu]
 cases a_<;>simp only [kY] at ax<;>first
  | (cases ax;done)
  | rfl
theorem Tp {w:World} {E:Env} {cs:List V} {a:Array Value} (bm:aY E cs a.toList) (b:Bool) (n:Nat):∀(bO:List Field),x_ P cs bO=true→
 (do for f in bO do
      if f.name≠ "_" then Instr.checkKey b (n+1) f.type (←part f.type a f.offset):Sem Unit).run P w=.ok () w:=by
 intro bO
 induction bO with
 | nil=>intro _;simp
 | cons f bO bh=>
   intro h
   simp only [x_] at h
   cases U:(mG P f.type f.offset).run cs with
   | none=>rw [U] at h;cases h
   | some x=>
     rw [U] at h
     simp only at h
     cases ad:aX P f.type with
     | none=>rw [ad] at h;cases h
     | some h8=>
       rw [ad] at h
       simp only at h
       cases aI:kY h8.a_ with
       | false=>rw [aI] at h;cases h
       | true=>
         rw [aI] at h
         simp only [cond_true] at h
         obtain ⟨X,cO,_⟩:=wE bm U w
         have aA:=run_checkKey_plain (P:=P) aI (eB ad w) b n X
         have:=bh h
         by_cases a7:f.name= "_"
         · simpa [a7] using this
         · simpa [a7,cO,aA] using this
theorem ab7 {t:TypeId} (h:o3 P t=true) (w:World):∃bO,(underlying t).run P w=.ok (.struct bO) w:=by
 unfold o3 at h
 cases aC:aX P t with
 | none=>rw [aC] at h;cases h
 | some aL=>
   rw [aC] at h
   simp only at h
   have hu:=eB aC w
   cases bD:aL.a_<;>rw [bD] at h<;>simp only at h<;>try (cases h;done)
   rw [bD] at hu
   exact ⟨_,hu⟩
theorem abl {t:TypeId} {k:V} (aD:rH P t k=true) {E:Env} {K:Value} (aA:Rel E k K) {w:World} (b:Bool):(Instr.checkKey b 10000 t K).run P w=.ok () w:=by
 unfold rH at aD
 cases aC:aX P t with
 | none=>rw [aC] at aD;cases aD
 | some aL=>
   rw [aC] at aD
   simp only at aD
   have hu:=eB aC w
   cases bD:aL.a_<;>rw [bD] at aD<;>simp only at aD<;>try (cases aD;done)
   rename_i bO
   rw [bD] at hu
   cases k<;>simp only at aD<;>try (cases aD;done)
   rename_i cs
   simp only [Rel] at aA
   obtain ⟨a,rfl,bm⟩:=aA
   show (Instr.checkKey b (9998+1+1) t (.agg a)).run P w=.ok () w
   unfold Instr.checkKey
   rw [Sem.run_bind,hu]
   have:=Tp (P:=P) (w:=w) bm b 9998 bO.toList aD
   simp only [Result.andThen_ok,Array.forIn_toList] at this ⊢
   exact this
theorem abn {b4:TypeId} {bO:Array Field} {w:World} (hu:(underlying b4).run P w=.ok (.struct bO) w) {K:Value} {l:List MapEntry} {R:Option (Nat × Value)} (h:(Instr.findAsking b4 K l 0).run P w=.ok R w):
 (Instr.findKey b4 K l).run P w=.ok R w:=by
 cases l with
 | nil=>
   simp only [Instr.findAsking,Sem.run_pure] at h
   cases h
   simp [Instr.findKey,hu,Instr.findNow]
 | cons dq es=>
   have a7:Instr.findNow (.struct bO) K (dq::es) 0=none:=by simp [Instr.findNow,Instr.sameNow]
   simp [Instr.findKey,hu,a7,h]
structure uw (P:Program) (w:World) (E:Env) (b4:TypeId) (e:c6) (K:Value):Prop where
 eq:sq P w E b4 e
 check:∀b,(Instr.checkKey b 10000 b4 K).run P w=.ok () w
 find:∀{l:List MapEntry} {R},(Instr.findAsking b4 K l 0).run P w=.ok R w→(Instr.findKey b4 K l).run P w=.ok R w
theorem A5 {aw:Fr} {E:Env} {h:ae} {w:World} (s:aW aw E h w) {b4:TypeId} (aC:jZ P b4=true) (K:Value):uw P w E b4 ⟨lP h⟩ K:=by
 obtain ⟨Ls,ki⟩:=aaD aC w
 exact ⟨aaC s aC,fun b=>abk ki b K,fun q=>abm ki q⟩
theorem A6 {w:World} {E:Env} {b4:TypeId} (aC:o3 P b4=true) {k:V} (aD:rH P b4 k=true) {K:Value} (aA:Rel E k K):uw P w E b4 (structEq P b4) K:=by
 obtain ⟨bO,ki⟩:=ab7 aC w
 exact ⟨ab6,fun b=>abl aD aA b,fun q=>abn ki q⟩
end
end Go.Proofs.YtkehcalakofigaaGreatDoor.a1
namespace Go.Proofs.YtkehcalakofigaaGreatDoor.a1
variable [Lay]
open Go Go.RowKit
section
variable {P:Program}
theorem Ei {E:Env} {a_:TypeDesc} {k bl:V} {K kI:Value} {b:Bool} (he:(iN a_).run k bl=some b) (ao:Rel E k K) (aZ:Rel E bl kI):
 Instr.sameNow a_ K kI=some b∧(b=true→kI=K∧∀n,Instr.sameBits n K K=true):=by
 cases a_<;>simp only [iN] at he<;>try (simp [c6.none] at he;done)
 case bool=>
  simp only [mX] at he
  cases k<;>simp only at he<;>try (cases he;done)
  cases bl<;>simp only at he<;>try (cases he;done)
  simp only [Rel] at ao aZ
  subst ao aZ
  simp only [Option.some.injEq] at he
  subst he
  refine ⟨rfl,fun h=>?_⟩
  rw [beq_iff_eq] at h
  subst h
  exact ⟨rfl,fun n=>by cases n<;>simp [Instr.sameBits]⟩
 case int ns=>
  simp only [jE] at he
  obtain ⟨j,m,rfl,U⟩:=hK he
  clear he
  obtain ⟨y2,cK,rfl,ad⟩:=hK U
  clear U
  obtain ⟨aA,h⟩:=dF ad
  clear ad
  have:=pt aA
  subst this
  simp only [Rel] at ao aZ
  subst ao aZ
  simp only [Option.some.injEq,jD] at h
  subst h
  refine ⟨by simp [Instr.sameNow],fun h=>?_⟩
  rw [beq_iff_eq] at h
  subst h
  exact ⟨rfl,fun n=>by cases n<;>simp [Instr.sameBits]⟩
 case string=>
  simp only [qR] at he
  cases k<;>simp only at he<;>try (cases he;done)
  cases bl<;>simp only at he<;>try (cases he;done)
  simp only [Rel] at ao aZ
  subst ao aZ
  simp only [Option.some.injEq,qH] at he
  subst he
  refine ⟨by simp only [Instr.sameNow,bytes_beq],fun h=>?_⟩
  rw [beq_iff_eq] at h
  subst h
  exact ⟨rfl,fun n=>by cases n<;>simp [Instr.sameBits,bytes_beq]⟩
theorem run_checkKey {a_:TypeDesc} (ax:kY a_=true) {t:TypeId} {w:World} (hu:(underlying t).run P w=.ok a_ w) (b:Bool) (v:Value):(Instr.checkKey b 10000 t v).run P w=.ok () w:=by
 show (Instr.checkKey b (9999+1) t v).run P w=.ok () w
 unfold Instr.checkKey
 rw [Sem.run_bind,hu]
 cases a_<;>simp only [kY] at ax<;>first
  | (cases ax;done)
  | rfl
theorem run_findKey {a_:TypeDesc} {t:TypeId} {w:World} (hu:(underlying t).run P w=.ok a_ w) {K:Value} {l:List MapEntry} {R:Option (Nat × Value)} (h:Instr.findNow a_ K l 0=some R):
 (Instr.findKey t K l).run P w=.ok R w:=by
 simp only [Instr.findKey,Sem.run_bind,hu,Result.andThen_ok,h,Sem.run_pure]
theorem Io {E:Env} {a_:TypeDesc} {k:V} {K:Value} (aA:Rel E k K):∀(es:List bX) (l:List MapEntry) (r:Option V) (i:Nat),jF (iN a_) k es=some r→dp E es l→
 ∃R,Instr.findNow a_ K l i=some R∧(match r with
  | none=>R=none
  | some v=>∃j Y,R=some (j,Y)∧Rel E v Y)
 | [],l,r,i,h,aG=>by
   simp only [dp] at aG
   subst aG
   simp only [jF,Option.some.injEq] at h
   subst h
   exact ⟨none,rfl,rfl⟩
 | m::ms,l,r,i,h,aG=>by
   obtain ⟨e,es,rfl,U,ad,aI,br⟩:=aG
   simp only [jF] at h
   cases aQ:(iN a_).run k m.k with
   | none=>rw [aQ] at h;cases h
   | some b=>
     rw [aQ] at h
     simp only at h
     obtain ⟨aj,ay⟩:=Ei aQ aA U
     cases b with
     | true=>
       simp only [cond_true,Option.some.injEq] at h
       subst h
       exact ⟨some (i,e.val),by simp only [Instr.findNow,aj],i,e.val,rfl,ad⟩
     | false=>
       simp only [cond_false] at h
       obtain ⟨R,g1,g2⟩:=Io aA ms es r (i+1) h br
       exact ⟨R,by simp only [Instr.findNow,aj,g1],g2⟩
theorem LP {E:Env} {a_:TypeDesc} {k v:V} {K X:Value} (aA:Rel E k K) (bx:Rel E v X) (clock:Nat):∀(es:List bX) (l:List MapEntry) (r:List bX × Bool) (i:Nat),kB (iN a_) k v clock es=some r→dp E es l→
 (r.2=true→Instr.findNow a_ K l i=some none∧dp E r.1 (l++[⟨K,X,clock⟩]))∧
 (r.2=false→∃j e Y,Instr.findNow a_ K l i=some (some (i+j,Y))∧l[j]? =some e∧Instr.sameBits 10000 e.key K=true∧dp E r.1 (l.modify j fun e=>{e with key:=K,val:=X}))
 | [],l,r,i,h,aG=>by
   simp only [dp] at aG
   subst aG
   simp only [kB,Option.some.injEq] at h
   subst h
   exact ⟨fun _=>⟨rfl,_,_,rfl,aA,bx,rfl,rfl⟩,fun h=>by cases h⟩
 | m::ms,l,r,i,h,aG=>by
   obtain ⟨e,es,rfl,U,ad,aI,br⟩:=aG
   simp only [kB] at h
   cases aQ:(iN a_).run k m.k with
   | none=>rw [aQ] at h;cases h
   | some b=>
     rw [aQ] at h
     simp only at h
     obtain ⟨aj,ay⟩:=Ei aQ aA U
     cases b with
     | true=>
       simp only [cond_true,Option.some.injEq] at h
       subst h
       obtain ⟨aK,bE⟩:=ay rfl
       refine ⟨fun h=>(by cases h),fun _=>⟨0,e,e.val,by simp only [Instr.findNow,aj,Nat.add_zero],rfl,by rw [aK];exact bE _,?_⟩⟩
       exact ⟨_,es,rfl,aA,bx,aI,br⟩
     | false=>
       simp only [cond_false] at h
       cases ah:kB (iN a_) k v clock ms with
       | none=>rw [ah] at h;cases h
       | some bn=>
         rw [ah] at h
         simp only [Option.some.injEq] at h
         subst h
         obtain ⟨g1,g2⟩:=LP aA bx clock ms es bn (i+1) ah br
         refine ⟨fun h=>?_,fun h=>?_⟩
         · obtain ⟨bK,a2⟩:=g1 h
           exact ⟨by simp only [Instr.findNow,aj,bK],⟨e,es++[⟨K,X,clock⟩],rfl,U,ad,aI,a2⟩⟩
         · obtain ⟨j,cQ,Y,bK,a2,a3,a4⟩:=g2 h
           exact ⟨j+1,cQ,Y,by simp only [Instr.findNow,aj,bK];congr 3;omega,by simpa using a2,a3,e,_,rfl,U,ad,aI,a4⟩
theorem Eu {aw:Fr} {E:Env} {h:ae} {w:World} (s:aW aw E h w) {x:V} {X:Value} {es:List bX} (he:oM h x=some es) (ao:Rel E x X):
 (X=.map none∧es=[])∨∃r a clock,X=.map (some r)∧(getObj r).run P w=.ok (.map a clock) w∧dp E es a.toList:=by
 cases x<;>simp only [oM] at he<;>try (cases he;done)
 · simp only [Rel] at ao
   exact .inl ⟨ao,by simpa using he.symm⟩
 · rename_i b
   simp only [Rel] at ao
   obtain ⟨p,ah,rfl⟩:=ao
   have af:=s.at ah
   cases aD:h.get b<;>rw [aD] at he<;>simp only [bV.iT] at he<;>try (cases he;done)
   simp only [Option.some.injEq] at he
   subst he
   rw [aD] at af
   obtain ⟨q,a,U,_,aI,br⟩:=af
   rw [ah] at U;cases U
   exact .inr ⟨p.bd,a,_,rfl,by simp only [getObj,Sem.run,aI];rfl,br⟩
theorem Ik {a_:TypeDesc} {K:Value}:∀{l:List MapEntry} {i:Nat},(∀e ∈ l,Instr.sameNow a_ K e.key=some false)→Instr.findNow a_ K l i=some none
 | [],_,_=>rfl
 | e::es,i,h=>by
   simp only [Instr.findNow,h e (by simp)]
   exact Ik fun cQ dA=>h cQ (by simp [dA])
theorem Il {a_:TypeDesc} {K:Value}:∀{l:List MapEntry} {i:Nat},(∀e ∈ l,∃b,Instr.sameNow a_ K e.key=some b)→(∃e ∈ l,Instr.sameNow a_ K e.key=some true)→
 ∃j,∃e ∈ l,Instr.sameNow a_ K e.key=some true∧Instr.findNow a_ K l i=some (some (j,e.val))
 | [],_,_,h=>by obtain ⟨e,he,_⟩:=h;simp at he
 | e::es,i,U,ad=>by
   obtain ⟨b,af⟩:=U e (by simp)
   cases b with
   | true=>exact ⟨i,e,by simp,af,by simp only [Instr.findNow,af]⟩
   | false=>
     obtain ⟨cQ,dA,aC⟩:=ad
     simp only [List.mem_cons] at dA
     rcases dA with rfl | dA
     · rw [af] at aC;cases aC
     · obtain ⟨j,aM,aj,ay,aK⟩:=Il (i:=i+1) (fun x ao=>U x (by simp [ao])) ⟨cQ,dA,aC⟩
       exact ⟨j,aM,by simp [aj],ay,by simp only [Instr.findNow,af,aK]⟩
theorem Im {E:Env} {a_:TypeDesc} {k:V} {K:Value} (aA:Rel E k K):∀(es:List bX) (l:List MapEntry) (r:Option V),kd (iN a_) k es=some r→iA E es l→
 (∀e ∈ l,∃b,Instr.sameNow a_ K e.key=some b)∧(match r with
  | none=>∀e ∈ l,Instr.sameNow a_ K e.key=some false
  | some v=>(∃e ∈ l,Instr.sameNow a_ K e.key=some true)∧∀e ∈ l,Instr.sameNow a_ K e.key=some true→Rel E v e.val)
 | [],l,r,h,aG=>by
   simp only [iA] at aG
   subst aG
   simp only [kd,Option.some.injEq] at h
   subst h
   exact ⟨fun e he=>by simp at he,fun e he=>by simp at he⟩
 | m::ms,l,r,h,aG=>by
   obtain ⟨e,es,rfl,U,ad,br⟩:=aG
   simp only [kd] at h
   cases ax:kd (iN a_) k ms with
   | none=>rw [ax] at h;cases h
   | some bn=>
     rw [ax] at h
     simp only at h
     obtain ⟨g1,g2⟩:=Im aA ms es bn ax br
     cases aQ:(iN a_).run k m.k with
     | none=>rw [aQ] at h;cases h
     | some b=>
       rw [aQ] at h
       simp only at h
       obtain ⟨aj,_⟩:=Ei aQ aA U
       have C0:∀cQ ∈ e::es,∃b,Instr.sameNow a_ K cQ.key=some b:=by
        intro cQ dA
        rcases List.mem_cons.1 dA with rfl | dA
        · exact ⟨b,aj⟩
        · exact g1 cQ dA
       refine ⟨C0,?_⟩
       cases b with
       | true=>
         simp only [cond_true] at h
         cases bn with
         | some _=>cases h
         | none=>
           simp only [Option.some.injEq] at h
           subst h
           refine ⟨⟨e,by simp,aj⟩,fun cQ dA aC=>?_⟩
           rcases List.mem_cons.1 dA with rfl | dA
           · exact ad
           · have:=g2 cQ dA
             rw [aC] at this;cases this
       | false=>
         simp only [cond_false,Option.some.injEq] at h
         subst h
         cases bn with
         | none=>
           intro cQ dA
           rcases List.mem_cons.1 dA with rfl | dA
           · exact aj
           · exact g2 cQ dA
         | some v=>
           obtain ⟨⟨cC,ed,gL⟩,y3⟩:=g2
           refine ⟨⟨cC,by simp [ed],gL⟩,fun cQ dA aC=>?_⟩
           rcases List.mem_cons.1 dA with rfl | dA
           · rw [aj] at aC;cases aC
           · exact y3 cQ dA aC
theorem Tg {E:Env} {a_:TypeDesc} {k:V} {K:Value} (aA:Rel E k K) {es:List bX} {l a:List MapEntry} {r:Option V} (h:kd (iN a_) k es=some r) (aG:iA E es l) (ah:l.Perm a):
 ∃R,Instr.findNow a_ K a 0=some R∧(match r with
  | none=>R=none
  | some v=>∃j Y,R=some (j,Y)∧Rel E v Y):=by
 obtain ⟨U,ad⟩:=Im aA es l r h aG
 have hm:∀e,e ∈ a↔e ∈ l:=fun e=>ah.mem_iff.symm
 cases r with
 | none=>exact ⟨none,Ik fun e he=>ad e ((hm e).1 he),rfl⟩
 | some v=>
   obtain ⟨⟨cC,ed,gL⟩,y3⟩:=ad
   obtain ⟨j,e,aj,ay,aK⟩:=Il (i:=0) (fun e he=>U e ((hm e).1 he)) ⟨cC,(hm cC).2 ed,gL⟩
   exact ⟨_,aK,j,e.val,rfl,y3 e ((hm e).1 aj) ay⟩
theorem Y8 {e:c6} {z:V} {ok:Bool} {h:ae} {x k v:V} (he:jr e z ok h x k=some v):
 ny e z ok h x k=some v∨∃b es r,x=.map b∧h.get b=.gf es∧kd e k es=some r∧v=(match r with
  | some u=>bif ok then .tuple [u,.bool true] else u
  | none=>bif ok then .tuple [z,.bool false] else z):=by
 unfold jr at he
 cases x<;>simp only at he<;>try (exact .inl he)
 rename_i b
 cases aD:h.get b<;>rw [aD] at he<;>simp only at he<;>try (exact .inl he)
 rename_i es
 cases ax:kd e k es with
 | none=>rw [ax] at he;cases he
 | some r=>
   rw [ax] at he
   refine .inr ⟨b,es,r,rfl,aD,ax,?_⟩
   cases r<;>simp only [Option.some.injEq] at he<;>exact he.symm
theorem Y7 {aw:Fr} {E:Env} {h:ae} {w:World} (s:aW aw E h w) {t:TypeId} {ok:Bool} {x k v:V} {X K:Value} (ao:Rel E x X) (aA:Rel E k K) (he:(zc P t ok).run h x k=some v):
 ∃Z,(Instr.lookup t X K ok).run P w=.ok Z w∧Rel E v Z:=by
 unfold zc at he
 cases aC:aX P t with
 | none=>rw [aC] at he;cases he
 | some aL=>
   rw [aC] at he
   simp only at he
   have hu:=eB aC w
   cases bD:aL.a_<;>rw [bD] at he<;>simp only at he<;>try (cases he;done)
   rename_i b4 h6
   rw [bD] at hu
   cases kT:aX P b4 with
   | none=>rw [kT] at he;cases he
   | some fR=>
     rw [kT] at he
     simp only at he
     cases het:aX P h6 with
     | none=>rw [het] at he;cases he
     | some bc=>
       rw [het] at he
       simp only at he
       cases bq:bc.zero with
       | none=>rw [bq] at he;cases he
       | some z=>
         rw [bq] at he
         simp only at he
         cases ax:kY fR.a_ with
         | false=>
           rw [ax] at he
           simp only [cond_false] at he
           have pC:∃e,uw P w E b4 e K∧ny e z ok h x k=some v:=by
            cases mo:jZ P b4 with
            | true=>
              rw [mo] at he
              exact ⟨_,A5 s mo K,he⟩
            | false=>
              rw [mo] at he
              simp only [cond_false] at he
              cases cf:o3 P b4 with
              | false=>rw [cf] at he;cases he
              | true=>
                rw [cf] at he
                simp only [cond_true] at he
                obtain ⟨aD,he⟩:=dF he
                exact ⟨_,A6 cf aD aA,he⟩
           clear he
           obtain ⟨e,ask,he⟩:=pC
           obtain ⟨qp,kn,jQ,_⟩:=ud (P:=P) het bq E w
           simp only [ny] at he
           cases hm:oM h x with
           | none=>rw [hm] at he;cases he
           | some es=>
             rw [hm] at he
             simp only at he
             cases q7:jF e k es with
             | none=>rw [q7] at he;cases he
             | some r=>
               rw [q7] at he
               simp only at he
               have main:∀(l:List MapEntry),dp E es l→∃R,(Instr.findKey b4 K l).run P w=.ok R w∧
                ((R=none∧Rel E v (if ok=true then .tuple #[qp,.bool false] else qp))∨∃j Y,R=some (j,Y)∧Rel E v (if ok=true then .tuple #[Y,.bool true] else Y)):=by
                intro l ai
                obtain ⟨R,g1,g2⟩:=Ii ask.eq aA es l r 0 q7 ai
                refine ⟨R,ask.find g1,?_⟩
                cases r with
                | none=>
                  simp only at g2 he
                  refine .inl ⟨g2,?_⟩
                  simp only [Option.some.injEq] at he
                  subst he
                  cases ok
                  · exact jQ
                  · simp only [cond_true,if_true,Rel,aY];exact ⟨_,rfl,_,_,rfl,jQ,_,_,rfl,rfl,rfl⟩
                | some u=>
                  simp only at g2 he
                  obtain ⟨j,Y,cl,er⟩:=g2
                  refine .inr ⟨j,Y,cl,?_⟩
                  simp only [Option.some.injEq] at he
                  subst he
                  cases ok
                  · exact er
                  · simp only [cond_true,if_true,Rel,aY];exact ⟨_,rfl,_,_,rfl,er,_,_,rfl,rfl,rfl⟩
               rcases Eu (P:=P) s hm ao with ⟨rfl,rfl⟩ | ⟨bp,a,clock,rfl,dQ,rl⟩
               · obtain ⟨R,g1,g2⟩:=main [] rfl
                 have hU:=ask.check true
                 rcases g2 with ⟨rfl,g3⟩ | ⟨j,Y,rfl,g3⟩
                 all_goals
                  refine ⟨_,?_,g3⟩
                  simp only [Instr.lookup,Sem.run_bind,hu,Result.andThen_ok,Sem.run_pure]
                  have aE:(#[]:Array MapEntry).isEmpty=true:=rfl
                  rw [aE,hU,Result.andThen_ok,g1,Result.andThen_ok]
                  simp only [Sem.run_bind,kn,Result.andThen_ok,Sem.run_pure]
               · obtain ⟨R,g1,g2⟩:=main a.toList rl
                 have hU:=ask.check a.isEmpty
                 rcases g2 with ⟨rfl,g3⟩ | ⟨j,Y,rfl,g3⟩
                 all_goals
                  refine ⟨_,?_,g3⟩
                  simp only [Instr.lookup,Sem.run_bind,hu,Result.andThen_ok,Sem.run_pure,dQ]
                  rw [hU,Result.andThen_ok,g1,Result.andThen_ok]
                  simp only [Sem.run_bind,kn,Result.andThen_ok,Sem.run_pure]
         | true=>
           rw [ax] at he
           simp only [cond_true] at he
           obtain ⟨qp,kn,jQ,_⟩:=ud (P:=P) het bq E w
           have ki:=eB kT w
           rcases Y8 he with he | ⟨b,es,r,rfl,aD,US,rfl⟩
           case inr=>
            simp only [Rel] at ao
            obtain ⟨p,ah,rfl⟩:=ao
            have af:=s.at ah
            rw [aD] at af
            obtain ⟨p',a,c,l,ft,_,a6,VU,VV⟩:=af
            rw [ah] at ft;cases ft
            obtain ⟨R,g1,g2⟩:=Tg aA US VU VV
            have dQ:(getObj p.bd).run P w=.ok (.map a c) w:=by simp only [getObj,Sem.run,a6]
            have hU:=run_checkKey (P:=P) ax ki a.isEmpty K
            have yg:=run_findKey ki g1
            cases r with
            | none=>
              simp only at g2
              subst g2
              refine ⟨if ok=true then .tuple #[qp,.bool false] else qp,?_,?_⟩
              · simp only [Instr.lookup,Sem.run_bind,hu,Result.andThen_ok,Sem.run_pure,dQ]
                rw [hU,Result.andThen_ok,yg,Result.andThen_ok]
                simp only [Sem.run_bind,kn,Result.andThen_ok,Sem.run_pure]
              · cases ok
                · exact jQ
                · simp only [cond_true,if_true,Rel,aY];exact ⟨_,rfl,_,_,rfl,jQ,_,_,rfl,rfl,rfl⟩
            | some u=>
              simp only at g2
              obtain ⟨j,Y,rfl,er⟩:=g2
              refine ⟨if ok=true then .tuple #[Y,.bool true] else Y,?_,?_⟩
              · simp only [Instr.lookup,Sem.run_bind,hu,Result.andThen_ok,Sem.run_pure,dQ]
                rw [hU,Result.andThen_ok,yg,Result.andThen_ok]
                simp only [Sem.run_bind,Sem.run_pure,Result.andThen_ok]
              · cases ok
                · exact er
                · simp only [cond_true,if_true,Rel,aY];exact ⟨_,rfl,_,_,rfl,er,_,_,rfl,rfl,rfl⟩
           simp only [ny] at he
           cases hm:oM h x with
           | none=>rw [hm] at he;cases he
           | some es=>
             rw [hm] at he
             simp only at he
             cases q7:jF (iN fR.a_) k es with
             | none=>rw [q7] at he;cases he
             | some r=>
               rw [q7] at he
               simp only at he
               have main:∀(l:List MapEntry),dp E es l→∃R,(Instr.findKey b4 K l).run P w=.ok R w∧
                ((R=none∧Rel E v (if ok=true then .tuple #[qp,.bool false] else qp))∨∃j Y,R=some (j,Y)∧Rel E v (if ok=true then .tuple #[Y,.bool true] else Y)):=by
                intro l ai
                obtain ⟨R,g1,g2⟩:=Io aA es l r 0 q7 ai
                refine ⟨R,run_findKey ki g1,?_⟩
                cases r with
                | none=>
                  simp only at g2 he
                  refine .inl ⟨g2,?_⟩
                  simp only [Option.some.injEq] at he
                  subst he
                  cases ok
                  · exact jQ
                  · simp only [cond_true,if_true,Rel,aY];exact ⟨_,rfl,_,_,rfl,jQ,_,_,rfl,rfl,rfl⟩
                | some u=>
                  simp only at g2 he
                  obtain ⟨j,Y,cl,er⟩:=g2
                  refine .inr ⟨j,Y,cl,?_⟩
                  simp only [Option.some.injEq] at he
                  subst he
                  cases ok
                  · exact er
                  · simp only [cond_true,if_true,Rel,aY];exact ⟨_,rfl,_,_,rfl,er,_,_,rfl,rfl,rfl⟩
               rcases Eu (P:=P) s hm ao with ⟨rfl,rfl⟩ | ⟨bp,a,clock,rfl,dQ,rl⟩
               · obtain ⟨R,g1,g2⟩:=main [] rfl
                 have hU:=run_checkKey (P:=P) ax ki true K
                 rcases g2 with ⟨rfl,g3⟩ | ⟨j,Y,rfl,g3⟩
                 all_goals
                  refine ⟨_,?_,g3⟩
                  simp only [Instr.lookup,Sem.run_bind,hu,Result.andThen_ok,Sem.run_pure]
                  have aE:(#[]:Array MapEntry).isEmpty=true:=rfl
                  rw [aE,hU,Result.andThen_ok,g1,Result.andThen_ok]
                  simp only [Sem.run_bind,kn,Result.andThen_ok,Sem.run_pure]
               · obtain ⟨R,g1,g2⟩:=main a.toList rl
                 have hU:=run_checkKey (P:=P) ax ki a.isEmpty K
                 rcases g2 with ⟨rfl,g3⟩ | ⟨j,Y,rfl,g3⟩
                 all_goals
                  refine ⟨_,?_,g3⟩
                  simp only [Instr.lookup,Sem.run_bind,hu,Result.andThen_ok,Sem.run_pure,dQ]
                  rw [hU,Result.andThen_ok,g1,Result.andThen_ok]
                  simp only [Sem.run_bind,kn,Result.andThen_ok,Sem.run_pure]
theorem MW {aw:Fr} {E:Env} {h aa:ae} {w:World} (s:aW aw E h w) {t:TypeId} {x k v:V} {X K Y:Value} (ao:Rel E x X) (aA:Rel E k K) (bx:Rel E v Y) (he:(lU P t).run h x k v=some aa):
 ∃al,(Instr.mapUpdate t X K Y).run P w=.ok () al∧aW aw E aa al:=by
 unfold lU at he
 cases aC:aX P t with
 | none=>rw [aC] at he;cases he
 | some aL=>
   rw [aC] at he
   simp only at he
   have hu:=eB aC w
   cases bD:aL.a_<;>rw [bD] at he<;>simp only at he<;>try (cases he;done)
   rename_i b4 h6
   rw [bD] at hu
   cases kT:aX P b4 with
   | none=>rw [kT] at he;cases he
   | some fR=>
     rw [kT] at he
     simp only at he
     cases ax:kY fR.a_ with
     | false=>
       rw [ax] at he
       simp only [cond_false] at he
       have pC:∃e,uw P w E b4 e K∧nI e h x k v=some aa:=by
        cases mo:jZ P b4 with
        | true=>
          rw [mo] at he
          exact ⟨_,A5 s mo K,he⟩
        | false=>
          rw [mo] at he
          simp only [cond_false] at he
          cases cf:o3 P b4 with
          | false=>rw [cf] at he;cases he
          | true=>
            rw [cf] at he
            simp only [cond_true] at he
            obtain ⟨aD,he⟩:=dF he
            exact ⟨_,A6 cf aD aA,he⟩
       clear he
       obtain ⟨e,ask,he⟩:=pC
       cases x<;>simp only [nI] at he<;>try (cases he;done)
       rename_i b
       simp only [Rel] at ao
       obtain ⟨p,ah,rfl⟩:=ao
       have af:=s.at ah
       cases aD:h.get b<;>rw [aD] at he<;>simp only [bV.iT] at he<;>try (cases he;done)
       rename_i es clock
       rw [aD] at af
       obtain ⟨q,a,U,cI,aI,br⟩:=af
       rw [ah] at U;cases U
       cases rq:kB e k v clock es with
       | none=>rw [rq] at he;cases he
       | some r=>
         rw [rq] at he
         simp only [Option.some.injEq] at he
         subst he
         have dQ:(getObj p.bd).run P w=.ok (.map a clock) w:=by simp only [getObj,Sem.run,aI]
         have hU:=ask.check false
         have jf:=(Array.getElem?_eq_some_iff.1 aI).1
         have u9:∀(bf:Array MapEntry) (fz:Nat),dp E r.1 bf.toList→fz=(bif r.2 then clock+1 else clock)→
          ∃al,(setObj p.bd (.map bf fz)).run P w=.ok () al∧aW aw E (h.set b (.mp r.1 (bif r.2 then clock+1 else clock))) al:=by
          intro bf fz hm ar
          refine ⟨{w with heap:=w.heap.setIfInBounds p.bd (.map bf fz)},by simp only [setObj,Sem.run,aI],s.set (p:=p) (by rw [aD];rfl) ah cI (by simp) (fun j bH=>?_) rfl rfl rfl (fun _ _ _ e=>by cases e) ?_⟩
          · simp only [Array.getElem?_setIfInBounds]
            rw [if_neg (fun e=>bH e.symm)]
          · exact ⟨p,bf,ah,cI,by simp [jf,ar],hm⟩
         obtain ⟨g1,g2⟩:=LL ask.eq aA bx clock es a.toList r 0 rq br
         cases jh:r.2 with
         | true=>
           obtain ⟨bK,a2⟩:=g1 jh
           obtain ⟨al,d1,d2⟩:=u9 (a.push ⟨K,Y,clock⟩) (clock+1) (by simpa using a2) (by rw [jh];rfl)
           rw [jh] at d2
           refine ⟨al,?_,d2⟩
           simp only [Instr.mapUpdate,Sem.run_bind,hu,Result.andThen_ok,dQ,hU,ask.find bK,d1]
         | false=>
           obtain ⟨j,dq,NO,bK,a2,a3,a4⟩:=g2 jh
           obtain ⟨al,d1,d2⟩:=u9 (a.modify j fun dq=>{dq with key:=K,val:=Y}) clock (by simpa using a4) (by rw [jh];rfl)
           rw [jh] at d2
           refine ⟨al,?_,d2⟩
           rw [Nat.zero_add] at bK
           have aE:a[j]? =some dq:=by simpa using a2
           simp only [Instr.mapUpdate,Sem.run_bind,hu,Result.andThen_ok,dQ,hU,ask.find bK,aE,Option.map,Option.getD,Instr.keyThatStays,a3,if_true,Sem.run_pure,d1]
     | true=>
       rw [ax] at he
       simp only [cond_true] at he
       have ki:=eB kT w
       cases x<;>simp only [nI] at he<;>try (cases he;done)
       rename_i b
       simp only [Rel] at ao
       obtain ⟨p,ah,rfl⟩:=ao
       have af:=s.at ah
       cases aD:h.get b<;>rw [aD] at he<;>simp only [bV.iT] at he<;>try (cases he;done)
       rename_i es clock
       rw [aD] at af
       obtain ⟨q,a,U,cI,aI,br⟩:=af
       rw [ah] at U;cases U
       cases rq:kB (iN fR.a_) k v clock es with
       | none=>rw [rq] at he;cases he
       | some r=>
         rw [rq] at he
         simp only [Option.some.injEq] at he
         subst he
         have dQ:(getObj p.bd).run P w=.ok (.map a clock) w:=by simp only [getObj,Sem.run,aI]
         have hU:=run_checkKey (P:=P) ax ki false K
         have jf:=(Array.getElem?_eq_some_iff.1 aI).1
         have done:∀(bf:Array MapEntry) (fz:Nat),dp E r.1 bf.toList→fz=(bif r.2 then clock+1 else clock)→
          ∃al,(setObj p.bd (.map bf fz)).run P w=.ok () al∧aW aw E (h.set b (.mp r.1 (bif r.2 then clock+1 else clock))) al:=by
          intro bf fz hm ar
          refine ⟨{w with heap:=w.heap.setIfInBounds p.bd (.map bf fz)},by simp only [setObj,Sem.run,aI],s.set (p:=p) (by rw [aD];rfl) ah cI (by simp) (fun j bH=>?_) rfl rfl rfl (fun _ _ _ e=>by cases e) ?_⟩
          · simp only [Array.getElem?_setIfInBounds]
            rw [if_neg (fun e=>bH e.symm)]
          · exact ⟨p,bf,ah,cI,by simp [jf,ar],hm⟩
         obtain ⟨g1,g2⟩:=LP aA bx clock es a.toList r 0 rq br
         cases jh:r.2 with
         | true=>
           obtain ⟨bK,a2⟩:=g1 jh
           obtain ⟨al,d1,d2⟩:=done (a.push ⟨K,Y,clock⟩) (clock+1) (by simpa using a2) (by rw [jh];rfl)
           rw [jh] at d2
           refine ⟨al,?_,d2⟩
           simp only [Instr.mapUpdate,Sem.run_bind,hu,Result.andThen_ok,dQ,hU,run_findKey ki bK,d1]
         | false=>
           obtain ⟨j,e,NO,bK,a2,a3,a4⟩:=g2 jh
           obtain ⟨al,d1,d2⟩:=done (a.modify j fun e=>{e with key:=K,val:=Y}) clock (by simpa using a4) (by rw [jh];rfl)
           rw [jh] at d2
           refine ⟨al,?_,d2⟩
           rw [Nat.zero_add] at bK
           have aE:a[j]? =some e:=by simpa using a2
           simp only [Instr.mapUpdate,Sem.run_bind,hu,Result.andThen_ok,dQ,hU,run_findKey ki bK,aE,Option.map,Option.getD,Instr.keyThatStays,a3,if_true,Sem.run_pure,d1]
theorem KX {aw:Fr} {E:Env} {h aa:ae} {w:World} (s:aW aw E h w) {v:V} (he:tL h=.val v aa):cE aw P E w (do pure (.map (some (←newObj (.map #[] 0))))) v aa:=by
 unfold tL at he
 simp only [aT.val.injEq] at he
 obtain ⟨rfl,rfl⟩:=he
 have cV:=s.fresh h.next (Nat.le_refl _)
 have di:E.put (aH h.next) ⟨w.heap.size,0,0⟩ (aH h.next)=some ⟨w.heap.size,0,0⟩:=by unfold Env.put;rw [if_pos rfl]
 refine ⟨.map (some w.heap.size),{w with heap:=w.heap.push (.map #[] 0)},_,?_,Env.jq (p:=⟨w.heap.size,0,0⟩) cV,?_,s.alloc 0 ?_⟩
 · simp only [Sem.run_bind,run_newObj,Result.andThen_ok,Sem.run_pure]
 · simp only [Rel];exact ⟨_,di,rfl⟩
 · exact ⟨_,#[],di,s.frame.size,by simp,rfl⟩
theorem Zb {aw:Fr} {E:Env} {h aa:ae} {w:World} (s:aW aw E h w) {t:TypeId} {x:Option V} {X:Option Value} {v:V} (ao:gg E x X) (he:tF P t x h=.val v aa):cE aw P E w (Instr.makeMap t X) v aa:=by
 unfold tF at he
 cases aC:aX P t with
 | none=>rw [aC] at he;cases he
 | some aL=>
   rw [aC] at he
   simp only at he
   have hu:=eB aC
   cases af:Nat.beq (dW aL.a_) 3 with
   | false=>rw [af] at he;cases he
   | true=>
     rw [af] at he
     simp only [cond_true] at he
     cases x with
     | none=>
       have:X=none:=by cases X with | none=>rfl | some _=>simp [gg] at ao
       subst this
       simp only [rM] at he
       have:=KX (P:=P) s he
       exact this
     | some u=>
       simp only [rM] at he
       obtain ⟨cD,n,rfl,U⟩:=wv he
       obtain ⟨Y,rfl,er⟩:∃Y,X=some Y∧Rel E (.int cD n) Y:=by
        cases X with
        | none=>simp [gg] at ao
        | some Y=>simp only [gg] at ao;obtain ⟨ado,U,ad⟩:=ao;cases U;exact ⟨_,rfl,ad⟩
       have:=er.hq;subst this
       obtain ⟨Z,al,av,aj,ay⟩:=KX (P:=P) s U
       refine ⟨Z,al,av,?_,ay⟩
       cases bD:aL.a_<;>rw [bD] at af<;>simp [dW] at af
       have hu:=hu w
       rw [bD] at hu
       simp only [Instr.makeMap,Sem.run_bind,hu,Result.andThen_ok,asInt,Sem.run_pure]
       exact aj
theorem YO {aw:Fr} {E:Env} {h aa:ae} {w:World} (s:aW aw E h w) {t:TypeId} {aL:kL} (aC:aX P t=some aL) (hm:pS aL.a_=true) {x v:V} {X:Value} (ao:Rel E x X) (ty:TypeId) (rest:List TypeId)
 (he:v' [x] h=.val v aa):cE aw P E w (Builtin.len_ (t::rest).toArray ty #[X]) v aa:=by
 simp only [v'] at he
 cases aQ:oM h x with
 | none=>rw [aQ] at he;cases he
 | some es=>
   rw [aQ] at he
   simp only [aT.val.injEq] at he
   obtain ⟨rfl,rfl⟩:=he
   have hu:=eB aC w
   cases bD:aL.a_<;>rw [bD] at hm<;>simp [pS] at hm
   rw [bD] at hu
   rcases Eu (P:=P) s aQ ao with ⟨rfl,rfl⟩ | ⟨bp,a,clock,rfl,dQ,rl⟩
   · refine cE.plain (Z:=goInt 0) s ?_ (by simp [Rel,goInt])
     simp [Builtin.len_,hu]
   · have hlen:∀(ms:List bX) (l:List MapEntry),dp E ms l→l.length=ms.length:=by
      intro ms
      induction ms with
      | nil=>intro l h;simp only [dp] at h;subst h;rfl
      | cons m ms bh=>intro l h;obtain ⟨e,es,rfl,_,_,_,br⟩:=h;simp [bh _ br]
     refine cE.plain (Z:=goInt a.size) s ?_ ?_
     · simp [Builtin.len_,hu,dQ]
     · have:=hlen _ _ rl
       simp only [Array.length_toList] at this
       simp [Rel,goInt,this]
end
end Go.Proofs.YtkehcalakofigaaGreatDoor.a1
namespace Go.Proofs.YtkehcalakofigaaGreatDoor.a1
variable [Lay]
open Go Go.RowKit
section
variable {P:Program}
theorem Ih {E:Env} {v:V} {Y:Value} (bx:Rel E v Y) {n:Nat}:∀(es:List bX) (l:List MapEntry) (r:List bX),sS n v es=some r→dp E es l→
 ∃j,l.findIdx? (fun e=>(e.born:Int) == (n:Int))=some j∧dp E r (l.modify j fun e=>{e with val:=Y})
 | [],l,r,h,aG=>by cases h
 | m::ms,l,r,h,aG=>by
   obtain ⟨e,es,rfl,U,ad,aI,br⟩:=aG
   simp only [sS] at h
   cases af:Nat.beq m.born n with
   | true=>
     rw [af] at h
     simp only [cond_true,Option.some.injEq] at h
     subst h
     have a7:=Nat.eq_of_beq_eq_true af
     refine ⟨0,by simp [List.findIdx?_cons,aI,a7],?_⟩
     exact ⟨_,es,rfl,U,bx,aI,br⟩
   | false=>
     rw [af] at h
     simp only [cond_false] at h
     cases ax:sS n v ms with
     | none=>rw [ax] at h;cases h
     | some bn=>
       rw [ax] at h
       simp only [Option.some.injEq] at h
       subst h
       obtain ⟨j,g1,g2⟩:=Ih bx ms es bn ax br
       have c8:¬((e.born:Int) == (n:Int))=true:=by
        rw [aI]
        intro aF
        have tj:(m.born:Int)=(n:Int):=by simpa using aF
        have Vy:m.born=n:=by omega
        rw [Vy,Nat.beq_refl] at af
        cases af
       refine ⟨j+1,by simp only [List.findIdx?_cons,c8];simp [g1],⟨e,_,by simp [List.modify],U,ad,aI,g2⟩⟩
theorem SP {aw:Fr} {E:Env} {h aa:ae} {w:World} (s:aW aw E h w) {t:TypeId} {x st v:V} {X S Y:Value} (ao:Rel E x X) (cf:Rel E st S) (bx:Rel E v Y) (he:x1 h x st v=some aa):
 ∃al,(Instr.entryStore t X S Y).run P w=.ok () al∧aW aw E aa al:=by
 unfold x1 at he
 split at he
 case h_2=>cases he
 rename_i b
 split at he
 case h_2=>cases he
 rename_i cD m
 split at he
 case h_2=>cases he
 rename_i n
 simp only [Rel] at ao cf
 obtain ⟨p,ah,rfl⟩:=ao
 subst cf
 have af:=s.at ah
 cases aD:h.get b<;>rw [aD] at he<;>simp only [bV.iT] at he<;>try (cases he;done)
 rename_i es clock
 rw [aD] at af
 obtain ⟨q,a,U,cI,aI,br⟩:=af
 rw [ah] at U;cases U
 cases ax:sS n v es with
 | none=>rw [ax] at he;cases he
 | some r=>
   rw [ax] at he
   simp only [Option.some.injEq] at he
   subst he
   obtain ⟨j,g1,g2⟩:=Ih bx es a.toList r ax br
   have dQ:(getObj p.bd).run P w=.ok (.map a clock) w:=by simp only [getObj,Sem.run,aI]
   have jf:=(Array.getElem?_eq_some_iff.1 aI).1
   have yg:a.findIdx? (fun e=>(e.born:Int) == (n:Int))=some j:=by
    rw [←g1]
    cases a with | mk ad2=>simp
   have bm:(asInt (.int cD (Int.ofNat n))).run P w=.ok (n:Int) w:=by simp [asInt,asIntOf]
   refine ⟨{w with heap:=w.heap.setIfInBounds p.bd (.map (a.modify j fun e=>{e with val:=Y}) clock)},?_,s.set (p:=p) (by rw [aD];rfl) ah cI (by simp) (fun j bH=>?_) rfl rfl rfl (fun _ _ _ e=>by cases e) ?_⟩
   · simp only [Instr.entryStore,Sem.run_bind,dQ,Result.andThen_ok,bm,yg,setObj,Sem.run,aI]
   · simp only [Array.getElem?_setIfInBounds]
     rw [if_neg (fun e=>bH e.symm)]
   · exact ⟨p,a.modify j fun e=>{e with val:=Y},ah,cI,by simp [jf],by rw [Array.toList_modify];exact g2⟩
theorem Ij {w:World} {E:Env} {b4:TypeId} {e:c6} (jG:sq P w E b4 e) {k:V} {K:Value} (aA:Rel E k K):∀(es:List bX) (l:List MapEntry) (r:Option bX) (i:Nat),sT e k es=some r→dp E es l→
 (r=none→(Instr.findAsking b4 K l i).run P w=.ok none w)∧
 (∀m,r=some m→∃j dq,(Instr.findAsking b4 K l i).run P w=.ok (some (i+j,dq.val)) w∧l[j]? =some dq∧dq.key=K∧Rel E m.v dq.val∧dq.born=m.born∧Instr.sameBits 10000 K K=true∧dp E es (l.modify j fun dq=>{dq with key:=K}))
 | [],l,r,i,h,aG=>by
   simp only [dp] at aG
   subst aG
   simp only [sT,Option.some.injEq] at h
   subst h
   exact ⟨fun _=>rfl,fun m hm=>by cases hm⟩
 | m::ms,l,r,i,h,aG=>by
   obtain ⟨dq,es,rfl,U,ad,aI,br⟩:=aG
   simp only [sT] at h
   cases aQ:e.run k m.k with
   | none=>rw [aQ] at h;cases h
   | some b=>
     rw [aQ] at h
     simp only at h
     obtain ⟨aj,ay⟩:=jG _ _ _ _ _ aQ aA U
     cases b with
     | true=>
       simp only [cond_true,Option.some.injEq] at h
       subst h
       obtain ⟨aK,bE⟩:=ay rfl
       refine ⟨fun h=>(by cases h),fun cK hm=>?_⟩
       cases hm
       exact ⟨0,dq,by simp [Instr.findAsking,aj],rfl,aK,ad,aI,bE,⟨_,es,rfl,by rw [←aK];exact U,ad,aI,br⟩⟩
     | false=>
       simp only [cond_false] at h
       obtain ⟨g1,g2⟩:=Ij jG aA ms es r (i+1) h br
       refine ⟨fun h=>by simp [Instr.findAsking,aj,g1 h],fun cK hm=>?_⟩
       obtain ⟨j,SO,bK,a2,a3,a4,a5,hB,AZ⟩:=g2 cK hm
       exact ⟨j+1,SO,by simp [Instr.findAsking,aj,bK];omega,by simpa using a2,a3,a4,a5,hB,⟨dq,_,rfl,U,ad,aI,AZ⟩⟩
theorem KM {aw:Fr} {E:Env} {h aa:ae} {w:World} (s:aW aw E h w) {t b4 h6:TypeId} (hu:(underlying t).run P w=.ok (.map b4 h6) w) {e:c6} {z:V} {Z:Value} (bq:(zeroValue h6).run P w=.ok Z w) (jQ:Rel E z Z)
 {x k v:V} {X K:Value} (ao:Rel E x X) (aA:Rel E k K) (ask:uw P w E b4 e K) (he:tH e z h x k=some (v,aa)):cE aw P E w (Instr.mapEntry t X K) v aa:=by
 unfold tH at he
 split at he
 case h_2=>cases he
 rename_i b
 simp only [Rel] at ao
 obtain ⟨p,ah,rfl⟩:=ao
 have af:=s.at ah
 cases aD:h.get b<;>rw [aD] at he<;>simp only [bV.iT] at he<;>try (cases he;done)
 rename_i es clock
 rw [aD] at af
 obtain ⟨q,a,U,cI,aI,br⟩:=af
 rw [ah] at U;cases U
 have dQ:(getObj p.bd).run P w=.ok (.map a clock) w:=by simp only [getObj,Sem.run,aI]
 have hU:=ask.check false
 have jf:=(Array.getElem?_eq_some_iff.1 aI).1
 have u9:∀(l7:List bX) (bf:Array MapEntry) (fz:Nat),dp E l7 bf.toList→
  ∃al,(setObj p.bd (.map bf fz)).run P w=.ok () al∧aW aw E (h.set b (.mp l7 fz)) al:=by
  intro l7 bf fz hm
  refine ⟨{w with heap:=w.heap.setIfInBounds p.bd (.map bf fz)},by simp only [setObj,Sem.run,aI],s.set (p:=p) (by rw [aD];rfl) ah cI (by simp) (fun j bH=>?_) rfl rfl rfl (fun _ _ _ e=>by cases e) ?_⟩
  · simp only [Array.getElem?_setIfInBounds]
    rw [if_neg (fun e=>bH e.symm)]
  · exact ⟨p,bf,ah,cI,by simp [jf],hm⟩
 cases ax:sT e k es with
 | none=>rw [ax] at he;cases he
 | some r=>
   rw [ax] at he
   simp only at he
   obtain ⟨g1,g2⟩:=Ij ask.eq aA es a.toList r 0 ax br
   cases r with
   | none=>
     simp only [Option.some.injEq,Prod.mk.injEq] at he
     obtain ⟨rfl,rfl⟩:=he
     have bK:=ask.find (g1 rfl)
     obtain ⟨al,d1,d2⟩:=u9 (es++[⟨k,z,clock⟩]) (a.push ⟨K,Z,clock⟩) (clock+1) (by
      have:∀(es:List bX) (l:List MapEntry),dp E es l→dp E (es++[⟨k,z,clock⟩]) (l++[⟨K,Z,clock⟩]):=by
       intro es
       induction es with
       | nil=>intro l ai;simp only [dp] at ai;subst ai;exact ⟨_,_,rfl,aA,jQ,rfl,rfl⟩
       | cons m ms bh=>intro l ai;obtain ⟨dq,l7,rfl,bL,ca,hS,j8⟩:=ai;exact ⟨dq,_,rfl,bL,ca,hS,bh _ j8⟩
      simpa using this es a.toList br)
     refine ⟨.tuple #[Z,goInt clock],al,E,?_,Env.le.refl E,?_,d2⟩
     · simp only [Instr.mapEntry,Sem.run_bind,hu,Result.andThen_ok,dQ,hU,bK,bq,d1,Sem.run_pure]
     · simp only [Rel,aY];exact ⟨_,rfl,_,_,rfl,jQ,_,_,rfl,rfl,rfl⟩
   | some m=>
     simp only [Option.some.injEq,Prod.mk.injEq] at he
     obtain ⟨rfl,rfl⟩:=he
     obtain ⟨j,dq,bK,a2,a3,a4,a5,hB,AZ⟩:=g2 m rfl
     rw [Nat.zero_add] at bK
     have bL:=ask.find bK
     have aE:a[j]? =some dq:=by simpa using a2
     obtain ⟨al,d1,d2⟩:=u9 es (a.modify j fun dq=>{dq with key:=K}) clock (by rw [Array.toList_modify];exact AZ)
     refine ⟨.tuple #[dq.val,goInt dq.born],al,E,?_,Env.le.refl E,?_,d2⟩
     · simp only [Instr.mapEntry,Sem.run_bind,hu,Result.andThen_ok,dQ,hU,bL,aE,Option.map,Option.getD,a3,Instr.keyThatStays,hB,if_true,Sem.run_pure,d1]
     · simp only [Rel,aY];exact ⟨_,rfl,_,_,rfl,a4,_,_,rfl,by rw [a5];rfl,rfl⟩
theorem Ze {aw:Fr} {E:Env} {h aa:ae} {w:World} (s:aW aw E h w) {t:TypeId} {x k v:V} {X K:Value} (ao:Rel E x X) (aA:Rel E k K) (he:(Et P t).run x k h=.val v aa):cE aw P E w (Instr.mapEntry t X K) v aa:=by
 unfold Et at he
 cases aC:aX P t with
 | none=>rw [aC] at he;cases he
 | some aL=>
   rw [aC] at he
   simp only at he
   have hu:=eB aC w
   cases bD:aL.a_<;>rw [bD] at he<;>simp only at he<;>try (cases he;done)
   rename_i b4 h6
   rw [bD] at hu
   cases het:aX P h6 with
   | none=>rw [het] at he;cases he
   | some bc=>
     rw [het] at he
     simp only at he
     cases bq:bc.zero with
     | none=>rw [bq] at he;cases he
     | some z=>
       rw [bq] at he
       simp only at he
       obtain ⟨qp,kn,jQ,_⟩:=ud (P:=P) het bq E w
       cases mo:jZ P b4 with
       | true=>
         rw [mo] at he
         simp only [cond_true,H4] at he
         cases hm:tH ⟨lP h⟩ z h x k with
         | none=>rw [hm] at he;cases he
         | some r=>
           rw [hm] at he
           simp only [aT.val.injEq] at he
           obtain ⟨rfl,rfl⟩:=he
           exact KM s hu kn jQ ao aA (A5 s mo K) hm
       | false=>
         rw [mo] at he
         simp only [cond_false] at he
         cases cf:o3 P b4 with
         | false=>rw [cf] at he;cases he
         | true=>
           rw [cf] at he
           simp only [cond_true,H5] at he
           cases aD:rH P b4 k with
           | false=>rw [aD] at he;cases he
           | true=>
             rw [aD] at he
             simp only [cond_true] at he
             cases hm:tH (structEq P b4) z h x k with
             | none=>rw [hm] at he;cases he
             | some r=>
               rw [hm] at he
               simp only [aT.val.injEq] at he
               obtain ⟨rfl,rfl⟩:=he
               exact KM s hu kn jQ ao aA (A6 cf aD aA) hm
end
end Go.Proofs.YtkehcalakofigaaGreatDoor.a1
namespace Go.Proofs.YtkehcalakofigaaGreatDoor.a1
variable [Lay]
open Go Go.RowKit
section
variable {P:Program}
theorem IX (n:Nat):∀(l:List Nat),pB l n=true↔n ∈ l
 | []=>by simp [pB]
 | x::xs=>by
   simp only [pB]
   cases af:Nat.beq x n with
   | true=>have:=Nat.eq_of_beq_eq_true af;subst this;simp
   | false=>
     have c8:x≠n:=fun e=>by subst e;rw [Nat.beq_refl] at af;cases af
     simp [IX n xs,Ne.symm c8]
theorem Up {a:Array Nat} {seen:List Nat} (h:a.toList=seen.reverse) (n:Nat):a.contains n=pB seen n:=by
 rw [Bool.eq_iff_iff,IX,Array.contains_iff_mem,←Array.mem_toList_iff,h,List.mem_reverse]
theorem Kx {E:Env} {a:Array Nat} {seen:List Nat} (h:a.toList=seen.reverse):∀(ms:List bX) (l:List MapEntry),dp E ms l→dp E (leftOf seen ms) (l.filter fun e=>!a.contains e.born)
 | [],l,aG=>by simp only [dp] at aG;subst aG;rfl
 | m::ms,l,aG=>by
   obtain ⟨e,es,rfl,U,ad,aI,br⟩:=aG
   have bh:=Kx h ms es br
   have aF:a.contains e.born=pB seen m.born:=by rw [Up h,aI]
   cases af:pB seen m.born with
   | true=>
     rw [af] at aF
     rw [List.filter_cons_of_neg (by rw [aF];decide)]
     simp only [leftOf,af,cond_true]
     exact bh
   | false=>
     rw [af] at aF
     rw [List.filter_cons_of_pos (by rw [aF];decide)]
     simp only [leftOf,af,cond_false]
     exact ⟨e,_,rfl,U,ad,aI,bh⟩
theorem Gw {E:Env} {last:Nat}:∀(ms:List bX) (l:List MapEntry),dp E ms l→l.all (fun e=>decide (e.born≥last))=sv last ms
 | [],l,aG=>by simp only [dp] at aG;subst aG;rfl
 | m::ms,l,aG=>by
   obtain ⟨e,es,rfl,U,ad,aI,br⟩:=aG
   simp only [sv,List.all_cons,Gw ms es br,aI]
   cases af:Nat.ble last m.born with
   | true=>rw [Nat.ble_eq] at af;simp [af]
   | false=>
     have:¬last≤m.born:=by rw [←Nat.ble_eq,af];simp
     simp [this]
theorem GW {E:Env} {n:Nat}:∀(ms:List bX) (l:List MapEntry) (m:bX),dp E ms l→uX n ms=some m→∃e,l.find? (fun e=>e.born == n)=some e∧Rel E m.k e.key∧Rel E m.v e.val
 | [],l,m,aG,h=>by cases h
 | x::xs,l,m,aG,h=>by
   obtain ⟨e,es,rfl,U,ad,aI,br⟩:=aG
   simp only [uX] at h
   cases af:Nat.beq x.born n with
   | true=>
     rw [af] at h
     simp only [cond_true,Option.some.injEq] at h
     subst h
     have:=Nat.eq_of_beq_eq_true af
     exact ⟨e,by simp [List.find?_cons,aI,this],U,ad⟩
   | false=>
     rw [af] at h
     simp only [cond_false] at h
     obtain ⟨cQ,g1,g2⟩:=GW xs es m br h
     have c8:x.born≠n:=fun e=>by rw [e,Nat.beq_refl] at af;cases af
     exact ⟨cQ,by simp [List.find?_cons,aI,c8,g1],g2⟩
theorem ET {k:bV} {f:List bX→Nat→aT} {v:V} {aa:ae} (h:k.iT .fail f=.val v aa):∃es clock,k=.mp es clock∧f es clock=.val v aa:=by
 cases k<;>simp only [bV.iT] at h<;>first
  | (cases h;done)
  | exact ⟨_,_,rfl,h⟩
theorem Ld {v:V} {f:aO→Nat→aT} {r:V} {aa:ae} (h:v.ht .fail f=.val r aa):∃b off,v=.ptr b off∧f b off=.val r aa:=by
 cases v<;>simp only [V.ht] at h<;>first
  | (cases h;done)
  | exact ⟨_,_,rfl,h⟩
theorem aaS {aw:Fr} {E:Env} {h aa:ae} {w:World} (s:aW aw E h w) {t b4 h6:TypeId} (hu:(underlying t).run P w=.ok (.map b4 h6) w) {x v:V} {X:Value} (ao:Rel E x X) (he:rangeMap x h=.val v aa):cE aw P E w (Instr.range t X) v aa:=by
 have cV:=s.fresh h.next (Nat.le_refl _)
 have di:E.put (aH h.next) ⟨w.heap.size,0,0⟩ (aH h.next)=some ⟨w.heap.size,0,0⟩:=by unfold Env.put;rw [if_pos rfl]
 unfold rangeMap at he
 split at he
 · simp only [aT.val.injEq] at he
   obtain ⟨rfl,rfl⟩:=he
   simp only [Rel] at ao
   subst ao
   refine ⟨.pointer (some ⟨w.heap.size,0,none⟩),{w with heap:=w.heap.push (.mapIter none 0 #[] 0)},_,?_,Env.jq (p:=⟨w.heap.size,0,0⟩) cV,?_,s.alloc 0 ?_⟩
   · simp only [Instr.range,Sem.run_bind,hu,Result.andThen_ok,Sem.run_pure,run_newObj]
   · simp only [Rel];exact ⟨_,di,by simp⟩
   · exact ⟨_,none,#[],di,s.frame.size,rfl,by simp,rfl,rfl⟩
 · rename_i c
   obtain ⟨es,clock,aD,he⟩:=ET he
   simp only [aT.val.injEq] at he
   obtain ⟨rfl,rfl⟩:=he
   simp only [Rel] at ao
   obtain ⟨p,ah,rfl⟩:=ao
   have af:=s.at ah
   rw [aD] at af
   obtain ⟨q,a,U,cI,aI,br⟩:=af
   rw [ah] at U;cases U
   have dQ:(getObj p.bd).run P w=.ok (.map a clock) w:=by simp only [getObj,Sem.run,aI]
   have hle:E.le (E.put (aH h.next) ⟨w.heap.size,0,0⟩):=Env.jq cV
   refine ⟨.pointer (some ⟨w.heap.size,0,none⟩),{w with heap:=w.heap.push (.mapIter (some p.bd) clock #[] clock)},_,?_,hle,?_,s.alloc 0 ?_⟩
   · simp only [Instr.range,Sem.run_bind,hu,Result.andThen_ok,Sem.run_pure,dQ,run_newObj]
   · simp only [Rel];exact ⟨_,di,by simp⟩
   · exact ⟨_,some p.bd,#[],di,s.frame.size,rfl,by simp,rfl,p,hle _ _ ah,rfl⟩
 · cases he
theorem Zt {aw:Fr} {E:Env} {h aa:ae} {w:World} (s:aW aw E h w) {x v:V} {X:Value} {ty:TypeId} (ao:Rel E x X) (he:fw x h=.val v aa):cE aw P E w (Instr.next X false ty) v aa:=by
 unfold fw at he
 obtain ⟨b,off,rfl,U⟩:=Ld he
 clear he
 have af:=s.at (p:=_) (by simp only [Rel] at ao;exact ao.choose_spec.1)
 cases aD:h.get b<;>rw [aD] at U<;>simp only at U<;>try (cases U;done)
 rename_i src since seen last
 rw [aD] at af
 cases bb:Nat.beq off 0 with
 | false=>rw [bb] at U;cases U
 | true=>
 rw [bb] at U
 simp only [cond_true] at U
 have bb:=Nat.eq_of_beq_eq_true bb
 subst bb
 obtain ⟨p,m,a,ah,cI,kQ,a6,bm,hH⟩:=af
 simp only [Rel] at ao
 obtain ⟨q,aF,rfl⟩:=ao
 rw [ah] at aF;cases aF
 have dQ:(getObj p.bd).run P w=.ok (.mapIter m since a last) w:=by simp only [getObj,Sem.run,a6]
 have over:Rel E (.tuple [.bool false]) (.tuple #[.bool false]):=by simp only [Rel,aY];exact ⟨_,rfl,_,_,rfl,rfl,rfl⟩
 cases src with
 | none=>
   simp only [qD] at hH
   subst hH
   simp only [aT.val.injEq] at U
   obtain ⟨rfl,rfl⟩:=U
   refine cE.plain (Z:=.tuple #[.bool false]) s ?_ over
   simp only [Instr.next,kQ,Sem.run_bind,dQ,Result.andThen_ok,Sem.run_pure]
 | some c=>
   simp only [qD] at hH
   obtain ⟨tV,mn,rfl⟩:=hH
   simp only at U
   obtain ⟨es,clock,Dd,U⟩:=ET U
   have pD:=s.at mn
   rw [Dd] at pD
   obtain ⟨q,ku,g1,_,g3,g4⟩:=pD
   rw [mn] at g1;cases g1
   have yz:(getObj tV.bd).run P w=.ok (.map ku clock) w:=by simp only [getObj,Sem.run,g3]
   cases ar:(!seen.isEmpty&&(!es.isEmpty&&sv last es)) with
   | true=>rw [ar] at U;cases U
   | false=>
     rw [ar] at U
     simp only [cond_false] at U
     have aE:a.isEmpty=seen.isEmpty:=by
      have:a.toList.isEmpty=seen.reverse.isEmpty:=by rw [bm]
      simpa using this
     have aM:ku.isEmpty=es.isEmpty:=by
      cases es with
      | nil=>simp only [dp] at g4;have:ku=#[]:=Array.toList_inj.1 g4
             simp [this]
      | cons y b2=>obtain ⟨e,l,ai,_⟩:=g4;have:ku.toList.isEmpty=false:=by rw [ai];rfl
                   simpa using this
     have b9:ku.all (fun e=>decide (e.born≥last))=sv last es:=by rw [←Gw es _ g4,Array.all_toList]
     have I3:(!a.isEmpty&&!ku.isEmpty&&ku.all (fun e=>decide (e.born≥last)))=false:=by rw [aE,aM,b9,Bool.and_assoc];exact ar
     have vs:=Kx (E:=E) bm es _ g4
     have I9:(ku.filter fun e=>!a.contains e.born).toList=ku.toList.filter fun e=>!a.contains e.born:=by simp
     cases ai:leftOf seen es with
     | nil=>
       rw [ai] at U vs
       simp only [EH,aT.val.injEq] at U
       obtain ⟨rfl,rfl⟩:=U
       simp only [dp] at vs
       have pz:(ku.filter fun e=>!a.contains e.born)=#[]:=by
        apply Array.toList_inj.1;rw [I9,vs]
       refine cE.plain (Z:=.tuple #[.bool false]) s ?_ over
       simp only [Instr.next,kQ,Sem.run_bind,dQ,Result.andThen_ok,yz,I3,Bool.false_eq_true,if_false,pz,Sem.run_pure]
       simp [choose,Sem.run,Question.forced]
     | cons y b2=>
       rw [ai] at U vs
       cases b2 with
       | cons _ _=>cases U
       | nil=>
         simp only [EH] at U
         cases aN:Nat.blt y.born since with
         | false=>rw [aN] at U;cases U
         | true=>
           rw [aN] at U
           simp only [cond_true,aT.val.injEq] at U
           obtain ⟨rfl,rfl⟩:=U
           rw [Nat.blt_eq] at aN
           obtain ⟨e,r,aG,b_,cA,fv,fD⟩:=vs
           simp only [dp] at fD
           subst fD
           have pz:(ku.filter fun e=>!a.contains e.born)=#[e]:=by
            apply Array.toList_inj.1;rw [I9,aG]
           rw [←fv] at aN ⊢
           let bU:Obj:=.mapIter (some tV.bd) since (a.push e.born) clock
           let al:World:={w with heap:=w.heap.setIfInBounds p.bd bU}
           have jf:=(Array.getElem?_eq_some_iff.1 a6).1
           have oC:(setObj p.bd bU).run P w=.ok () al:=by simp only [setObj,Sem.run,a6];rfl
           have pI:¬since≤e.born:=by omega
           refine ⟨.tuple #[.bool true,e.key,e.val],al,E,?_,Env.le.refl E,?_,s.set (p:=p) (by rw [aD];rfl) ah cI (by simp [al]) (fun j bH=>?_) rfl rfl rfl (fun _ _ _ e=>by cases e) ?_⟩
           · simp only [Instr.next,kQ,Sem.run_bind,dQ,Result.andThen_ok,yz,I3,Bool.false_eq_true,if_false,pz,Sem.run_pure]
             have U:(#[e]:Array MapEntry).filter (fun x=>decide (x.born<since))=#[e]:=by simp [aN]
             have ad:(#[e]:Array MapEntry).filter (fun x=>decide (x.born≥since))=#[]:=by simp [aN]
             have jI:(choose (.mapNext 1)).run P w=.ok 0 w:=by simp [choose,Sem.run,Question.forced]
             simp only [U,ad]
             simp [jI]
             change ((setObj p.bd bU).run P w).andThen _=_
             rw [oC]
             rfl
           · simp only [Rel,aY]
             exact ⟨_,rfl,_,_,rfl,rfl,_,_,rfl,b_,_,_,rfl,cA,rfl⟩
           · simp only [al,Array.getElem?_setIfInBounds]
             rw [if_neg (fun e=>bH e.symm)]
           · exact ⟨p,some tV.bd,a.push e.born,ah,cI,kQ,by simp [al,jf,bU],by simp [bm],tV,mn,rfl⟩
theorem SQ {aw:Fr} {E:Env} {h aa:ae} {w:World} (s:aW aw E h w) {x v:V} {X:Value} (ao:Rel E x X) (he:Cp x h=.val v aa):cE aw P E w (Instr.entry X) v aa:=by
 unfold Cp at he
 obtain ⟨b,off,rfl,U⟩:=Ld he
 clear he
 have af:=s.at (p:=_) (by simp only [Rel] at ao;exact ao.choose_spec.1)
 cases aD:h.get b<;>rw [aD] at U<;>simp only at U<;>try (cases U;done)
 rename_i src since seen last
 rw [aD] at af
 cases bb:Nat.beq off 0 with
 | false=>rw [bb] at U;cases U
 | true=>
 rw [bb] at U
 simp only [cond_true] at U
 have bb:=Nat.eq_of_beq_eq_true bb
 subst bb
 obtain ⟨p,m,a,ah,cI,kQ,a6,bm,hH⟩:=af
 simp only [Rel] at ao
 obtain ⟨q,aF,rfl⟩:=ao
 rw [ah] at aF;cases aF
 have dQ:(getObj p.bd).run P w=.ok (.mapIter m since a last) w:=by simp only [getObj,Sem.run,a6]
 cases src with
 | none=>cases U
 | some c=>
   simp only [qD] at hH
   obtain ⟨tV,mn,rfl⟩:=hH
   simp only at U
   cases seen with
   | nil=>cases U
   | cons n aeb=>
   simp only at U
   obtain ⟨es,clock,Dd,U⟩:=ET U
   have pD:=s.at mn
   rw [Dd] at pD
   obtain ⟨q,ku,g1,_,g3,g4⟩:=pD
   rw [mn] at g1;cases g1
   have yz:(getObj tV.bd).run P w=.ok (.map ku clock) w:=by simp only [getObj,Sem.run,g3]
   rename_i T6 _
   clear T6
   cases hD:Nat.beq clock last with
   | false=>rw [hD] at U;cases U
   | true=>
     rw [hD] at U
     simp only [cond_true] at U
     have:=Nat.eq_of_beq_eq_true hD
     subst this
     cases CX:uX n es with
     | none=>rw [CX] at U;cases U
     | some y=>
       rw [CX] at U
       simp only [aT.val.injEq] at U
       obtain ⟨rfl,rfl⟩:=U
       obtain ⟨e,f1,f2,f3⟩:=GW es _ y g4 CX
       have Uu:a.back? =some n:=by
        have:a.toList.getLast? =some n:=by rw [bm];simp
        simpa using this
       have pF:ku.find? (fun e=>e.born == n)=some e:=by rw [←f1];simp
       refine cE.plain (Z:=.tuple #[e.key,e.val]) s ?_ ?_
       · simp only [Instr.entry,kQ,Sem.run_bind,dQ,Result.andThen_ok,Uu,yz,bne_self_eq_false,Bool.false_eq_true,if_false,pF,Sem.run_pure]
       · simp only [Rel,aY]
         exact ⟨_,rfl,_,_,rfl,f2,_,_,rfl,f3,rfl⟩
end
end Go.Proofs.YtkehcalakofigaaGreatDoor.a1
namespace Go.Proofs.YtkehcalakofigaaGreatDoor.a1
variable [Lay]
open Go Go.RowKit
section
variable {P:Program}
theorem Od {aw:Fr} {E:Env} {h aa:ae} {w:World} (s:aW aw E h w) {t u e:TypeId} {size:Nat} (Vu:1≤size) {x v:V} {X Y:Value} {ty:TypeId} {n:Nat} {new:List V} {l:List Value}
 (ai:aY E new l) (h':new.length=n * size) (fs:n≤top)
 (eM:∀(al:World) (A:Option Addr) (cw ey:Nat),cw+n≤ey→(∀a,A=some a→(storeCells (a.add (cw * size)) l).run P w=.ok () al)→(A=none→al=w)→
   (Builtin.append_ #[t,u] ty #[.slice A cw ey,Y]).run P w=.ok (.slice A (cw+n) ey) al)
 (oz:∀(A:Option Addr) (cw ey:Nat) (b0:List Value),(∀al:World,al.heap=w.heap→(Builtin.firstCells size cw (.slice A cw ey)).run P al=.ok b0.toArray al)→¬cw+n≤ey→cw+n≤top→b0.length=cw * size→l.length=n * size→
   ∃cap rest al,cw+n≤cap∧cap * size≤((b0++l).toArray++rest).size∧
   (Builtin.append_ #[t,u] ty #[.slice A cw ey,Y]).run P w=.ok (.slice (some ⟨w.heap.size,0,none⟩) (cw+n) cap) al∧
   al.heap=w.heap.push (.cells ((b0++l).toArray++rest) e)∧al.os=w.os∧al.tape=w.tape∧al.output=w.output)
 (he:A4 size n new x h=.val v aa) (ao:Rel E x X):cE aw P E w (Builtin.append_ #[t,u] ty #[X,Y]) v aa:=by
 have mg:l.length=n * size:=by rw [ai.length,h']
 unfold A4 at he
 cases x<;>simp only at he<;>try (cases he;done)
 · -- a slice of known capacity
   rename_i b off len cap
   simp only [Rel] at ao
   obtain ⟨p,ah,ow,rfl⟩:=ao
   simp only [sx] at he
   cases e6:Nat.ble (len+n) cap with
   | true=>
     rw [e6] at he
     simp only [cond_true] at he
     rw [Nat.ble_eq] at e6
     cases iJ:lay h b (off+len * size) new with
     | none=>rw [iJ] at he;cases he
     | some U=>
     rw [iJ] at he
     simp only [aT.val.injEq] at he
     obtain ⟨rfl,rfl⟩:=he
     obtain ⟨al,cf,hp⟩:=tD (P:=P) s ai iJ ah
     refine ⟨_,al,E,eM al _ _ _ e6 (fun a bm=>?_) (fun bm=>by cases bm),Env.le.refl E,?_,hp⟩
     · cases bm
       rw [add_eq,Nat.add_assoc]
       exact cf
     · simp only [Rel];exact ⟨p,ah,e6,rfl⟩
   | false=>
     rw [e6] at he
     simp only [cond_false] at he
     have DP:¬len+n≤cap:=by rw [←Nat.ble_eq,e6];simp
     obtain ⟨af,he⟩:=iC he
     simp only [Bool.and_eq_true,Nat.ble_eq] at af
     cases hold:lT h size b off len with
     | none=>rw [hold] at he;cases he
     | some b0=>
     rw [hold] at he
     simp only at he
     cases eU:hJ h (b0++new) size false with
     | none=>rw [eU] at he;cases he
     | some U=>
     rw [eU] at he
     simp only [aT.val.injEq] at he
     obtain ⟨rfl,rfl⟩:=he
     obtain ⟨q,bJ,aF,dL,oy,ga⟩:=ui (P:=P) s ⟨p,ah⟩ hold
     rw [ah] at aF;cases aF
     obtain ⟨c,rest,al,b_,cA,fv,fD,jm,mx,my⟩:=oz (some ⟨p.bd,p.base+off,none⟩) (len) (cap) _
      (fun al hw=>by simp only [Builtin.firstCells];exact ga al hw) DP af.1 (by rw [dL.length,oy]) mg
     obtain ⟨av,g1,g2,g3⟩:=rN (al:=al) (bG:=(0,0)) s (dL.append ai) eU cA (.inr (Nat.le_refl _)) (fun _=>rfl) fD jm mx my
     refine ⟨_,al,av,fv,g1,?_,g3⟩
     simp only [Rel]
     exact ⟨_,g2,by simp only;omega,by simp⟩
 · -- one that was appended to
   rename_i b off len idx
   have vM:=ao
   simp only [Rel] at ao
   obtain ⟨p,ah,Jb,rfl⟩:=ao
   simp only [sw] at he
   cases hb:Nat.beq n 0 with
   | true=>
     rw [hb] at he
     simp only [cond_true] at he
     cases he
     rw [Nat.beq_eq] at hb
     subst hb
     have ov:l=[]:=by cases l with | nil=>rfl | cons _ _=>simp at mg
     subst ov
     refine ⟨_,w,E,eM w _ _ _ (by omega) (fun a _=>rfl) (fun bm=>by cases bm),Env.le.refl E,?_,s⟩
     simpa using vM
   | false=>
     rw [hb] at he
     simp only [cond_false] at he
     have nd:=s.at ah
     cases aD:h.get b with
     | dead=>rw [aD] at he;cases he
     | view _ _=>rw [aD] at he;cases he
     | iter _ _=>rw [aD] at he;cases he
     | mp _ _=>rw [aD] at he;cases he
     | dv _=>rw [aD] at he;cases he
     | e0=>rw [aD] at he;cases he
     | gf _=>rw [aD] at he;cases he
     | hd _ _ _ _=>rw [aD] at he;cases he
     | cells N cs cj st=>
       rw [aD] at he nd
       simp only [bV.on] at he
       obtain ⟨af,he⟩:=iC he
       simp only [Bool.and_eq_true,Nat.ble_eq,Nat.beq_eq] at af
       obtain ⟨⟨C6,DE,DF⟩,vy⟩:=af
       cases hold:lT h size b off len with
       | none=>rw [hold] at he;cases he
       | some b0=>
       rw [hold] at he
       simp only at he
       cases eU:hJ (h.set b .dead) (b0++new) size st with
       | none=>rw [eU] at he;cases he
       | some U=>
       rw [eU] at he
       simp only [aT.val.injEq] at he
       obtain ⟨rfl,rfl⟩:=he
       obtain ⟨q,bJ,aF,dL,oy,ga⟩:=ui (P:=P) s ⟨p,ah⟩ hold
       rw [ah] at aF;cases aF
       obtain ⟨bw,q,c,el,bG,aE,cI,a6,nf,cf,kg,bg⟩:=nd
       rw [ah] at aE;cases aE
       have vA:=Vu
       have kg:=kg (by omega)
       rw [C6] at kg
       have wR:=s.kill ah
       by_cases e6:len+n≤p.cap-idx
       · -- in place
         have aN:=(Array.getElem?_eq_some_iff.1 a6).1
         have U2:(idx+len+n) * size≤p.cap * size:=Nat.mul_le_mul_right _ (by omega)
         have hbound:p.base+off+len * size+0+l.length≤c.size:=by
          rw [mg,vy]
          have:(idx+len+n) * size=idx * size+len * size+n * size:=by rw [Nat.add_mul,Nat.add_mul]
          omega
         have vL:=z6 (P:=P) aN el bG (p.base+off+len * size) l c 0 (zt DF ai) hbound nf
         rw [FW a6,Nat.add_zero] at vL
         have DS:=eM (iW w p.bd (mz c (p.base+off+len * size) l) el bG) (some ⟨p.bd,p.base+off,none⟩) _ _ e6
          (fun a bm=>by cases bm;rw [add_eq];exact vL) (fun bm=>by cases bm)
         unfold hJ at eU
         obtain ⟨ar,eU⟩:=dF eU
         simp only [Bool.and_eq_true,Nat.ble_eq] at ar
         simp only [Option.some.injEq] at eU
         subst eU
         have cV:=s.fresh h.next (Nat.le_refl _)
         have hle:E.le (E.put (aH h.next) ⟨p.bd,p.base+off,p.cap-idx⟩):=Env.jq cV
         have di:E.put (aH h.next) ⟨p.bd,p.base+off,p.cap-idx⟩ (aH h.next)=some ⟨p.bd,p.base+off,p.cap-idx⟩:=by unfold Env.put;rw [if_pos rfl]
         refine ⟨_,_,_,DS,hle,?_,aW.add (p:=⟨p.bd,p.base+off,p.cap-idx⟩) wR (by rw [FX];exact Nat.le_refl _) (fun j _ bH=>FV _ _ _ bH) cI (fun bz dK fC mq heq=>?_) rfl rfl rfl (fun _ _ _ e=>by injection e with _ _ b9;omega) ?_⟩
         · simp only [Rel]
           exact ⟨_,di,by simp only;omega,by simp⟩
         · rw [ae.dG] at fC
           by_cases gF:b=bz
           · rw [if_pos gF] at fC;cases fC
           · rw [if_neg gF] at fC
             exact gF (s.inj b bz p dK (by rw [aD];rfl) fC ah mq heq.symm)
         · have Dq:(b0++new).length=(len+n) * size:=by rw [List.length_append,oy,h',Nat.add_mul]
           have UQ:(len+n) * size=len * size+n * size:=Nat.add_mul _ _ _
           refine ⟨ar.1,_,_,el,bG,di,cI,wZ aN _ _ _,by rw [nv];exact nf,cf,fun _=>?_,?_⟩
           · rw [nv]
             simp only
             have:idx * size + (p.cap-idx) * size=p.cap * size:=by rw [←Nat.add_mul];congr 1;omega
             omega
           · refine ⟨by rw [nv,Dq,Nat.add_mul];simp only;omega,fun i y aB aZ=>?_⟩
             rw [wL _ _ _ _ (by omega) (by omega),if_pos (by omega),Nat.sub_zero]
             rw [y8 _ _ _ _ (by omega)] at aZ
             simp only at aZ
             by_cases b3:i<len * size
             · rw [if_neg (by omega)] at aZ
               rw [List.getElem?_append_left (by omega)]
               have dQ:=ga w rfl
               have DM:=run_loadCells (P:=P) (w:=w) (off:=p.base+off) (n:=len * size) a6 (by omega)
               rw [DM] at dQ
               simp only [Result.ok.injEq,and_true] at dQ
               have vt:bJ=(c.toList.drop (p.base+off)).take (len * size):=by
                have:=congrArg Array.toList dQ
                simpa using this.symm
               obtain ⟨o',gH,aG⟩:=dL.get i b0[i] (List.getElem?_eq_getElem (by omega))
               rw [List.getElem?_eq_getElem (by omega)]
               rw [vt] at gH
               rw [List.getElem?_take_of_lt (by omega),List.getElem?_drop] at gH
               simp only [Array.getElem?_toList] at gH
               rw [aZ] at gH
               cases gH
               exact Rel.mono hle _ _ aG
             · rw [if_pos (by omega)] at aZ
               rw [List.getElem?_append_right (by omega)]
               have b9:p.base+off+i - (p.base+off+len * size)=i-b0.length:=by omega
               rw [b9] at aZ
               have vu:i-b0.length<new.length:=by omega
               obtain ⟨o',gH,aG⟩:=ai.get (i-b0.length) new[i-b0.length] (List.getElem?_eq_getElem vu)
               rw [aZ] at gH;cases gH
               rw [List.getElem?_eq_getElem vu]
               exact Rel.mono hle _ _ aG
       · -- elsewhere
         obtain ⟨bY,rest,al,b_,cA,fv,fD,jm,mx,my⟩:=oz (some ⟨p.bd,p.base+off,none⟩) (len) (p.cap-idx) _
          (fun al hw=>by simp only [Builtin.firstCells];exact ga al hw) e6 DE (by rw [dL.length,oy]) mg
         obtain ⟨av,g1,g2,g3⟩:=rN (al:=al) (bG:=(0,0)) wR (dL.append ai) eU cA (.inr (Nat.le_refl _)) (fun _=>rfl) fD jm mx my
         refine ⟨_,al,av,fv,g1,?_,g3⟩
         simp only [Rel]
         exact ⟨_,g2,by simp only;omega,by simp⟩
 · -- nil
   simp only [Rel] at ao
   subst ao
   simp only [sz] at he
   cases hb:Nat.beq n 0 with
   | true=>
     rw [hb] at he
     simp only [cond_true] at he
     cases he
     rw [Nat.beq_eq] at hb
     subst hb
     exact cE.plain s (eM w _ _ _ (by omega) (fun a bm=>by cases bm) (fun _=>rfl)) (by simp [Rel])
   | false=>
     rw [hb] at he
     simp only [cond_false] at he
     have rm:¬n=0:=by intro e;subst e;simp at hb
     cases eU:hJ h new size false with
     | none=>rw [eU] at he;cases he
     | some U=>
     rw [eU] at he
     simp only [aT.val.injEq] at he
     obtain ⟨rfl,rfl⟩:=he
     obtain ⟨c,rest,al,b_,cA,fv,fD,jm,mx,my⟩:=oz (none) (0) (0) []
      (fun al _=>by simp [Builtin.firstCells]) (by omega) (by omega) (by simp) mg
     obtain ⟨av,g1,g2,g3⟩:=rN (al:=al) (bG:=(0,0)) s ai eU cA (.inr (Nat.le_refl _)) (fun _=>rfl) fD jm mx my
     refine ⟨_,al,av,fv,g1,?_,g3⟩
     simp only [Rel]
     exact ⟨_,g2,by simp only;omega,by simp⟩
structure AX (P:Program) (t u e:TypeId) (size bytes:Nat) (k:IntKind) (z:Value):Prop where
 ut:∀w,(underlying t).run P w=.ok (.slice e) w
 o6:∀w,(underlying u).run P w=.ok (.int k) w
 iu:∀w,(sizeOf e).run P w=.ok size w
 xN:∀w,∃i,(typeInfo e).run P w=.ok i w∧i.bytes=bytes
 uu:∀w,(zeroValue e).run P w=.ok z w
 iv:z.cells.size=size
 pos:1≤size
 small:bytes≤4096
theorem Nc (c:Array Value):Builtin.zeroCells c 0=#[]:=by simp [Builtin.zeroCells]
theorem abh {t u e:TypeId} {size bytes:Nat} {k:IntKind} {z:Value} (H:AX P t u e size bytes k z) {n:Nat} (a7:n≤100000) {ty:TypeId} {w al:World} {A:Option Addr} {cw ey:Nat} (e6:cw+n≤ey)
 (cf:∀a,A=some a→(storeCells (a.add (cw * size)) (Builtin.zeroCells z.cells n).toList).run P w=.ok () al) (cV:A=none→al=w):
 (Builtin.append_ #[t,u] ty #[.slice A cw ey,.int .i64 n]).run P w=.ok (.slice A (cw+n) ey) al:=by
 have hw:IntKind.i64.wrap (n:Int)=n:=by unfold IntKind.wrap;simp [IntKind.bits,IntKind.signed];omega
 obtain ⟨i,aB,pH⟩:=H.xN w
 have px:¬(281474976710656 < (n:Int) * (i.bytes:Int)):=by
  rw [pH]
  have U:n * bytes≤100000 * 4096:=Nat.mul_le_mul a7 H.small
  have ad:((n * bytes:Nat):Int)=(n:Int) * (bytes:Int):=Int.natCast_mul _ _
  omega
 have yJ:¬((n:Int)<0):=by omega
 have bZ:size≠0:=by have:=H.pos;omega
 have bm:∀w,(asInt (.int .i64 (n:Int))).run P w=.ok (n:Int) w:=fun w=>by simp [asInt,asIntOf]
 have yr:∀w,(asInt (.int .i64 0)).run P w=.ok 0 w:=fun w=>by simp [asInt,asIntOf]
 have tw:IntKind.i64.wrap 0=0:=by decide
 cases A with
 | none=>
   have:=cV rfl;subst this
   by_cases bb:n=0
   · subst bb
     simp [Builtin.append_,H.ut,H.o6,H.iu,yr,aB,tw,(show cw≤ey from by omega)]
   · simp [Builtin.append_,H.ut,H.o6,H.iu,H.uu,bm,aB,px,hw,e6,yJ,bZ,bb]
 | some a=>
   have:=cf a rfl
   by_cases bb:n=0
   · subst bb
     rw [Nc] at this
     simp [Builtin.append_,H.ut,H.o6,H.iu,yr,aB,tw,(show cw≤ey from by omega),this]
   · simp [Builtin.append_,H.ut,H.o6,H.iu,H.uu,bm,aB,px,hw,e6,yJ,Nat.mul_ne_zero bb bZ,this]
theorem abi {t u e:TypeId} {size bytes:Nat} {k:IntKind} {z:Value} (H:AX P t u e size bytes k z) {n:Nat} (a7:n≤100000) {ty:TypeId} {w:World} (A:Option Addr) (cw ey:Nat) (b0:List Value)
 (hold:∀al:World,al.heap=w.heap→(Builtin.firstCells size cw (.slice A cw ey)).run P al=.ok b0.toArray al) (e6:¬cw+n≤ey) (vK:cw+n≤top) (aP:b0.length=cw * size) (ai:(Builtin.zeroCells z.cells n).toList.length=n * size):
 ∃cap rest al,cw+n≤cap∧cap * size≤((b0++(Builtin.zeroCells z.cells n).toList).toArray++rest).size∧
  (Builtin.append_ #[t,u] ty #[.slice A cw ey,.int .i64 n]).run P w=.ok (.slice (some ⟨w.heap.size,0,none⟩) (cw+n) cap) al∧
  al.heap=w.heap.push (.cells ((b0++(Builtin.zeroCells z.cells n).toList).toArray++rest) e)∧al.os=w.os∧al.tape=w.tape∧al.output=w.output:=by
 have hw:IntKind.i64.wrap (n:Int)=n:=by simp only [IntKind.wrap,IntKind.bits,IntKind.signed];simp;omega
 obtain ⟨i,aB,pH⟩:=H.xN w
 have kX:P.info? e=some i:=by
  simp only [typeInfo,Sem.run_bind,run_program,Result.andThen_ok] at aB
  cases aF:P.info? e with
  | none=>rw [aF] at aB;simp at aB
  | some j=>rw [aF] at aB;simp at aB;rw [aB]
 have q_:∀al,(typeInfo e).run P al=.ok i al:=fun al=>uc kX al
 have Wd:¬(281474976710656 < (n:Int) * (i.bytes:Int)):=by
  rw [pH]
  have U:n * bytes≤100000 * 4096:=Nat.mul_le_mul a7 H.small
  have ad:((n * bytes:Nat):Int)=(n:Int) * (bytes:Int):=Int.natCast_mul _ _
  omega
 have px:¬(281474976710656<Builtin.nextslicecap (cw+n) ey * i.bytes):=by
  have U:ey<cw+n:=by omega
  have:=growslice_fits (bytes:=i.bytes) U (by
   rw [pH]
   have ad:(cw+n) * bytes≤top * 4096:=Nat.mul_le_mul vK H.small
   unfold top at ad
   omega)
  omega
 have gO:¬(9223372036854775807 < ((cw:Int) + (n:Int))):=by unfold top at vK;omega
 have yJ:¬((n:Int)<0):=by omega
 have bZ:size≠0:=by have:=H.pos;omega
 have bm:∀w,(asInt (.int .i64 (n:Int))).run P w=.ok (n:Int) w:=fun w=>by simp [asInt,asIntOf]
 have yr:∀w,(asInt (.int .i64 0)).run P w=.ok 0 w:=fun w=>by simp [asInt,asIntOf]
 have tw:IntKind.i64.wrap 0=0:=by decide
 let q:Question:=.appendCap (cw+n) ey e
 let cap:=q.cut (w.tape w.drawn q)
 have kg:cw+n≤cap:=by show cw+n≤(cw+n)+_;omega
 refine ⟨cap,Builtin.zeroCells z.cells (cap - (cw+n)),w.drew.alloc (.cells ((b0++(Builtin.zeroCells z.cells n).toList).toArray++Builtin.zeroCells z.cells (cap - (cw+n))) e),kg,?_,?_,rfl,rfl,rfl,rfl⟩
 · simp only [Array.size_append,List.size_toArray,List.length_append,aP,ai]
   have:(Builtin.zeroCells z.cells (cap - (cw+n))).size=(cap - (cw+n)) * size:=by simp [Builtin.zeroCells,H.iv]
   rw [this,←Nat.add_mul,←Nat.add_mul]
   exact Nat.mul_le_mul_right _ (by omega)
 · have f2:=hold w.drew rfl
   by_cases bb:n=0
   · subst bb
     have VF:¬cw≤ey:=by omega
     have Ut:¬(9223372036854775807 < (cw:Int)):=by omega
     rw [Nat.add_zero] at px
     simp [Builtin.append_,H.ut,H.o6,H.iu,H.uu,yr,tw,q_,VF,px,Ut,Question.forced,f2,newRow]
     refine ⟨rfl,?_⟩
     have aE:(b0++(Builtin.zeroCells z.cells 0).toList).toArray=b0.toArray:=by rw [Nc];simp
     rw [aE]
     rfl
   · simp [Builtin.append_,H.ut,H.o6,H.iu,H.uu,bm,hw,Wd,yJ,Nat.mul_ne_zero bb bZ,e6,q_,px,gO,Question.forced,f2,newRow]
     refine ⟨rfl,?_⟩
     have aE:(b0++(Builtin.zeroCells z.cells n).toList).toArray=b0.toArray++Builtin.zeroCells z.cells n:=by simp
     rw [aE,Array.append_assoc]
end
end Go.Proofs.YtkehcalakofigaaGreatDoor.a1
namespace Go.Proofs.YtkehcalakofigaaGreatDoor.a1
variable [Lay]
open Go Go.RowKit
section
variable {P:Program}
abbrev bS (rd:Option Nat):Fence:={fn:=fun _=>True,depth:=none,alive:=false,round:=rd}
theorem pq {rd:Option Nat} {n:Nat} {f:FuncId} {args:Array Value} {w:World} {R:Ending→World→Prop}:CallsIn (bS rd) n P f args w R↔Calls P f args w R:=callsIn_wide
theorem Fu {rd:Option Nat} (n:Nat):(bS rd).room n:=fun _ h=>by simp [bS] at h
abbrev mF (x:Value):List PanicEntry:=[{v:=x,recovered:=false}]
structure ff (P:Program) (call:c9):Prop where
 fn:∀(aw:Fr) f args h v aa,f≠cM→call f args h=.val v aa→∀E w xs,aY E args xs→aW aw E h w→
  ((∃fn,P.funcs[f]? =some fn∧fn.body.isSome=true)∧Calls P f xs.toArray w fun e al=>∃av x,e=.returned x∧E.le av∧Rel av v x∧aW aw av aa al)∨
  ∃av x al,(callFunc f xs.toArray).run P w=.ok (.value x) al∧E.le av∧Rel av v x∧aW aw av aa al
 cb:∀(aw:Fr) f args h v aa,f≠cM→call f args h=.cb v aa→∀E w xs,aY E args xs→aW aw E h w→
  (∃fn,P.funcs[f]? =some fn∧fn.body.isSome=true)∧Calls P f xs.toArray w fun e al=>∃av x,e=.panicked (mF x)∧E.le av∧Rel av v x∧aW aw av aa al
 Na:∀(aw:Fr) args b h v aa,call cM (args++[.ptr b 0]) h=.val v aa→∀E w xs p,aY E args xs→aW aw E h w→E b=some p→
  ∃f tmps assign body,(Instr.yield p.bd xs.toArray).run P w=.ok (.round p.bd f tmps assign body) w∧
   RoundIn (bS none) 0 P p.bd f tmps assign body w fun e al=>∃av x,e=.returned x∧E.le av∧Rel av v x∧aW aw av aa al
 Nb:∀args h v aa,call cM args h≠.cb v aa
theorem mK {rd:Option Nat} {o:Oper} (lz:∀c,o.op≠.defer c) (ρ:Operand→Value):o.semAt (bS rd).round ρ=execOp ρ o:=Oper.semAt_eq _ ρ o lz
theorem e9 {rd:Option Nat} {o:Oper} {a:Act} {w:World} {aw:Fr} {E:Env} {aa:ae} {v:V} {m:Sem Value} {K:Act→World→Prop} {Q:Exit→Act→World→Prop}
 (ao:execOp a.eval o=(do pure (.value (←m)))) (g:cE aw P E w m v aa) (dd:∀av x al,E.le av→Rel av v x→aW aw av aa al→K (a.put o.dst x) al) (lz:∀c,o.op≠.defer c:=by intro c h;cases h):
 o.wpIn (bS rd) 0 P a w K Q:=by
 obtain ⟨Z,al,av,U,ad,aI,br⟩:=g
 refine ⟨fun _ _=>trivial,?_⟩
 rw [mK lz,ao,Sem.run_bind,U]
 exact dd av Z al ad aI br
theorem zz {E:Env} {an:Nat} {r:bo} {a:Act} (k:RegRel0 E an r a):∀l:List (Nat × Operand),nU E ((p7 l).run r) (l.map fun (i,x)=>(i,a.eval x))
 | []=>rfl
 | (i,x)::l=>by
   simp only [p7,List.map,nU]
   exact ⟨_,_,rfl,c_ k x,zz k l⟩
theorem zx {E:Env} {an:Nat} {r:bo} {a:Act} (k:RegRel0 E an r a) (x:Option Operand):gg E ((nB x).run r) (x.map a.eval):=by
 cases x with
 | none=>rfl
 | some x=>simp only [nB,gg,Option.map];exact ⟨_,rfl,c_ k x⟩
theorem ZU {v:V} {f:aO→Nat→aT} {r:V} {h:ae} (he:v.ht .fail f=.val r h):∃b off,v=.ptr b off∧f b off=.val r h:=by
 cases v<;>simp only [V.ht] at he<;>first
  | (cases he;done)
  | exact ⟨_,_,rfl,he⟩
theorem Zv {aw:Fr} {E:Env} {h aa:ae} {w:World} (s:aW aw E h w) {x v:V} {X:Value} {ty:TypeId} (ao:Rel E x X) (he:rO x h=.val v aa):cE aw P E w (Instr.next X true ty) v aa:=by
 unfold rO at he
 obtain ⟨b,off,rfl,U⟩:=ZU he
 have af:=s.at (p:=_) (by simp only [Rel] at ao;exact ao.choose_spec.1)
 cases aD:h.get b with
 | dead=>rw [aD] at U;cases U
 | view _ _=>rw [aD] at U;cases U
 | cells _ _ _ _=>rw [aD] at U;cases U
 | mp _ _=>rw [aD] at U;cases U
 | dv _=>rw [aD] at U;cases U
 | e0=>rw [aD] at U;cases U
 | gf _=>rw [aD] at U;cases U
 | hd _ _ _ _=>rw [aD] at U;cases U
 | iter st pos=>
   rw [aD] at U af
   simp only at U
   obtain ⟨bb,ad⟩:=iC U
   rw [Nat.beq_eq] at bb
   subst bb
   obtain ⟨p,ah,cI,kQ,a6⟩:=af
   simp only [Rel] at ao
   obtain ⟨q,aF,rfl⟩:=ao
   rw [ah] at aF;cases aF
   have dQ:(getObj p.bd).run P w=.ok (.stringIter ⟨⟨st⟩⟩ pos) w:=by simp only [getObj,Sem.run,a6]
   have bZ:(⟨⟨st⟩⟩:ByteArray).size=st.length:=rfl
   cases aN:Nat.blt pos st.length with
   | true=>
     rw [aN] at ad
     simp only [cond_true,aT.val.injEq] at ad
     obtain ⟨rfl,rfl⟩:=ad
     rw [Nat.blt_eq] at aN
     let bU:Obj:=.stringIter ⟨⟨st⟩⟩ (pos + (decodeL st pos).2)
     let al:World:={w with heap:=w.heap.setIfInBounds p.bd bU}
     have jf:=(Array.getElem?_eq_some_iff.1 a6).1
     have oC:(setObj p.bd bU).run P w=.ok () al:=by simp only [setObj,Sem.run,a6];rfl
     refine ⟨.tuple #[.bool true,goInt pos,.int .i32 (decodeL st pos).1],al,E,?_,Env.le.refl E,?_,s.set (p:=p) (by rw [aD];rfl) ah cI (by simp [al]) (fun j bH=>?_) rfl rfl rfl (fun _ _ _ e=>by cases e) ?_⟩
     · simp only [Instr.next,kQ,Sem.run_bind,dQ,Result.andThen_ok,bZ,if_pos aN]
       have:(Utf8.decode (⟨⟨st⟩⟩:ByteArray) pos)=decodeL st pos:=rfl
       simp only [this]
       rw [oC]
       rfl
     · simp only [Rel,aY]
       exact ⟨_,rfl,_,_,rfl,rfl,_,_,rfl,rfl,_,_,rfl,rfl,rfl⟩
     · simp only [al,Array.getElem?_setIfInBounds]
       rw [if_neg (fun e=>bH e.symm)]
     · exact ⟨p,ah,cI,kQ,by simp [al,jf,bU]⟩
   | false=>
     rw [aN] at ad
     simp only [cond_false,aT.val.injEq] at ad
     obtain ⟨rfl,rfl⟩:=ad
     have mi:¬pos<st.length:=by rw [←Nat.blt_eq,aN];simp
     refine cE.plain (Z:=.tuple #[.bool false]) s ?_ ?_
     · simp only [Instr.next,kQ,Sem.run_bind,dQ,Result.andThen_ok,bZ,if_neg mi,Sem.run_pure]
     · simp only [Rel,aY]
       exact ⟨_,rfl,_,_,rfl,rfl,rfl⟩
theorem aaR {aw:Fr} {E:Env} {h aa:ae} {w:World} (s:aW aw E h w) {t:TypeId} {x v:V} {X:Value} (ao:Rel E x X) (he:(zP P t).run x h=.val v aa):cE aw P E w (Instr.range t X) v aa:=by
 unfold zP at he
 cases aC:aX P t with
 | none=>rw [aC] at he;cases he
 | some aL=>
   rw [aC] at he
   simp only at he
   have hu:=eB aC
   cases bD:aL.a_ with
   | string=>
     rw [bD] at he hu
     simp only at he
     cases x<;>simp only at he<;>try (cases he;done)
     rename_i st
     simp only [aT.val.injEq] at he
     obtain ⟨rfl,rfl⟩:=he
     have:=ao.o2;subst this
     have cV:=s.fresh h.next (Nat.le_refl _)
     have di:E.put (aH h.next) ⟨w.heap.size,0,0⟩ (aH h.next)=some ⟨w.heap.size,0,0⟩:=by unfold Env.put;rw [if_pos rfl]
     refine ⟨.pointer (some ⟨w.heap.size,0,none⟩),{w with heap:=w.heap.push (.stringIter ⟨⟨st⟩⟩ 0)},_,?_,Env.jq (p:=⟨w.heap.size,0,0⟩) cV,?_,s.alloc 0 ?_⟩
     · simp only [Instr.range,Sem.run_bind,hu,Result.andThen_ok,Sem.run_pure,run_newObj]
     · simp only [Rel];exact ⟨_,di,by simp⟩
     · exact ⟨_,di,s.frame.size,rfl,by simp⟩
   | map b4 h6=>
     rw [bD] at he hu
     exact aaS s (hu w) ao he
   | _=>rw [bD] at he;cases he
theorem Oa {aw:Fr} {E:Env} {h aa:ae} {w:World} (s:aW aw E h w) {t u:TypeId} {x y v:V} {X Y:Value} {ty:TypeId}
 (he:(xz P t u).run x y h=.val v aa) (ao:Rel E x X) (aZ:Rel E y Y):cE aw P E w (Builtin.append_ #[t,u] ty #[X,Y]) v aa:=by
 unfold xz at he
 cases aC:aX P t with
 | none=>rw [aC] at he;cases he
 | some aL=>
   cases hu:aX P u with
   | none=>rw [aC,hu] at he;cases he
   | some o5=>
     rw [aC,hu] at he
     simp only at he
     have main:(∀k,o5.a_≠.int k)→(match aL.a_ with
      | .slice e=>match aX P e with
        | none=>(⟨fun _ _ _=>.fail⟩:w2)
        | some bc=>match bc.zero with
          | none=>⟨fun _ _ _=>.fail⟩
          | some z=>bif Nat.ble 1 bc.size&&Nat.ble bc.bytes 4096&&Nat.beq z.cells.length bc.size then ⟨lk bc.size⟩ else ⟨fun _ _ _=>.fail⟩
      | _=>⟨fun _ _ _=>.fail⟩).run x y h=.val v aa→cE aw P E w (Builtin.append_ #[t,u] ty #[X,Y]) v aa:=by
      intro nj he
      cases bD:aL.a_ with
      | slice e=>
        rw [bD] at he
        simp only at he
        cases b7:aX P e with
        | none=>rw [b7] at he;cases he
        | some bc=>
          rw [b7] at he
          simp only at he
          cases bq:bc.zero with
          | none=>rw [bq] at he;cases he
          | some z=>
            rw [bq] at he
            simp only at he
            cases ar:(Nat.ble 1 bc.size&&Nat.ble bc.bytes 4096&&Nat.beq z.cells.length bc.size) with
            | false=>rw [ar] at he;cases he
            | true=>
              rw [ar] at he
              simp only [cond_true] at he
              simp only [Bool.and_eq_true,Nat.ble_eq,Nat.beq_eq] at ar
              obtain ⟨nL,vN,_,np⟩:=qo (P:=P) (E:=E) b7 bq w
              refine Oc s ⟨fun w=>?_,⟨o5.a_,fun w=>eB hu w,nj⟩,fun w=>h1 b7 w,fun w=>Fx b7 w,⟨nL,vN,by rw [np];exact ar.2⟩,ar.1.1,ar.1.2⟩ he ao aZ
              have:=eB aC w
              rw [bD] at this
              exact this
      | _=>rw [bD] at he;cases he
     cases tt:o5.a_ with
     | int k=>
       rw [tt] at he
       simp only at he
       cases bD:aL.a_ with
       | slice e=>
         rw [bD] at he
         simp only at he
         cases b7:aX P e with
         | none=>rw [b7] at he;cases he
         | some bc=>
           rw [b7] at he
           simp only at he
           cases bq:bc.zero with
           | none=>rw [bq] at he;cases he
           | some z=>
             rw [bq] at he
             simp only at he
             cases ar:(Nat.ble 1 bc.size&&Nat.ble bc.bytes 4096&&Nat.beq z.cells.length bc.size) with
             | false=>rw [ar] at he;cases he
             | true=>
               rw [ar] at he
               simp only [cond_true] at he
               simp only [Bool.and_eq_true,Nat.ble_eq,Nat.beq_eq] at ar
               obtain ⟨nL,vN,D6,np⟩:=qo (P:=P) (E:=E) b7 bq w
               have tu:∀w,(underlying t).run P w=.ok (.slice e) w:=fun w=>by have:=eB aC w;rw [bD] at this;exact this
               have DY:∀w,(underlying u).run P w=.ok (.int k) w:=fun w=>by have:=eB hu w;rw [tt] at this;exact this
               have H:AX P t u e bc.size bc.bytes k nL:=⟨tu,DY,fun w=>h1 b7 w,fun w=>Fx b7 w,vN,by rw [np];exact ar.2,ar.1.1,ar.1.2⟩
               unfold GB at he
               split at he
               case h_2=>cases he
               rename_i cD m
               split at he
               case h_2=>cases he
               rename_i n
               obtain ⟨mb,bx⟩:=iC he
               simp only [Bool.and_eq_true,Nat.ble_eq] at mb
               have aA:=pt mb.1
               subst aA
               simp only [Rel] at aZ
               subst aZ
               have DO:=wO D6 n
               have hlen:(gV z.cells n).length=n * bc.size:=by
                rw [←DO.length]
                simp [Builtin.zeroCells,np,ar.2]
               exact Od s ar.1.1 DO hlen (by have:=mb.2;unfold top;omega) (fun al A cw ey a b c=>abh H mb.2 a b c) (fun A cw ey b0 a b c d f=>abi H mb.2 A cw ey b0 a b c d f) bx ao
       | _=>rw [bD] at he;cases he
     | _=>rw [tt] at he;exact main (by rw [tt];simp) he
theorem Sn {aw:Fr} {E:Env} {h aa:ae} {w:World} (s:aW aw E h w) {t:TypeId} {rest:List TypeId} {x y v:V} {X Y:Value} {ty:TypeId}
 (he:(xU P t).run x y h=.val v aa) (ao:Rel E x X) (aZ:Rel E y Y):cE aw P E w (Builtin.copy_ (t::rest).toArray ty #[X,Y]) v aa:=by
 unfold xU at he
 cases aC:aX P t with
 | none=>rw [aC] at he;cases he
 | some aL=>
   rw [aC] at he
   simp only at he
   cases bD:aL.a_ with
   | slice e=>
     rw [bD] at he
     simp only at he
     cases b7:aX P e with
     | none=>rw [b7] at he;cases he
     | some bc=>
       rw [b7] at he
       simp only at he
       exact Sp s (fun w=>by have:=eB aC w;rw [bD] at this;exact this) (fun w=>h1 b7 w) he ao aZ
   | _=>rw [bD] at he;cases he
theorem R7 {aw:Fr} {E:Env} {h aa:ae} {w:World} (s:aW aw E h w) {t:TypeId} {x v:V} {X:Value} {ty:TypeId} {z:List V} (ar:u3 P t=some z)
 (he:xT z x h=.val v aa) (ao:Rel E x X):cE aw P E w (Builtin.clear_ #[t] ty #[X]) v aa:=by
 unfold u3 at ar
 cases aC:aX P t with
 | none=>rw [aC] at ar;cases ar
 | some aL=>
   rw [aC] at ar
   simp only at ar
   cases bD:aL.a_ with
   | slice e=>
     rw [bD] at ar
     simp only at ar
     cases b7:aX P e with
     | none=>rw [b7] at ar;cases ar
     | some bc=>
       rw [b7] at ar
       simp only at ar
       cases bq:bc.zero with
       | none=>rw [bq] at ar;cases ar
       | some z0=>
         rw [bq] at ar
         simp only [Option.some.injEq] at ar
         subst ar
         have hu:∀w,(underlying t).run P w=.ok (.slice e) w:=fun w=>by have:=eB aC w;rw [bD] at this;exact this
         obtain ⟨z,jQ,D6,JT⟩:=qo (P:=P) (E:=E) b7 bq w
         have nothing:∀a c,X=.slice a 0 c→v=.tuple []→aa=h→cE aw P E w (Builtin.clear_ #[t] ty #[X]) v aa:=by
          intro a c cO bx a6
          subst cO bx a6
          refine ⟨.tuple #[],w,E,?_,Env.le.refl E,?_,s⟩
          · cases a<;>simp [Builtin.clear_,Sem.run_bind,hu,Result.andThen_ok,Sem.run_pure]
          · simp only [Rel];exact ⟨_,rfl,rfl⟩
         have Mt:∀(b:aO) (off n c:Nat) (p:gY),E b=some p→X=.slice (some ⟨p.bd,p.base+off,none⟩) n c→(bif Nat.beq n 0 then (aT.val (.tuple []) h) else (match lay h b off (gV z0.cells n) with
          | some aa=>aT.val (.tuple []) aa
          | none=>.fail))=.val v aa→cE aw P E w (Builtin.clear_ #[t] ty #[X]) v aa:=by
          intro b off n c p ah cO he
          cases n with
          | zero=>
            simp only [Nat.beq_refl,cond_true,aT.val.injEq] at he
            exact nothing _ _ cO he.1.symm he.2.symm
          | succ n=>
            simp only [show Nat.beq (n+1) 0=false from rfl,cond_false] at he
            cases ai:lay h b off (gV z0.cells (n+1)) with
            | none=>rw [ai] at he;cases he
            | some U=>
              rw [ai] at he
              simp only [aT.val.injEq] at he
              obtain ⟨rfl,rfl⟩:=he
              obtain ⟨al,g1,g2⟩:=tD (P:=P) s (wO D6 (n+1)) ai ah
              subst cO
              refine ⟨.tuple #[],al,E,?_,Env.le.refl E,?_,g2⟩
              · simp only [Builtin.clear_,Sem.run_bind,List.getElem?_toArray,List.getElem?_cons_zero,hu,jQ,Result.andThen_ok]
                have:(storeCells ⟨p.bd,p.base+off,none⟩ (Builtin.zeroCells z.cells (n+1)).toList).run P w=.ok () al:=g1
                simp [this,Sem.run_pure,Result.andThen_ok]
              · simp only [Rel];exact ⟨_,rfl,rfl⟩
         unfold xT at he
         cases x<;>simp only at he<;>try (cases he;done)
         · simp only [Rel] at ao
           obtain ⟨p,g1,g2,g3⟩:=ao
           exact Mt _ _ _ _ p g1 g3 he
         · simp only [Rel] at ao
           obtain ⟨p,g1,g2,g3⟩:=ao
           exact Mt _ _ _ _ p g1 g3 he
         · simp only [Rel] at ao
           obtain ⟨a,c,rfl⟩:=ao
           simp only [aT.val.injEq] at he
           exact nothing _ _ rfl he.1.symm he.2.symm
         · simp only [Rel] at ao
           simp only [aT.val.injEq] at he
           exact nothing _ _ ao he.1.symm he.2.symm
   | _=>rw [bD] at ar;cases ar
theorem RJ {E:Env} {t:TypeId} {aL:kL} {x v:V} {X:Value} {ty:TypeId} (aC:aX P t=some aL) (aQ:Eg aL.a_=true) (he:B' x=some v) (ao:Rel E x X) (w:World):
 ∃Z,(Builtin.cap_ #[t] ty #[X]).run P w=.ok Z w∧Rel E v Z:=by
 cases bD:aL.a_ with
 | slice e=>
   have hu:∀w,(underlying t).run P w=.ok (.slice e) w:=fun w=>by have:=eB aC w;rw [bD] at this;exact this
   cases x<;>simp only [B'] at he<;>try (cases he;done)
   · simp only [Rel] at ao
     obtain ⟨p,_,_,rfl⟩:=ao
     cases he
     refine ⟨_,?_,rfl⟩
     simp [Builtin.cap_,Sem.run_bind,hu,Result.andThen_ok,Sem.run_pure]
     rfl
   · simp only [Rel] at ao
     subst ao
     cases he
     refine ⟨_,?_,rfl⟩
     simp [Builtin.cap_,Sem.run_bind,hu,Result.andThen_ok,Sem.run_pure]
     rfl
 | _=>rw [bD] at aQ;cases aQ
theorem wV {α:Type} (a:Array α):a.toList.toArray=a:=by simp
theorem OU {aw:Fr} {E:Env} {h aa:ae} {w:World} (s:aW aw E h w) {b:Builtin} {cc:Array TypeId} {args:List V} {xs:List Value} {v:V} {ty:TypeId} {cs:Array Bool} (ai:aY E args xs)
 (he:(n2 P b cc.toList).run args h=.val v aa):∃m:Sem Value,Go.builtin b cc ty cs xs.toArray=(do pure (.value (←m)))∧cE aw P E w m v aa:=by
 have one:∀{x:V},aY E [x] xs→∃X,xs=[X]∧Rel E x X:=by
  intro x h
  simp only [aY] at h
  obtain ⟨y,b2,rfl,aZ,rfl⟩:=h
  exact ⟨y,rfl,aZ⟩
 have two:∀{x y:V},aY E [x,y] xs→∃X Y,xs=[X,Y]∧Rel E x X∧Rel E y Y:=by
  intro x y h
  simp only [aY] at h
  obtain ⟨X,_,rfl,cO,Y,_,rfl,er,rfl⟩:=h
  exact ⟨X,Y,rfl,cO,er⟩
 cases b<;>simp only [n2] at he<;>try (simp [eQ.none] at he;done)
 · -- append
   cases ev:cc.toList with
   | nil=>rw [ev] at he;simp [eQ.none] at he
   | cons t o4=>
     rw [ev] at he
     cases o4 with
     | nil=>simp [eQ.none] at he
     | cons u acy=>
       cases acy with
       | cons _ _=>simp [eQ.none] at he
       | nil=>
         simp only at he
         match args,he,ai with
         | [x,y],he,ai=>
           obtain ⟨X,Y,rfl,cO,er⟩:=two ai
           have e:cc=#[t,u]:=by rw [←wV cc,ev]
           exact ⟨_,rfl,by rw [e];exact Oa s he cO er⟩
         | [],he,_=>cases he
         | [_],he,_=>cases he
         | _::_::_::_,he,_=>cases he
 · -- cap
   cases ev:cc.toList with
   | nil=>rw [ev] at he;simp [eQ.none] at he
   | cons t o4=>
     rw [ev] at he
     cases o4 with
     | cons _ _=>simp [eQ.none] at he
     | nil=>
       simp only at he
       cases aC:aX P t with
       | none=>rw [aC] at he;simp [eQ.none] at he
       | some aL=>
         rw [aC] at he
         simp only at he
         cases aQ:Eg aL.a_ with
         | false=>rw [aQ] at he;simp [eQ.none] at he
         | true=>
           rw [aQ] at he
           simp only [cond_true] at he
           match args,he,ai with
           | [x],he,ai=>
             obtain ⟨X,rfl,cO⟩:=one ai
             have e:cc=#[t]:=by rw [←wV cc,ev]
             obtain ⟨dC,rfl⟩:=aT.gJ he
             obtain ⟨Z,eD,cl⟩:=RJ (P:=P) (ty:=ty) aC aQ dC cO w
             exact ⟨_,rfl,by rw [e];exact cE.plain s eD cl⟩
           | [],he,_=>cases he
           | _::_::_,he,_=>cases he
 · -- clear
   cases ev:cc.toList with
   | nil=>rw [ev] at he;simp [eQ.none] at he
   | cons t o4=>
     rw [ev] at he
     cases o4 with
     | cons _ _=>simp [eQ.none] at he
     | nil=>
       simp only at he
       cases ar:u3 P t with
       | none=>rw [ar] at he;simp [eQ.none] at he
       | some z=>
         rw [ar] at he
         simp only at he
         match args,he,ai with
         | [x],he,ai=>
           obtain ⟨X,rfl,cO⟩:=one ai
           have e:cc=#[t]:=by rw [←wV cc,ev]
           exact ⟨_,rfl,by rw [e];exact R7 s ar he cO⟩
         | [],he,_=>cases he
         | _::_::_,he,_=>cases he
 · -- copy
   cases ev:cc.toList with
   | nil=>rw [ev] at he;simp [eQ.none] at he
   | cons t o4=>
     rw [ev] at he
     simp only at he
     match args,he,ai with
     | [x,y],he,ai=>
       obtain ⟨X,Y,rfl,cO,er⟩:=two ai
       have e:cc=(t::o4).toArray:=by rw [←wV cc,ev]
       exact ⟨_,rfl,by rw [e];exact Sn s he cO er⟩
     | [],he,_=>cases he
     | [_],he,_=>cases he
     | _::_::_::_,he,_=>cases he
 · -- len
   cases ev:cc.toList with
   | nil=>rw [ev] at he;simp [eQ.none] at he
   | cons t o4=>
     rw [ev] at he
     cases o4 with
     | cons _ _=>simp [eQ.none] at he
     | nil=>
       simp only at he
       cases aC:aX P t with
       | none=>rw [aC] at he;simp [eQ.none] at he
       | some aL=>
         rw [aC] at he
         simp only at he
         match args,he,ai with
         | [x],he,ai=>
           obtain ⟨X,rfl,cO⟩:=one ai
           have e:cc=[t].toArray:=by rw [←wV cc,ev]
           cases hm:pS aL.a_ with
           | true=>
             rw [hm] at he
             exact ⟨_,rfl,by rw [e];exact YO s aC hm cO ty [] he⟩
           | false=>
             rw [hm] at he
             simp only [cond_false] at he
             obtain ⟨dC,rfl⟩:=aT.gJ he
             obtain ⟨Z,eD,cl⟩:=YP (P:=P) aC dC cO ty [] w
             exact ⟨_,rfl,by rw [e];exact cE.plain s eD cl⟩
         | [],he,_=>cases hm:pS aL.a_<;>rw [hm] at he<;>cases he
         | _::_::_,he,_=>cases hm:pS aL.a_<;>rw [hm] at he<;>cases he
 · -- max
   obtain ⟨dC,rfl⟩:=aT.gJ he
   clear he
   cases args with
   | nil=>cases dC
   | cons x args=>
     simp only [ij] at dC
     obtain ⟨k,a,rfl,U⟩:=hK dC
     simp only [aY] at ai
     obtain ⟨X,b2,rfl,cO,ai⟩:=ai
     have:=cO.hq;subst this
     obtain ⟨Z,eD,cl⟩:=E4 (P:=P) false args b2 k a v ai U w
     exact ⟨_,rfl,cE.plain (Z:=Z) s (by simpa [Builtin.max_] using eD) cl⟩
 · -- min
   obtain ⟨dC,rfl⟩:=aT.gJ he
   clear he
   cases args with
   | nil=>cases dC
   | cons x args=>
     simp only [ij] at dC
     obtain ⟨k,a,rfl,U⟩:=hK dC
     simp only [aY] at ai
     obtain ⟨X,b2,rfl,cO,ai⟩:=ai
     have:=cO.hq;subst this
     obtain ⟨Z,eD,cl⟩:=E4 (P:=P) true args b2 k a v ai U w
     exact ⟨_,rfl,cE.plain (Z:=Z) s (by simpa [Builtin.min_] using eD) cl⟩
end
end Go.Proofs.YtkehcalakofigaaGreatDoor.a1
namespace Go.Proofs.YtkehcalakofigaaGreatDoor.a1
variable [Lay]
open Go Go.RowKit
section
variable {P:Program}
def dJ (P:Program):Prop:=∀(f:FuncId) (fn:Func),P.funcs[f]? =some fn→(fn.name == "runtime.NumGoroutine")=false
theorem qe (bw:dJ P) {f:FuncId} {fn:Func} (ax:P.funcs[f]? =some fn) (af:fn.body.isSome=true) (args:Array Value) (w:World):(callFunc f args).run P w=.ok (.enter f args) w:=by
 have fA:fn.body.isNone=false:=by cases h:fn.body with | none=>rw [h] at af;cases af | some c=>rfl
 simp only [callFunc,Sem.run_bind,run_program,Result.andThen_ok,ax]
 rw [if_neg (by rw [bw f fn ax];simp)]
 simp [fA]
theorem Ev {α β:Type} (f:α→β) (a:Array α):a.map f=(a.toList.map f).toArray:=by
 apply Array.ext'
 simp
theorem E2 (ρ:Operand→Value) (ba:Array (Nat × Operand)):(ba.map fun (i,x)=>(i,ρ x))=(ba.toList.map fun (i,x)=>(i,ρ x)).toArray:=by
 apply Array.ext'
 simp
theorem Ot {E:Env} {t qn:TypeId} {aL:kL} {ok:Bool} {x v:V} {X:Value} (aC:aX P t=some aL) (af:Nat.beq (dW aL.a_) 5=false) (ao:Rel E x X)
 (he:uR t aL.zero ok x=some v) (w:World):∃Z,(Instr.typeAssert X qn t ok).run P w=.ok Z w∧Rel E v Z:=by
 have hu:=eB aC w
 have nj:∀ms,aL.a_≠.interface ms:=fun ms e=>by rw [e] at af;simp [dW] at af
 have zero:∀z,aL.zero=some z→∃x,(zeroValue t).run P w=.ok x w∧Rel E z x:=fun z bq=>by
  obtain ⟨x,U,ad,_⟩:=ud (P:=P) aC bq E w
  exact ⟨x,U,ad⟩
 unfold uR at he
 cases x<;>simp only at he<;>try (cases he;done)
 case iface u y=>
  simp only [Rel] at ao
  obtain ⟨Y,rfl,er⟩:=ao
  rw [fK] at he
  by_cases tu:u=t
  · rw [if_pos tu] at he
    simp only [Option.some.injEq] at he
    subst tu
    cases ok with
    | true=>
      simp only [cond_true] at he
      subst he
      refine ⟨.tuple #[Y,.bool true],?_,by simp only [Rel,aY];exact ⟨_,rfl,_,_,rfl,er,_,_,rfl,rfl,rfl⟩⟩
      simp only [Instr.typeAssert,Sem.run_bind,hu,Result.andThen_ok]
      cases bD:aL.a_<;>first
       | exact absurd bD (nj _)
       | (simp only [if_true];rfl)
    | false=>
      simp only [cond_false] at he
      subst he
      refine ⟨Y,?_,er⟩
      simp only [Instr.typeAssert,Sem.run_bind,hu,Result.andThen_ok]
      cases bD:aL.a_<;>first
       | exact absurd bD (nj _)
       | (simp only [if_true];rfl)
  · rw [if_neg tu] at he
    cases ok with
    | false=>cases he
    | true=>
      simp only [cond_true] at he
      cases bq:aL.zero with
      | none=>rw [bq] at he;cases he
      | some z=>
        rw [bq] at he
        simp only [Option.some.injEq] at he
        subst he
        obtain ⟨a8,cd,z2⟩:=zero z bq
        refine ⟨.tuple #[a8,.bool false],?_,by simp only [Rel,aY];exact ⟨_,rfl,_,_,rfl,z2,_,_,rfl,rfl,rfl⟩⟩
        simp only [Instr.typeAssert,Sem.run_bind,hu,Result.andThen_ok]
        cases bD:aL.a_<;>first
         | exact absurd bD (nj _)
         | (simp only [if_neg tu,if_true,Sem.run_bind,cd,Result.andThen_ok];rfl)
 case nilIface=>
  simp only [Rel] at ao
  subst ao
  cases ok with
  | false=>cases he
  | true=>
    simp only [cond_true] at he
    cases bq:aL.zero with
    | none=>rw [bq] at he;cases he
    | some z=>
      rw [bq] at he
      simp only [Option.some.injEq] at he
      subst he
      obtain ⟨a8,cd,z2⟩:=zero z bq
      refine ⟨.tuple #[a8,.bool false],?_,by simp only [Rel,aY];exact ⟨_,rfl,_,_,rfl,z2,_,_,rfl,rfl,rfl⟩⟩
      simp only [Instr.typeAssert,Sem.run_bind,hu,Result.andThen_ok]
      cases bD:aL.a_<;>first
       | exact absurd bD (nj _)
       | (simp only [if_true,Sem.run_bind,cd,Result.andThen_ok];rfl)
def fm (P:Program) (call:c9):Prop:=∀f args h v aa,call f args h=.val v aa→True
set_option maxHeartbeats 2000000 in
theorem HC {rd:Option Nat} {aw:Fr} {E:Env} {h aa:ae} {w:World} {call:c9} (bw:dJ P) (cm:ff P call) (cZ:fm P call) {o:Oper} {an:Nat} {r:bo} {a:Act} {v:V}
 (he:(eg P o).run call r h=.val v aa) (k:RegRel0 E an r a) (s:aW aw E h w) {K:Act→World→Prop} {Q:Exit→Act→World→Prop}
 (dd:∀av x al,E.le av→Rel av v x→aW aw av aa al→K (a.put o.dst x) al):o.wpIn (bS rd) 0 P a w K Q:=by
 obtain ⟨dst,op,type,pos,after,guard⟩:=o
 cases op<;>simp only [eg] at he<;>try (simp [cJ.none] at he;done)
 case move x=>
  simp only [aT.val.injEq] at he;obtain ⟨rfl,rfl⟩:=he
  exact e9 (m:=pure (a.eval x)) rfl (cE.plain s rfl (c_ k x)) dd
 case assign x=>
  simp only [aT.val.injEq] at he;obtain ⟨rfl,rfl⟩:=he
  exact e9 (m:=pure (a.eval x)) rfl (cE.plain s rfl (c_ k x)) dd
 case pick c x y=>
  have ar:=c_ k c
  generalize (bA c).run r=FT at he ar
  cases FT<;>simp only at he<;>try (cases he;done)
  rename_i t
  simp only [aT.val.injEq] at he;obtain ⟨rfl,rfl⟩:=he
  simp only [Rel] at ar
  refine e9 (m:=do pure (if ←asBool (a.eval c) then a.eval x else a.eval y)) (by simp only [execOp,bind_assoc,pure_bind]) (cE.plain (Z:=if t then a.eval x else a.eval y) s ?_ ?_) dd
  · rw [ar];rfl
  · cases t
    · exact c_ k y
    · exact c_ k x
 case alloc t=>
  cases aC:aX P t with
  | none=>rw [aC] at he;simp [cJ.none] at he
  | some aL=>
    rw [aC] at he
    simp only at he
    cases bq:aL.zero with
    | none=>rw [bq] at he;simp [cJ.none] at he
    | some z=>
      rw [bq] at he
      simp only at he
      cases a7:e8 h z.cells with
      | none=>rw [a7] at he;cases he
      | some U=>
        rw [a7] at he
        simp only [fV,aT.val.injEq] at he;obtain ⟨rfl,rfl⟩:=he
        obtain ⟨x,ao,nn,_⟩:=qo (P:=P) (E:=E) aC bq w
        obtain ⟨av,g1,g2,g3,g4⟩:=zg (P:=P) s nn a7 t
        have CA:(newRow t x.cells).run P w=.ok ⟨w.heap.size,0,none⟩ {w with heap:=w.heap.push (.cells x.cells t)}:=by simpa using g3
        have CB:aW aw av U {w with heap:=w.heap.push (.cells x.cells t)}:=by simpa using g4
        exact e9 (m:=Instr.alloc t true (.tuple #[])) rfl ⟨.pointer (some ⟨w.heap.size,0,none⟩),_,av,by simp only [Instr.alloc,Sem.run_bind,ao,Result.andThen_ok,newVar,CA,Sem.run_pure],g1,by simp only [Rel];exact ⟨_,g2,by simp⟩,CB⟩ dd
 case box t x=>
  obtain ⟨aD,he⟩:=iC he
  cases a7:e8 h ((bA x).run r).cells with
  | none=>rw [a7] at he;cases he
  | some U=>
    rw [a7] at he
    simp only [fV,aT.val.injEq] at he;obtain ⟨rfl,rfl⟩:=he
    have ai:=(c_ k x).cells (fun e=>by rw [e] at aD;cases aD)
    obtain ⟨av,g1,g2,g3,g4⟩:=zg (P:=P) s ai a7 t
    have CA:(newRow t (a.eval x).cells).run P w=.ok ⟨w.heap.size,0,none⟩ {w with heap:=w.heap.push (.cells (a.eval x).cells t)}:=by simpa using g3
    have CB:aW aw av U {w with heap:=w.heap.push (.cells (a.eval x).cells t)}:=by simpa using g4
    exact e9 (m:=Instr.box t (a.eval x)) rfl ⟨.pointer (some ⟨w.heap.size,0,none⟩),_,av,by simp only [Instr.box,Sem.run_bind,newVar,CA,Result.andThen_ok,Sem.run_pure],g1,by simp only [Rel];exact ⟨_,g2,by simp⟩,CB⟩ dd
 case build t ba=>
  obtain ⟨dC,rfl⟩:=aT.gJ he
  clear he
  obtain ⟨Z,eD,cl⟩:=OQ (P:=P) (zz k ba.toList) dC w
  refine e9 (m:=Instr.build t (ba.map fun (i,x)=>(i,a.eval x))) rfl (cE.plain (Z:=Z) s ?_ cl) dd
  rw [E2];exact eD
 case buildSlice t n ba=>
  refine e9 (m:=Instr.buildSlice t n (ba.map fun (i,x)=>(i,a.eval x))) rfl ?_ dd
  rw [E2]
  exact OS s (zz k ba.toList) he
 case load t x=>
  obtain ⟨dC,rfl⟩:=aT.gJ he
  clear he
  obtain ⟨Y,er,cl,_⟩:=KG (P:=P) s (c_ k x) dC
  exact e9 (m:=Instr.loadAt t (a.eval x)) rfl (cE.plain s er cl) dd
 case store t x y=>
  cases cf:(oY P t).run h ((bA x).run r) ((bA y).run r) with
  | none=>rw [cf] at he;cases he
  | some U=>
    rw [cf] at he
    simp only [fV,aT.val.injEq] at he;obtain ⟨rfl,rfl⟩:=he
    obtain ⟨al,cu,hp⟩:=ab2 (P:=P) s (c_ k x) (c_ k y) cf
    refine ⟨fun _ _=>trivial,?_⟩
    rw [mK (by intro c h;cases h)]
    have:execOp a.eval ⟨dst,.store t x y,type,pos,after,guard⟩=(do Instr.storeAt t (a.eval x) (a.eval y);pure .skip):=rfl
    rw [this,Sem.run_bind,cu]
    exact dd E undef al (Env.le.refl E) (by simp [Rel]) hp
 case nilCheck x=>
  obtain ⟨dC,rfl⟩:=aT.gJ he
  clear he
  have ao:=c_ k x
  generalize (bA x).run r=r_ at dC ao
  have dQ:∀X,Rel E r_ X→(match X with
   | .pointer none | .nilIface | .nilFunc=>(runtimePanic .nilDeref:Sem Next)
   | .func (.method name) first captured=>
     match (first[0]? :Option Value) with
     | some .nilIface=>runtimePanic .nilDeref
     | some (.iface t w)=>do
       if (←nilAhead ((←program).types.size+Made.depth) t w name) != some false then
        unsupported (.noEntry "op/nilCheck.the method's receiver behind this interface value is a nil pointer, or cannot be seen to be none, and the arguments act or may panic (ledger 612)")
       pure (.value (.func (.method name) first captured))
     | _=>pure (.value (.func (.method name) first captured))
   | x=>pure (.value x))=pure (.value X)∧v=r_:=by
   intro X cO
   cases r_<;>simp only [p1] at dC<;>try (cases dC;done)
   all_goals simp only [Option.some.injEq] at dC
   all_goals simp only [Rel] at cO
   · obtain ⟨p,_,rfl⟩:=cO;exact ⟨rfl,dC.symm⟩
   · rcases cO with ⟨_,_,rfl,_⟩ | ⟨_,_,_,_,_,rfl⟩<;>exact ⟨rfl,dC.symm⟩
   · obtain ⟨p,rfl,_⟩:=cO;exact ⟨rfl,dC.symm⟩
   · obtain ⟨_,p,rfl,_⟩:=cO;exact ⟨rfl,dC.symm⟩
  obtain ⟨U,rfl⟩:=dQ _ ao
  exact e9 (m:=pure (a.eval x)) (by simp only [execOp];rw [pure_bind];exact U) (cE.plain s rfl ao) dd
 case binOp op t x y u=>
  obtain ⟨dC,rfl⟩:=aT.gJ he
  clear he
  obtain ⟨Z,eD,cl⟩:=OK (P:=P) (hv:=x) (gh:=y) dC (c_ k x) (c_ k y) w
  exact e9 rfl (cE.plain s eD cl) dd
 case unOp op t x=>
  obtain ⟨dC,rfl⟩:=aT.gJ he
  clear he
  obtain ⟨Z,eD,cl⟩:=acI (P:=P) dC (c_ k x) w
  exact e9 (m:=Op.unary op (a.eval x)) rfl (cE.plain s eD cl) dd
 case convert t u x=>exact e9 (m:=convert t u (a.eval x)) rfl (Sk s he (c_ k x)) dd
 case makeInterface t x=>
  cases aC:aX P t with
  | none=>rw [aC] at he;simp [cJ.none] at he
  | some aL=>
    rw [aC] at he
    simp only at he
    cases af:Nat.beq (dW aL.a_) 5 with
    | true=>rw [af] at he;simp [cJ.none] at he
    | false=>
      rw [af] at he
      simp only [cond_false,aT.val.injEq] at he;obtain ⟨rfl,rfl⟩:=he
      refine e9 (m:=Instr.makeInterface t (a.eval x)) rfl (cE.plain (Z:=.iface t (a.eval x)) s ?_ ?_) dd
      · have hu:=eB aC w
        simp only [Instr.makeInterface,Sem.run_bind,hu,Result.andThen_ok]
        cases bD:aL.a_<;>first
         | rfl
         | (rw [bD] at af;simp [dW] at af)
      · simp only [Rel];exact ⟨_,rfl,c_ k x⟩
 case makeFunc fn first dO=>
  cases fn<;>simp only at he<;>try (simp [cJ.none] at he;done)
  rename_i f
  cases ax:(first.isEmpty&&!Nat.beq f cM) with
  | false=>
    rw [ax] at he
    simp only [cond_false] at he
    cases hn:(dO.isEmpty&&!Nat.beq f cM) with
    | false=>rw [hn] at he;simp [cJ.none] at he
    | true=>
      rw [hn] at he
      simp only [cond_true,aT.val.injEq] at he;obtain ⟨rfl,rfl⟩:=he
      simp only [Bool.and_eq_true,Bool.not_eq_true'] at hn
      have Db:f≠cM:=fun e=>by rw [e] at hn;exact absurd hn.2 (by decide)
      have C9:dO=#[]:=by simpa using hn.1
      subst C9
      refine e9 (m:=Instr.makeFunc (.func f) (first.map a.eval) #[]) (by simp [execOp]) (cE.plain s rfl ?_) dd
      simp only [Rel]
      exact ⟨Db,_,rfl,by rw [Ev];simpa using na k first.toList⟩
  | true=>
    rw [ax] at he
    simp only [cond_true,aT.val.injEq] at he;obtain ⟨rfl,rfl⟩:=he
    simp only [Bool.and_eq_true,Bool.not_eq_true'] at ax
    have Db:f≠cM:=fun e=>by rw [e] at ax;exact absurd ax.2 (by decide)
    have C9:first=#[]:=by simpa using ax.1
    subst C9
    refine e9 (m:=Instr.makeFunc (.func f) #[] (dO.map a.eval)) (by simp [execOp]) (cE.plain s rfl ?_) dd
    simp only [Rel]
    exact .inl ⟨Db,_,rfl,by rw [Ev];simpa using na k dO.toList⟩
 case makeSlice t l c=>exact e9 (m:=Instr.makeSlice t (a.eval l) (a.eval c)) rfl (Zc s (c_ k l) (c_ k c) he) dd
 case slice t x bJ aB dt=>
  obtain ⟨dC,rfl⟩:=aT.gJ he
  clear he
  obtain ⟨Z,eD,cl⟩:=abM (P:=P) dC (c_ k x) (zx k bJ) (zx k aB) (zx k dt) w
  exact e9 (m:=Instr.sliceAt t (a.eval x) (bJ.map a.eval) (aB.map a.eval) (dt.map a.eval)) rfl (cE.plain s eD cl) dd
 case fieldAddr t x i=>
  obtain ⟨dC,rfl⟩:=aT.gJ he
  clear he
  obtain ⟨Z,eD,cl⟩:=S_ (P:=P) dC (c_ k x) w
  exact e9 (m:=Instr.fieldAt t (a.eval x) i) rfl (cE.plain s eD cl) dd
 case field t x i=>
  obtain ⟨dC,rfl⟩:=aT.gJ he
  clear he
  obtain ⟨Z,eD,cl⟩:=Ta (P:=P) dC (c_ k x) w
  exact e9 (m:=Instr.field t (a.eval x) i) rfl (cE.plain s eD cl) dd
 case indexAddr t x i=>
  obtain ⟨dC,rfl⟩:=aT.gJ he
  clear he
  obtain ⟨Z,eD,cl⟩:=Wn (P:=P) dC (c_ k x) (c_ k i) w
  exact e9 (m:=Instr.indexAt t (a.eval x) (a.eval i)) rfl (cE.plain s eD cl) dd
 case index t x i=>
  obtain ⟨dC,rfl⟩:=aT.gJ he
  clear he
  obtain ⟨Z,eD,cl⟩:=Wp (P:=P) dC (c_ k x) (c_ k i) w
  exact e9 (m:=Instr.index t (a.eval x) (a.eval i)) rfl (cE.plain s eD cl) dd
 case range t x=>exact e9 (m:=Instr.range t (a.eval x)) rfl (aaR s (c_ k x) he) dd
 case next it tB=>
  cases tB with
  | true=>exact e9 (m:=Instr.next (a.eval it) true type) rfl (Zv s (c_ k it) he) dd
  | false=>exact e9 (m:=Instr.next (a.eval it) false type) rfl (Zt s (c_ k it) he) dd
 case entry it=>exact e9 (m:=Instr.entry (a.eval it)) rfl (SQ s (c_ k it) he) dd
 case lookup t x y ok=>
  obtain ⟨dC,rfl⟩:=aT.gJ he
  clear he
  obtain ⟨Z,eD,cl⟩:=Y7 (P:=P) s (c_ k x) (c_ k y) dC
  exact e9 (m:=Instr.lookup t (a.eval x) (a.eval y) ok) rfl (cE.plain s eD cl) dd
 case mapEntry t m y=>exact e9 (m:=Instr.mapEntry t (a.eval m) (a.eval y)) rfl (Ze s (c_ k m) (c_ k y) he) dd
 case entryStore t m st x=>
  cases cf:x1 h ((bA m).run r) ((bA st).run r) ((bA x).run r) with
  | none=>rw [cf] at he;cases he
  | some U=>
    rw [cf] at he
    simp only [fV,aT.val.injEq] at he;obtain ⟨rfl,rfl⟩:=he
    obtain ⟨al,cu,hp⟩:=SP (P:=P) (t:=t) s (c_ k m) (c_ k st) (c_ k x) cf
    refine ⟨fun _ _=>trivial,?_⟩
    rw [mK (by intro c h;cases h)]
    have:execOp a.eval ⟨dst,.entryStore t m st x,type,pos,after,guard⟩=(do Instr.entryStore t (a.eval m) (a.eval st) (a.eval x);pure .skip):=rfl
    rw [this,Sem.run_bind,cu]
    exact dd E undef al (Env.le.refl E) (by simp [Rel]) hp
 case mapUpdate t m y x=>
  cases cf:(lU P t).run h ((bA m).run r) ((bA y).run r) ((bA x).run r) with
  | none=>rw [cf] at he;cases he
  | some U=>
    rw [cf] at he
    simp only [fV,aT.val.injEq] at he;obtain ⟨rfl,rfl⟩:=he
    obtain ⟨al,cu,hp⟩:=MW (P:=P) s (c_ k m) (c_ k y) (c_ k x) cf
    refine ⟨fun _ _=>trivial,?_⟩
    rw [mK (by intro c h;cases h)]
    have:execOp a.eval ⟨dst,.mapUpdate t m y x,type,pos,after,guard⟩=(do Instr.mapUpdate t (a.eval m) (a.eval y) (a.eval x);pure .skip):=rfl
    rw [this,Sem.run_bind,cu]
    exact dd E undef al (Env.le.refl E) (by simp [Rel]) hp
 case insert t m y x=>
  cases cf:(lU P t).run h ((bA m).run r) ((bA y).run r) ((bA x).run r) with
  | none=>rw [cf] at he;cases he
  | some U=>
    rw [cf] at he
    simp only [fV,aT.val.injEq] at he;obtain ⟨rfl,rfl⟩:=he
    obtain ⟨al,cu,hp⟩:=MW (P:=P) s (c_ k m) (c_ k y) (c_ k x) cf
    refine ⟨fun _ _=>trivial,?_⟩
    rw [mK (by intro c h;cases h)]
    have:execOp a.eval ⟨dst,.insert t m y x,type,pos,after,guard⟩=(do Instr.mapUpdate t (a.eval m) (a.eval y) (a.eval x);pure .skip):=rfl
    rw [this,Sem.run_bind,cu]
    exact dd E undef al (Env.le.refl E) (by simp [Rel]) hp
 case makeMap t x=>exact e9 (m:=Instr.makeMap t (x.map a.eval)) rfl (Zb s (zx k x) he) dd
 case panic x=>
  exfalso
  unfold E1 at he
  split at he<;>cases he
 case typeAssert x qn t ok=>
  cases aC:aX P t with
  | none=>rw [aC] at he;simp [cJ.none] at he
  | some aL=>
    rw [aC] at he
    simp only at he
    cases af:Nat.beq (dW aL.a_) 5 with
    | true=>rw [af] at he;simp [cJ.none] at he
    | false=>
      rw [af] at he
      simp only [cond_false] at he
      obtain ⟨dC,rfl⟩:=aT.gJ he
      clear he
      obtain ⟨Z,eD,cl⟩:=Ot aC af (qn:=qn) (c_ k x) dC w
      exact e9 (m:=Instr.typeAssert (a.eval x) qn t ok) rfl (cE.plain s eD cl) dd
 case extract x i=>
  have ao:=c_ k x
  generalize (bA x).run r=r_ at he ao
  cases r_<;>simp only at he<;>try (cases he;done)
  obtain ⟨dC,rfl⟩:=aT.gJ he
  clear he
  simp only [Rel] at ao
  obtain ⟨arr,cO,ai⟩:=ao
  obtain ⟨y,aZ,cl⟩:=ai.get i v dC
  refine e9 (m:=Instr.extract (a.eval x) i) rfl (cE.plain (Z:=y) s ?_ cl) dd
  rw [cO]
  have:arr[i]? =some y:=by simpa using aZ
  simp only [Instr.extract,this,Sem.run_pure]
 case call c=>
  obtain ⟨callee,args,types⟩:=c
  cases callee with
  | invoke _ _=>simp [oa,cJ.none] at he
  | builtin b=>
    simp only [oa] at he
    obtain ⟨cs,gp⟩:∃cs,execOp a.eval ⟨dst,.call ⟨.builtin b,args,types⟩,type,pos,after,guard⟩=Go.builtin b types type cs (args.map a.eval):=by
     simp only [execOp,resolve,pure_bind,invoke]
     exact ⟨_,rfl⟩
    obtain ⟨m,hm,aD⟩:=OU (P:=P) (ty:=type) (cs:=cs) s (na k args.toList) he
    refine e9 (m:=m) ?_ aD dd
    rw [gp,←hm,Ev]
  | value f=>
    simp only [oa] at he
    have ax:=c_ k f
    generalize V0:(bA f).run r=r9 at he ax
    cases r9<;>simp only [V.tQ] at he<;>try (cases he;done)
    rotate_left
    · rename_i g cs
      simp only [Rel] at ax
      refine ⟨fun _ _=>trivial,?_⟩
      rw [mK (by intro c h;cases h)]
      obtain ⟨aD,first,cO,ai⟩:=ax
      have l_:=aY.append ai (na k args.toList)
      have mb:=cm.fn _ _ _ _ _ _ aD he E w _ l_ s
      have hex:execOp a.eval ⟨dst,.call ⟨.value f,args,types⟩,type,pos,after,guard⟩=callFunc g (first++args.map a.eval):=by
       simp only [execOp,resolve,cO,Deferred.ofValue,pure_bind,invoke]
       simp
      have e:first++args.map a.eval=(first.toList++args.toList.map a.eval).toArray:=by
       apply Array.ext';simp
      rw [hex,e]
      rcases mb with ⟨⟨fn,gq,af⟩,ar⟩ | ⟨av,x,al,aG,aj,ay,aK⟩
      case inr=>
       rw [aG]
       exact dd av x al aj ay aK
      rw [qe bw gq af]
      refine ⟨fun h=>by simp at h,pq.2 (ar.mono fun e al aF=>?_)⟩
      obtain ⟨av,x,rfl,aj,ay,aK⟩:=aF
      exact dd av x al aj ay aK
    rename_i g cs
    simp only [Rel] at ax
    refine ⟨fun _ _=>trivial,?_⟩
    rw [mK (by intro c h;cases h)]
    rcases ax with ⟨aD,dO,cO,ai⟩ | ⟨aD,b,p,gp,ah,cO⟩
    · have l_:=(na k args.toList).append ai
      have mb:=cm.fn _ _ _ _ _ _ aD he E w _ l_ s
      have hex:execOp a.eval ⟨dst,.call ⟨.value f,args,types⟩,type,pos,after,guard⟩=callFunc g (args.map a.eval++dO):=by
       simp only [execOp,resolve,cO,Deferred.ofValue,pure_bind,invoke]
       simp
      have e:args.map a.eval++dO=(args.toList.map a.eval++dO.toList).toArray:=by
       apply Array.ext';simp
      rw [hex,e]
      rcases mb with ⟨⟨fn,gq,af⟩,ar⟩ | ⟨av,x,al,aG,aj,ay,aK⟩
      case inr=>
       rw [aG]
       exact dd av x al aj ay aK
      rw [qe bw gq af]
      refine ⟨fun h=>by simp at h,pq.2 (ar.mono fun e al aF=>?_)⟩
      obtain ⟨av,x,rfl,aj,ay,aK⟩:=aF
      exact dd av x al aj ay aK
    · subst aD gp
      obtain ⟨sQ,tmps,assign,body,aj,ay⟩:=cm.Na _ _ _ _ _ _ he E w _ p (na k args.toList) s ah
      have hex:execOp a.eval ⟨dst,.call ⟨.value f,args,types⟩,type,pos,after,guard⟩=Instr.yield p.bd (args.map a.eval):=by
       simp only [execOp,resolve,cO,Deferred.ofValue,pure_bind,invoke]
       simp
      have e:args.map a.eval=(args.toList.map a.eval).toArray:=by
       apply Array.ext';simp
      rw [hex,e,aj]
      refine ⟨fun h=>by simp at h,RoundIn.mono ay fun e al aF=>?_⟩
      obtain ⟨av,x,rfl,bt,cW,bQ⟩:=aF
      exact dd av x al bt cW bQ
end
end Go.Proofs.YtkehcalakofigaaGreatDoor.a1
namespace Go.Proofs.YtkehcalakofigaaGreatDoor.a1
variable [Lay]
open Go Go.RowKit
section
variable {P:Program}
theorem CG {E:Env} {an:Nat} {r:bo} {a:Act} (k:RegRel0 E an r a) {all:Array Oper} {j:Nat} {g:Oper} {d:Nat} (bH:all[j]? =some g) (aV:g.dst=some d) (C1:d<an) (q5:d≤top):
 (∀b,T.get .bad (aH d) r=.bool b→yielded all a.tmps j=some b)∧(∀ab,T.get .bad (aH d) r=.tuple ab→yielded all a.tmps j=none):=by
 have aG:=k.aq d q5
 have aN:d<a.tmps.size:=by rw [k.size];exact C1
 have he:a.tmps[d]? =some (a.tmps.getD d undef):=by simp [Array.getD_eq_getD_getElem?,aN]
 refine ⟨fun b af=>?_,fun ab af=>?_⟩
 · rw [af] at aG
   simp only [Rel] at aG
   simp only [yielded,bH,Option.bind,aV,he,aG]
 · rw [af] at aG
   simp only [Rel] at aG
   obtain ⟨arr,aG,_⟩:=aG
   simp only [yielded,bH,Option.bind,aV,he,aG]
theorem Hz {rd:Option Nat} {aw:Fr} {E:Env} {h aa:ae} {w:World} {call:c9} (bw:dJ P) (cm:ff P call) {o:Oper} {an:Nat} {r:bo} {a:Act} {v:V} (hm:js o.op=true)
 (he:(eg P o).run call r h=.cb v aa) (k:RegRel0 E an r a) (s:aW aw E h w) {K:Act→World→Prop} {Q:Exit→Act→World→Prop}
 (cS:∀av x al,E.le av→Rel av v x→aW aw av aa al→Q (.panic (mF x)) a al):o.wpIn (bS rd) 0 P a w K Q:=by
 obtain ⟨dst,op,type,pos,after,guard⟩:=o
 cases op<;>simp only [js] at hm<;>try (cases hm;done)
 all_goals simp only [eg] at he
 case panic x=>
  have ao:=c_ k x
  generalize (bA x).run r=r_ at he ao
  unfold E1 at he
  cases r_<;>simp only at he<;>try (cases he;done)
  simp only [aT.cb.injEq] at he
  obtain ⟨rfl,rfl⟩:=he
  have vM:=ao
  simp only [Rel] at ao
  obtain ⟨Y,cO,er⟩:=ao
  refine ⟨fun _ _=>trivial,?_⟩
  rw [mK (by intro c h;cases h)]
  have hex:(execOp a.eval ⟨dst,.panic x,type,pos,after,guard⟩).run P w=.halt (.panic (a.eval x)) w:=by
   simp only [execOp,cO,Instr.panic,Sem.run_bind]
   rfl
  rw [hex]
  exact cS E _ w (Env.le.refl E) vM s
 case call c=>
  obtain ⟨callee,args,types⟩:=c
  cases callee<;>simp only at hm<;>try (cases hm;done)
  rename_i f
  simp only [oa] at he
  have ax:=c_ k f
  generalize V0:(bA f).run r=r9 at he ax
  cases r9<;>simp only [V.tQ] at he<;>try (cases he;done)
  rotate_left
  · rename_i g cs
    simp only [Rel] at ax
    refine ⟨fun _ _=>trivial,?_⟩
    rw [mK (by intro c h;cases h)]
    obtain ⟨aD,first,cO,ai⟩:=ax
    have l_:=aY.append ai (na k args.toList)
    obtain ⟨⟨fn,gq,af⟩,ar⟩:=cm.cb _ _ _ _ _ _ aD he E w _ l_ s
    have hex:execOp a.eval ⟨dst,.call ⟨.value f,args,types⟩,type,pos,after,guard⟩=callFunc g (first++args.map a.eval):=by
     simp only [execOp,resolve,cO,Deferred.ofValue,pure_bind,invoke]
     simp
    have e:first++args.map a.eval=(first.toList++args.toList.map a.eval).toArray:=by
     apply Array.ext';simp
    rw [hex,e,qe bw gq af]
    refine ⟨fun h=>by simp at h,pq.2 (ar.mono fun e al aF=>?_)⟩
    obtain ⟨av,x,rfl,aj,ay,aK⟩:=aF
    exact cS av x al aj ay aK
  rename_i g cs
  simp only [Rel] at ax
  refine ⟨fun _ _=>trivial,?_⟩
  rw [mK (by intro c h;cases h)]
  rcases ax with ⟨aD,dO,cO,ai⟩ | ⟨aD,b,p,gp,ah,cO⟩
  · have l_:=(na k args.toList).append ai
    obtain ⟨⟨fn,gq,af⟩,ar⟩:=cm.cb _ _ _ _ _ _ aD he E w _ l_ s
    have hex:execOp a.eval ⟨dst,.call ⟨.value f,args,types⟩,type,pos,after,guard⟩=callFunc g (args.map a.eval++dO):=by
     simp only [execOp,resolve,cO,Deferred.ofValue,pure_bind,invoke]
     simp
    have e:args.map a.eval++dO=(args.toList.map a.eval++dO.toList).toArray:=by
     apply Array.ext';simp
    rw [hex,e,qe bw gq af]
    refine ⟨fun h=>by simp at h,pq.2 (ar.mono fun e al aF=>?_)⟩
    obtain ⟨av,x,rfl,aj,ay,aK⟩:=aF
    exact cS av x al aj ay aK
  · subst aD
    exact absurd he (cm.Nb _ _ _ _)
def kJ (aw:Fr) (E:Env) (an:Nat) (K:Act→World→Prop) (Q:Exit→Act→World→Prop):lf→Prop
 | .ok r h=>∀av bf al,E.le av→ep av an r bf→aW aw av h al→K bf al
 | .cb v r h=>∀av bf al x,E.le av→ep av an r bf→Rel av v x→aW aw av h al→Q (.panic (mF x)) bf al
 | .fail=>False
theorem kJ.up {aw:Fr} {E av:Env} (h:E.le av) {an:Nat} {K:Act→World→Prop} {Q:Exit→Act→World→Prop} {x:lf} (k:kJ aw E an K Q x):kJ aw av an K Q x:=by
 cases x with
 | ok r a6=>exact fun bN a w ad=>k bN a w (h.trans ad)
 | cb v r a6=>exact fun bN a w x ad=>k bN a w x (h.trans ad)
 | fail=>exact k
theorem Lh {rd:Option Nat} {aw:Fr} {E:Env} {h:ae} {w:World} {call:c9} (bw:dJ P) (cm:ff P call) (cZ:fm P call) {all:Array Oper} {i:Nat} {o:Oper} (aB:all[i]? =some o) {an:Nat} {r:bo} {a:Act}
 (aV:ei an o.dst=true) (k:ep E an r a) (s:aW aw E h w) {K:Act→World→Prop} {Q:Exit→Act→World→Prop} (hw:Region.wanted o (yielded all a.tmps)=true)
 (ah:kJ aw E an K Q (zw (js o.op) (eg P o) (eA o.dst) call r h)):wpOpIn (bS rd) 0 P all Q i K a w:=by
 simp only [wpOpIn,aB,hw,if_true]
 unfold zw at ah
 cases aP:(eg P o).run call r h with
 | fail=>rw [aP] at ah;exact ah.elim
 | val v U=>
   rw [aP] at ah
   exact HC bw cm cZ aP k.toRegRel0 s fun av x al aj ay aK=>ah av _ al aj ((k.mono aj).put aV ay) aK
 | cb v U=>
   rw [aP] at ah
   simp only at ah
   cases hm:js o.op with
   | false=>rw [hm] at ah;exact ah.elim
   | true=>
     rw [hm] at ah
     exact Hz bw cm hm aP k.toRegRel0 s fun av x al aj ay aK=>ah av a al x aj (k.mono aj) ay aK
theorem MV {rd:Option Nat} {aw:Fr} {E:Env} {h:ae} {w:World} {all:Array Oper} {i:Nat} {o:Oper} (aB:all[i]? =some o) {an:Nat} {r:bo} {a:Act}
 (aV:ei an o.dst=true) (k:ep E an r a) (s:aW aw E h w) {K:Act→World→Prop} {Q:Exit→Act→World→Prop} (hw:Region.wanted o (yielded all a.tmps)=false)
 (ah:kJ aw E an K Q (.ok ((eA o.dst).run r (.tuple [])) h)):wpOpIn (bS rd) 0 P all Q i K a w:=by
 simp only [wpOpIn,aB,hw,Bool.false_eq_true,if_false]
 exact ⟨fun _ _=>trivial,ah E _ w (Env.le.refl E) (k.put aV (by simp only [Rel];exact ⟨#[],rfl,rfl⟩)) s⟩
theorem zv {rd:Option Nat} {aw:Fr} {E:Env} {h:ae} {w:World} {call:c9} (bw:dJ P) (cm:ff P call) (cZ:fm P call) {all:Array Oper} {i:Nat} {o:Oper} (aB:all[i]? =some o) {an:Nat} {r:bo} {a:Act}
 (aV:ei an o.dst=true) (k:ep E an r a) (s:aW aw E h w) {K:Act→World→Prop} {Q:Exit→Act→World→Prop}
 (ah:kJ aw E an K Q ((tS P an all o).run call r h)):wpOpIn (bS rd) 0 P all Q i K a w:=by
 unfold tS at ah
 cases aD:o.guard with
 | none=>
   rw [aD] at ah
   exact Lh bw cm cZ aB aV k s (by simp [Region.wanted,aD]) ah
 | some mw=>
   obtain ⟨j,want⟩:=mw
   rw [aD] at ah
   simp only at ah
   cases bH:all[j]? with
   | none=>rw [bH] at ah;exact ah.elim
   | some g=>
     rw [bH] at ah
     simp only at ah
     cases h9:g.dst with
     | none=>rw [h9] at ah;exact ah.elim
     | some d=>
       rw [h9] at ah
       simp only at ah
       cases ar:(Nat.blt d an&&Nat.ble d top) with
       | false=>rw [ar] at ah;exact ah.elim
       | true=>
         rw [ar] at ah
         simp only [cond_true,II,lr] at ah
         simp only [Bool.and_eq_true,Nat.blt_eq,Nat.ble_eq] at ar
         obtain ⟨g1,g2⟩:=CG k.toRegRel0 bH h9 ar.1 ar.2
         cases bx:T.get .bad (aH d) r<;>rw [bx] at ah<;>simp only at ah<;>try (exact ah.elim)
         · rename_i b
           have aZ:=g1 b bx
           cases af:(bif want then b else !b) with
           | true=>
             rw [af] at ah
             simp only [cond_true] at ah
             refine Lh bw cm cZ aB aV k s ?_ ah
             simp only [Region.wanted,aD,aZ]
             cases want<;>cases b<;>simp_all
           | false=>
             rw [af] at ah
             simp only [cond_false] at ah
             refine MV aB aV k s ?_ ah
             simp only [Region.wanted,aD,aZ]
             cases want<;>cases b<;>simp_all
         · rename_i ab
           have aZ:=g2 ab bx
           refine MV aB aV k s ?_ ah
           simp only [Region.wanted,aD,aZ]
           rfl
theorem iY.list {E:Env} {v:V} {ds:List Deferred} (k:iY E v ds):kF E v.list ds:=by
 cases v<;>first
  | exact k
theorem aad {rd:Option Nat} {aw:Fr} {E:Env} {h:ae} {w:World} {call:c9} (bw:dJ P) (cm:ff P call) (cZ:fm P call) {all:Array Oper} {i:Nat} {o:Oper} (aB:all[i]? =some o) {an:Nat} {r:bo} {a:Act}
 (aG:rd=none∨EK o=true) (k:ep E an r a) (s:aW aw E h w) {K:Act→World→Prop} {Q:Exit→Act→World→Prop}
 (ah:kJ aw E an K Q ((zu P an all o).run call r h)):wpOpIn (bS rd) 0 P all Q i K a w:=by
 unfold zu at ah
 cases aV:ei an o.dst with
 | false=>rw [aV] at ah;exact ah.elim
 | true=>
   rw [aV] at ah
   simp only [cond_true] at ah
   obtain ⟨dst,op,type,pos,after,guard⟩:=o
   cases op with
   | defer c=>
     rcases aG with rfl | aG
     case inr=>cases aG
     simp only at ah
     cases guard with
     | some _=>exact ah.elim
     | none=>
       simp only at ah
       obtain ⟨callee,args,types⟩:=c
       simp only [HK] at ah
       cases callee<;>simp only at ah<;>try (exact ah.elim)
       rename_i f
       unfold HL at ah
       have ax:=c_ k.toRegRel0 f
       generalize (bA f).run r=r9 at ah ax
       cases r9<;>simp only at ah<;>try (exact ah.elim)
       rename_i g cs
       cases aZ:Nat.beq g cM with
       | true=>rw [aZ] at ah;exact ah.elim
       | false=>
         rw [aZ] at ah
         simp only [cond_false] at ah
         have yB:g≠cM:=fun e=>by rw [e] at aZ;exact absurd aZ (by decide)
         simp only [Rel] at ax
         rcases ax with ⟨_,dO,cO,ai⟩ | ⟨aD,_⟩
         case inr=>exact absurd aD yB
         simp only [wpOpIn,aB,Region.wanted,if_true]
         refine ⟨fun _ _=>trivial,?_⟩
         have hex:((Oper.mk dst (.defer ⟨.value f,args,types⟩) type pos after none).semAt (bS none).round a.eval).run P w=.ok (.defer {target:=.fn (.func g) dO,args:=#[]++args.map a.eval}) w:=by
          simp only [Oper.semAt_none,execOp,resolve,cO,Deferred.ofValue,pure_bind]
          rfl
         rw [hex]
         refine ah E _ w (Env.le.refl E) (ep.put ?_ aV (by simp only [Rel];exact ⟨#[],rfl,rfl⟩)) s
         refine ⟨⟨k.size,fun t aC=>?_⟩,?_⟩
         rotate_left
         · rw [T.gn,if_pos rfl]
           simp only [iY,kF]
           refine ⟨_,_,rfl,⟨yB,dO,rfl,?_⟩,k.defers.list⟩
           have:=(na k.toRegRel0 args.toList).append ai
           simpa using this
         · rw [T.gn,if_neg (fun e=>rQ aC e.symm)]
           exact k.aq t aC
   | binOp op t x y u=>
     simp only at ah
     cases guard with
     | some g=>exact zv bw cm cZ aB aV k s ah
     | none=>
       simp only at ah
       cases jg:zG P op t with
       | none=>rw [jg] at ah;exact zv bw cm cZ aB aV k s ah
       | some neg=>
         rw [jg] at ah
         simp only [LJ] at ah
         cases aF:lP h ((bA x).run r) ((bA y).run r) with
         | none=>rw [aF] at ah;exact zv bw cm cZ aB aV k s ah
         | some b=>
           rw [aF] at ah
           simp only [wpOpIn,aB,Region.wanted,if_true]
           obtain ⟨Z,eD,cl⟩:=aaB (P:=P) (hv:=x) (gh:=y) s jg aF (c_ k.toRegRel0 x) (c_ k.toRegRel0 y)
           exact e9 rfl (cE.plain s eD cl) fun av v al aj ay aK=>ah av _ al aj ((k.mono aj).put aV ay) aK
   | _=>exact zv bw cm cZ aB aV k s ah
theorem Li {rd:Option Nat} {aw:Fr} {call:c9} (bw:dJ P) (cm:ff P call) (cZ:fm P call) {all:Array Oper} {an:Nat} {Q:Exit→Act→World→Prop}:∀(l:List Oper) (i:Nat),(∀j,l[j]? =all[i+j]?)→(rd=none∨∀o ∈ l,EK o=true)→
 ∀(E:Env) (r:bo) (h:ae) (a:Act) (w:World),kJ aw E an (Q .normal) Q ((wz P an all l).run call r h)→ep E an r a→aW aw E h w→
 wpOpsIn (bS rd) 0 P all Q (List.range' i l.length) a w
 | [],i,_,_,E,r,h,a,w,ah,k,s=>by
   simp only [wz] at ah
   simp only [List.length_nil,List.range'_zero,wpOpsIn]
   exact ah E a w (Env.le.refl E) k s
 | o::os,i,ai,aG,E,r,h,a,w,ah,k,s=>by
   simp only [wz,Mm] at ah
   have aB:all[i]? =some o:=by have:=ai 0;simpa using this.symm
   rw [List.length_cons,List.range'_succ,wpOpsIn_cons]
   refine aad bw cm cZ aB (aG.imp id fun h=>h o (by simp)) k s ?_
   cases U:(zu P an all o).run call r h with
   | fail=>rw [U] at ah;exact ah
   | cb v bt ng=>rw [U] at ah;exact ah
   | ok bt ng=>
     rw [U] at ah
     simp only at ah
     intro av bf al aj ay aK
     refine Li bw cm cZ os (i+1) (fun j=>?_) (aG.imp id fun h bU fO=>h bU (by simp [fO])) av bt ng bf al (ah.up aj) ay aK
     have:=ai (j+1)
     simp only [List.getElem?_cons_succ] at this
     rw [this]
     congr 1
     omega
end
end Go.Proofs.YtkehcalakofigaaGreatDoor.a1
namespace Go.Proofs.YtkehcalakofigaaGreatDoor.a1
variable [Lay]
open Go Go.RowKit
theorem H_ {a b:V} (h:x3 a b=true):a=b:=by
 cases a<;>cases b<;>simp only [x3] at h<;>first
  | rfl
  | (cases h;done)
  | (rename_i x y;cases x<;>cases y<;>simp_all;done)
  | (rename_i k x l y
     simp only [Bool.and_eq_true] at h
     have U:=pt h.1
     have ad:=h.2
     rw [jD,beq_iff_eq] at ad
     rw [U,ad];done)
  | (rw [qH,beq_iff_eq] at h;rw [h];done)
  | (simp only [Bool.and_eq_true,Nat.beq_eq] at h
     obtain ⟨U,ad,aI,br⟩:=h
     rw [aO.jD U,ad,aI,br];done)
  | (simp only [Bool.and_eq_true,Nat.beq_eq] at h
     rw [aO.jD h.1,h.2];done)
  | (rw [aO.jD h];done)
  | (simp only [Bool.and_eq_true,Nat.beq_eq,List.isEmpty_iff] at h
     obtain ⟨U,ad,aI⟩:=h
     rw [U,ad,aI];done)
  | (simp only [Bool.and_eq_true,List.isEmpty_iff] at h
     rw [h.1,h.2];done)
theorem Cs {f:V→V→Bool} (ax:∀a b,f a b=true→a=b):∀{a b:List V},sM f a b=true→a=b
 | [],[],_=>rfl
 | [],_::_,h=>by cases h
 | _::_,[],h=>by cases h
 | a::x,b::y,h=>by
   simp only [sM] at h
   cases U:f a b with
   | false=>rw [U] at h;cases h
   | true=>
     rw [U] at h
     rw [ax a b U,Cs ax h]
theorem OI {c x:Bool} (h:(bif c then x else false)=true):c=true∧x=true:=by
 cases c with
 | false=>cases h
 | true=>exact ⟨rfl,h⟩
theorem Ia:∀(d:Nat) (a b:V),qS d a b=true→a=b
 | 0,a,b,h=>H_ h
 | d+1,a,b,h=>by
   have bh:=Ia d
   cases a<;>simp only [qS] at h<;>first
    | exact H_ h
    | (cases b<;>simp only at h<;>first
        | (cases h;done)
        | rfl
        | (rw [Cs bh h];done)
        | (obtain ⟨U,ad⟩:=OI h
           rw [Nat.beq_eq] at U
           rw [U]
           first
            | rw [Cs bh ad]
            | rw [bh _ _ ad]))
theorem Ct {a b:V} (h:va a b=true):a=b:=Ia 5 a b h
theorem uU (m i:Nat):eJ m i=m.testBit i:=by
 rw [Nat.testBit_eq_decide_div_mod_eq]
 unfold eJ
 have e:Nat.mod (Nat.shiftRight m i) 2=m / 2 ^ i % 2:=by
  show (m >>> i) % 2=_
  rw [Nat.shiftRight_eq_div_pow]
 rw [e,Bool.eq_iff_iff,Nat.beq_eq,decide_eq_true_eq]
theorem Ew {de:List Nat} {i:Nat}:∀{es:List Edge},eJ (pZ de es) i=true→∃e ∈ es,qI e=true∧(e.on=i∨eJ ((de[e.on]?).getD 0) i=true)
 | [],h=>by simp [pZ,uU] at h
 | e::es,h=>by
   simp only [pZ] at h
   cases af:qI e with
   | false=>
     rw [af] at h
     obtain ⟨cQ,U,ad⟩:=Ew (es:=es) h
     exact ⟨cQ,by simp [U],ad⟩
   | true=>
     rw [af] at h
     simp only [cond_true,uU] at h
     have aa:((1 <<< e.on||| (de[e.on]?).getD 0)||| pZ de es).testBit i=true:=h
     rw [Nat.testBit_or,Nat.testBit_or,Bool.or_eq_true,Bool.or_eq_true] at aa
     rcases aa with (U | U) | U
     · refine ⟨e,by simp,af,.inl ?_⟩
       rw [Nat.testBit_shiftLeft] at U
       simp only [Bool.and_eq_true,decide_eq_true_eq] at U
       have:=U.2
       rw [Nat.testBit_one_eq_true_iff_self_eq_zero] at this
       omega
     · exact ⟨e,by simp,af,.inr (by rw [uU];exact U)⟩
     · rw [←uU] at U
       obtain ⟨cQ,aj,ay⟩:=Ew (es:=es) U
       exact ⟨cQ,by simp [aj],ay⟩
def mQ (ops:Array Oper) (L:Nat→Prop):Prop:=∀k o e,L k→ops[k]? =some o→e ∈ o.after.toList→qI e=true→L e.on
theorem we {ops:Array Oper} {L:Nat→Prop} (py:mQ ops L):∀(os:List Oper) (de:List Nat),(∀j,os[j]? =ops[de.length+j]?)→
 (∀k m i,de[k]? =some m→eJ m i=true→L k→L i)→∀k m i,(dM de os)[k]? =some m→eJ m i=true→L k→L i
 | [],de,_,h,k,m,i,aA,af,cy=>h k m i aA af cy
 | o::os,de,lB,h,k,m,i,aA,af,cy=>by
   simp only [dM] at aA
   refine we py os (de++[pZ de o.after.toList]) (fun j=>?_) (fun k m i aA af cy=>?_) k m i aA af cy
   · have:=lB (j+1)
     simp only [List.getElem?_cons_succ] at this
     rw [this]
     congr 1
     simp
     omega
   · by_cases aN:k<de.length
     · rw [List.getElem?_append_left aN] at aA
       exact h k m i aA af cy
     · rw [List.getElem?_append_right (by omega)] at aA
       have vr:k-de.length=0:=by
        cases bq:k-de.length with
        | zero=>rfl
        | succ n=>rw [bq] at aA;simp at aA
       rw [vr] at aA
       simp only [List.getElem?_cons_zero,Option.some.injEq] at aA
       subst aA
       have yF:k=de.length:=by omega
       have aP:ops[k]? =some o:=by have:=lB 0;simp only [List.getElem?_cons_zero,Nat.add_zero] at this;rw [yF];exact this.symm
       obtain ⟨e,he,CV,ga⟩:=Ew af
       have IT:=py k o e cy aP he CV
       rcases ga with rfl | ga
       · exact IT
       · cases hm:de[e.on]? with
         | none=>rw [hm] at ga;simp [uU] at ga
         | some cK=>rw [hm] at ga;exact h e.on cK i hm ga IT
theorem mN {f:Nat→Nat→Oper→Bool}:∀{k:Nat} {ms:List Nat} {os:List Oper},kE f k ms os=true→∀j o,os[j]? =some o→∃m,ms[j]? =some m∧f (k+j) m o=true
 | _,_,[],_,j,o,h=>by simp at h
 | _,[],_::_,h,_,_,_=>by cases h
 | k,m::ms,bU::os,h,j,o,aP=>by
   simp only [kE,Bool.and_eq_true] at h
   cases j with
   | zero=>simp only [List.getElem?_cons_zero,Option.some.injEq] at aP;subst aP;exact ⟨m,rfl,h.1⟩
   | succ j=>
     obtain ⟨cK,U,ad⟩:=mN h.2 j o (by simpa using aP)
     exact ⟨cK,by simpa using U,by rw [show k + (j+1)=k+1+j from by omega];exact ad⟩
theorem F3 {f:Nat→Nat→Oper→Bool}:∀{k:Nat} {ms:List Nat} {os:List Oper},ms.length=os.length→(∀j m o,ms[j]? =some m→os[j]? =some o→f (k+j) m o=true)→kE f k ms os=true
 | _,[],[],_,_=>rfl
 | _,[],_::_,h,_=>by simp at h
 | _,_::_,[],h,_=>by simp at h
 | k,m::ms,o::os,h,ax=>by
   simp only [kE,Bool.and_eq_true]
   refine ⟨ax 0 m o rfl rfl,F3 (by simpa using h) fun j cK bU U ad=>?_⟩
   have:=ax (j+1) cK bU (by simpa using U) (by simpa using ad)
   rw [show k+1+j=k + (j+1) from by omega]
   exact this
theorem Ex:∀(os:List Oper) (de:List Nat),(dM de os).length=de.length+os.length
 | [],de=>rfl
 | o::os,de=>by simp [dM,Ex os];omega
section
variable {P:Program}
theorem HB {o:Oper} {call:c9} {r:bo} {h aa:ae} {v:V} (aF:dU P o.op=false) (he:(eg P o).run call r h=.val v aa):aa=h:=by
 obtain ⟨dst,op,type,pos,after,guard⟩:=o
 cases op<;>simp only [dU] at aF<;>try (cases aF;done)
 all_goals simp only [eg] at he
 case convert s d x=>
  unfold mV at he
  cases aQ:aX P s with
  | none=>rw [aQ] at he;cases he
  | some qg=>
    cases aV:aX P d with
    | none=>rw [aV] at aF;cases aF
    | some lo=>
      rw [aQ,aV] at he
      rw [aV] at aF
      simp only at he aF
      cases hu:lo.a_ with
      | int k=>
        rw [hu] at he
        obtain ⟨bl,n,_,U⟩:=wv he
        simp only [aT.val.injEq] at U
        exact U.2.symm
      | slice e=>rw [hu] at aF;cases aF
      | string=>
        rw [hu] at he
        simp only at he
        have other:∀x:V,(match x with
         | .str s=>aT.val (.str s) h
         | .int _ n=>.val (.str (Utf8.encode n).data.toList) h
         | _=>.fail)=.val v aa→aa=h:=by
         intro x he
         cases x<;>simp only at he<;>first
          | (cases he;done)
          | (simp only [aT.val.injEq] at he;exact he.2.symm)
        cases JK:qg.a_ with
        | slice e=>
          rw [JK] at he
          simp only at he
          cases b7:aX P e with
          | none=>rw [b7] at he;cases he
          | some bc=>
            rw [b7] at he
            simp only at he
            have ab5:∀b off len,qk b off len h=.val v aa→aa=h:=by
             intro b off len he
             unfold qk at he
             cases aD:h.get b<;>rw [aD] at he<;>simp only [bV.lR] at he<;>try (cases he;done)
             all_goals
              obtain ⟨_,ad⟩:=iC he
              cases VW:k7 (fN _ off len)<;>rw [VW] at ad<;>first
               | (cases ad;done)
               | (simp only [aT.val.injEq] at ad;exact ad.2.symm)
            cases et:bc.a_ with
            | int vW=>
              rw [et] at he
              cases vW<;>simp only at he<;>try (cases he;done)
              simp only [pr] at he
              cases ao:(bA x).run r<;>rw [ao] at he<;>simp only at he<;>first
               | (cases he;done)
               | exact ab5 _ _ _ he
               | (simp only [aT.val.injEq] at he;exact he.2.symm)
            | _=>rw [et] at he;cases he
        | _=>rw [JK] at he;exact other _ he
      | _=>rw [hu] at he;cases he
 case call c=>
  obtain ⟨callee,args,types⟩:=c
  cases callee<;>simp only at aF<;>try (cases aF;done)
  rename_i b
  simp only [oa] at he
  cases b<;>simp only at aF<;>try (cases aF;done)
  · simp only [n2] at he
    cases ev:types.toList with
    | nil=>rw [ev] at he;simp [eQ.none] at he
    | cons t cc=>
      cases cc with
      | cons _ _=>rw [ev] at he;simp [eQ.none] at he
      | nil=>
        rw [ev] at he
        simp only at he
        cases aC:aX P t with
        | none=>rw [aC] at he;simp [eQ.none] at he
        | some aL=>
          rw [aC] at he
          rw [ev] at aF
          simp only [Ef,aC] at aF
          simp only [aF,cond_false] at he
          split at he
          · exact (aT.gJ he).2
          · cases he
  · exact (aT.gJ he).2
  · exact (aT.gJ he).2
 case move=>simp only [aT.val.injEq] at he;exact he.2.symm
 case assign=>simp only [aT.val.injEq] at he;exact he.2.symm
 case pick c a b=>
  split at he
  · simp only [aT.val.injEq] at he;exact he.2.symm
  · cases he
 case makeFunc fn first dO=>
  cases fn<;>simp only at he<;>try (simp [cJ.none] at he;done)
  rename_i f
  cases ax:(first.isEmpty&&!Nat.beq f cM)<;>rw [ax] at he
  · simp only [cond_false] at he
    cases hn:(dO.isEmpty&&!Nat.beq f cM)<;>rw [hn] at he
    · simp [cJ.none] at he
    · simp only [cond_true,aT.val.injEq] at he;exact he.2.symm
  · simp only [cond_true,aT.val.injEq] at he;exact he.2.symm
 case typeAssert x qn t ok=>
  cases aC:aX P t with
  | none=>rw [aC] at he;simp [cJ.none] at he
  | some aL=>
    rw [aC] at he
    simp only at he
    cases af:Nat.beq (dW aL.a_) 5<;>rw [af] at he
    · exact (aT.gJ he).2
    · simp [cJ.none] at he
 case makeInterface t x=>
  cases aC:aX P t with
  | none=>rw [aC] at he;simp [cJ.none] at he
  | some aL=>
    rw [aC] at he
    simp only at he
    cases af:Nat.beq (dW aL.a_) 5<;>rw [af] at he
    · simp only [cond_false,aT.val.injEq] at he;exact he.2.symm
    · simp [cJ.none] at he
 case extract x i=>
  split at he
  · exact (aT.gJ he).2
  · cases he
 all_goals exact (aT.gJ he).2
theorem aT.rP {h aa:ae} {x:Option V} {v:V} (he:aT.of h x=.val v aa) (H:ae):aT.of H x=.val v H:=by
 rw [(aT.gJ he).1];rfl
theorem HA {o:Oper} {call:c9} {r:bo} {h aa:ae} {v:V} (aF:dU P o.op=false) (ai:looks o.op=false) (he:(eg P o).run call r h=.val v aa) (H:ae):(eg P o).run call r H=.val v H:=by
 obtain ⟨dst,op,type,pos,after,guard⟩:=o
 cases op<;>simp only [dU] at aF<;>try (cases aF;done)
 all_goals simp only [looks] at ai<;>try (cases ai;done)
 all_goals simp only [eg] at he ⊢
 case call c=>
  obtain ⟨callee,args,types⟩:=c
  cases callee<;>simp only at aF<;>try (cases aF;done)
  rename_i b
  simp only [oa] at he ⊢
  cases b<;>simp only at aF<;>try (cases aF;done)
  · simp only [n2] at he ⊢
    cases ev:types.toList with
    | nil=>rw [ev] at he;simp [eQ.none] at he
    | cons t cc=>
      cases cc with
      | cons _ _=>rw [ev] at he;simp [eQ.none] at he
      | nil=>
        rw [ev] at he
        simp only at he ⊢
        cases aC:aX P t with
        | none=>rw [aC] at he;simp [eQ.none] at he
        | some aL=>
          rw [aC] at he
          rw [ev] at aF
          simp only [Ef,aC] at aF
          simp only [aF,cond_false] at he ⊢
          split at he
          · exact aT.rP he H
          · cases he
  · exact aT.rP he H
  · exact aT.rP he H
 case move=>simp only [aT.val.injEq] at he;rw [he.1]
 case assign=>simp only [aT.val.injEq] at he;rw [he.1]
 case pick c a b=>
  split at he
  · simp only [aT.val.injEq] at he;rw [he.1]
  · cases he
 case makeFunc fn first dO=>
  cases fn<;>simp only at he ⊢<;>try (simp [cJ.none] at he;done)
  rename_i f
  cases ax:(first.isEmpty&&!Nat.beq f cM)<;>rw [ax] at he
  · simp only [cond_false] at he ⊢
    cases hn:(dO.isEmpty&&!Nat.beq f cM)<;>rw [hn] at he
    · simp [cJ.none] at he
    · simp only [cond_true,aT.val.injEq] at he ⊢;exact ⟨he.1,trivial⟩
  · simp only [cond_true,aT.val.injEq] at he ⊢;exact ⟨he.1,trivial⟩
 case typeAssert x qn t ok=>
  cases aC:aX P t with
  | none=>rw [aC] at he;simp [cJ.none] at he
  | some aL=>
    rw [aC] at he
    simp only at he ⊢
    cases af:Nat.beq (dW aL.a_) 5<;>rw [af] at he
    · exact aT.rP he H
    · simp [cJ.none] at he
 case makeInterface t x=>
  cases aC:aX P t with
  | none=>rw [aC] at he;simp [cJ.none] at he
  | some aL=>
    rw [aC] at he
    simp only at he ⊢
    cases af:Nat.beq (dW aL.a_) 5<;>rw [af] at he
    · simp only [cond_false,aT.val.injEq] at he ⊢;exact ⟨he.1,trivial⟩
    · simp [cJ.none] at he
 case extract x i=>
  split at he
  · exact aT.rP he H
  · cases he
 all_goals exact aT.rP he H
end
end Go.Proofs.YtkehcalakofigaaGreatDoor.a1
namespace Go.Proofs.YtkehcalakofigaaGreatDoor.a1
variable [Lay]
open Go Go.RowKit
section
variable {P:Program}
def Gl (P:Program) (E:Env) (m:Sem Value) (v:V) (h aa:ae):Prop:=
 ∃k,aa=h.new k∧True∧∀w,∃X p3,m.run P w=.ok X {w with heap:=w.heap.push p3}∧
  ∀av,E.le av→av (aH h.next)=some ⟨w.heap.size,0,0⟩→Rel av v X∧∀B,B≤w.heap.size→e' B av {w with heap:=w.heap.push p3} (aH h.next) k
theorem EE {E:Env} {h aa:ae} {ab:List V} {l:List Value} (ai:aY E ab l) (he:e8 h ab=some aa) (t:TypeId):
 ∃k,aa=h.new k∧True∧∀w,(newRow t l.toArray).run P w=.ok ⟨w.heap.size,0,none⟩ {w with heap:=w.heap.push (.cells l.toArray t)}∧
  ∀av,E.le av→av (aH h.next)=some ⟨w.heap.size,0,0⟩→∀B,B≤w.heap.size→e' B av {w with heap:=w.heap.push (.cells l.toArray t)} (aH h.next) k:=by
 unfold e8 at he
 obtain ⟨ar,he⟩:=dF he
 rw [Nat.ble_eq] at ar
 cases he
 refine ⟨_,rfl,trivial,fun w=>⟨by simp [newRow],fun av hle di B cI=>?_⟩⟩
 have:=ye (aY.mono hle _ _ ai) ar #[]
 rw [Array.append_empty] at this
 exact ⟨ar,_,_,t,(0,0),di,cI,by simp,.inr (Nat.le_refl _),fun _=>rfl,fun h=>absurd rfl h,this⟩
theorem OT {E:Env} {h aa:ae} {t:TypeId} {n:Nat} {ba:List (Nat × V)} {hM:List (Nat × Value)} {v:V} (ah:nU E ba hM) (he:(qJ P t n).run ba h=.val v aa):
 Gl P E (Instr.buildSlice t n hM.toArray) v h aa:=by
 unfold qJ at he
 cases aC:aX P t with
 | none=>rw [aC] at he;cases he
 | some aL=>
   rw [aC] at he
   simp only at he
   have hu:=eB aC
   cases bD:aL.a_ with
   | slice e=>
     rw [bD] at he hu
     simp only at he
     cases b7:aX P e with
     | none=>rw [b7] at he;cases he
     | some bc=>
       rw [b7] at he
       simp only at he
       cases bq:bc.zero with
       | none=>rw [bq] at he;cases he
       | some z=>
         rw [bq] at he
         simp only at he
         cases ar:(Nat.ble (n * bc.size) 1000000&&Nat.beq z.cells.length bc.size) with
         | false=>rw [ar] at he;cases he
         | true=>
           rw [ar] at he
           simp only [cond_true] at he
           simp only [Bool.and_eq_true,Nat.ble_eq,Nat.beq_eq] at ar
           cases ax:kc (fun i=>some (i * bc.size,bc.size)) (gV z.cells n) ba with
           | none=>rw [ax] at he;cases he
           | some cs=>
             rw [ax] at he
             simp only at he
             cases a7:e8 h cs with
             | none=>rw [a7] at he;cases he
             | some U=>
               rw [a7] at he
               simp only [aT.val.injEq] at he
               obtain ⟨rfl,rfl⟩:=he
               obtain ⟨x,ao,nn,np⟩:=qo (P:=P) (E:=E) b7 bq ⟨#[],fun _ _=>0,0,default,#[]⟩
               have rz:x.cells.size=bc.size:=by rw [np,ar.2]
               have ru:=wO nn n
               rw [rz] at ru
               obtain ⟨b,gP,jH⟩:=vb (a:=(Array.range (n * bc.size)).map (x.cells[· % x.cells.size]!)) ah (by rw [rz];exact ru) ax
               obtain ⟨k,g1,g2,g3⟩:=EE (P:=P) jH a7 e
               refine ⟨k,g1,g2,fun w=>⟨.slice (some ⟨w.heap.size,0,none⟩) n n,.cells b e,?_,fun av hle di=>⟨?_,?_⟩⟩⟩
               · have rj:¬16777216<n * bc.size:=by omega
                 have kh:(newRow e b).run P w=.ok ⟨w.heap.size,0,none⟩ {w with heap:=w.heap.push (.cells b e)}:=by simpa using (g3 w).1
                 by_cases bb:n * bc.size=0
                 · have CT:Instr.fill (fun i=>some (i * bc.size,bc.size)) ((Array.range (n * bc.size)).map ((#[]:Array Value)[· % 0]!)) hM=some b:=by
                    have aE:(Array.range (n * bc.size)).map ((#[]:Array Value)[· % 0]!)=(Array.range (n * bc.size)).map (x.cells[· % x.cells.size]!):=by
                     rw [bb];simp
                    rw [aE];exact gP
                   have CU:Instr.fill (fun i=>some (i * bc.size,bc.size)) ((Array.range (n * bc.size)).map (fun x=>(#[]:Array Value)[x % (#[]:Array Value).size]!)) hM=some b:=CT
                   simp only [Instr.buildSlice,Sem.run_bind,hu,Result.andThen_ok,h1 b7,Sem.run_ite]
                   rw [if_neg rj]
                   simp only [Sem.run_pure,Result.andThen_ok,if_pos bb]
                   rw [CU]
                   simp only [Sem.run_bind,kh,Result.andThen_ok,Sem.run_pure]
                 · simp only [Instr.buildSlice,Sem.run_bind,hu,Result.andThen_ok,h1 b7,Sem.run_ite]
                   rw [if_neg rj]
                   simp only [Sem.run_pure,Result.andThen_ok,if_neg bb,ao]
                   rw [gP]
                   simp only [Sem.run_bind,kh,Result.andThen_ok,Sem.run_pure]
               · simp only [Rel]
                 exact ⟨_,di,Nat.le_refl _,by simp⟩
               · simpa using (g3 w).2 av hle di
   | _=>rw [bD] at he;cases he
set_option maxHeartbeats 2000000 in
theorem Sl {E:Env} {h aa:ae} {call:c9} {o:Oper} {an:Nat} {r:bo} {a:Act} {v:V} (bm:fb o=true) (he:(eg P o).run call r h=.val v aa) (k:RegRel0 E an r a):
 ∃m:Sem Value,execOp a.eval o=(do pure (.value (←m)))∧Gl P E m v h aa:=by
 obtain ⟨dst,op,type,pos,after,guard⟩:=o
 cases op<;>simp only [fb] at bm<;>try (cases bm;done)
 all_goals simp only [eg] at he
 case alloc t=>
  refine ⟨Instr.alloc t true (.tuple #[]),rfl,?_⟩
  cases aC:aX P t with
  | none=>rw [aC] at he;simp [cJ.none] at he
  | some aL=>
    rw [aC] at he
    simp only at he
    cases bq:aL.zero with
    | none=>rw [bq] at he;simp [cJ.none] at he
    | some z=>
      rw [bq] at he
      simp only at he
      cases a7:e8 h z.cells with
      | none=>rw [a7] at he;cases he
      | some U=>
        rw [a7] at he
        simp only [fV,aT.val.injEq] at he;obtain ⟨rfl,rfl⟩:=he
        obtain ⟨x,ao,nn,_⟩:=qo (P:=P) (E:=E) aC bq ⟨#[],fun _ _=>0,0,default,#[]⟩
        obtain ⟨cD,g1,g2,g3⟩:=EE (P:=P) nn a7 t
        refine ⟨cD,g1,g2,fun w=>⟨.pointer (some ⟨w.heap.size,0,none⟩),.cells x.cells t,?_,fun av hle di=>⟨?_,?_⟩⟩⟩
        · have:=(g3 w).1
          simp only [Array.toArray_toList] at this
          simp only [Instr.alloc,Sem.run_bind,ao,Result.andThen_ok,newVar,this,Sem.run_pure]
        · simp only [Rel];exact ⟨_,di,by simp⟩
        · simpa using (g3 w).2 av hle di
 case box t x=>
  refine ⟨Instr.box t (a.eval x),rfl,?_⟩
  obtain ⟨aD,he⟩:=iC he
  cases a7:e8 h ((bA x).run r).cells with
  | none=>rw [a7] at he;cases he
  | some U=>
    rw [a7] at he
    simp only [fV,aT.val.injEq] at he;obtain ⟨rfl,rfl⟩:=he
    have ai:=(c_ k x).cells (fun e=>by rw [e] at aD;cases aD)
    obtain ⟨cD,g1,g2,g3⟩:=EE (P:=P) ai a7 t
    refine ⟨cD,g1,g2,fun w=>⟨.pointer (some ⟨w.heap.size,0,none⟩),.cells (a.eval x).cells t,?_,fun av hle di=>⟨?_,?_⟩⟩⟩
    · have:=(g3 w).1
      simp only [Array.toArray_toList] at this
      simp only [Instr.box,Sem.run_bind,newVar,this,Result.andThen_ok,Sem.run_pure]
    · simp only [Rel];exact ⟨_,di,by simp⟩
    · simpa using (g3 w).2 av hle di
 case buildSlice t n ba=>
  refine ⟨Instr.buildSlice t n (ba.map fun (i,x)=>(i,a.eval x)),rfl,?_⟩
  rw [E2]
  exact OT (zz k ba.toList) he
 case makeMap t x=>
  cases x with
  | some _=>cases bm
  | none=>
    refine ⟨Instr.makeMap t none,rfl,?_⟩
    simp only [nB,tF] at he
    cases aC:aX P t with
    | none=>rw [aC] at he;cases he
    | some aL=>
      rw [aC] at he
      simp only at he
      cases af:Nat.beq (dW aL.a_) 3 with
      | false=>rw [af] at he;cases he
      | true=>
        rw [af] at he
        simp only [cond_true,rM,tL] at he
        simp only [aT.val.injEq] at he
        obtain ⟨rfl,rfl⟩:=he
        refine ⟨_,rfl,trivial,fun w=>⟨.map (some w.heap.size),.map #[] 0,?_,fun av hle di=>⟨?_,fun B cI=>?_⟩⟩⟩
        · simp only [Instr.makeMap,Sem.run_bind,run_newObj,Result.andThen_ok,Sem.run_pure]
        · simp only [Rel];exact ⟨_,di,rfl⟩
        · exact ⟨_,#[],di,cI,by simp,rfl⟩
def Fr.hold (F:Fr) (b:aO) (k:bV):Fr:=⟨F.w,fun bz=>if bz=b then some k else F.ew bz⟩
def Fr.free (F:Fr) (b:aO):Fr:=⟨F.w,fun bz=>if bz=b then none else F.ew bz⟩
theorem aW.hold {F:Fr} {E:Env} {h:ae} {w:World} (s:aW F E h w) (k:bV):aW (F.hold (aH h.next) k) E (h.new k) w:=by
 have cV:=s.fresh h.next (Nat.le_refl _)
 refine ⟨fun b af=>?_,fun b bl aA=>?_,fun b bz p p' U ad aE aM gF=>?_,fun i aB=>s.fresh i (Nat.le_of_succ_le aB),s.frame,s.laid,fun b p n cs st U aE=>s.base b p n cs st (by
  have da:aH h.next≠b:=fun e=>by rw [←e,cV] at aE;cases aE
  rwa [ae.gE,if_neg da] at U) aE⟩
 · simp only [Fr.hold] at af
   by_cases aF:b=aH h.next
   · rw [if_pos aF] at af;cases af
   · rw [if_neg aF] at af
     rw [ae.gE,if_neg (fun e=>aF e.symm)]
     exact s.bd b af
 · simp only [Fr.hold] at aA
   by_cases aF:b=aH h.next
   · rw [if_pos aF] at aA
     cases aA
     exact ⟨by rw [ae.gE,if_pos aF.symm],by rw [aF];exact cV,h.next,Nat.lt_succ_self _,aF⟩
   · rw [if_neg aF] at aA
     obtain ⟨aj,ay,i,aK,bE⟩:=s.lN b bl aA
     exact ⟨by rw [ae.gE,if_neg (fun e=>aF e.symm)];exact aj,ay,i,Nat.lt_succ_of_lt aK,bE⟩
 · have da:aH h.next≠b:=fun e=>by rw [←e,cV] at aE;cases aE
   have jX:aH h.next≠bz:=fun e=>by rw [←e,cV] at aM;cases aM
   rw [ae.gE,if_neg da] at U
   rw [ae.gE,if_neg jX] at ad
   exact s.inj b bz p p' U ad aE aM gF
theorem aW.link {F:Fr} {E:Env} {h:ae} {w:World} (s:aW F E h w) {b:aO} {k:bV} (ah:F.ew b=some k) {o:Obj}
 (hX:e' F.w.heap.size (E.put b ⟨w.heap.size,0,0⟩) {w with heap:=w.heap.push o} b k):
 E.le (E.put b ⟨w.heap.size,0,0⟩)∧aW (F.free b) (E.put b ⟨w.heap.size,0,0⟩) h {w with heap:=w.heap.push o}:=by
 obtain ⟨aA,cV,i0,ra,q1⟩:=s.lN b k ah
 have hle:E.le (E.put b ⟨w.heap.size,0,0⟩):=Env.jq cV
 have di:E.put b ⟨w.heap.size,0,0⟩ b=some ⟨w.heap.size,0,0⟩:=by unfold Env.put;rw [if_pos rfl]
 have hold:∀bz,bz≠b→E.put b ⟨w.heap.size,0,0⟩ bz=E bz:=by intro bz af;unfold Env.put;rw [if_neg af]
 have iH:∀bz q,E bz=some q→(h.get bz)≠.dead→q.bd<w.heap.size:=by
  intro bz q aF aV
  have af:=s.at aF
  cases aD:h.get bz with
  | dead=>exact absurd aD aV
  | view n cs=>rw [aD] at af;obtain ⟨_,dK,c,el,bG,e,_,a6,_⟩:=af;rw [e] at aF;cases aF;exact (Array.getElem?_eq_some_iff.1 a6).1
  | cells n cs cj st=>rw [aD] at af;obtain ⟨_,dK,c,el,bG,e,_,a6,_⟩:=af;rw [e] at aF;cases aF;exact (Array.getElem?_eq_some_iff.1 a6).1
  | iter st pos=>rw [aD] at af;obtain ⟨dK,e,_,_,a6⟩:=af;rw [e] at aF;cases aF;exact (Array.getElem?_eq_some_iff.1 a6).1
  | mp es clock=>rw [aD] at af;obtain ⟨dK,a,e,_,a6,_⟩:=af;rw [e] at aF;cases aF;exact (Array.getElem?_eq_some_iff.1 a6).1
  | dv l=>rw [aD] at af;obtain ⟨dK,a,e,_,a6,_⟩:=af;rw [e] at aF;cases aF;exact (Array.getElem?_eq_some_iff.1 a6).1
  | e0=>rw [aD] at af;obtain ⟨dK,e,_,a6⟩:=af;rw [e] at aF;cases aF;exact (Array.getElem?_eq_some_iff.1 a6).1
  | gf es=>rw [aD] at af;obtain ⟨dK,a,c,l,e,_,a6,_⟩:=af;rw [e] at aF;cases aF;exact (Array.getElem?_eq_some_iff.1 a6).1
  | hd src since seen last=>rw [aD] at af;obtain ⟨dK,m,a,e,_,_,a6,_⟩:=af;rw [e] at aF;cases aF;exact (Array.getElem?_eq_some_iff.1 a6).1
 refine ⟨hle,fun bz fA=>?_,fun bz bl f_=>?_,fun bL ca b1 b' U ad aE aM gF=>?_,fun i aB=>?_,⟨s.frame.os,s.frame.tape,s.frame.output,?_,fun j bH=>?_⟩,s.laid,fun bL b1 n cs st U aE=>by
  by_cases bC:bL=b
  · subst bC;rw [di] at aE;cases aE;rfl
  · rw [hold bL bC] at aE;exact s.base _ _ _ _ _ U aE⟩
 · by_cases aF:bz=b
   · subst aF;rw [aA];exact hX
   · simp only [Fr.free,if_neg aF] at fA
     have bb:=(s.bd bz fA).mono hle
     by_cases aV:h.get bz=.dead
     · rw [aV];trivial
     · refine e'.fc bb fun q mq=>?_
       rw [hold bz aF] at mq
       have:=iH bz q mq aV
       simp only [Array.getElem?_push]
       rw [if_neg (by omega)]
 · simp only [Fr.free] at f_
   by_cases aF:bz=b
   · rw [if_pos aF] at f_;cases f_
   · rw [if_neg aF] at f_
     obtain ⟨aj,ay,aK⟩:=s.lN bz bl f_
     exact ⟨aj,by rw [hold bz aF];exact ay,aK⟩
 · by_cases bC:bL=b<;>by_cases bY:ca=b
   · exact bC.trans bY.symm
   · subst bC
     rw [di] at aE;cases aE
     rw [hold ca bY] at aM
     have:=iH ca b' aM (fun e=>by rw [e] at ad;cases ad)
     simp only at gF
     omega
   · subst bY
     rw [di] at aM;cases aM
     rw [hold bL bC] at aE
     have:=iH bL b1 aE (fun e=>by rw [e] at U;cases U)
     simp only at gF
     omega
   · rw [hold bL bC] at aE
     rw [hold ca bY] at aM
     exact s.inj bL ca b1 b' U ad aE aM gF
 · rw [hold _ (fun e=>?_)]
   · exact s.fresh i aB
   · rw [q1] at e
     have:=gT e
     omega
 · have:=s.frame.size
   simp only [Array.size_push,Fr.free]
   omega
 · have U:=s.frame.size
   simp only [Fr.free,Array.getElem?_push]
   rw [if_neg (by simp only [Fr.free] at bH;omega)]
   exact s.frame.block j bH
end
end Go.Proofs.YtkehcalakofigaaGreatDoor.a1
namespace Go.Proofs.YtkehcalakofigaaGreatDoor.a1
variable [Lay]
open Go Go.RowKit
section
variable {P:Program}
def dw (es:List dS) (cv:bo) (i:Nat):bo:=
 match es[i]? with
 | some e=>e.r
 | none=>cv
theorem s9 (e:dS) (es:List dS) (ax:ae) (i:Nat):bW (e::es) ax (i+1)=bW es ax i:=by simp [bW]
theorem t_ (e:dS) (es:List dS) (cv:bo) (i:Nat):dw (e::es) cv (i+1)=dw es cv i:=by simp [dw]
theorem qj {an:Nat} {all:Array Oper} {call:c9}:∀{l:List Oper} {r cv:bo} {h ax:ae} {es:List dS},(ez P an all l).run call r h=.ok es cv ax→
 es.length=l.length∧bW es ax 0=h∧dw es cv 0=r∧∀j o,l[j]? =some o→∃e,es[j]? =some e∧(b8 P an all o).run call e.r e.h=.val e.v (bW es ax (j+1))∧dw es cv (j+1)=(eA o.dst).run e.r e.v
 | [],r,cv,h,ax,es,he=>by
   simp only [ez,mP.ok.injEq] at he
   obtain ⟨rfl,rfl,rfl⟩:=he
   exact ⟨rfl,rfl,rfl,fun j o aP=>by simp at aP⟩
 | o::os,r,cv,h,ax,es,he=>by
   simp only [ez,wT] at he
   cases U:(b8 P an all o).run call r h with
   | fail=>rw [U] at he;cases he
   | cb _ _=>rw [U] at he;simp only at he;cases hm:js o.op<;>rw [hm] at he<;>cases he
   | val v a6=>
     rw [U] at he
     simp only at he
     cases ad:(ez P an all os).run call ((eA o.dst).run r v) a6 with
     | fail=>rw [ad] at he;cases he
     | cb _ _ _ _ _=>rw [ad] at he;cases he
     | ok fM bt aI=>
       rw [ad] at he
       simp only [mP.ok.injEq] at he
       obtain ⟨rfl,rfl,rfl⟩:=he
       obtain ⟨aj,ay,aK,bE⟩:=qj ad
       refine ⟨by simp [aj],by simp [bW],by simp [dw],fun j bU aP=>?_⟩
       cases j with
       | zero=>
         simp only [List.getElem?_cons_zero,Option.some.injEq] at aP
         subst aP
         exact ⟨⟨r,h,v⟩,rfl,by rw [s9,ay];exact U,by rw [t_,aK]⟩
       | succ j=>
         obtain ⟨e,b1,b',d'⟩:=bE j bU (by simpa using aP)
         exact ⟨e,by simpa using b1,by rw [s9];exact b',by rw [t_];exact d'⟩
theorem MB {an:Nat} {all:Array Oper} {call:c9}:∀{l:List Oper} {r cv:bo} {h ax aa:ae} {es:List dS} {v:V},(ez P an all l).run call r h=.cb es cv ax v aa→
 bW es ax 0=h∧dw es cv 0=r∧(∀j o,j<es.length→l[j]? =some o→∃e,es[j]? =some e∧(b8 P an all o).run call e.r e.h=.val e.v (bW es ax (j+1))∧dw es cv (j+1)=(eA o.dst).run e.r e.v)∧
  ∃o,l[es.length]? =some o∧js o.op=true∧(b8 P an all o).run call cv ax=.cb v aa
 | [],r,cv,h,ax,aa,es,v,he=>by simp [ez] at he
 | o::os,r,cv,h,ax,aa,es,v,he=>by
   simp only [ez,wT] at he
   cases U:(b8 P an all o).run call r h with
   | fail=>rw [U] at he;cases he
   | cb x ao=>
     rw [U] at he
     simp only at he
     cases hm:js o.op with
     | false=>rw [hm] at he;cases he
     | true=>
       rw [hm] at he
       simp only [cond_true,mP.cb.injEq] at he
       obtain ⟨rfl,rfl,rfl,rfl,rfl⟩:=he
       exact ⟨rfl,rfl,fun j bU bH=>by simp at bH,o,rfl,hm,U⟩
   | val x a6=>
     rw [U] at he
     simp only at he
     cases ad:(ez P an all os).run call ((eA o.dst).run r x) a6 with
     | fail=>rw [ad] at he;cases he
     | ok _ _ _=>rw [ad] at he;cases he
     | cb fM bt aI v1 br=>
       rw [ad] at he
       simp only [mP.cb.injEq] at he
       obtain ⟨rfl,rfl,rfl,rfl,rfl⟩:=he
       obtain ⟨ay,aK,bE,cT,dh,eW,iV⟩:=MB ad
       refine ⟨by simp [bW],by simp [dw],fun j bU bH aP=>?_,cT,by simpa using dh,eW,iV⟩
       cases j with
       | zero=>
         simp only [List.getElem?_cons_zero,Option.some.injEq] at aP
         subst aP
         exact ⟨⟨r,h,x⟩,rfl,by rw [s9,ay];exact U,by rw [t_,aK]⟩
       | succ j=>
         obtain ⟨e,b1,b',d'⟩:=bE j bU (by simpa using bH) (by simpa using aP)
         exact ⟨e,by simpa using b1,by rw [s9];exact b',by rw [t_];exact d'⟩
theorem ID {an:Nat} {d:Option Nat} (aV:ei an d=true) {r:bo} {v:V} {t:Nat} (aC:t≤top):T.get .bad (aH t) ((eA d).run r v)=if d=some t then v else T.get .bad (aH t) r:=by
 cases d with
 | none=>simp [eA]
 | some d=>
   simp only [ei,Bool.and_eq_true,Nat.blt_eq,Nat.ble_eq] at aV
   simp only [eA,T.gn,Option.some.injEq]
   by_cases h:d=t
   · subst h;simp
   · rw [if_neg (fun e=>h (gT e)),if_neg h]
theorem h5 {an:Nat} {all:Array Oper} {o:Oper} {call:c9} {r:bo} {h aa:ae} {v:V} (he:(b8 P an all o).run call r h=.val v aa):ei an o.dst=true∧ir (bP all o)=true:=by
 unfold b8 at he
 cases ar:(ei an o.dst&&ir (bP all o)) with
 | false=>rw [ar] at he;simp [cJ.none] at he
 | true=>simpa using ar
theorem MM {r:bo} {rs:List Nat} (aQ:ir rs=true) {t:Nat} (aC:t≤top):T.get .bad (aH t) (cX r rs)=if t ∈ rs then T.get .bad (aH t) r else .bad:=by
 induction rs with
 | nil=>simp [cX]
 | cons u rs bh=>
   simp only [ir,List.all_cons,Bool.and_eq_true,Nat.ble_eq] at aQ
   simp only [cX,T.gn,List.mem_cons]
   by_cases h:u=t
   · subst h;simp
   · rw [if_neg (fun e=>h (gT e)),bh aQ.2]
     have aa:¬t=u:=fun e=>h e.symm
     simp [aa]
theorem HN {an:Nat} {all:Array Oper} {o:Oper} {call:c9} {r:bo} {h aa:ae} {v:V} (he:(b8 P an all o).run call r h=.cb v aa):ei an o.dst=true∧ir (bP all o)=true:=by
 unfold b8 at he
 cases ar:(ei an o.dst&&ir (bP all o)) with
 | false=>rw [ar] at he;simp [cJ.none] at he
 | true=>simpa using ar
def AV (aw:Fr) (E:Env) (o:Oper) (a:Act) (K:Act→World→Prop) (Q:Exit→Act→World→Prop):aT→Prop
 | .val v aa=>∀av x al,E.le av→Rel av v x→aW aw av aa al→K (a.put o.dst x) al
 | .cb v aa=>js o.op=true∧∀av x al,E.le av→Rel av v x→aW aw av aa al→Q (.panic (mF x)) a al
 | .fail=>False
theorem HO {rd:Option Nat} {aw:Fr} {E:Env} {h:ae} {w:World} {call:c9} (bw:dJ P) (cm:ff P call) (cZ:fm P call) {all:Array Oper} {i:Nat} {o:Oper} (aB:all[i]? =some o) {an:Nat} {r:bo} {a:Act}
 (fB:ei an o.dst=true∧ir (bP all o)=true) (mr:a.tmps.size=an) (ic:∀t ∈ bP all o,Rel E (T.get .bad (aH t) r) (a.tmps.getD t undef)) (s:aW aw E h w)
 {K:Act→World→Prop} {Q:Exit→Act→World→Prop} (ah:AV aw E o a K Q ((b8 P an all o).run call r h)):wpOpIn (bS rd) 0 P all Q i K a w:=by
 obtain ⟨aV,aQ⟩:=fB
 have k:RegRel0 E an (cX r (bP all o)) a:=⟨mr,fun t aC=>by
  rw [MM aQ aC]
  by_cases hm:t ∈ bP all o
  · rw [if_pos hm];exact ic t hm
  · rw [if_neg hm];simp [Rel]⟩
 unfold b8 at ah
 rw [show (ei an o.dst&&ir (bP all o))=true from by rw [aV,aQ];rfl] at ah
 simp only [cond_true] at ah
 have wanted:AV aw E o a K Q ((eg P o).run call (cX r (bP all o)) h)→Region.wanted o (yielded all a.tmps)=true→wpOpIn (bS rd) 0 P all Q i K a w:=by
  intro U hw
  simp only [wpOpIn,aB,hw,if_true]
  cases aG:(eg P o).run call (cX r (bP all o)) h with
  | fail=>rw [aG] at U;exact U.elim
  | val v aa=>rw [aG] at U;exact HC bw cm cZ aG k s U
  | cb v aa=>rw [aG] at U;exact Hz bw cm U.1 aG k s U.2
 have MU:AV aw E o a K Q (.val (.tuple []) h)→Region.wanted o (yielded all a.tmps)=false→wpOpIn (bS rd) 0 P all Q i K a w:=by
  intro U hw
  simp only [wpOpIn,aB,hw,Bool.false_eq_true,if_false]
  exact ⟨fun _ _=>trivial,U E undef w (Env.le.refl E) (by simp only [Rel];exact ⟨#[],rfl,rfl⟩) s⟩
 cases aD:o.guard with
 | none=>
   rw [aD] at ah
   exact wanted ah (by simp [Region.wanted,aD])
 | some mw=>
   obtain ⟨j,want⟩:=mw
   rw [aD] at ah
   simp only at ah
   cases bH:all[j]? with
   | none=>rw [bH] at ah;exact ah.elim
   | some g=>
     rw [bH] at ah
     simp only at ah
     cases h9:g.dst with
     | none=>rw [h9] at ah;exact ah.elim
     | some d=>
       rw [h9] at ah
       simp only at ah
       cases ar:(Nat.blt d an&&Nat.ble d top) with
       | false=>rw [ar] at ah;exact ah.elim
       | true=>
         rw [ar] at ah
         simp only [cond_true,g_,lr] at ah
         simp only [Bool.and_eq_true,Nat.blt_eq,Nat.ble_eq] at ar
         obtain ⟨g1,g2⟩:=CG k bH h9 ar.1 ar.2
         cases bx:T.get .bad (aH d) (cX r (bP all o))<;>rw [bx] at ah<;>simp only at ah<;>try (exact ah.elim)
         · rename_i b
           have aZ:=g1 b bx
           cases af:(bif want then b else !b) with
           | true=>
             rw [af] at ah
             simp only [cond_true] at ah
             refine wanted ah ?_
             simp only [Region.wanted,aD,aZ]
             cases want<;>cases b<;>simp_all
           | false=>
             rw [af] at ah
             simp only [cond_false] at ah
             refine MU ah ?_
             simp only [Region.wanted,aD,aZ]
             cases want<;>cases b<;>simp_all
         · rename_i ab
           have aZ:=g2 ab bx
           refine MU ah ?_
           simp only [Region.wanted,aD,aZ]
           rfl
theorem mW {rd:Option Nat} {aw:Fr} {E:Env} {h aa:ae} {w:World} {call:c9} (bw:dJ P) (cm:ff P call) (cZ:fm P call) {all:Array Oper} {i:Nat} {o:Oper} (aB:all[i]? =some o) {an:Nat} {r:bo} {a:Act} {v:V}
 (he:(b8 P an all o).run call r h=.val v aa) (mr:a.tmps.size=an) (ic:∀t ∈ bP all o,Rel E (T.get .bad (aH t) r) (a.tmps.getD t undef)) (s:aW aw E h w)
 {K:Act→World→Prop} {Q:Exit→Act→World→Prop} (dd:∀av x al,E.le av→Rel av v x→aW aw av aa al→K (a.put o.dst x) al):wpOpIn (bS rd) 0 P all Q i K a w:=
 HO bw cm cZ aB (h5 he) mr ic s (by rw [he];exact dd)
theorem SG {rd:Option Nat} {aw:Fr} {E:Env} {h aa:ae} {w:World} {call:c9} (bw:dJ P) (cm:ff P call) (cZ:fm P call) {all:Array Oper} {i:Nat} {o:Oper} (aB:all[i]? =some o) {an:Nat} {r:bo} {a:Act} {v:V}
 (he:(b8 P an all o).run call r h=.cb v aa) (hm:js o.op=true) (mr:a.tmps.size=an) (ic:∀t ∈ bP all o,Rel E (T.get .bad (aH t) r) (a.tmps.getD t undef)) (s:aW aw E h w)
 {K:Act→World→Prop} {Q:Exit→Act→World→Prop} (cS:∀av x al,E.le av→Rel av v x→aW aw av aa al→Q (.panic (mF x)) a al):wpOpIn (bS rd) 0 P all Q i K a w:=
 HO bw cm cZ aB (HN he) mr ic s (by rw [he];exact ⟨hm,cS⟩)
theorem qN {an:Nat} {all:Array Oper} {o:Oper} {call:c9} {r:bo} {h aa:ae} {v:V} (aF:dU P o.op=false) (he:(b8 P an all o).run call r h=.val v aa):
 aa=h∧(looks o.op=false→∀H,(b8 P an all o).run call r H=.val v H):=by
 obtain ⟨aV,aQ⟩:=h5 he
 have cC:(ei an o.dst&&ir (bP all o))=true:=by rw [aV,aQ];rfl
 have key:b8 P an all o=(match o.guard with
  | none=>⟨g_ none (eg P o) (bP all o)⟩
  | some (j,want)=>match all[j]? with
    | some g=>match g.dst with
      | some d=>bif Nat.blt d an&&Nat.ble d top then ⟨g_ (some (lr (aH d),want)) (eg P o) (bP all o)⟩ else cJ.none
      | none=>cJ.none
    | none=>cJ.none):=by
  unfold b8;rw [cC];rfl
 rw [key] at he ⊢
 cases aD:o.guard with
 | none=>
   rw [aD] at he
   exact ⟨HB aF he,fun ai H=>HA aF ai he H⟩
 | some mw=>
   obtain ⟨j,want⟩:=mw
   rw [aD] at he
   simp only at he ⊢
   cases bH:all[j]? with
   | none=>rw [bH] at he;simp [cJ.none] at he
   | some g=>
     rw [bH] at he
     simp only at he ⊢
     cases h9:g.dst with
     | none=>rw [h9] at he;simp [cJ.none] at he
     | some d=>
       rw [h9] at he
       simp only at he ⊢
       cases ar:(Nat.blt d an&&Nat.ble d top) with
       | false=>rw [ar] at he;simp [cJ.none] at he
       | true=>
         rw [ar] at he
         simp only [cond_true,g_] at he ⊢
         cases bx:(lr (aH d)).run (cX r (bP all o))<;>rw [bx] at he<;>simp only at he ⊢<;>try (cases he;done)
         · rename_i b
           cases af:(bif want then b else !b)<;>rw [af] at he<;>simp only [cond_true,cond_false] at he ⊢
           · simp only [aT.val.injEq] at he ⊢
             exact ⟨he.2.symm,fun _ H=>⟨he.1,trivial⟩⟩
           · exact ⟨HB aF he,fun ai H=>HA aF ai he H⟩
         · simp only [aT.val.injEq] at he ⊢
           exact ⟨he.2.symm,fun _ H=>⟨he.1,trivial⟩⟩
theorem GH {op:cJ} {call:c9} {es:List dS} {ax:ae} {r:bo} {v:V}:∀{eO:List Nat},xB op call es ax r v eO=true→∀s ∈ eO,∃aa,op.run call r (bW es ax s)=.val v aa
 | [],_,s,h=>by simp at h
 | fG::eO,he,s,hm=>by
   simp only [xB,Bool.and_eq_true] at he
   simp only [List.mem_cons] at hm
   rcases hm with rfl | hm
   · have U:=he.1
     cases aG:op.run call r (bW es ax s) with
     | fail=>rw [aG] at U;cases U
     | cb _ _=>rw [aG] at U;cases U
     | val fI aa=>
       rw [aG] at U
       rw [Ct U]
       exact ⟨aa,rfl⟩
   · exact GH he.2 s hm
theorem A7 {an:Nat} {all:Array Oper} {de az dD:List Nat} {call:c9} {es:List dS} {ax:ae}:∀{l:List Oper} {i:Nat},(nZ P an all de az dD i l).run call es ax=true→
 ∀j o,l[j]? =some o→looks o.op=true→dU P o.op=false→∀e,es[posOf az (i+j)]? =some e→∀s ∈ dD,oN P de all.toList az (i+j) ((de[i+j]?).getD 0) s=true→∃aa,(b8 P an all o).run call e.r (bW es ax s)=.val e.v aa
 | [],_,_,j,o,aP,_,_=>by simp at aP
 | bU::os,i,he,j,o,aP,ai,aF=>by
   simp only [nZ] at he
   cases j with
   | zero=>
     simp only [List.getElem?_cons_zero,Option.some.injEq] at aP
     subst aP
     rw [ai,aF] at he
     simp only [Bool.not_false,Bool.and_true,cond_true,Bool.and_eq_true,GI] at he
     have U:=he.1
     intro e lx s aQ hm
     · rw [Nat.add_zero] at lx
       rw [lx] at U
       exact GH U s (List.mem_filter.2 ⟨aQ,by simpa using hm⟩)
   | succ j=>
     have rest:(nZ P an all de az dD (i+1) os).run call es ax=true:=by
      cases ar:(looks bU.op&&!dU P bU.op) with
      | false=>rw [ar] at he;exact he
      | true=>rw [ar] at he;simp only [cond_true,Bool.and_eq_true] at he;exact he.2
     have:=A7 rest j o (by simpa using aP) ai aF
     rw [show i + (j+1)=i+1+j from by omega]
     exact this
theorem tE {az:List Nat}:∀{l:List Oper} {i j:Nat} {o:Oper},l[j]? =some o→dr P o=true→posOf az (i+j) ∈ fT P az i l
 | [],_,j,o,h,_=>by simp at h
 | bU::os,i,j,o,h,he=>by
   simp only [fT]
   cases j with
   | zero=>
     simp only [List.getElem?_cons_zero,Option.some.injEq] at h
     subst h
     rw [he]
     simp
   | succ j=>
     have:=tE (az:=az) (i:=i+1) (by simpa using h) he
     rw [show i + (j+1)=i+1+j from by omega]
     cases dr P bU with
     | true=>simp [this]
     | false=>exact this
theorem y_ {az:List Nat}:∀{l:List Oper} {i:Nat},i+l.length ∈ fT P az i l
 | [],_=>by simp [fT]
 | o::os,i=>by
   have:=y_ (az:=az) (l:=os) (i:=i+1)
   simp only [fT,List.length_cons]
   rw [show i + (os.length+1)=i+1+os.length from by omega]
   cases dr P o with
   | true=>simp [this]
   | false=>exact this
theorem pX {az:List Nat}:∀{l:List Oper} {i s:Nat},s ∈ fT P az i l→s=i+l.length∨∃j o,l[j]? =some o∧dr P o=true∧s=posOf az (i+j)
 | [],i,s,h=>by simp only [fT,List.mem_singleton] at h;exact .inl (by simpa using h)
 | o::os,i,s,h=>by
   simp only [fT] at h
   have rest:s ∈ fT P az (i+1) os→s=i + (o::os).length∨∃j bU,(o::os)[j]? =some bU∧dr P bU=true∧s=posOf az (i+j):=by
    intro h
    rcases pX h with h | ⟨j,bU,U,ad,aI⟩
    · exact .inl (by simp only [List.length_cons];omega)
    · exact .inr ⟨j+1,bU,by simpa using U,ad,by rw [aI];congr 1;omega⟩
   cases ar:dr P o with
   | true=>
     rw [ar] at h
     simp only [cond_true,List.mem_cons] at h
     rcases h with h | h
     · exact .inr ⟨0,o,rfl,ar,h⟩
     · exact rest h
   | false=>rw [ar] at h;exact rest h
theorem Sm {o:Oper} {call:c9} {r:bo} {h aa:ae} {v:V} (bm:fb o=true) (he:(eg P o).run call r h=.val v aa):∃k,aa=h.new k∧True:=by
 have cells:∀{ab:List V} {U:ae},e8 h ab=some U→∃k,U=h.new k∧True:=by
  intro ab U he
  unfold e8 at he
  obtain ⟨ar,he⟩:=dF he
  cases he
  exact ⟨_,rfl,trivial⟩
 obtain ⟨dst,op,type,pos,after,guard⟩:=o
 cases op<;>simp only [fb] at bm<;>try (cases bm;done)
 all_goals simp only [eg] at he
 case alloc t=>
  cases aC:aX P t with
  | none=>rw [aC] at he;simp [cJ.none] at he
  | some aL=>
    rw [aC] at he
    simp only at he
    cases bq:aL.zero with
    | none=>rw [bq] at he;simp [cJ.none] at he
    | some z=>
      rw [bq] at he
      simp only at he
      cases a7:e8 h z.cells with
      | none=>rw [a7] at he;cases he
      | some U=>
        rw [a7] at he
        simp only [fV,aT.val.injEq] at he;obtain ⟨_,rfl⟩:=he
        exact cells a7
 case box t x=>
  obtain ⟨aD,he⟩:=iC he
  cases a7:e8 h ((bA x).run r).cells with
  | none=>rw [a7] at he;cases he
  | some U=>
    rw [a7] at he
    simp only [fV,aT.val.injEq] at he;obtain ⟨_,rfl⟩:=he
    exact cells a7
 case buildSlice t n ba=>
  unfold qJ at he
  cases aC:aX P t with
  | none=>rw [aC] at he;cases he
  | some aL=>
    rw [aC] at he
    simp only at he
    cases bD:aL.a_<;>rw [bD] at he<;>simp only at he<;>try (cases he;done)
    rename_i e
    cases b7:aX P e with
    | none=>rw [b7] at he;cases he
    | some bc=>
      rw [b7] at he
      simp only at he
      cases bq:bc.zero with
      | none=>rw [bq] at he;cases he
      | some z=>
        rw [bq] at he
        simp only at he
        cases ar:(Nat.ble (n * bc.size) 1000000&&Nat.beq z.cells.length bc.size) with
        | false=>rw [ar] at he;cases he
        | true=>
          rw [ar] at he
          simp only [cond_true] at he
          cases ax:kc (fun i=>some (i * bc.size,bc.size)) (gV z.cells n) ((p7 ba.toList).run r) with
          | none=>rw [ax] at he;cases he
          | some cs=>
            rw [ax] at he
            simp only at he
            cases a7:e8 h cs with
            | none=>rw [a7] at he;cases he
            | some U=>
              rw [a7] at he
              simp only [aT.val.injEq] at he
              obtain ⟨_,rfl⟩:=he
              exact cells a7
 case makeMap t x=>
  cases x with
  | some _=>cases bm
  | none=>
    simp only [nB,tF] at he
    cases aC:aX P t with
    | none=>rw [aC] at he;cases he
    | some aL=>
      rw [aC] at he
      simp only at he
      cases af:Nat.beq (dW aL.a_) 3 with
      | false=>rw [af] at he;cases he
      | true=>
        rw [af] at he
        simp only [cond_true,rM,tL] at he
        simp only [aT.val.injEq] at he
        exact ⟨_,he.2.symm,trivial⟩
theorem Wu {o:Oper} (bm:fb o=true):dU P o.op=true:=by
 obtain ⟨dst,op,type,pos,after,guard⟩:=o
 cases op<;>simp only [fb] at bm<;>first | (cases bm;done) | rfl
theorem HQ {an:Nat} {all:Array Oper} {o:Oper} {call:c9} {r:bo} {h aa:ae} {v:V} (he:(b8 P an all o).run call r h=.val v aa):
 ((eg P o).run call (cX r (bP all o)) h=.val v aa∧∀E a,RegRel0 E an (cX r (bP all o)) a→Region.wanted o (yielded all a.tmps)=true)∨
 (aa=h∧∀H,(b8 P an all o).run call r H=.val v H):=by
 obtain ⟨aV,aQ⟩:=h5 he
 have cC:(ei an o.dst&&ir (bP all o))=true:=by rw [aV,aQ];rfl
 have key:b8 P an all o=(match o.guard with
  | none=>⟨g_ none (eg P o) (bP all o)⟩
  | some (j,want)=>match all[j]? with
    | some g=>match g.dst with
      | some d=>bif Nat.blt d an&&Nat.ble d top then ⟨g_ (some (lr (aH d),want)) (eg P o) (bP all o)⟩ else cJ.none
      | none=>cJ.none
    | none=>cJ.none):=by
  unfold b8;rw [cC];rfl
 rw [key] at he ⊢
 cases aD:o.guard with
 | none=>
   rw [aD] at he
   exact .inl ⟨he,fun E a _=>by simp [Region.wanted,aD]⟩
 | some mw=>
   obtain ⟨j,want⟩:=mw
   rw [aD] at he
   simp only at he ⊢
   cases bH:all[j]? with
   | none=>rw [bH] at he;simp [cJ.none] at he
   | some g=>
     rw [bH] at he
     simp only at he ⊢
     cases h9:g.dst with
     | none=>rw [h9] at he;simp [cJ.none] at he
     | some d=>
       rw [h9] at he
       simp only at he ⊢
       cases ar:(Nat.blt d an&&Nat.ble d top) with
       | false=>rw [ar] at he;simp [cJ.none] at he
       | true=>
         rw [ar] at he
         simp only [cond_true,g_] at he ⊢
         have ma:=ar
         simp only [Bool.and_eq_true,Nat.blt_eq,Nat.ble_eq] at ma
         cases bx:(lr (aH d)).run (cX r (bP all o))<;>rw [bx] at he<;>simp only at he ⊢<;>try (cases he;done)
         · rename_i b
           cases af:(bif want then b else !b)<;>rw [af] at he<;>simp only [cond_true,cond_false] at he ⊢
           · simp only [aT.val.injEq] at he ⊢
             exact .inr ⟨he.2.symm,fun H=>⟨he.1,trivial⟩⟩
           · refine .inl ⟨he,fun E a k=>?_⟩
             obtain ⟨g1,_⟩:=CG k bH h9 ma.1 ma.2
             have aZ:=g1 b bx
             simp only [Region.wanted,aD,aZ]
             cases want<;>cases b<;>simp_all
         · simp only [aT.val.injEq] at he ⊢
           exact .inr ⟨he.2.symm,fun H=>⟨he.1,trivial⟩⟩
theorem HP {an:Nat} {all:Array Oper} {o:Oper} {call:c9} {r:bo} {h aa:ae} {v:V} (bm:fb o=true) (he:(b8 P an all o).run call r h=.val v aa):
 (∃k,aa=h.new k∧True)∨(aa=h∧∀H,(b8 P an all o).run call r H=.val v H):=by
 rcases HQ he with ⟨U,_⟩ | U
 · exact .inl (Sm bm U)
 · exact .inr U
theorem SE {rd:Option Nat} {F:Fr} {E:Env} {h aa H:ae} {w:World} {call:c9} {all:Array Oper} {i:Nat} {o:Oper} (aB:all[i]? =some o) (bm:fb o=true) {an:Nat} {r:bo} {a:Act} {v:V}
 (he:(b8 P an all o).run call r h=.val v aa) (mr:a.tmps.size=an) (ic:∀t ∈ bP all o,Rel E (T.get .bad (aH t) r) (a.tmps.getD t undef)) (s:aW F E H w)
 (Dw:aa.next≠h.next) (ah:F.ew (aH h.next)=some (aa.get (aH h.next)))
 {K:Act→World→Prop} {Q:Exit→Act→World→Prop} (dd:∀av x al,E.le av→Rel av v x→aW (F.free (aH h.next)) av H al→K (a.put o.dst x) al):wpOpIn (bS rd) 0 P all Q i K a w:=by
 obtain ⟨aV,aQ⟩:=h5 he
 have k:RegRel0 E an (cX r (bP all o)) a:=⟨mr,fun t aC=>by
  rw [MM aQ aC]
  by_cases hm:t ∈ bP all o
  · rw [if_pos hm];exact ic t hm
  · rw [if_neg hm];simp [Rel]⟩
 obtain ⟨dA,hw⟩:(eg P o).run call (cX r (bP all o)) h=.val v aa∧Region.wanted o (yielded all a.tmps)=true:=by
  rcases HQ he with ⟨U,ad⟩ | ⟨U,_⟩
  · exact ⟨U,ad E a k⟩
  · exact absurd (by rw [U]) Dw
 obtain ⟨m,ao,cD,aj,ay,aK⟩:=Sl bm dA k
 simp only [wpOpIn,aB,hw,if_true]
 obtain ⟨X,p3,b1,b'⟩:=aK w
 rw [aj,ae.gE,if_pos rfl] at ah
 have di:E.put (aH h.next) ⟨w.heap.size,0,0⟩ (aH h.next)=some ⟨w.heap.size,0,0⟩:=by unfold Env.put;rw [if_pos rfl]
 have hle:E.le (E.put (aH h.next) ⟨w.heap.size,0,0⟩):=Env.jq (s.lN _ _ ah).2.1
 obtain ⟨bt,cW⟩:=b' _ hle di
 have bZ:F.w.heap.size≤w.heap.size:=s.frame.size
 obtain ⟨_,kj⟩:=s.link ah (o:=p3) (cW _ bZ)
 refine ⟨fun _ _=>trivial,?_⟩
 rw [mK (by intro c h;have:=bm;unfold fb at this;rw [h] at this;cases this),ao,Sem.run_bind,b1]
 exact dd _ X _ hle bt kj
end
end Go.Proofs.YtkehcalakofigaaGreatDoor.a1
