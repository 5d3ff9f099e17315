/- The abstract machine and its walks (a verified interpreter of the model's code: plain definitions and lemmas, no condition). Printed by a program from longer texts: names made short. -/
import Derived.Test.YthemdhlheglhoaaGreatDoorM1
import Derived.LaidEqlPtr
import Derived.RangeFuncLeaves
import Derived.RecoverIn
import Derived.OrdersIn
set_option linter.unusedSectionVars false
set_option linter.unusedSimpArgs false
set_option linter.unusedVariables false
namespace Go.Proofs.YthemdhlheglhoaaGreatDoor.a6
variable [Lay]
open Go Go.RowKit
section
variable {P:Program}
theorem NP {α β:Type} (g:α→Sem β) (k:α→β) (w:World):∀(l:List α),(∀x ∈ l,(g x).run P w=.ok (k x) w)→(l.mapM g).run P w=.ok (l.map k) w
 | [],_=>by simp
 | x::l,h=>by
   rw [List.mapM_cons,Sem.run_bind,h x (by simp)]
   simp only [Result.andThen_ok,Sem.run_bind,NP g k w l (fun y aZ=>h y (by simp [aZ])),Sem.run_pure,List.map]
theorem QX {E:Env} {t:TypeId} {ba:List (Nat × V)} {ig:List (Nat × Value)} {v:V} (ag:oz E ba ig) (he:(yw P t).run ba=some v) (w:World):
 ∃Z,(Instr.build t ig.toArray).run P w=.ok Z w∧Rel E v Z:=by
 unfold yw at he
 cases aA:aX P t with
 | none=>rw [aA] at he;cases he
 | some aK=>
   rw [aA] at he
   simp only at he
   cases bm:aK.zero with
   | none=>rw [bm] at he;cases he
   | some z=>
     rw [bm] at he
     simp only at he
     obtain ⟨x,al,nT,kW⟩:=uW (P:=P) aA bm E w
     have hu:=eS aA w
     have K7:a7 E z.cells x.cells.toList:=by
      rw [kW]
      have:∀y:Value,a7 E (fW y).cells y.cells.toList:=by
       intro y
       cases y with
       | agg cs=>simp only [fW,V.cells,Value.cells];exact xn E _
       | pointer a=>cases a<;>simp [fW,hW,V.cells,Value.cells,a7,Rel]
       | slice a n c=>
         have:=qq E (.slice a n c)
         cases a with
         | some a=>simp [fW,hW,V.cells,Value.cells,a7,Rel]
         | none=>
           simp only [fW,hW] at this ⊢
           cases ah:(Nat.beq n 0&&Nat.beq c 0) with
           | false=>simp [V.cells,Value.cells,a7,Rel]
           | true=>rw [ah] at this;simpa [V.cells,Value.cells,a7] using this
       | map r=>cases r<;>simp [fW,hW,V.cells,Value.cells,a7,Rel]
       | tuple cs=>
         have:=qq E (.tuple cs)
         simp only [fW,V.cells,Value.cells,a7] at this ⊢
         exact ⟨_,_,rfl,this,rfl⟩
       | _=>simp [fW,hW,V.cells,Value.cells,a7,Rel]
      exact this x
     cases bF:aK.a' with
     | struct b2=>
       rw [bF] at he hu
       simp only at he
       cases ax:y8 P b2.toList with
       | false=>rw [ax] at he;cases he
       | true=>
         rw [ax] at he
         simp only [cond_true] at he
         cases av:kK (ts P b2) z.cells ba with
         | none=>rw [av] at he;cases he
         | some cs=>
           rw [av] at he
           simp only [Option.some.injEq] at he
           subst he
           let k:Field→Nat × Nat:=fun f=>(f.offset,((aX P f.type).map (·.size)).getD 0)
           have kU:(b2.mapM fun f=>do pure (f.offset,←sizeOf f.type):Sem (Array (Nat × Nat))).run P w=.ok (b2.map k) w:=by
            rw [Array.mapM_eq_mapM_toList,Sem.run_map,NP _ k w b2.toList]
            · simp only [Result.andThen_ok]
              congr 1
              apply Array.ext'
              simp
            · intro f hM
              have:=List.all_eq_true.1 ax f hM
              cases ud:aX P f.type with
              | none=>rw [ud] at this;simp at this
              | some iP=>simp only [Sem.run_bind,iI ud,Result.andThen_ok,Sem.run_pure,k,ud];rfl
           have Xy:(fun i=>(b2.map k)[i]?)=ts P b2:=by
            funext i
            simp only [ts,Array.getElem?_map]
            cases aD:b2[i]? with
            | none=>rfl
            | some f=>
              have tS:f ∈ b2.toList:=by
               have:=List.mem_of_getElem? (l:=b2.toList) (i:=i) (a:=f) (by simpa using aD)
               exact this
              have:=List.all_eq_true.1 ax f tS
              cases ud:aX P f.type with
              | none=>rw [ud] at this;simp at this
              | some iP=>simp [k,ud]
           obtain ⟨b,iv,nH⟩:=wb (a:=x.cells) ag K7 av
           refine ⟨.agg b,?_,by simp only [Rel];exact ⟨b,rfl,nH⟩⟩
           simp only [Instr.build,Sem.run_bind,al,hu,Result.andThen_ok,kU]
           rw [Xy]
           simp only [iv,Sem.run_pure]
     | array n e=>
       rw [bF] at he hu
       simp only at he
       cases ca:aX P e with
       | none=>rw [ca] at he;cases he
       | some bd=>
         rw [ca] at he
         simp only at he
         cases av:kK (fun i=>some (i * bd.size,bd.size)) z.cells ba with
         | none=>rw [av] at he;cases he
         | some cs=>
           rw [av] at he
           simp only [Option.some.injEq] at he
           subst he
           obtain ⟨b,iv,nH⟩:=wb (a:=x.cells) ag K7 av
           refine ⟨.agg b,?_,by simp only [Rel];exact ⟨b,rfl,nH⟩⟩
           simp only [Instr.build,Sem.run_bind,al,hu,Result.andThen_ok,iI ca,iv,Sem.run_pure]
     | _=>rw [bF] at he;cases he
theorem xH {E:Env} {z:List V} {l:Array Value} (bm:a7 E z l.toList):∀n:Nat,a7 E (hZ z n) ((Array.range (n * l.size)).map (l[· % l.size]!)).toList:=by
 have XP:(List.range l.size).map (l[· % l.size]!)=l.toList:=by
  apply List.ext_getElem?
  intro i
  simp only [List.getElem?_map]
  by_cases aD:i<l.size
  · rw [List.getElem?_range aD]
    simp only [Option.map,Nat.mod_eq_of_lt aD,Array.getElem?_toList]
    rw [getElem!_pos l i aD,Array.getElem?_eq_getElem aD]
  · rw [List.getElem?_eq_none (by simp;omega),Array.getElem?_toList,Array.getElem?_eq_none (by omega)]
    rfl
 intro n
 simp only [Array.toList_map,Array.toList_range]
 induction n with
 | zero=>simp [hZ,a7]
 | succ n bh=>
   have e:(n+1) * l.size=l.size+n * l.size:=by rw [Nat.add_mul];omega
   rw [e,List.range_add,List.map_append,XP,List.map_map]
   have bf:((l[· % l.size]!) ∘ fun x=>l.size+x)=(l[· % l.size]!):=by
    funext x
    simp
   rw [bf]
   exact bm.append bh
theorem qP {E:Env} {t:TypeId} {aK:lf} {z:V} (aA:aX P t=some aK) (bm:aK.zero=some z) (w:World):∃x:Value,(∀w,(zeroValue t).run P w=.ok x w)∧a7 E z.cells x.cells.toList∧x.cells.size=z.cells.length:=by
 obtain ⟨x,al,_,kW⟩:=uW (P:=P) aA bm E w
 obtain ⟨i,aa,_,_,_,_,cQ⟩:=qK aA
 rw [bm] at cQ
 have Yi:∃y,i.zero=some y:=by cases az:i.zero with | none=>rw [az] at cQ;cases cQ | some y=>exact ⟨y,rfl⟩
 obtain ⟨y,aZ⟩:=Yi
 have cA:∀w,(zeroValue t).run P w=.ok y w:=fun w=>by simp only [zeroValue,Sem.run_bind,uV aa,Result.andThen_ok,aZ];rfl
 have uk:y=x:=by have:=cA w;rw [al] at this;simp at this;exact this.symm
 subst uk
 refine ⟨_,cA,?_,?_⟩
 · rw [kW]
   have:∀y:Value,a7 E (fW y).cells y.cells.toList:=by
    intro y
    cases y with
    | agg cs=>simp only [fW,V.cells,Value.cells];exact xn E _
    | pointer a=>cases a<;>simp [fW,hW,V.cells,Value.cells,a7,Rel]
    | slice a n c=>
      have:=qq E (.slice a n c)
      cases a with
      | some a=>simp [fW,hW,V.cells,Value.cells,a7,Rel]
      | none=>
        simp only [fW,hW] at this ⊢
        cases ah:(Nat.beq n 0&&Nat.beq c 0) with
        | false=>simp [V.cells,Value.cells,a7,Rel]
        | true=>rw [ah] at this;simpa [V.cells,Value.cells,a7] using this
    | map r=>cases r<;>simp [fW,hW,V.cells,Value.cells,a7,Rel]
    | tuple cs=>
      have:=qq E (.tuple cs)
      simp only [fW,V.cells,Value.cells,a7] at this ⊢
      exact ⟨_,_,rfl,this,rfl⟩
    | _=>simp [fW,hW,V.cells,Value.cells,a7,Rel]
   exact this _
 · rw [kW,abZ]
theorem QZ {ar:Fr} {E:Env} {h ab:af} {w:World} (s:aY ar E h w) {t:TypeId} {n:Nat} {ba:List (Nat × V)} {ig:List (Nat × Value)} {v:V} (ag:oz E ba ig) (he:(rh P t n).run ba h=.val v ab):
 cO ar P E w (Instr.buildSlice t n ig.toArray) v ab:=by
 unfold rh at he
 cases aA:aX P t with
 | none=>rw [aA] at he;cases he
 | some aK=>
   rw [aA] at he
   simp only at he
   have hu:=eS aA
   cases bF:aK.a' with
   | slice e=>
     rw [bF] at he hu
     simp only at he
     cases ca:aX P e with
     | none=>rw [ca] at he;cases he
     | some bd=>
       rw [ca] at he
       simp only at he
       cases bm:bd.zero with
       | none=>rw [bm] at he;cases he
       | some z=>
         rw [bm] at he
         simp only at he
         cases aF:(Nat.ble (n * bd.size) 1000000&&Nat.beq z.cells.length bd.size) with
         | false=>rw [aF] at he;cases he
         | true=>
           rw [aF] at he
           simp only [cond_true] at he
           simp only [Bool.and_eq_true,Nat.ble_eq,Nat.beq_eq] at aF
           cases av:kK (fun i=>some (i * bd.size,bd.size)) (hZ z.cells n) ba with
           | none=>rw [av] at he;cases he
           | some cs=>
             rw [av] at he
             simp only at he
             cases aV:fi h cs with
             | none=>rw [aV] at he;cases he
             | some aa=>
               rw [aV] at he
               simp only [aU.val.injEq] at he
               obtain ⟨rfl,rfl⟩:=he
               obtain ⟨x,al,nT,nU⟩:=qP (P:=P) (E:=E) ca bm w
               have r_:x.cells.size=bd.size:=by rw [nU,aF.2]
               have r7:=xH nT n
               rw [r_] at r7
               obtain ⟨b,iv,nH⟩:=wb (a:=(Array.range (n * bd.size)).map (x.cells[· % x.cells.size]!)) ag (by rw [r_];exact r7) av
               obtain ⟨ao,g1,g2,g3,g4⟩:=Ak (P:=P) s nH aV e
               refine ⟨.slice (some ⟨w.heap.size,0,none⟩) n n,_,ao,?_,g1,?_,g4⟩
               · have rZ:¬16777216<n * bd.size:=by omega
                 have kP:(newRow e b).run P w=.ok ⟨w.heap.size,0,none⟩ {w with heap:=w.heap.push (.cells b e)}:=by simpa using g3
                 by_cases a_:n * bd.size=0
                 · have D0:Instr.fill (fun i=>some (i * bd.size,bd.size)) ((Array.range (n * bd.size)).map ((#[]:Array Value)[· % 0]!)) ig=some b:=by
                    have aN:(Array.range (n * bd.size)).map ((#[]:Array Value)[· % 0]!)=(Array.range (n * bd.size)).map (x.cells[· % x.cells.size]!):=by
                     rw [a_];simp
                    rw [aN];exact iv
                   have D1:Instr.fill (fun i=>some (i * bd.size,bd.size)) ((Array.range (n * bd.size)).map (fun x=>(#[]:Array Value)[x % (#[]:Array Value).size]!)) ig=some b:=D0
                   simp only [Instr.buildSlice,Sem.run_bind,hu,Result.andThen_ok,iI ca,Sem.run_ite]
                   rw [if_neg rZ]
                   simp only [Sem.run_pure,Result.andThen_ok,if_pos a_]
                   rw [D1]
                   simp only [Sem.run_bind,kP,Result.andThen_ok,Sem.run_pure]
                 · simp only [Instr.buildSlice,Sem.run_bind,hu,Result.andThen_ok,iI ca,Sem.run_ite]
                   rw [if_neg rZ]
                   simp only [Sem.run_pure,Result.andThen_ok,if_neg a_,al]
                   rw [iv]
                   simp only [Sem.run_bind,kP,Result.andThen_ok,Sem.run_pure]
               · simp only [Rel]
                 exact ⟨_,g2,Nat.le_refl _,by simp⟩
   | _=>rw [bF] at he;cases he
theorem abo {ar:Fr} {E:Env} {h ab:af} {w:World} (s:aY ar E h w) {t:TypeId} {x y v:V} {X Y:Value} (al:Rel E x X) (aZ:Rel E y Y) (he:(Af P t).run x y h=.val v ab):
 cO ar P E w (Instr.makeSlice t X Y) v ab:=by
 unfold Af at he
 cases aA:aX P t with
 | none=>rw [aA] at he;cases he
 | some aK=>
   rw [aA] at he
   simp only at he
   have hu:=eS aA
   cases bF:aK.a' with
   | slice e=>
     rw [bF] at he hu
     simp only at he
     cases ca:aX P e with
     | none=>rw [ca] at he;cases he
     | some bd=>
       rw [ca] at he
       simp only at he
       cases bm:bd.zero with
       | none=>rw [bm] at he;cases he
       | some z=>
         rw [bm] at he
         simp only at he
         cases D5:Nat.ble bd.bytes 4096 with
         | false=>rw [D5] at he;cases he
         | true=>
           rw [D5] at he
           simp only [cond_true,Ag] at he
           obtain ⟨bL,l,rfl,zs⟩:=xo he
           obtain ⟨b0,c,rfl,dM⟩:=xo zs
           have:=al.hQ;subst this
           have:=aZ.hQ;subst this
           obtain ⟨aF,wu⟩:=iq dM
           simp only [Bool.and_eq_true,l9,decide_eq_true_eq,Nat.beq_eq] at aF
           obtain ⟨⟨a_,aa,ae⟩,aI⟩:=aF
           rw [Nat.ble_eq] at D5
           cases aV:fi h (hZ z.cells c.toNat) with
           | none=>rw [aV] at wu;cases wu
           | some bc=>
             rw [aV] at wu
             simp only [aU.val.injEq] at wu
             obtain ⟨rfl,rfl⟩:=wu
             obtain ⟨om,wZ,nT,nU⟩:=qP (P:=P) (E:=E) ca bm w
             have r_:om.cells.size=bd.size:=by rw [nU,aI]
             have r7:=xH nT c.toNat
             obtain ⟨ao,g1,g2,g3,g4⟩:=Ak (P:=P) s r7 aV e
             obtain ⟨i,aD,p6⟩:=GM (P:=P) ca w
             have X_:IntKind.i64.wrap l=l:=by simp only [IntKind.wrap,IntKind.bits,IntKind.signed];simp;omega
             have X':IntKind.i64.wrap c=c:=by simp only [IntKind.wrap,IntKind.bits,IntKind.signed];simp;omega
             have hmul:(bd.bytes:Int) * c≤4096 * 1000000:=by
              have ah:(bd.bytes:Int)≤4096:=by omega
              have:=Int.mul_le_mul_of_nonneg_right (c:=c) ah (by omega)
              omega
             refine ⟨.slice (some ⟨w.heap.size,0,none⟩) l.toNat c.toNat,_,ao,?_,g1,?_,g4⟩
             · have kP:=g3
               simp only [Array.toArray_toList] at kP
               have bE:¬c<0:=by omega
               have bR:¬((bd.bytes:Int) * c>281474976710656):=by omega
               have c3:¬l<0:=by omega
               have dh:¬l>c:=by omega
               have same:(if c.toNat * bd.size=0 then (Array.range (c.toNat * bd.size)).map (fun x=>(#[]:Array Value)[x % (#[]:Array Value).size]!) else (Array.range (c.toNat * bd.size)).map (fun x=>om.cells[x % om.cells.size]!))=
                (Array.range (c.toNat * om.cells.size)).map (om.cells[· % om.cells.size]!):=by
                rw [r_]
                by_cases az:c.toNat * bd.size=0
                · rw [az];simp
                · rw [if_neg az]
               simp only [Instr.makeSlice,Sem.run_bind,hu,Result.andThen_ok,asInt,asIntOf,Sem.run_pure,aD,X_,X',p6]
               rw [if_neg (by simp only [Bool.or_eq_true,decide_eq_true_eq,not_or];exact ⟨⟨⟨bE,bR⟩,c3⟩,dh⟩)]
               simp only [Result.andThen_ok,Sem.run_bind,run_askRoom,iI ca]
               by_cases az:c.toNat * bd.size=0
               · rw [if_pos az] at same
                 rw [if_pos az]
                 simp only [Sem.run_pure,Result.andThen_ok,Sem.run_bind,same,kP,Array.toArray_toList]
               · rw [if_neg az] at same
                 rw [if_neg az]
                 simp only [Sem.run_pure,Result.andThen_ok,Sem.run_bind,wZ,same,kP,Array.toArray_toList]
             · simp only [Rel]
               exact ⟨_,g2,by omega,by simp⟩
   | _=>rw [bF] at he;cases he
end
end Go.Proofs.YthemdhlheglhoaaGreatDoor.a6
namespace Go.Proofs.YthemdhlheglhoaaGreatDoor.a6
variable [Lay]
open Go Go.RowKit
theorem aO.jK:∀{p q:aO},aO.fs p q=true→p=q
 | .z,.z,_=>rfl
 | .l p,.l q,h=>by rw [aO.jK (p:=p) (q:=q) h]
 | .r p,.r q,h=>by rw [aO.jK (p:=p) (q:=q) h]
 | .z,.l _,h=>by cases h
 | .z,.r _,h=>by cases h
 | .l _,.z,h=>by cases h
 | .l _,.r _,h=>by cases h
 | .r _,.z,h=>by cases h
 | .r _,.l _,h=>by cases h
theorem aO.v':∀p:aO,aO.fs p p=true
 | .z=>rfl
 | .l p=>aO.v' p
 | .r p=>aO.v' p
section
variable {P:Program}
theorem MV {ar:Fr} {E:Env} {h:af} {w:World} (s:aY ar E h w) {b:aO} {p:hJ} (ag:E b=some p) (ah:(h.get b).AE=true):(h.get b).own=true∧∃c t,w.heap[p.a8]? =some (.cells c t (0,0)):=by
 have ax:=s.at ag
 cases aE:h.get b<;>rw [aE] at ah<;>try (cases ah;done)
 rename_i n cs cl st
 rw [aE] at ax
 obtain ⟨_,p',c,el,bK,aN,_,nL,_,cm,_⟩:=ax
 rw [ag] at aN;cases aN
 have:st=false:=by simpa [b1.AE] using ah
 rw [cm this] at nL
 exact ⟨rfl,c,el,nL⟩
theorem Nb {t:TypeId} (h:ku P t=true):∃e j,P.underlying t=some (.pointer e)∧P.info? e=some j∧j.size≠0:=by
 unfold ku at h
 cases aA:aX P t with
 | none=>rw [aA] at h;cases h
 | some aK=>
   rw [aA] at h
   simp only at h
   cases hu:aK.a'<;>rw [hu] at h<;>simp only at h<;>try (cases h;done)
   rename_i e
   cases he:aX P e with
   | none=>rw [he] at h;cases h
   | some bd=>
     rw [he] at h
     simp only at h
     obtain ⟨_,_,ae,_⟩:=qK aA
     obtain ⟨j,g1,_,g3,_⟩:=qK he
     refine ⟨e,j,by rw [ae,hu],g1,fun cz=>?_⟩
     rw [g3,cz] at h
     cases h
theorem acR {t:TypeId} (h:ku P t=true) (w:World):∃e,(underlying t).run P w=.ok (.pointer e) w:=by
 obtain ⟨e,_,aa,_⟩:=Nb h
 exact ⟨e,GN aa w⟩
theorem adx {t e:TypeId} {w:World} (hu:(underlying t).run P w=.ok (.pointer e) w) (b:Bool) (v:Value):(Instr.checkKey b 10000 t v).run P w=.ok () w:=by
 show (Instr.checkKey b (9999+1) t v).run P w=.ok () w
 unfold Instr.checkKey
 rw [Sem.run_bind,hu]
 rfl
theorem M_ {ar:Fr} {E:Env} {h:af} {w:World} (s:aY ar E h w) {t:TypeId} (aA:ku P t=true) {x y:V} {X Y:Value} {b:Bool} (he:mh h x y=some b) (al:Rel E x X) (aZ:Rel E y Y):
 (∃a c,X=.pointer (some a)∧Y=.pointer (some c))∧∀d,(Op.equalIn (d+1) t X Y).run P w=.ok b w:=by
 obtain ⟨e,j,ag,ca,b5⟩:=Nb aA
 unfold mh at he
 split at he
 case h_2=>cases he
 rename_i ct dS
 split at he
 case h_2=>cases he
 rename_i cf eo
 simp only [Rel] at al aZ
 obtain ⟨p,hn,rfl⟩:=al
 obtain ⟨q,gR,rfl⟩:=aZ
 refine ⟨⟨_,_,rfl,rfl⟩,fun d=>?_⟩
 cases heq:aO.fs ct cf with
 | true=>
   rw [heq] at he
   simp only [cond_true,Option.some.injEq] at he
   have:=aO.jK heq
   subst this
   rw [hn] at gR;cases gR
   have ah:b=decide (dS=eo):=by
    rw [←he]
    by_cases h:dS=eo
    · subst h;simp
    · rw [decide_eq_false h,←Bool.not_eq_true,Nat.beq_eq];exact h
   have key:(sameAddr ⟨p.a8,p.base+dS,none⟩ ⟨p.a8,p.base+eo,none⟩).run P w=.ok b w:=by
    rw [ah]
    by_cases h:dS=eo
    · subst h
      simpa using run_sameAddr_same w (⟨p.a8,p.base+dS,none⟩:Addr)
    · have dp:((⟨p.a8,p.base+dS,none⟩:Addr) == ⟨p.a8,p.base+eo,none⟩)=false:=by
       rw [beq_eq_false_iff_ne]
       intro e
       injection e with _ bf _
       omega
      simp [sameAddr,dp,h]
   simp [Op.equalIn,run_underlying ag,sizeOf,typeInfo,ca,b5,key]
 | false=>
   rw [heq] at he
   simp only [cond_false] at he
   obtain ⟨aF,he⟩:=dR he
   simp only [Bool.and_eq_true] at aF
   cases he
   obtain ⟨F4,bE,t1,nK⟩:=MV s hn aF.1
   obtain ⟨F5,bR,t2,Ek⟩:=MV s gR aF.2
   have dp:(⟨p.a8,p.base+dS,none⟩:Addr)≠⟨q.a8,q.base+eo,none⟩:=by
    intro e
    injection e with aN _ _
    have:=s.inj ct cf p q F4 F5 hn gR aN
    subst this
    rw [aO.v'] at heq
    cases heq
   simp [Op.equalIn,run_underlying ag,sizeOf,typeInfo,ca,b5,run_sameAddr_other w dp nK Ek]
theorem acP {ar:Fr} {E:Env} {h:af} {w:World} (s:aY ar E h w) {op:BinOp} {t:TypeId} {neg:Bool} (jT:AJ P op t=some neg) {x y:V} {hX fl:Operand} {X Y:Value} {b:Bool} (he:mh h x y=some b) (al:Rel E x X) (aZ:Rel E y Y):
 ∃Z,(do eqGuard op t hX fl X Y;binOp op t X Y:Sem Value).run P w=.ok Z w∧Rel E (.bool (bif neg then !b else b)) Z:=by
 unfold AJ at jT
 have main:ku P t=true→((op=.eql∧neg=false)∨(op=.neq∧neg=true))→∃Z,(do eqGuard op t hX fl X Y;binOp op t X Y:Sem Value).run P w=.ok Z w∧Rel E (.bool (bif neg then !b else b)) Z:=by
  intro aA ki
  obtain ⟨⟨a,c,rfl,rfl⟩,cA⟩:=M_ s aA he al aZ
  have aE:=fun (o:BinOp)=>yU (P:=P) (op:=o) (t:=t) (x:=hX) (y:=fl) (X:=.pointer (some a)) (Y:=.pointer (some c)) (by simp) (.inl (by simp)) w
  have aN:(Op.equal t (.pointer (some a)) (.pointer (some c))).run P w=.ok b w:=cA 9999
  rcases ki with ⟨rfl,rfl⟩ | ⟨rfl,rfl⟩
  · refine ⟨.bool b,?_,by simp [Rel]⟩
    rw [Sem.run_bind,aE,Result.andThen_ok,binOp_eql (X:=.pointer (some a)) True.intro,Sem.run_bind,aN]
    rfl
  · refine ⟨.bool (!b),?_,by simp [Rel]⟩
    rw [Sem.run_bind,aE,Result.andThen_ok,binOp_neq (X:=.pointer (some a)) True.intro,Sem.run_bind,aN]
    rfl
 cases op<;>simp only at jT<;>try (cases jT;done)
 · obtain ⟨aa,ae⟩:=dR jT
   cases ae
   exact main aa (.inl ⟨rfl,rfl⟩)
 · obtain ⟨aa,ae⟩:=dR jT
   cases ae
   exact main aa (.inr ⟨rfl,rfl⟩)
end
end Go.Proofs.YthemdhlheglhoaaGreatDoor.a6
namespace Go.Proofs.YthemdhlheglhoaaGreatDoor.a6
variable [Lay]
open Go Go.RowKit
section
variable {P:Program}
def s0 (P:Program) (w:World) (E:Env) (b':TypeId) (e:db):Prop:=
 ∀k bp K k_ b,e.run k bp=some b→Rel E k K→Rel E bp k_→(Op.equal b' K k_).run P w=.ok b w∧(b=true→k_=K∧Instr.sameBits 10000 K K=true)
theorem acQ {ar:Fr} {E:Env} {h:af} {w:World} (s:aY ar E h w) {b':TypeId} (aA:ku P b'=true):s0 P w E b' ⟨mh h⟩:=by
 intro k bp K k_ b he al aZ
 obtain ⟨⟨a,c,rfl,rfl⟩,cA⟩:=M_ s aA he al aZ
 refine ⟨cA 9999,fun ah=>?_⟩
 subst ah
 simp only [mh] at he
 split at he
 case h_2=>cases he
 split at he
 case h_2=>cases he
 rename_i ct dS _ cf eo
 simp only [Rel] at al aZ
 obtain ⟨p,hn,al⟩:=al
 obtain ⟨q,gR,aZ⟩:=aZ
 cases heq:aO.fs ct cf with
 | false=>
   rw [heq] at he
   simp only [cond_false] at he
   obtain ⟨_,he⟩:=dR he
   cases he
 | true=>
   rw [heq] at he
   simp only [cond_true,Option.some.injEq] at he
   have:=aO.jK heq
   subst this
   rw [hn] at gR;cases gR
   have:=Nat.eq_of_beq_eq_true he
   subst this
   rw [al,aZ]
   exact ⟨rfl,by simp [Instr.sameBits]⟩
theorem JG {w:World} {E:Env} {b':TypeId} {e:db} (kb:s0 P w E b' e) {k:V} {K:Value} (ax:Rel E k K):∀(es:List cx) (l:List MapEntry) (r:Option V) (i:Nat),lS e k es=some r→dQ E es l→
 ∃R,(Instr.findAsking b' K l i).run P w=.ok R w∧(match r with
  | none=>R=none
  | some v=>∃j Y,R=some (j,Y)∧Rel E v Y)
 | [],l,r,i,h,aG=>by
   simp only [dQ] at aG
   subst aG
   simp only [lS,Option.some.injEq] at h
   subst h
   exact ⟨none,rfl,rfl⟩
 | m::ms,l,r,i,h,aG=>by
   obtain ⟨dB,es,rfl,aa,ae,aI,bo⟩:=aG
   simp only [lS] at h
   cases aQ:e.run k m.k with
   | none=>rw [aQ] at h;cases h
   | some b=>
     rw [aQ] at h
     simp only at h
     obtain ⟨au,aC⟩:=kb _ _ _ _ _ aQ ax aa
     cases b with
     | true=>
       simp only [cond_true,Option.some.injEq] at h
       subst h
       exact ⟨some (i,dB.val),by simp [Instr.findAsking,au],i,dB.val,rfl,ae⟩
     | false=>
       simp only [cond_false] at h
       obtain ⟨R,g1,g2⟩:=JG kb ax ms es r (i+1) h bo
       exact ⟨R,by simp [Instr.findAsking,au,g1],g2⟩
theorem Nc {w:World} {E:Env} {b':TypeId} {e:db} (kb:s0 P w E b' e) {k v:V} {K X:Value} (ax:Rel E k K) (bn:Rel E v X) (clock:Nat):∀(es:List cx) (l:List MapEntry) (r:List cx × Bool) (i:Nat),j4 e k v clock es=some r→dQ E es l→
 (r.2=true→(Instr.findAsking b' K l i).run P w=.ok none w∧dQ E r.1 (l++[⟨K,X,clock⟩]))∧
 (r.2=false→∃j dB Y,(Instr.findAsking b' K l i).run P w=.ok (some (i+j,Y)) w∧l[j]? =some dB∧Instr.sameBits 10000 dB.key K=true∧dQ E r.1 (l.modify j fun dB=>{dB with key:=K,val:=X}))
 | [],l,r,i,h,aG=>by
   simp only [dQ] at aG
   subst aG
   simp only [j4,Option.some.injEq] at h
   subst h
   exact ⟨fun _=>⟨rfl,_,_,rfl,ax,bn,rfl,rfl⟩,fun h=>by cases h⟩
 | m::ms,l,r,i,h,aG=>by
   obtain ⟨dB,es,rfl,aa,ae,aI,bo⟩:=aG
   simp only [j4] at h
   cases aQ:e.run k m.k with
   | none=>rw [aQ] at h;cases h
   | some b=>
     rw [aQ] at h
     simp only at h
     obtain ⟨au,aC⟩:=kb _ _ _ _ _ aQ ax aa
     cases b with
     | true=>
       simp only [cond_true,Option.some.injEq] at h
       subst h
       obtain ⟨aM,bG⟩:=aC rfl
       refine ⟨fun h=>(by cases h),fun _=>⟨0,dB,dB.val,by simp [Instr.findAsking,au],rfl,by rw [aM];exact bG,?_⟩⟩
       exact ⟨_,es,rfl,ax,bn,aI,bo⟩
     | false=>
       simp only [cond_false] at h
       cases ag:j4 e k v clock ms with
       | none=>rw [ag] at h;cases h
       | some bq=>
         rw [ag] at h
         simp only [Option.some.injEq] at h
         subst h
         obtain ⟨g1,g2⟩:=Nc kb ax bn clock ms es bq (i+1) ag bo
         refine ⟨fun h=>?_,fun h=>?_⟩
         · obtain ⟨bJ,a2⟩:=g1 h
           exact ⟨by simp [Instr.findAsking,au,bJ],⟨dB,es++[⟨K,X,clock⟩],rfl,aa,ae,aI,a2⟩⟩
         · obtain ⟨j,c0,Y,bJ,a2,a3,a4⟩:=g2 h
           exact ⟨j+1,c0,Y,by simp [Instr.findAsking,au,bJ];omega,by simpa using a2,a3,⟨dB,_,rfl,aa,ae,aI,a4⟩⟩
theorem adz {b':TypeId} {iN:TypeId} {w:World} (hu:(underlying b').run P w=.ok (.pointer iN) w) {K:Value} {l:List MapEntry} {R:Option (Nat × Value)} (h:(Instr.findAsking b' K l 0).run P w=.ok R w):
 (Instr.findKey b' K l).run P w=.ok R w:=by
 cases l with
 | nil=>
   simp only [Instr.findAsking,Sem.run_pure] at h
   cases h
   simp [Instr.findKey,hu,Instr.findNow]
 | cons dB es=>
   have aV:Instr.findNow (.pointer iN) K (dB::es) 0=none:=by simp [Instr.findNow,Instr.sameNow]
   simp [Instr.findKey,hu,aV,h]
theorem UW {x y:V} (h:ru x y=true):x=y:=by
 cases x<;>simp only [ru] at h<;>try (cases h;done)
 all_goals (cases y<;>simp only at h<;>try (cases h;done))
 · rw [beq_iff_eq] at h;rw [h]
 · simp only [Bool.and_eq_true,jK,beq_iff_eq] at h
   rw [pU h.1,h.2]
 · rw [re,beq_iff_eq] at h;rw [h]
theorem Jw:∀{xs cu:List V},rv xs cu=true→xs=cu
 | [],[],_=>rfl
 | [],_::_,h=>by cases h
 | _::_,[],h=>by cases h
 | x::xs,y::cu,h=>by
   simp only [rv] at h
   cases aa:ru x y with
   | false=>rw [aa] at h;cases h
   | true=>rw [aa] at h;rw [UW aa,Jw h]
theorem UU {E:Env} {x:V} {X Y:Value} (h:ru x x=true) (cS:Rel E x X) (eL:Rel E x Y):X=Y∧∀n,Instr.sameBits n X X=true:=by
 cases x<;>simp only [ru] at h<;>try (cases h;done)
 · simp only [Rel] at cS eL;subst cS eL;exact ⟨rfl,fun n=>by cases n<;>simp [Instr.sameBits]⟩
 · simp only [Rel] at cS eL;subst cS eL;exact ⟨rfl,fun n=>by cases n<;>simp [Instr.sameBits]⟩
 · simp only [Rel] at cS eL;subst cS eL;exact ⟨rfl,fun n=>by cases n<;>simp [Instr.sameBits,bytes_beq]⟩
theorem Jv {E:Env}:∀{xs:List V} {l dD:List Value},rv xs xs=true→a7 E xs l→a7 E xs dD→l=dD∧∀n,((l.zip l).all fun (x,y)=>Instr.sameBits n x y)=true
 | [],l,dD,_,aa,ae=>by
   simp only [a7] at aa ae
   subst aa ae
   exact ⟨rfl,fun _=>rfl⟩
 | x::xs,l,dD,h,aa,ae=>by
   obtain ⟨y,cu,rfl,bJ,a2⟩:=aa
   obtain ⟨sQ,ag1,rfl,ct,cf⟩:=ae
   simp only [rv] at h
   cases aF:ru x x with
   | false=>rw [aF] at h;cases h
   | true=>
     rw [aF] at h
     obtain ⟨rfl,au⟩:=UU aF bJ ct
     obtain ⟨rfl,aC⟩:=Jv h a2 cf
     exact ⟨rfl,fun n=>by simp only [List.zip_cons_cons,List.all_cons,au,aC,Bool.and_self]⟩
theorem aek {w:World} {E:Env} {b':TypeId}:s0 P w E b' (structEq P b'):=by
 intro k bp K k_ b he al aZ
 simp only [structEq] at he
 split at he
 case h_2=>cases he
 split at he
 case h_2=>cases he
 rename_i xs _ cu
 cases az:(gh P 12 b').run (.agg xs) (.agg cu) with
 | none=>rw [az] at he;cases he
 | some c=>
   rw [az] at he
   have aQ:=Dz 12 Op.maxDepth b' _ _ K k_ c (by decide) az al aZ w
   cases c with
   | false=>
     simp only [cond_false,Option.some.injEq] at he
     subst he
     exact ⟨aQ,fun h=>by cases h⟩
   | true=>
     simp only [cond_true] at he
     cases ag:rv xs cu with
     | false=>rw [ag] at he;cases he
     | true=>
       rw [ag] at he
       simp only [cond_true,Option.some.injEq] at he
       subst he
       refine ⟨aQ,fun _=>?_⟩
       have:=Jw ag
       subst this
       simp only [Rel] at al aZ
       obtain ⟨a,rfl,aa⟩:=al
       obtain ⟨bg,rfl,ae⟩:=aZ
       obtain ⟨e,q⟩:=Jv ag aa ae
       have c0:a=bg:=Array.toList_inj.1 e
       subst c0
       exact ⟨rfl,by show Instr.sameBits (9999+1) _ _=true;simp only [Instr.sameBits,beq_self_eq_true,Bool.true_and];exact q _⟩
theorem run_checkKey_plain {a':TypeDesc} (av:lr a'=true) {t:TypeId} {w:World} (hu:(underlying t).run P w=.ok a' w) (b:Bool) (n:Nat) (v:Value):(Instr.checkKey b (n+1) t v).run P w=.ok () w:=by
 unfold Instr.checkKey
 rw [Sem.run_bind,hu]
 cases a'<;>simp only [lr] at av<;>first
  | (cases av;done)
  | rfl
theorem Vr {w:World} {E:Env} {cs:List V} {a:Array Value} (br:a7 E cs a.toList) (b:Bool) (n:Nat):∀(b2:List Field),y7 P cs b2=true→
 (do for f in b2 do
      if f.name≠ "_" then Instr.checkKey b (n+1) f.type (←part f.type a f.offset):Sem Unit).run P w=.ok () w:=by
 intro b2
 induction b2 with
 | nil=>intro _;simp
 | cons f b2 bh=>
   intro h
   simp only [y7] at h
   cases aa:(nd P f.type f.offset).run cs with
   | none=>rw [aa] at h;cases h
   | some x=>
     rw [aa] at h
     simp only at h
     cases ae:aX P f.type with
     | none=>rw [ae] at h;cases h
     | some iP=>
       rw [ae] at h
       simp only at h
       cases aI:lr iP.a' with
       | false=>rw [aI] at h;cases h
       | true=>
         rw [aI] at h
         simp only [cond_true] at h
         obtain ⟨X,cS,_⟩:=xy br aa w
         have ax:=run_checkKey_plain (P:=P) aI (eS ae w) b n X
         have:=bh h
         by_cases aV:f.name= "_"
         · simpa [aV] using this
         · simpa [aV,cS,ax] using this
theorem ael {t:TypeId} (h:pr P t=true) (w:World):∃b2,(underlying t).run P w=.ok (.struct b2) w:=by
 unfold pr at h
 cases aA:aX P t with
 | none=>rw [aA] at h;cases h
 | some aK=>
   rw [aA] at h
   simp only at h
   have hu:=eS aA w
   cases bF:aK.a'<;>rw [bF] at h<;>simp only at h<;>try (cases h;done)
   rw [bF] at hu
   exact ⟨_,hu⟩
theorem ady {t:TypeId} {k:V} (aE:sh P t k=true) {E:Env} {K:Value} (ax:Rel E k K) {w:World} (b:Bool):(Instr.checkKey b 10000 t K).run P w=.ok () w:=by
 unfold sh at aE
 cases aA:aX P t with
 | none=>rw [aA] at aE;cases aE
 | some aK=>
   rw [aA] at aE
   simp only at aE
   have hu:=eS aA w
   cases bF:aK.a'<;>rw [bF] at aE<;>simp only at aE<;>try (cases aE;done)
   rename_i b2
   rw [bF] at hu
   cases k<;>simp only at aE<;>try (cases aE;done)
   rename_i cs
   simp only [Rel] at ax
   obtain ⟨a,rfl,br⟩:=ax
   show (Instr.checkKey b (9998+1+1) t (.agg a)).run P w=.ok () w
   unfold Instr.checkKey
   rw [Sem.run_bind,hu]
   have:=Vr (P:=P) (w:=w) br b 9998 b2.toList aE
   simp only [Result.andThen_ok,Array.forIn_toList] at this ⊢
   exact this
theorem adA {b':TypeId} {b2:Array Field} {w:World} (hu:(underlying b').run P w=.ok (.struct b2) w) {K:Value} {l:List MapEntry} {R:Option (Nat × Value)} (h:(Instr.findAsking b' K l 0).run P w=.ok R w):
 (Instr.findKey b' K l).run P w=.ok R w:=by
 cases l with
 | nil=>
   simp only [Instr.findAsking,Sem.run_pure] at h
   cases h
   simp [Instr.findKey,hu,Instr.findNow]
 | cons dB es=>
   have aV:Instr.findNow (.struct b2) K (dB::es) 0=none:=by simp [Instr.findNow,Instr.sameNow]
   simp [Instr.findKey,hu,aV,h]
structure vf (P:Program) (w:World) (E:Env) (b':TypeId) (e:db) (K:Value):Prop where
 eq:s0 P w E b' e
 check:∀b,(Instr.checkKey b 10000 b' K).run P w=.ok () w
 find:∀{l:List MapEntry} {R},(Instr.findAsking b' K l 0).run P w=.ok R w→(Instr.findKey b' K l).run P w=.ok R w
theorem B2 {ar:Fr} {E:Env} {h:af} {w:World} (s:aY ar E h w) {b':TypeId} (aA:ku P b'=true) (K:Value):vf P w E b' ⟨mh h⟩ K:=by
 obtain ⟨MR,kR⟩:=acR aA w
 exact ⟨acQ s aA,fun b=>adx kR b K,fun q=>adz kR q⟩
theorem B3 {w:World} {E:Env} {b':TypeId} (aA:pr P b'=true) {k:V} (aE:sh P b' k=true) {K:Value} (ax:Rel E k K):vf P w E b' (structEq P b') K:=by
 obtain ⟨b2,kR⟩:=ael aA w
 exact ⟨aek,fun b=>ady aE ax b,fun q=>adA kR q⟩
end
end Go.Proofs.YthemdhlheglhoaaGreatDoor.a6
namespace Go.Proofs.YthemdhlheglhoaaGreatDoor.a6
variable [Lay]
open Go Go.RowKit
section
variable {P:Program}
theorem Ft {E:Env} {a':TypeDesc} {k bp:V} {K k_:Value} {b:Bool} (he:(js a').run k bp=some b) (al:Rel E k K) (aZ:Rel E bp k_):
 Instr.sameNow a' K k_=some b∧(b=true→k_=K∧∀n,Instr.sameBits n K K=true):=by
 cases a'<;>simp only [js] at he<;>try (simp [db.none] at he;done)
 case bool=>
  simp only [nz] at he
  cases k<;>simp only at he<;>try (cases he;done)
  cases bp<;>simp only at he<;>try (cases he;done)
  simp only [Rel] at al aZ
  subst al aZ
  simp only [Option.some.injEq] at he
  subst he
  refine ⟨rfl,fun h=>?_⟩
  rw [beq_iff_eq] at h
  subst h
  exact ⟨rfl,fun n=>by cases n<;>simp [Instr.sameBits]⟩
 case int nX=>
  simp only [jL] at he
  obtain ⟨j,m,rfl,aa⟩:=ie he
  clear he
  obtain ⟨zX,cX,rfl,ae⟩:=ie aa
  clear aa
  obtain ⟨ax,h⟩:=dR ae
  clear ae
  have:=pU ax
  subst this
  simp only [Rel] at al aZ
  subst al aZ
  simp only [Option.some.injEq,jK] at h
  subst h
  refine ⟨by simp [Instr.sameNow],fun h=>?_⟩
  rw [beq_iff_eq] at h
  subst h
  exact ⟨rfl,fun n=>by cases n<;>simp [Instr.sameBits]⟩
 case string=>
  simp only [ry] at he
  cases k<;>simp only at he<;>try (cases he;done)
  cases bp<;>simp only at he<;>try (cases he;done)
  simp only [Rel] at al aZ
  subst al aZ
  simp only [Option.some.injEq,re] at he
  subst he
  refine ⟨by simp only [Instr.sameNow,bytes_beq],fun h=>?_⟩
  rw [beq_iff_eq] at h
  subst h
  exact ⟨rfl,fun n=>by cases n<;>simp [Instr.sameBits,bytes_beq]⟩
theorem run_checkKey {a':TypeDesc} (av:lr a'=true) {t:TypeId} {w:World} (hu:(underlying t).run P w=.ok a' w) (b:Bool) (v:Value):(Instr.checkKey b 10000 t v).run P w=.ok () w:=by
 show (Instr.checkKey b (9999+1) t v).run P w=.ok () w
 unfold Instr.checkKey
 rw [Sem.run_bind,hu]
 cases a'<;>simp only [lr] at av<;>first
  | (cases av;done)
  | rfl
theorem run_findKey {a':TypeDesc} {t:TypeId} {w:World} (hu:(underlying t).run P w=.ok a' w) {K:Value} {l:List MapEntry} {R:Option (Nat × Value)} (h:Instr.findNow a' K l 0=some R):
 (Instr.findKey t K l).run P w=.ok R w:=by
 simp only [Instr.findKey,Sem.run_bind,hu,Result.andThen_ok,h,Sem.run_pure]
theorem JL {E:Env} {a':TypeDesc} {k:V} {K:Value} (ax:Rel E k K):∀(es:List cx) (l:List MapEntry) (r:Option V) (i:Nat),lS (js a') k es=some r→dQ E es l→
 ∃R,Instr.findNow a' K l i=some R∧(match r with
  | none=>R=none
  | some v=>∃j Y,R=some (j,Y)∧Rel E v Y)
 | [],l,r,i,h,aG=>by
   simp only [dQ] at aG
   subst aG
   simp only [lS,Option.some.injEq] at h
   subst h
   exact ⟨none,rfl,rfl⟩
 | m::ms,l,r,i,h,aG=>by
   obtain ⟨e,es,rfl,aa,ae,aI,bo⟩:=aG
   simp only [lS] at h
   cases aQ:(js a').run k m.k with
   | none=>rw [aQ] at h;cases h
   | some b=>
     rw [aQ] at h
     simp only at h
     obtain ⟨au,aC⟩:=Ft aQ ax aa
     cases b with
     | true=>
       simp only [cond_true,Option.some.injEq] at h
       subst h
       exact ⟨some (i,e.val),by simp only [Instr.findNow,au],i,e.val,rfl,ae⟩
     | false=>
       simp only [cond_false] at h
       obtain ⟨R,g1,g2⟩:=JL ax ms es r (i+1) h bo
       exact ⟨R,by simp only [Instr.findNow,au,g1],g2⟩
theorem Nl {E:Env} {a':TypeDesc} {k v:V} {K X:Value} (ax:Rel E k K) (bn:Rel E v X) (clock:Nat):∀(es:List cx) (l:List MapEntry) (r:List cx × Bool) (i:Nat),j4 (js a') k v clock es=some r→dQ E es l→
 (r.2=true→Instr.findNow a' K l i=some none∧dQ E r.1 (l++[⟨K,X,clock⟩]))∧
 (r.2=false→∃j e Y,Instr.findNow a' K l i=some (some (i+j,Y))∧l[j]? =some e∧Instr.sameBits 10000 e.key K=true∧dQ E r.1 (l.modify j fun e=>{e with key:=K,val:=X}))
 | [],l,r,i,h,aG=>by
   simp only [dQ] at aG
   subst aG
   simp only [j4,Option.some.injEq] at h
   subst h
   exact ⟨fun _=>⟨rfl,_,_,rfl,ax,bn,rfl,rfl⟩,fun h=>by cases h⟩
 | m::ms,l,r,i,h,aG=>by
   obtain ⟨e,es,rfl,aa,ae,aI,bo⟩:=aG
   simp only [j4] at h
   cases aQ:(js a').run k m.k with
   | none=>rw [aQ] at h;cases h
   | some b=>
     rw [aQ] at h
     simp only at h
     obtain ⟨au,aC⟩:=Ft aQ ax aa
     cases b with
     | true=>
       simp only [cond_true,Option.some.injEq] at h
       subst h
       obtain ⟨aM,bG⟩:=aC rfl
       refine ⟨fun h=>(by cases h),fun _=>⟨0,e,e.val,by simp only [Instr.findNow,au,Nat.add_zero],rfl,by rw [aM];exact bG _,?_⟩⟩
       exact ⟨_,es,rfl,ax,bn,aI,bo⟩
     | false=>
       simp only [cond_false] at h
       cases ag:j4 (js a') k v clock ms with
       | none=>rw [ag] at h;cases h
       | some bq=>
         rw [ag] at h
         simp only [Option.some.injEq] at h
         subst h
         obtain ⟨g1,g2⟩:=Nl ax bn clock ms es bq (i+1) ag bo
         refine ⟨fun h=>?_,fun h=>?_⟩
         · obtain ⟨bJ,a2⟩:=g1 h
           exact ⟨by simp only [Instr.findNow,au,bJ],⟨e,es++[⟨K,X,clock⟩],rfl,aa,ae,aI,a2⟩⟩
         · obtain ⟨j,c0,Y,bJ,a2,a3,a4⟩:=g2 h
           exact ⟨j+1,c0,Y,by simp only [Instr.findNow,au,bJ];congr 3;omega,by simpa using a2,a3,e,_,rfl,aa,ae,aI,a4⟩
theorem FC {ar:Fr} {E:Env} {h:af} {w:World} (s:aY ar E h w) {x:V} {X:Value} {es:List cx} (he:ql h x=some es) (al:Rel E x X):
 (X=.map none∧es=[])∨∃r a clock,X=.map (some r)∧(getObj r).run P w=.ok (.map a clock) w∧dQ E es a.toList:=by
 cases x<;>simp only [ql] at he<;>try (cases he;done)
 · simp only [Rel] at al
   exact .inl ⟨al,by simpa using he.symm⟩
 · rename_i b
   simp only [Rel] at al
   obtain ⟨p,ag,rfl⟩:=al
   have ah:=s.at ag
   cases aE:h.get b<;>rw [aE] at he<;>simp only [b1.jv] at he<;>try (cases he;done)
   simp only [Option.some.injEq] at he
   subst he
   rw [aE] at ah
   obtain ⟨q,a,aa,_,aI,bo⟩:=ah
   rw [ag] at aa;cases aa
   exact .inr ⟨p.a8,a,_,rfl,by simp only [getObj,Sem.run,aI];rfl,bo⟩
theorem JI {a':TypeDesc} {K:Value}:∀{l:List MapEntry} {i:Nat},(∀e ∈ l,Instr.sameNow a' K e.key=some false)→Instr.findNow a' K l i=some none
 | [],_,_=>rfl
 | e::es,i,h=>by
   simp only [Instr.findNow,h e (by simp)]
   exact JI fun c0 d'=>h c0 (by simp [d'])
theorem JJ {a':TypeDesc} {K:Value}:∀{l:List MapEntry} {i:Nat},(∀e ∈ l,∃b,Instr.sameNow a' K e.key=some b)→(∃e ∈ l,Instr.sameNow a' K e.key=some true)→
 ∃j,∃e ∈ l,Instr.sameNow a' K e.key=some true∧Instr.findNow a' K l i=some (some (j,e.val))
 | [],_,_,h=>by obtain ⟨e,he,_⟩:=h;simp at he
 | e::es,i,aa,ae=>by
   obtain ⟨b,ah⟩:=aa e (by simp)
   cases b with
   | true=>exact ⟨i,e,by simp,ah,by simp only [Instr.findNow,ah]⟩
   | false=>
     obtain ⟨c0,d',aA⟩:=ae
     simp only [List.mem_cons] at d'
     rcases d' with rfl | d'
     · rw [ah] at aA;cases aA
     · obtain ⟨j,bf,au,aC,aM⟩:=JJ (i:=i+1) (fun x al=>aa x (by simp [al])) ⟨c0,d',aA⟩
       exact ⟨j,bf,by simp [au],aC,by simp only [Instr.findNow,ah,aM]⟩
theorem JK {E:Env} {a':TypeDesc} {k:V} {K:Value} (ax:Rel E k K):∀(es:List cx) (l:List MapEntry) (r:Option V),oQ (js a') k es=some r→lg E es l→
 (∀e ∈ l,∃b,Instr.sameNow a' K e.key=some b)∧(match r with
  | none=>∀e ∈ l,Instr.sameNow a' K e.key=some false
  | some v=>(∃e ∈ l,Instr.sameNow a' K e.key=some true)∧∀e ∈ l,Instr.sameNow a' K e.key=some true→Rel E v e.val)
 | [],l,r,h,aG=>by
   simp only [lg] at aG
   subst aG
   simp only [oQ,Option.some.injEq] at h
   subst h
   exact ⟨fun e he=>by simp at he,fun e he=>by simp at he⟩
 | m::ms,l,r,h,aG=>by
   obtain ⟨e,es,rfl,aa,ae,bo⟩:=aG
   simp only [oQ] at h
   cases av:oQ (js a') k ms with
   | none=>rw [av] at h;cases h
   | some bq=>
     rw [av] at h
     simp only at h
     obtain ⟨g1,g2⟩:=JK ax ms es bq av bo
     cases aQ:(js a').run k m.k with
     | none=>rw [aQ] at h;cases h
     | some b=>
       rw [aQ] at h
       simp only at h
       obtain ⟨au,_⟩:=Ft aQ ax aa
       have D7:∀c0 ∈ e::es,∃b,Instr.sameNow a' K c0.key=some b:=by
        intro c0 d'
        rcases List.mem_cons.1 d' with rfl | d'
        · exact ⟨b,au⟩
        · exact g1 c0 d'
       refine ⟨D7,?_⟩
       cases b with
       | true=>
         simp only [cond_true] at h
         cases bq with
         | some _=>cases h
         | none=>
           simp only [Option.some.injEq] at h
           subst h
           refine ⟨⟨e,by simp,au⟩,fun c0 d' aA=>?_⟩
           rcases List.mem_cons.1 d' with rfl | d'
           · exact ae
           · have:=g2 c0 d'
             rw [aA] at this;cases this
       | false=>
         simp only [cond_false,Option.some.injEq] at h
         subst h
         cases bq with
         | none=>
           intro c0 d'
           rcases List.mem_cons.1 d' with rfl | d'
           · exact au
           · exact g2 c0 d'
         | some v=>
           obtain ⟨⟨cz,et,f_⟩,y3⟩:=g2
           refine ⟨⟨cz,by simp [et],f_⟩,fun c0 d' aA=>?_⟩
           rcases List.mem_cons.1 d' with rfl | d'
           · rw [au] at aA;cases aA
           · exact y3 c0 d' aA
theorem Vj {E:Env} {a':TypeDesc} {k:V} {K:Value} (ax:Rel E k K) {es:List cx} {l a:List MapEntry} {r:Option V} (h:oQ (js a') k es=some r) (aG:lg E es l) (ag:l.Perm a):
 ∃R,Instr.findNow a' K a 0=some R∧(match r with
  | none=>R=none
  | some v=>∃j Y,R=some (j,Y)∧Rel E v Y):=by
 obtain ⟨aa,ae⟩:=JK ax es l r h aG
 have hm:∀e,e ∈ a↔e ∈ l:=fun e=>ag.mem_iff.symm
 cases r with
 | none=>exact ⟨none,JI fun e he=>ae e ((hm e).1 he),rfl⟩
 | some v=>
   obtain ⟨⟨cz,et,f_⟩,y3⟩:=ae
   obtain ⟨j,e,au,aC,aM⟩:=JJ (i:=0) (fun e he=>aa e ((hm e).1 he)) ⟨cz,(hm cz).2 et,f_⟩
   exact ⟨_,aM,j,e.val,rfl,y3 e ((hm e).1 au) aC⟩
theorem abh {e:db} {z:V} {ok:Bool} {h:af} {x k v:V} (he:ma e z ok h x k=some v):
 o' e z ok h x k=some v∨∃b es r,x=.map b∧h.get b=.hU es∧oQ e k es=some r∧v=(match r with
  | some u=>bif ok then .tuple [u,.bool true] else u
  | none=>bif ok then .tuple [z,.bool false] else z):=by
 unfold ma at he
 cases x<;>simp only at he<;>try (exact .inl he)
 rename_i b
 cases aE:h.get b<;>rw [aE] at he<;>simp only at he<;>try (exact .inl he)
 rename_i es
 cases av:oQ e k es with
 | none=>rw [av] at he;cases he
 | some r=>
   rw [av] at he
   refine .inr ⟨b,es,r,rfl,aE,av,?_⟩
   cases r<;>simp only [Option.some.injEq] at he<;>exact he.symm
theorem abg {ar:Fr} {E:Env} {h:af} {w:World} (s:aY ar E h w) {t:TypeId} {ok:Bool} {x k v:V} {X K:Value} (al:Rel E x X) (ax:Rel E k K) (he:(Ad P t ok).run h x k=some v):
 ∃Z,(Instr.lookup t X K ok).run P w=.ok Z w∧Rel E v Z:=by
 unfold Ad at he
 cases aA:aX P t with
 | none=>rw [aA] at he;cases he
 | some aK=>
   rw [aA] at he
   simp only at he
   have hu:=eS aA w
   cases bF:aK.a'<;>rw [bF] at he<;>simp only at he<;>try (cases he;done)
   rename_i b' iN
   rw [bF] at hu
   cases lp:aX P b' with
   | none=>rw [lp] at he;cases he
   | some gp=>
     rw [lp] at he
     simp only at he
     cases het:aX P iN with
     | none=>rw [het] at he;cases he
     | some bd=>
       rw [het] at he
       simp only at he
       cases bm:bd.zero with
       | none=>rw [bm] at he;cases he
       | some z=>
         rw [bm] at he
         simp only at he
         cases av:lr gp.a' with
         | false=>
           rw [av] at he
           simp only [cond_false] at he
           have p2:∃e,vf P w E b' e K∧o' e z ok h x k=some v:=by
            cases mR:ku P b' with
            | true=>
              rw [mR] at he
              exact ⟨_,B2 s mR K,he⟩
            | false=>
              rw [mR] at he
              simp only [cond_false] at he
              cases cm:pr P b' with
              | false=>rw [cm] at he;cases he
              | true=>
                rw [cm] at he
                simp only [cond_true] at he
                obtain ⟨aE,he⟩:=dR he
                exact ⟨_,B3 cm aE ax,he⟩
           clear he
           obtain ⟨e,ask,he⟩:=p2
           obtain ⟨qQ,kW,kl,_⟩:=uW (P:=P) het bm E w
           simp only [o'] at he
           cases hm:ql h x with
           | none=>rw [hm] at he;cases he
           | some es=>
             rw [hm] at he
             simp only at he
             cases rP:lS e k es with
             | none=>rw [rP] at he;cases he
             | some r=>
               rw [rP] at he
               simp only at he
               have main:∀(l:List MapEntry),dQ E es l→∃R,(Instr.findKey b' K l).run P w=.ok R w∧
                ((R=none∧Rel E v (if ok=true then .tuple #[qQ,.bool false] else qQ))∨∃j Y,R=some (j,Y)∧Rel E v (if ok=true then .tuple #[Y,.bool true] else Y)):=by
                intro l ai
                obtain ⟨R,g1,g2⟩:=JG ask.eq ax es l r 0 rP ai
                refine ⟨R,ask.find g1,?_⟩
                cases r with
                | none=>
                  simp only at g2 he
                  refine .inl ⟨g2,?_⟩
                  simp only [Option.some.injEq] at he
                  subst he
                  cases ok
                  · exact kl
                  · simp only [cond_true,if_true,Rel,a7];exact ⟨_,rfl,_,_,rfl,kl,_,_,rfl,rfl,rfl⟩
                | some u=>
                  simp only at g2 he
                  obtain ⟨j,Y,cv,eL⟩:=g2
                  refine .inr ⟨j,Y,cv,?_⟩
                  simp only [Option.some.injEq] at he
                  subst he
                  cases ok
                  · exact eL
                  · simp only [cond_true,if_true,Rel,a7];exact ⟨_,rfl,_,_,rfl,eL,_,_,rfl,rfl,rfl⟩
               rcases FC (P:=P) s hm al with ⟨rfl,rfl⟩ | ⟨bk,a,clock,rfl,ek,nP⟩
               · obtain ⟨R,g1,g2⟩:=main [] rfl
                 have hl:=ask.check true
                 rcases g2 with ⟨rfl,g3⟩ | ⟨j,Y,rfl,g3⟩
                 all_goals
                  refine ⟨_,?_,g3⟩
                  simp only [Instr.lookup,Sem.run_bind,hu,Result.andThen_ok,Sem.run_pure]
                  have aN:(#[]:Array MapEntry).isEmpty=true:=rfl
                  rw [aN,hl,Result.andThen_ok,g1,Result.andThen_ok]
                  simp only [Sem.run_bind,kW,Result.andThen_ok,Sem.run_pure]
               · obtain ⟨R,g1,g2⟩:=main a.toList nP
                 have hl:=ask.check a.isEmpty
                 rcases g2 with ⟨rfl,g3⟩ | ⟨j,Y,rfl,g3⟩
                 all_goals
                  refine ⟨_,?_,g3⟩
                  simp only [Instr.lookup,Sem.run_bind,hu,Result.andThen_ok,Sem.run_pure,ek]
                  rw [hl,Result.andThen_ok,g1,Result.andThen_ok]
                  simp only [Sem.run_bind,kW,Result.andThen_ok,Sem.run_pure]
         | true=>
           rw [av] at he
           simp only [cond_true] at he
           obtain ⟨qQ,kW,kl,_⟩:=uW (P:=P) het bm E w
           have kR:=eS lp w
           rcases abh he with he | ⟨b,es,r,rfl,aE,WY,rfl⟩
           case inr=>
            simp only [Rel] at al
            obtain ⟨p,ag,rfl⟩:=al
            have ah:=s.at ag
            rw [aE] at ah
            obtain ⟨p',a,c,l,e8,_,bc,X1,X2⟩:=ah
            rw [ag] at e8;cases e8
            obtain ⟨R,g1,g2⟩:=Vj ax WY X1 X2
            have ek:(getObj p.a8).run P w=.ok (.map a c) w:=by simp only [getObj,Sem.run,bc]
            have hl:=run_checkKey (P:=P) av kR a.isEmpty K
            have zb:=run_findKey kR g1
            cases r with
            | none=>
              simp only at g2
              subst g2
              refine ⟨if ok=true then .tuple #[qQ,.bool false] else qQ,?_,?_⟩
              · simp only [Instr.lookup,Sem.run_bind,hu,Result.andThen_ok,Sem.run_pure,ek]
                rw [hl,Result.andThen_ok,zb,Result.andThen_ok]
                simp only [Sem.run_bind,kW,Result.andThen_ok,Sem.run_pure]
              · cases ok
                · exact kl
                · simp only [cond_true,if_true,Rel,a7];exact ⟨_,rfl,_,_,rfl,kl,_,_,rfl,rfl,rfl⟩
            | some u=>
              simp only at g2
              obtain ⟨j,Y,rfl,eL⟩:=g2
              refine ⟨if ok=true then .tuple #[Y,.bool true] else Y,?_,?_⟩
              · simp only [Instr.lookup,Sem.run_bind,hu,Result.andThen_ok,Sem.run_pure,ek]
                rw [hl,Result.andThen_ok,zb,Result.andThen_ok]
                simp only [Sem.run_bind,Sem.run_pure,Result.andThen_ok]
              · cases ok
                · exact eL
                · simp only [cond_true,if_true,Rel,a7];exact ⟨_,rfl,_,_,rfl,eL,_,_,rfl,rfl,rfl⟩
           simp only [o'] at he
           cases hm:ql h x with
           | none=>rw [hm] at he;cases he
           | some es=>
             rw [hm] at he
             simp only at he
             cases rP:lS (js gp.a') k es with
             | none=>rw [rP] at he;cases he
             | some r=>
               rw [rP] at he
               simp only at he
               have main:∀(l:List MapEntry),dQ E es l→∃R,(Instr.findKey b' K l).run P w=.ok R w∧
                ((R=none∧Rel E v (if ok=true then .tuple #[qQ,.bool false] else qQ))∨∃j Y,R=some (j,Y)∧Rel E v (if ok=true then .tuple #[Y,.bool true] else Y)):=by
                intro l ai
                obtain ⟨R,g1,g2⟩:=JL ax es l r 0 rP ai
                refine ⟨R,run_findKey kR g1,?_⟩
                cases r with
                | none=>
                  simp only at g2 he
                  refine .inl ⟨g2,?_⟩
                  simp only [Option.some.injEq] at he
                  subst he
                  cases ok
                  · exact kl
                  · simp only [cond_true,if_true,Rel,a7];exact ⟨_,rfl,_,_,rfl,kl,_,_,rfl,rfl,rfl⟩
                | some u=>
                  simp only at g2 he
                  obtain ⟨j,Y,cv,eL⟩:=g2
                  refine .inr ⟨j,Y,cv,?_⟩
                  simp only [Option.some.injEq] at he
                  subst he
                  cases ok
                  · exact eL
                  · simp only [cond_true,if_true,Rel,a7];exact ⟨_,rfl,_,_,rfl,eL,_,_,rfl,rfl,rfl⟩
               rcases FC (P:=P) s hm al with ⟨rfl,rfl⟩ | ⟨bk,a,clock,rfl,ek,nP⟩
               · obtain ⟨R,g1,g2⟩:=main [] rfl
                 have hl:=run_checkKey (P:=P) av kR true K
                 rcases g2 with ⟨rfl,g3⟩ | ⟨j,Y,rfl,g3⟩
                 all_goals
                  refine ⟨_,?_,g3⟩
                  simp only [Instr.lookup,Sem.run_bind,hu,Result.andThen_ok,Sem.run_pure]
                  have aN:(#[]:Array MapEntry).isEmpty=true:=rfl
                  rw [aN,hl,Result.andThen_ok,g1,Result.andThen_ok]
                  simp only [Sem.run_bind,kW,Result.andThen_ok,Sem.run_pure]
               · obtain ⟨R,g1,g2⟩:=main a.toList nP
                 have hl:=run_checkKey (P:=P) av kR a.isEmpty K
                 rcases g2 with ⟨rfl,g3⟩ | ⟨j,Y,rfl,g3⟩
                 all_goals
                  refine ⟨_,?_,g3⟩
                  simp only [Instr.lookup,Sem.run_bind,hu,Result.andThen_ok,Sem.run_pure,ek]
                  rw [hl,Result.andThen_ok,g1,Result.andThen_ok]
                  simp only [Sem.run_bind,kW,Result.andThen_ok,Sem.run_pure]
theorem OH {ar:Fr} {E:Env} {h ab:af} {w:World} (s:aY ar E h w) {t:TypeId} {x k v:V} {X K Y:Value} (al:Rel E x X) (ax:Rel E k K) (bn:Rel E v Y) (he:(mr P t).run h x k v=some ab):
 ∃aj,(Instr.mapUpdate t X K Y).run P w=.ok () aj∧aY ar E ab aj:=by
 unfold mr at he
 cases aA:aX P t with
 | none=>rw [aA] at he;cases he
 | some aK=>
   rw [aA] at he
   simp only at he
   have hu:=eS aA w
   cases bF:aK.a'<;>rw [bF] at he<;>simp only at he<;>try (cases he;done)
   rename_i b' iN
   rw [bF] at hu
   cases lp:aX P b' with
   | none=>rw [lp] at he;cases he
   | some gp=>
     rw [lp] at he
     simp only at he
     cases av:lr gp.a' with
     | false=>
       rw [av] at he
       simp only [cond_false] at he
       have p2:∃e,vf P w E b' e K∧lG e h x k v=some ab:=by
        cases mR:ku P b' with
        | true=>
          rw [mR] at he
          exact ⟨_,B2 s mR K,he⟩
        | false=>
          rw [mR] at he
          simp only [cond_false] at he
          cases cm:pr P b' with
          | false=>rw [cm] at he;cases he
          | true=>
            rw [cm] at he
            simp only [cond_true] at he
            obtain ⟨aE,he⟩:=dR he
            exact ⟨_,B3 cm aE ax,he⟩
       clear he
       obtain ⟨e,ask,he⟩:=p2
       cases x<;>simp only [lG] at he<;>try (cases he;done)
       rename_i b
       simp only [Rel] at al
       obtain ⟨p,ag,rfl⟩:=al
       have ah:=s.at ag
       cases aE:h.get b<;>rw [aE] at he<;>simp only [b1.jv] at he<;>try (cases he;done)
       rename_i es clock
       rw [aE] at ah
       obtain ⟨q,a,aa,cJ,aI,bo⟩:=ah
       rw [ag] at aa;cases aa
       cases r5:j4 e k v clock es with
       | none=>rw [r5] at he;cases he
       | some r=>
         rw [r5] at he
         simp only [Option.some.injEq] at he
         subst he
         have ek:(getObj p.a8).run P w=.ok (.map a clock) w:=by simp only [getObj,Sem.run,aI]
         have hl:=ask.check false
         have jS:=(Array.getElem?_eq_some_iff.1 aI).1
         have vZ:∀(bg:Array MapEntry) (gf:Nat),dQ E r.1 bg.toList→gf=(bif r.2 then clock+1 else clock)→
          ∃aj,(setObj p.a8 (.map bg gf)).run P w=.ok () aj∧aY ar E (h.set b (.mp r.1 (bif r.2 then clock+1 else clock))) aj:=by
          intro bg gf hm aF
          refine ⟨{w with heap:=w.heap.setIfInBounds p.a8 (.map bg gf)},by simp only [setObj,Sem.run,aI],s.set (p:=p) (by rw [aE];rfl) ag cJ (by simp) (fun j bB=>?_) rfl rfl rfl (fun _ _ _ e=>by cases e) ?_⟩
          · simp only [Array.getElem?_setIfInBounds]
            rw [if_neg (fun e=>bB e.symm)]
          · exact ⟨p,bg,ag,cJ,by simp [jS,aF],hm⟩
         obtain ⟨g1,g2⟩:=Nc ask.eq ax bn clock es a.toList r 0 r5 bo
         cases jU:r.2 with
         | true=>
           obtain ⟨bJ,a2⟩:=g1 jU
           obtain ⟨aj,d1,d2⟩:=vZ (a.push ⟨K,Y,clock⟩) (clock+1) (by simpa using a2) (by rw [jU];rfl)
           rw [jU] at d2
           refine ⟨aj,?_,d2⟩
           simp only [Instr.mapUpdate,Sem.run_bind,hu,Result.andThen_ok,ek,hl,ask.find bJ,d1]
         | false=>
           obtain ⟨j,dB,PW,bJ,a2,a3,a4⟩:=g2 jU
           obtain ⟨aj,d1,d2⟩:=vZ (a.modify j fun dB=>{dB with key:=K,val:=Y}) clock (by simpa using a4) (by rw [jU];rfl)
           rw [jU] at d2
           refine ⟨aj,?_,d2⟩
           rw [Nat.zero_add] at bJ
           have aN:a[j]? =some dB:=by simpa using a2
           simp only [Instr.mapUpdate,Sem.run_bind,hu,Result.andThen_ok,ek,hl,ask.find bJ,aN,Option.map,Option.getD,Instr.keyThatStays,a3,if_true,Sem.run_pure,d1]
     | true=>
       rw [av] at he
       simp only [cond_true] at he
       have kR:=eS lp w
       cases x<;>simp only [lG] at he<;>try (cases he;done)
       rename_i b
       simp only [Rel] at al
       obtain ⟨p,ag,rfl⟩:=al
       have ah:=s.at ag
       cases aE:h.get b<;>rw [aE] at he<;>simp only [b1.jv] at he<;>try (cases he;done)
       rename_i es clock
       rw [aE] at ah
       obtain ⟨q,a,aa,cJ,aI,bo⟩:=ah
       rw [ag] at aa;cases aa
       cases r5:j4 (js gp.a') k v clock es with
       | none=>rw [r5] at he;cases he
       | some r=>
         rw [r5] at he
         simp only [Option.some.injEq] at he
         subst he
         have ek:(getObj p.a8).run P w=.ok (.map a clock) w:=by simp only [getObj,Sem.run,aI]
         have hl:=run_checkKey (P:=P) av kR false K
         have jS:=(Array.getElem?_eq_some_iff.1 aI).1
         have done:∀(bg:Array MapEntry) (gf:Nat),dQ E r.1 bg.toList→gf=(bif r.2 then clock+1 else clock)→
          ∃aj,(setObj p.a8 (.map bg gf)).run P w=.ok () aj∧aY ar E (h.set b (.mp r.1 (bif r.2 then clock+1 else clock))) aj:=by
          intro bg gf hm aF
          refine ⟨{w with heap:=w.heap.setIfInBounds p.a8 (.map bg gf)},by simp only [setObj,Sem.run,aI],s.set (p:=p) (by rw [aE];rfl) ag cJ (by simp) (fun j bB=>?_) rfl rfl rfl (fun _ _ _ e=>by cases e) ?_⟩
          · simp only [Array.getElem?_setIfInBounds]
            rw [if_neg (fun e=>bB e.symm)]
          · exact ⟨p,bg,ag,cJ,by simp [jS,aF],hm⟩
         obtain ⟨g1,g2⟩:=Nl ax bn clock es a.toList r 0 r5 bo
         cases jU:r.2 with
         | true=>
           obtain ⟨bJ,a2⟩:=g1 jU
           obtain ⟨aj,d1,d2⟩:=done (a.push ⟨K,Y,clock⟩) (clock+1) (by simpa using a2) (by rw [jU];rfl)
           rw [jU] at d2
           refine ⟨aj,?_,d2⟩
           simp only [Instr.mapUpdate,Sem.run_bind,hu,Result.andThen_ok,ek,hl,run_findKey kR bJ,d1]
         | false=>
           obtain ⟨j,e,PW,bJ,a2,a3,a4⟩:=g2 jU
           obtain ⟨aj,d1,d2⟩:=done (a.modify j fun e=>{e with key:=K,val:=Y}) clock (by simpa using a4) (by rw [jU];rfl)
           rw [jU] at d2
           refine ⟨aj,?_,d2⟩
           rw [Nat.zero_add] at bJ
           have aN:a[j]? =some e:=by simpa using a2
           simp only [Instr.mapUpdate,Sem.run_bind,hu,Result.andThen_ok,ek,hl,run_findKey kR bJ,aN,Option.map,Option.getD,Instr.keyThatStays,a3,if_true,Sem.run_pure,d1]
theorem Ml {ar:Fr} {E:Env} {h ab:af} {w:World} (s:aY ar E h w) {v:V} (he:uF h=.val v ab):cO ar P E w (do pure (.map (some (←newObj (.map #[] 0))))) v ab:=by
 unfold uF at he
 simp only [aU.val.injEq] at he
 obtain ⟨rfl,rfl⟩:=he
 have cT:=s.fresh h.next (Nat.le_refl _)
 have dt:E.put (aq h.next) ⟨w.heap.size,0,0⟩ (aq h.next)=some ⟨w.heap.size,0,0⟩:=by unfold Env.put;rw [if_pos rfl]
 refine ⟨.map (some w.heap.size),{w with heap:=w.heap.push (.map #[] 0)},_,?_,Env.j0 (p:=⟨w.heap.size,0,0⟩) cT,?_,s.alloc 0 ?_⟩
 · simp only [Sem.run_bind,run_newObj,Result.andThen_ok,Sem.run_pure]
 · simp only [Rel];exact ⟨_,dt,rfl⟩
 · exact ⟨_,#[],dt,s.frame.size,by simp,rfl⟩
theorem abn {ar:Fr} {E:Env} {h ab:af} {w:World} (s:aY ar E h w) {t:TypeId} {x:Option V} {X:Option Value} {v:V} (al:gG E x X) (he:uB P t x h=.val v ab):cO ar P E w (Instr.makeMap t X) v ab:=by
 unfold uB at he
 cases aA:aX P t with
 | none=>rw [aA] at he;cases he
 | some aK=>
   rw [aA] at he
   simp only at he
   have hu:=eS aA
   cases ah:Nat.beq (en aK.a') 3 with
   | false=>rw [ah] at he;cases he
   | true=>
     rw [ah] at he
     simp only [cond_true] at he
     cases x with
     | none=>
       have:X=none:=by cases X with | none=>rfl | some _=>simp [gG] at al
       subst this
       simp only [qk] at he
       have:=Ml (P:=P) s he
       exact this
     | some u=>
       simp only [qk] at he
       obtain ⟨cM,n,rfl,aa⟩:=xo he
       obtain ⟨Y,rfl,eL⟩:∃Y,X=some Y∧Rel E (.int cM n) Y:=by
        cases X with
        | none=>simp [gG] at al
        | some Y=>simp only [gG] at al;obtain ⟨afB,aa,ae⟩:=al;cases aa;exact ⟨_,rfl,ae⟩
       have:=eL.hQ;subst this
       obtain ⟨Z,aj,ao,au,aC⟩:=Ml (P:=P) s aa
       refine ⟨Z,aj,ao,?_,aC⟩
       cases bF:aK.a'<;>rw [bF] at ah<;>simp [en] at ah
       have hu:=hu w
       rw [bF] at hu
       simp only [Instr.makeMap,Sem.run_bind,hu,Result.andThen_ok,asInt,Sem.run_pure]
       exact au
theorem aaV {ar:Fr} {E:Env} {h ab:af} {w:World} (s:aY ar E h w) {t:TypeId} {aK:lf} (aA:aX P t=some aK) (hm:qf aK.a'=true) {x v:V} {X:Value} (al:Rel E x X) (ty:TypeId) (rest:List TypeId)
 (he:xb [x] h=.val v ab):cO ar P E w (Builtin.len_ (t::rest).toArray ty #[X]) v ab:=by
 simp only [xb] at he
 cases aQ:ql h x with
 | none=>rw [aQ] at he;cases he
 | some es=>
   rw [aQ] at he
   simp only [aU.val.injEq] at he
   obtain ⟨rfl,rfl⟩:=he
   have hu:=eS aA w
   cases bF:aK.a'<;>rw [bF] at hm<;>simp [qf] at hm
   rw [bF] at hu
   rcases FC (P:=P) s aQ al with ⟨rfl,rfl⟩ | ⟨bk,a,clock,rfl,ek,nP⟩
   · refine cO.plain (Z:=goInt 0) s ?_ (by simp [Rel,goInt])
     simp [Builtin.len_,hu]
   · have hlen:∀(ms:List cx) (l:List MapEntry),dQ E ms l→l.length=ms.length:=by
      intro ms
      induction ms with
      | nil=>intro l h;simp only [dQ] at h;subst h;rfl
      | cons m ms bh=>intro l h;obtain ⟨e,es,rfl,_,_,_,bo⟩:=h;simp [bh _ bo]
     refine cO.plain (Z:=goInt a.size) s ?_ ?_
     · simp [Builtin.len_,hu,ek]
     · have:=hlen _ _ nP
       simp only [Array.length_toList] at this
       simp [Rel,goInt,this]
end
end Go.Proofs.YthemdhlheglhoaaGreatDoor.a6
namespace Go.Proofs.YthemdhlheglhoaaGreatDoor.a6
variable [Lay]
open Go Go.RowKit
section
variable {P:Program}
theorem JF {E:Env} {v:V} {Y:Value} (bn:Rel E v Y) {n:Nat}:∀(es:List cx) (l:List MapEntry) (r:List cx),tt n v es=some r→dQ E es l→
 ∃j,l.findIdx? (fun e=>(e.born:Int) == (n:Int))=some j∧dQ E r (l.modify j fun e=>{e with val:=Y})
 | [],l,r,h,aG=>by cases h
 | m::ms,l,r,h,aG=>by
   obtain ⟨e,es,rfl,aa,ae,aI,bo⟩:=aG
   simp only [tt] at h
   cases ah:Nat.beq m.born n with
   | true=>
     rw [ah] at h
     simp only [cond_true,Option.some.injEq] at h
     subst h
     have aV:=Nat.eq_of_beq_eq_true ah
     refine ⟨0,by simp [List.findIdx?_cons,aI,aV],?_⟩
     exact ⟨_,es,rfl,aa,bn,aI,bo⟩
   | false=>
     rw [ah] at h
     simp only [cond_false] at h
     cases av:tt n v ms with
     | none=>rw [av] at h;cases h
     | some bq=>
       rw [av] at h
       simp only [Option.some.injEq] at h
       subst h
       obtain ⟨j,g1,g2⟩:=JF bn ms es bq av bo
       have dp:¬((e.born:Int) == (n:Int))=true:=by
        rw [aI]
        intro az
        have tZ:(m.born:Int)=(n:Int):=by simpa using az
        have XF:m.born=n:=by omega
        rw [XF,Nat.beq_refl] at ah
        cases ah
       refine ⟨j+1,by simp only [List.findIdx?_cons,dp];simp [g1],⟨e,_,by simp [List.modify],aa,ae,aI,g2⟩⟩
theorem UQ {ar:Fr} {E:Env} {h ab:af} {w:World} (s:aY ar E h w) {t:TypeId} {x st v:V} {X S Y:Value} (al:Rel E x X) (cm:Rel E st S) (bn:Rel E v Y) (he:yT h x st v=some ab):
 ∃aj,(Instr.entryStore t X S Y).run P w=.ok () aj∧aY ar E ab aj:=by
 unfold yT at he
 split at he
 case h_2=>cases he
 rename_i b
 split at he
 case h_2=>cases he
 rename_i cM m
 split at he
 case h_2=>cases he
 rename_i n
 simp only [Rel] at al cm
 obtain ⟨p,ag,rfl⟩:=al
 subst cm
 have ah:=s.at ag
 cases aE:h.get b<;>rw [aE] at he<;>simp only [b1.jv] at he<;>try (cases he;done)
 rename_i es clock
 rw [aE] at ah
 obtain ⟨q,a,aa,cJ,aI,bo⟩:=ah
 rw [ag] at aa;cases aa
 cases av:tt n v es with
 | none=>rw [av] at he;cases he
 | some r=>
   rw [av] at he
   simp only [Option.some.injEq] at he
   subst he
   obtain ⟨j,g1,g2⟩:=JF bn es a.toList r av bo
   have ek:(getObj p.a8).run P w=.ok (.map a clock) w:=by simp only [getObj,Sem.run,aI]
   have jS:=(Array.getElem?_eq_some_iff.1 aI).1
   have zb:a.findIdx? (fun e=>(e.born:Int) == (n:Int))=some j:=by
    rw [←g1]
    cases a with | mk uv=>simp
   have br:(asInt (.int cM (Int.ofNat n))).run P w=.ok (n:Int) w:=by simp [asInt,asIntOf]
   refine ⟨{w with heap:=w.heap.setIfInBounds p.a8 (.map (a.modify j fun e=>{e with val:=Y}) clock)},?_,s.set (p:=p) (by rw [aE];rfl) ag cJ (by simp) (fun j bB=>?_) rfl rfl rfl (fun _ _ _ e=>by cases e) ?_⟩
   · simp only [Instr.entryStore,Sem.run_bind,ek,Result.andThen_ok,br,zb,setObj,Sem.run,aI]
   · simp only [Array.getElem?_setIfInBounds]
     rw [if_neg (fun e=>bB e.symm)]
   · exact ⟨p,a.modify j fun e=>{e with val:=Y},ag,cJ,by simp [jS],by rw [Array.toList_modify];exact g2⟩
theorem JH {w:World} {E:Env} {b':TypeId} {e:db} (kb:s0 P w E b' e) {k:V} {K:Value} (ax:Rel E k K):∀(es:List cx) (l:List MapEntry) (r:Option cx) (i:Nat),tu e k es=some r→dQ E es l→
 (r=none→(Instr.findAsking b' K l i).run P w=.ok none w)∧
 (∀m,r=some m→∃j dB,(Instr.findAsking b' K l i).run P w=.ok (some (i+j,dB.val)) w∧l[j]? =some dB∧dB.key=K∧Rel E m.v dB.val∧dB.born=m.born∧Instr.sameBits 10000 K K=true∧dQ E es (l.modify j fun dB=>{dB with key:=K}))
 | [],l,r,i,h,aG=>by
   simp only [dQ] at aG
   subst aG
   simp only [tu,Option.some.injEq] at h
   subst h
   exact ⟨fun _=>rfl,fun m hm=>by cases hm⟩
 | m::ms,l,r,i,h,aG=>by
   obtain ⟨dB,es,rfl,aa,ae,aI,bo⟩:=aG
   simp only [tu] at h
   cases aQ:e.run k m.k with
   | none=>rw [aQ] at h;cases h
   | some b=>
     rw [aQ] at h
     simp only at h
     obtain ⟨au,aC⟩:=kb _ _ _ _ _ aQ ax aa
     cases b with
     | true=>
       simp only [cond_true,Option.some.injEq] at h
       subst h
       obtain ⟨aM,bG⟩:=aC rfl
       refine ⟨fun h=>(by cases h),fun cX hm=>?_⟩
       cases hm
       exact ⟨0,dB,by simp [Instr.findAsking,au],rfl,aM,ae,aI,bG,⟨_,es,rfl,by rw [←aM];exact aa,ae,aI,bo⟩⟩
     | false=>
       simp only [cond_false] at h
       obtain ⟨g1,g2⟩:=JH kb ax ms es r (i+1) h bo
       refine ⟨fun h=>by simp [Instr.findAsking,au,g1 h],fun cX hm=>?_⟩
       obtain ⟨j,UP,bJ,a2,a3,a4,a5,h5,BX⟩:=g2 cX hm
       exact ⟨j+1,UP,by simp [Instr.findAsking,au,bJ];omega,by simpa using a2,a3,a4,a5,h5,⟨dB,_,rfl,aa,ae,aI,BX⟩⟩
theorem Me {ar:Fr} {E:Env} {h ab:af} {w:World} (s:aY ar E h w) {t b' iN:TypeId} (hu:(underlying t).run P w=.ok (.map b' iN) w) {e:db} {z:V} {Z:Value} (bm:(zeroValue iN).run P w=.ok Z w) (kl:Rel E z Z)
 {x k v:V} {X K:Value} (al:Rel E x X) (ax:Rel E k K) (ask:vf P w E b' e K) (he:uC e z h x k=some (v,ab)):cO ar P E w (Instr.mapEntry t X K) v ab:=by
 unfold uC at he
 split at he
 case h_2=>cases he
 rename_i b
 simp only [Rel] at al
 obtain ⟨p,ag,rfl⟩:=al
 have ah:=s.at ag
 cases aE:h.get b<;>rw [aE] at he<;>simp only [b1.jv] at he<;>try (cases he;done)
 rename_i es clock
 rw [aE] at ah
 obtain ⟨q,a,aa,cJ,aI,bo⟩:=ah
 rw [ag] at aa;cases aa
 have ek:(getObj p.a8).run P w=.ok (.map a clock) w:=by simp only [getObj,Sem.run,aI]
 have hl:=ask.check false
 have jS:=(Array.getElem?_eq_some_iff.1 aI).1
 have vZ:∀(h6:List cx) (bg:Array MapEntry) (gf:Nat),dQ E h6 bg.toList→
  ∃aj,(setObj p.a8 (.map bg gf)).run P w=.ok () aj∧aY ar E (h.set b (.mp h6 gf)) aj:=by
  intro h6 bg gf hm
  refine ⟨{w with heap:=w.heap.setIfInBounds p.a8 (.map bg gf)},by simp only [setObj,Sem.run,aI],s.set (p:=p) (by rw [aE];rfl) ag cJ (by simp) (fun j bB=>?_) rfl rfl rfl (fun _ _ _ e=>by cases e) ?_⟩
  · simp only [Array.getElem?_setIfInBounds]
    rw [if_neg (fun e=>bB e.symm)]
  · exact ⟨p,bg,ag,cJ,by simp [jS],hm⟩
 cases av:tu e k es with
 | none=>rw [av] at he;cases he
 | some r=>
   rw [av] at he
   simp only at he
   obtain ⟨g1,g2⟩:=JH ask.eq ax es a.toList r 0 av bo
   cases r with
   | none=>
     simp only [Option.some.injEq,Prod.mk.injEq] at he
     obtain ⟨rfl,rfl⟩:=he
     have bJ:=ask.find (g1 rfl)
     obtain ⟨aj,d1,d2⟩:=vZ (es++[⟨k,z,clock⟩]) (a.push ⟨K,Z,clock⟩) (clock+1) (by
      have:∀(es:List cx) (l:List MapEntry),dQ E es l→dQ E (es++[⟨k,z,clock⟩]) (l++[⟨K,Z,clock⟩]):=by
       intro es
       induction es with
       | nil=>intro l ai;simp only [dQ] at ai;subst ai;exact ⟨_,_,rfl,ax,kl,rfl,rfl⟩
       | cons m ms bh=>intro l ai;obtain ⟨dB,h6,rfl,ct,cf,gx,j'⟩:=ai;exact ⟨dB,_,rfl,ct,cf,gx,bh _ j'⟩
      simpa using this es a.toList bo)
     refine ⟨.tuple #[Z,goInt clock],aj,E,?_,Env.le.refl E,?_,d2⟩
     · simp only [Instr.mapEntry,Sem.run_bind,hu,Result.andThen_ok,ek,hl,bJ,bm,d1,Sem.run_pure]
     · simp only [Rel,a7];exact ⟨_,rfl,_,_,rfl,kl,_,_,rfl,rfl,rfl⟩
   | some m=>
     simp only [Option.some.injEq,Prod.mk.injEq] at he
     obtain ⟨rfl,rfl⟩:=he
     obtain ⟨j,dB,bJ,a2,a3,a4,a5,h5,BX⟩:=g2 m rfl
     rw [Nat.zero_add] at bJ
     have ct:=ask.find bJ
     have aN:a[j]? =some dB:=by simpa using a2
     obtain ⟨aj,d1,d2⟩:=vZ es (a.modify j fun dB=>{dB with key:=K}) clock (by rw [Array.toList_modify];exact BX)
     refine ⟨.tuple #[dB.val,goInt dB.born],aj,E,?_,Env.le.refl E,?_,d2⟩
     · simp only [Instr.mapEntry,Sem.run_bind,hu,Result.andThen_ok,ek,hl,ct,aN,Option.map,Option.getD,a3,Instr.keyThatStays,h5,if_true,Sem.run_pure,d1]
     · simp only [Rel,a7];exact ⟨_,rfl,_,_,rfl,a4,_,_,rfl,by rw [a5];rfl,rfl⟩
theorem abp {ar:Fr} {E:Env} {h ab:af} {w:World} (s:aY ar E h w) {t:TypeId} {x k v:V} {X K:Value} (al:Rel E x X) (ax:Rel E k K) (he:(FB P t).run x k h=.val v ab):cO ar P E w (Instr.mapEntry t X K) v ab:=by
 unfold FB at he
 cases aA:aX P t with
 | none=>rw [aA] at he;cases he
 | some aK=>
   rw [aA] at he
   simp only at he
   have hu:=eS aA w
   cases bF:aK.a'<;>rw [bF] at he<;>simp only at he<;>try (cases he;done)
   rename_i b' iN
   rw [bF] at hu
   cases het:aX P iN with
   | none=>rw [het] at he;cases he
   | some bd=>
     rw [het] at he
     simp only at he
     cases bm:bd.zero with
     | none=>rw [bm] at he;cases he
     | some z=>
       rw [bm] at he
       simp only at he
       obtain ⟨qQ,kW,kl,_⟩:=uW (P:=P) het bm E w
       cases mR:ku P b' with
       | true=>
         rw [mR] at he
         simp only [cond_true,Jr] at he
         cases hm:uC ⟨mh h⟩ z h x k with
         | none=>rw [hm] at he;cases he
         | some r=>
           rw [hm] at he
           simp only [aU.val.injEq] at he
           obtain ⟨rfl,rfl⟩:=he
           exact Me s hu kW kl al ax (B2 s mR K) hm
       | false=>
         rw [mR] at he
         simp only [cond_false] at he
         cases cm:pr P b' with
         | false=>rw [cm] at he;cases he
         | true=>
           rw [cm] at he
           simp only [cond_true,Js] at he
           cases aE:sh P b' k with
           | false=>rw [aE] at he;cases he
           | true=>
             rw [aE] at he
             simp only [cond_true] at he
             cases hm:uC (structEq P b') z h x k with
             | none=>rw [hm] at he;cases he
             | some r=>
               rw [hm] at he
               simp only [aU.val.injEq] at he
               obtain ⟨rfl,rfl⟩:=he
               exact Me s hu kW kl al ax (B3 cm aE ax) hm
end
end Go.Proofs.YthemdhlheglhoaaGreatDoor.a6
namespace Go.Proofs.YthemdhlheglhoaaGreatDoor.a6
variable [Lay]
open Go Go.RowKit
section
variable {P:Program}
theorem Kd (n:Nat):∀(l:List Nat),p1 l n=true↔n ∈ l
 | []=>by simp [p1]
 | x::xs=>by
   simp only [p1]
   cases ah:Nat.beq x n with
   | true=>have:=Nat.eq_of_beq_eq_true ah;subst this;simp
   | false=>
     have dp:x≠n:=fun e=>by subst e;rw [Nat.beq_refl] at ah;cases ah
     simp [Kd n xs,Ne.symm dp]
theorem Wn {a:Array Nat} {seen:List Nat} (h:a.toList=seen.reverse) (n:Nat):a.contains n=p1 seen n:=by
 rw [Bool.eq_iff_iff,Kd,Array.contains_iff_mem,←Array.mem_toList_iff,h,List.mem_reverse]
theorem LY {E:Env} {a:Array Nat} {seen:List Nat} (h:a.toList=seen.reverse):∀(ms:List cx) (l:List MapEntry),dQ E ms l→dQ E (leftOf seen ms) (l.filter fun e=>!a.contains e.born)
 | [],l,aG=>by simp only [dQ] at aG;subst aG;rfl
 | m::ms,l,aG=>by
   obtain ⟨e,es,rfl,aa,ae,aI,bo⟩:=aG
   have bh:=LY h ms es bo
   have az:a.contains e.born=p1 seen m.born:=by rw [Wn h,aI]
   cases ah:p1 seen m.born with
   | true=>
     rw [ah] at az
     rw [List.filter_cons_of_neg (by rw [az];decide)]
     simp only [leftOf,ah,cond_true]
     exact bh
   | false=>
     rw [ah] at az
     rw [List.filter_cons_of_pos (by rw [az];decide)]
     simp only [leftOf,ah,cond_false]
     exact ⟨e,_,rfl,aa,ae,aI,bh⟩
theorem HR {E:Env} {last:Nat}:∀(ms:List cx) (l:List MapEntry),dQ E ms l→l.all (fun e=>decide (e.born≥last))=s9 last ms
 | [],l,aG=>by simp only [dQ] at aG;subst aG;rfl
 | m::ms,l,aG=>by
   obtain ⟨e,es,rfl,aa,ae,aI,bo⟩:=aG
   simp only [s9,List.all_cons,HR ms es bo,aI]
   cases ah:Nat.ble last m.born with
   | true=>rw [Nat.ble_eq] at ah;simp [ah]
   | false=>
     have:¬last≤m.born:=by rw [←Nat.ble_eq,ah];simp
     simp [this]
theorem Ia {E:Env} {n:Nat}:∀(ms:List cx) (l:List MapEntry) (m:cx),dQ E ms l→vS n ms=some m→∃e,l.find? (fun e=>e.born == n)=some e∧Rel E m.k e.key∧Rel E m.v e.val
 | [],l,m,aG,h=>by cases h
 | x::xs,l,m,aG,h=>by
   obtain ⟨e,es,rfl,aa,ae,aI,bo⟩:=aG
   simp only [vS] at h
   cases ah:Nat.beq x.born n with
   | true=>
     rw [ah] at h
     simp only [cond_true,Option.some.injEq] at h
     subst h
     have:=Nat.eq_of_beq_eq_true ah
     exact ⟨e,by simp [List.find?_cons,aI,this],aa,ae⟩
   | false=>
     rw [ah] at h
     simp only [cond_false] at h
     obtain ⟨c0,g1,g2⟩:=Ia xs es m bo h
     have dp:x.born≠n:=fun e=>by rw [e,Nat.beq_refl] at ah;cases ah
     exact ⟨c0,by simp [List.find?_cons,aI,dp,g1],g2⟩
theorem FZ {k:b1} {f:List cx→Nat→aU} {v:V} {ab:af} (h:k.jv .fail f=.val v ab):∃es clock,k=.mp es clock∧f es clock=.val v ab:=by
 cases k<;>simp only [b1.jv] at h<;>first
  | (cases h;done)
  | exact ⟨_,_,rfl,h⟩
theorem MB {v:V} {f:aO→Nat→aU} {r:V} {ab:af} (h:v.hE .fail f=.val r ab):∃b off,v=.ptr b off∧f b off=.val r ab:=by
 cases v<;>simp only [V.hE] at h<;>first
  | (cases h;done)
  | exact ⟨_,_,rfl,h⟩
theorem ac_ {ar:Fr} {E:Env} {h ab:af} {w:World} (s:aY ar E h w) {t b' iN:TypeId} (hu:(underlying t).run P w=.ok (.map b' iN) w) {x v:V} {X:Value} (al:Rel E x X) (he:rangeMap x h=.val v ab):cO ar P E w (Instr.range t X) v ab:=by
 have cT:=s.fresh h.next (Nat.le_refl _)
 have dt:E.put (aq h.next) ⟨w.heap.size,0,0⟩ (aq h.next)=some ⟨w.heap.size,0,0⟩:=by unfold Env.put;rw [if_pos rfl]
 unfold rangeMap at he
 split at he
 · simp only [aU.val.injEq] at he
   obtain ⟨rfl,rfl⟩:=he
   simp only [Rel] at al
   subst al
   refine ⟨.pointer (some ⟨w.heap.size,0,none⟩),{w with heap:=w.heap.push (.mapIter none 0 #[] 0)},_,?_,Env.j0 (p:=⟨w.heap.size,0,0⟩) cT,?_,s.alloc 0 ?_⟩
   · simp only [Instr.range,Sem.run_bind,hu,Result.andThen_ok,Sem.run_pure,run_newObj]
   · simp only [Rel];exact ⟨_,dt,by simp⟩
   · exact ⟨_,none,#[],dt,s.frame.size,rfl,by simp,rfl,rfl⟩
 · rename_i c
   obtain ⟨es,clock,aE,he⟩:=FZ he
   simp only [aU.val.injEq] at he
   obtain ⟨rfl,rfl⟩:=he
   simp only [Rel] at al
   obtain ⟨p,ag,rfl⟩:=al
   have ah:=s.at ag
   rw [aE] at ah
   obtain ⟨q,a,aa,cJ,aI,bo⟩:=ah
   rw [ag] at aa;cases aa
   have ek:(getObj p.a8).run P w=.ok (.map a clock) w:=by simp only [getObj,Sem.run,aI]
   have hle:E.le (E.put (aq h.next) ⟨w.heap.size,0,0⟩):=Env.j0 cT
   refine ⟨.pointer (some ⟨w.heap.size,0,none⟩),{w with heap:=w.heap.push (.mapIter (some p.a8) clock #[] clock)},_,?_,hle,?_,s.alloc 0 ?_⟩
   · simp only [Instr.range,Sem.run_bind,hu,Result.andThen_ok,Sem.run_pure,ek,run_newObj]
   · simp only [Rel];exact ⟨_,dt,by simp⟩
   · exact ⟨_,some p.a8,#[],dt,s.frame.size,rfl,by simp,rfl,p,hle _ _ ag,rfl⟩
 · cases he
theorem abF {ar:Fr} {E:Env} {h ab:af} {w:World} (s:aY ar E h w) {x v:V} {X:Value} {ty:TypeId} (al:Rel E x X) (he:fP x h=.val v ab):cO ar P E w (Instr.next X false ty) v ab:=by
 unfold fP at he
 obtain ⟨b,off,rfl,aa⟩:=MB he
 clear he
 have ah:=s.at (p:=_) (by simp only [Rel] at al;exact al.choose_spec.1)
 cases aE:h.get b<;>rw [aE] at aa<;>simp only at aa<;>try (cases aa;done)
 rename_i src since seen last
 rw [aE] at ah
 cases a_:Nat.beq off 0 with
 | false=>rw [a_] at aa;cases aa
 | true=>
 rw [a_] at aa
 simp only [cond_true] at aa
 have a_:=Nat.eq_of_beq_eq_true a_
 subst a_
 obtain ⟨p,m,a,ag,cJ,ll,bc,br,ia⟩:=ah
 simp only [Rel] at al
 obtain ⟨q,az,rfl⟩:=al
 rw [ag] at az;cases az
 have ek:(getObj p.a8).run P w=.ok (.mapIter m since a last) w:=by simp only [getObj,Sem.run,bc]
 have over:Rel E (.tuple [.bool false]) (.tuple #[.bool false]):=by simp only [Rel,a7];exact ⟨_,rfl,_,_,rfl,rfl,rfl⟩
 cases src with
 | none=>
   simp only [q8] at ia
   subst ia
   simp only [aU.val.injEq] at aa
   obtain ⟨rfl,rfl⟩:=aa
   refine cO.plain (Z:=.tuple #[.bool false]) s ?_ over
   simp only [Instr.next,ll,Sem.run_bind,ek,Result.andThen_ok,Sem.run_pure]
 | some c=>
   simp only [q8] at ia
   obtain ⟨uO,mQ,rfl⟩:=ia
   simp only at aa
   obtain ⟨es,clock,Ej,aa⟩:=FZ aa
   have p3:=s.at mQ
   rw [Ej] at p3
   obtain ⟨q,k1,g1,_,g3,g4⟩:=p3
   rw [mQ] at g1;cases g1
   have zt:(getObj uO.a8).run P w=.ok (.map k1 clock) w:=by simp only [getObj,Sem.run,g3]
   cases aF:(!seen.isEmpty&&(!es.isEmpty&&s9 last es)) with
   | true=>rw [aF] at aa;cases aa
   | false=>
     rw [aF] at aa
     simp only [cond_false] at aa
     have aN:a.isEmpty=seen.isEmpty:=by
      have:a.toList.isEmpty=seen.reverse.isEmpty:=by rw [br]
      simpa using this
     have bf:k1.isEmpty=es.isEmpty:=by
      cases es with
      | nil=>simp only [dQ] at g4;have:k1=#[]:=Array.toList_inj.1 g4
             simp [this]
      | cons y cu=>obtain ⟨e,l,ai,_⟩:=g4;have:k1.toList.isEmpty=false:=by rw [ai];rfl
                   simpa using this
     have bT:k1.all (fun e=>decide (e.born≥last))=s9 last es:=by rw [←HR es _ g4,Array.all_toList]
     have Kj:(!a.isEmpty&&!k1.isEmpty&&k1.all (fun e=>decide (e.born≥last)))=false:=by rw [aN,bf,bT,Bool.and_assoc];exact aF
     have wE:=LY (E:=E) br es _ g4
     have Kp:(k1.filter fun e=>!a.contains e.born).toList=k1.toList.filter fun e=>!a.contains e.born:=by simp
     cases ai:leftOf seen es with
     | nil=>
       rw [ai] at aa wE
       simp only [FO,aU.val.injEq] at aa
       obtain ⟨rfl,rfl⟩:=aa
       simp only [dQ] at wE
       have gQ:(k1.filter fun e=>!a.contains e.born)=#[]:=by
        apply Array.toList_inj.1;rw [Kp,wE]
       refine cO.plain (Z:=.tuple #[.bool false]) s ?_ over
       simp only [Instr.next,ll,Sem.run_bind,ek,Result.andThen_ok,zt,Kj,Bool.false_eq_true,if_false,gQ,Sem.run_pure]
       simp [choose,Sem.run,Question.forced]
     | cons y cu=>
       rw [ai] at aa wE
       cases cu with
       | cons _ _=>cases aa
       | nil=>
         simp only [FO] at aa
         cases aP:Nat.blt y.born since with
         | false=>rw [aP] at aa;cases aa
         | true=>
           rw [aP] at aa
           simp only [cond_true,aU.val.injEq] at aa
           obtain ⟨rfl,rfl⟩:=aa
           rw [Nat.blt_eq] at aP
           obtain ⟨e,r,aG,bL,b0,fN,fV⟩:=wE
           simp only [dQ] at fV
           subst fV
           have gQ:(k1.filter fun e=>!a.contains e.born)=#[e]:=by
            apply Array.toList_inj.1;rw [Kp,aG]
           rw [←fN] at aP ⊢
           let bU:Obj:=.mapIter (some uO.a8) since (a.push e.born) clock
           let aj:World:={w with heap:=w.heap.setIfInBounds p.a8 bU}
           have jS:=(Array.getElem?_eq_some_iff.1 bc).1
           have o2:(setObj p.a8 bU).run P w=.ok () aj:=by simp only [setObj,Sem.run,bc];rfl
           have p8:¬since≤e.born:=by omega
           refine ⟨.tuple #[.bool true,e.key,e.val],aj,E,?_,Env.le.refl E,?_,s.set (p:=p) (by rw [aE];rfl) ag cJ (by simp [aj]) (fun j bB=>?_) rfl rfl rfl (fun _ _ _ e=>by cases e) ?_⟩
           · simp only [Instr.next,ll,Sem.run_bind,ek,Result.andThen_ok,zt,Kj,Bool.false_eq_true,if_false,gQ,Sem.run_pure]
             have aa:(#[e]:Array MapEntry).filter (fun x=>decide (x.born<since))=#[e]:=by simp [aP]
             have ae:(#[e]:Array MapEntry).filter (fun x=>decide (x.born≥since))=#[]:=by simp [aP]
             have kc:(choose (.mapNext 1)).run P w=.ok 0 w:=by simp [choose,Sem.run,Question.forced]
             simp only [aa,ae]
             simp [kc]
             change ((setObj p.a8 bU).run P w).andThen _=_
             rw [o2]
             rfl
           · simp only [Rel,a7]
             exact ⟨_,rfl,_,_,rfl,rfl,_,_,rfl,bL,_,_,rfl,b0,rfl⟩
           · simp only [aj,Array.getElem?_setIfInBounds]
             rw [if_neg (fun e=>bB e.symm)]
           · exact ⟨p,some uO.a8,a.push e.born,ag,cJ,ll,by simp [aj,jS,bU],by simp [br],uO,mQ,rfl⟩
theorem UR {ar:Fr} {E:Env} {h ab:af} {w:World} (s:aY ar E h w) {x v:V} {X:Value} (al:Rel E x X) (he:Dx x h=.val v ab):cO ar P E w (Instr.entry X) v ab:=by
 unfold Dx at he
 obtain ⟨b,off,rfl,aa⟩:=MB he
 clear he
 have ah:=s.at (p:=_) (by simp only [Rel] at al;exact al.choose_spec.1)
 cases aE:h.get b<;>rw [aE] at aa<;>simp only at aa<;>try (cases aa;done)
 rename_i src since seen last
 rw [aE] at ah
 cases a_:Nat.beq off 0 with
 | false=>rw [a_] at aa;cases aa
 | true=>
 rw [a_] at aa
 simp only [cond_true] at aa
 have a_:=Nat.eq_of_beq_eq_true a_
 subst a_
 obtain ⟨p,m,a,ag,cJ,ll,bc,br,ia⟩:=ah
 simp only [Rel] at al
 obtain ⟨q,az,rfl⟩:=al
 rw [ag] at az;cases az
 have ek:(getObj p.a8).run P w=.ok (.mapIter m since a last) w:=by simp only [getObj,Sem.run,bc]
 cases src with
 | none=>cases aa
 | some c=>
   simp only [q8] at ia
   obtain ⟨uO,mQ,rfl⟩:=ia
   simp only at aa
   cases seen with
   | nil=>cases aa
   | cons n agx=>
   simp only at aa
   obtain ⟨es,clock,Ej,aa⟩:=FZ aa
   have p3:=s.at mQ
   rw [Ej] at p3
   obtain ⟨q,k1,g1,_,g3,g4⟩:=p3
   rw [mQ] at g1;cases g1
   have zt:(getObj uO.a8).run P w=.ok (.map k1 clock) w:=by simp only [getObj,Sem.run,g3]
   rename_i V2 _
   clear V2
   cases iR:Nat.beq clock last with
   | false=>rw [iR] at aa;cases aa
   | true=>
     rw [iR] at aa
     simp only [cond_true] at aa
     have:=Nat.eq_of_beq_eq_true iR
     subst this
     cases D4:vS n es with
     | none=>rw [D4] at aa;cases aa
     | some y=>
       rw [D4] at aa
       simp only [aU.val.injEq] at aa
       obtain ⟨rfl,rfl⟩:=aa
       obtain ⟨e,f1,f2,f3⟩:=Ia es _ y g4 D4
       have Ws:a.back? =some n:=by
        have:a.toList.getLast? =some n:=by rw [br];simp
        simpa using this
       have p4:k1.find? (fun e=>e.born == n)=some e:=by rw [←f1];simp
       refine cO.plain (Z:=.tuple #[e.key,e.val]) s ?_ ?_
       · simp only [Instr.entry,ll,Sem.run_bind,ek,Result.andThen_ok,Ws,zt,bne_self_eq_false,Bool.false_eq_true,if_false,p4,Sem.run_pure]
       · simp only [Rel,a7]
         exact ⟨_,rfl,_,_,rfl,f2,_,_,rfl,f3,rfl⟩
end
end Go.Proofs.YthemdhlheglhoaaGreatDoor.a6
namespace Go.Proofs.YthemdhlheglhoaaGreatDoor.a6
variable [Lay]
open Go Go.RowKit
section
variable {P:Program}
theorem Ql {ar:Fr} {E:Env} {h ab:af} {w:World} (s:aY ar E h w) {t u e:TypeId} {size:Nat} (Xz:1≤size) {x v:V} {X Y:Value} {ty:TypeId} {n:Nat} {new:List V} {l:List Value}
 (ai:a7 E new l) (jQ:new.length=n * size) (fM:n≤top)
 (ft:∀(aj:World) (A:Option Addr) (cC eO:Nat),cC+n≤eO→(∀a,A=some a→(storeCells (a.add (cC * size)) l).run P w=.ok () aj)→(A=none→aj=w)→
   (Builtin.append_ #[t,u] ty #[.slice A cC eO,Y]).run P w=.ok (.slice A (cC+n) eO) aj)
 (oZ:∀(A:Option Addr) (cC eO:Nat) (bO:List Value),(∀aj:World,aj.heap=w.heap→(Builtin.firstCells size cC (.slice A cC eO)).run P aj=.ok bO.toArray aj)→¬cC+n≤eO→cC+n≤top→bO.length=cC * size→l.length=n * size→
   ∃cap rest aj,cC+n≤cap∧cap * size≤((bO++l).toArray++rest).size∧
   (Builtin.append_ #[t,u] ty #[.slice A cC eO,Y]).run P w=.ok (.slice (some ⟨w.heap.size,0,none⟩) (cC+n) cap) aj∧
   aj.heap=w.heap.push (.cells ((bO++l).toArray++rest) e)∧aj.os=w.os∧aj.tape=w.tape∧aj.output=w.output)
 (he:B0 size n new x h=.val v ab) (al:Rel E x X):cO ar P E w (Builtin.append_ #[t,u] ty #[X,Y]) v ab:=by
 have mN:l.length=n * size:=by rw [ai.length,jQ]
 unfold B0 at he
 cases x<;>simp only at he<;>try (cases he;done)
 · -- a slice of known capacity
   rename_i b off len cap
   simp only [Rel] at al
   obtain ⟨p,ag,oW,rfl⟩:=al
   simp only [s_] at he
   cases er:Nat.ble (len+n) cap with
   | true=>
     rw [er] at he
     simp only [cond_true] at he
     rw [Nat.ble_eq] at er
     cases jo:lay h b (off+len * size) new with
     | none=>rw [jo] at he;cases he
     | some aa=>
     rw [jo] at he
     simp only [aU.val.injEq] at he
     obtain ⟨rfl,rfl⟩:=he
     obtain ⟨aj,cm,gA⟩:=uy (P:=P) s ai jo ag
     refine ⟨_,aj,E,ft aj _ _ _ er (fun a br=>?_) (fun br=>by cases br),Env.le.refl E,?_,gA⟩
     · cases br
       rw [add_eq,Nat.add_assoc]
       exact cm
     · simp only [Rel];exact ⟨p,ag,er,rfl⟩
   | false=>
     rw [er] at he
     simp only [cond_false] at he
     have EW:¬len+n≤cap:=by rw [←Nat.ble_eq,er];simp
     obtain ⟨ah,he⟩:=iq he
     simp only [Bool.and_eq_true,Nat.ble_eq] at ah
     cases hold:mo h size b off len with
     | none=>rw [hold] at he;cases he
     | some bO=>
     rw [hold] at he
     simp only at he
     cases e_:ic h (bO++new) size false with
     | none=>rw [e_] at he;cases he
     | some aa=>
     rw [e_] at he
     simp only [aU.val.injEq] at he
     obtain ⟨rfl,rfl⟩:=he
     obtain ⟨q,bH,az,eg,oY,gz⟩:=u2 (P:=P) s ⟨p,ag⟩ hold
     rw [ag] at az;cases az
     obtain ⟨c,rest,aj,bL,b0,fN,fV,jY,mX,mY⟩:=oZ (some ⟨p.a8,p.base+off,none⟩) (len) (cap) _
      (fun aj hw=>by simp only [Builtin.firstCells];exact gz aj hw) EW ah.1 (by rw [eg.length,oY]) mN
     obtain ⟨ao,g1,g2,g3⟩:=so (aj:=aj) (bK:=(0,0)) s (eg.append ai) e_ b0 (.inr (Nat.le_refl _)) (fun _=>rfl) fV jY mX mY
     refine ⟨_,aj,ao,fN,g1,?_,g3⟩
     simp only [Rel]
     exact ⟨_,g2,by simp only;omega,by simp⟩
 · -- one that was appended to
   rename_i b off len idx
   have wY:=al
   simp only [Rel] at al
   obtain ⟨p,ag,Kt,rfl⟩:=al
   simp only [s'] at he
   cases hC:Nat.beq n 0 with
   | true=>
     rw [hC] at he
     simp only [cond_true] at he
     cases he
     rw [Nat.beq_eq] at hC
     subst hC
     have mM:l=[]:=by cases l with | nil=>rfl | cons _ _=>simp at mN
     subst mM
     refine ⟨_,w,E,ft w _ _ _ (by omega) (fun a _=>rfl) (fun br=>by cases br),Env.le.refl E,?_,s⟩
     simpa using wY
   | false=>
     rw [hC] at he
     simp only [cond_false] at he
     have nI:=s.at ag
     cases aE:h.get b with
     | dead=>rw [aE] at he;cases he
     | view _ _=>rw [aE] at he;cases he
     | iter _ _=>rw [aE] at he;cases he
     | mp _ _=>rw [aE] at he;cases he
     | cU _=>rw [aE] at he;cases he
     | eE=>rw [aE] at he;cases he
     | hU _=>rw [aE] at he;cases he
     | hT _ _ _ _=>rw [aE] at he;cases he
     | cells N cs cl st=>
       rw [aE] at he nI
       simp only [b1.on] at he
       obtain ⟨ah,he⟩:=iq he
       simp only [Bool.and_eq_true,Nat.ble_eq,Nat.beq_eq] at ah
       obtain ⟨⟨Ea,EJ,EK⟩,wJ⟩:=ah
       cases hold:mo h size b off len with
       | none=>rw [hold] at he;cases he
       | some bO=>
       rw [hold] at he
       simp only at he
       cases e_:ic (h.set b .dead) (bO++new) size st with
       | none=>rw [e_] at he;cases he
       | some aa=>
       rw [e_] at he
       simp only [aU.val.injEq] at he
       obtain ⟨rfl,rfl⟩:=he
       obtain ⟨q,bH,az,eg,oY,gz⟩:=u2 (P:=P) s ⟨p,ag⟩ hold
       rw [ag] at az;cases az
       obtain ⟨bx,q,c,el,bK,aN,cJ,bc,nJ,cm,kO,bu⟩:=nI
       rw [ag] at aN;cases aN
       have wL:=Xz
       have kO:=kO (by omega)
       rw [Ea] at kO
       have xK:=s.kill ag
       by_cases er:len+n≤p.cap-idx
       · -- in place
         have aP:=(Array.getElem?_eq_some_iff.1 bc).1
         have W8:(idx+len+n) * size≤p.cap * size:=Nat.mul_le_mul_right _ (by omega)
         have hbound:p.base+off+len * size+0+l.length≤c.size:=by
          rw [mN,wJ]
          have:(idx+len+n) * size=idx * size+len * size+n * size:=by rw [Nat.add_mul,Nat.add_mul]
          omega
         have wX:=A0 (P:=P) aP el bK (p.base+off+len * size) l c 0 (Au EK ai) hbound nJ
         rw [Hd bc,Nat.add_zero] at wX
         have EZ:=ft (jy w p.a8 (m' c (p.base+off+len * size) l) el bK) (some ⟨p.a8,p.base+off,none⟩) _ _ er
          (fun a br=>by cases br;rw [add_eq];exact wX) (fun br=>by cases br)
         unfold ic at e_
         obtain ⟨aF,e_⟩:=dR e_
         simp only [Bool.and_eq_true,Nat.ble_eq] at aF
         simp only [Option.some.injEq] at e_
         subst e_
         have cT:=s.fresh h.next (Nat.le_refl _)
         have hle:E.le (E.put (aq h.next) ⟨p.a8,p.base+off,p.cap-idx⟩):=Env.j0 cT
         have dt:E.put (aq h.next) ⟨p.a8,p.base+off,p.cap-idx⟩ (aq h.next)=some ⟨p.a8,p.base+off,p.cap-idx⟩:=by unfold Env.put;rw [if_pos rfl]
         refine ⟨_,_,_,EZ,hle,?_,aY.add (p:=⟨p.a8,p.base+off,p.cap-idx⟩) xK (by rw [He];exact Nat.le_refl _) (fun j _ bB=>Hc _ _ _ bB) cJ (fun bC dX gk mS heq=>?_) rfl rfl rfl (fun _ _ _ e=>by injection e with _ _ bT;omega) ?_⟩
         · simp only [Rel]
           exact ⟨_,dt,by simp only;omega,by simp⟩
         · rw [af.c8] at gk
           by_cases gZ:b=bC
           · rw [if_pos gZ] at gk;cases gk
           · rw [if_neg gZ] at gk
             exact gZ (s.inj b bC p dX (by rw [aE];rfl) gk ag mS heq.symm)
         · have Eu:(bO++new).length=(len+n) * size:=by rw [List.length_append,oY,jQ,Nat.add_mul]
           have WV:(len+n) * size=len * size+n * size:=Nat.add_mul _ _ _
           refine ⟨aF.1,_,_,el,bK,dt,cJ,xR aP _ _ _,by rw [nY];exact nJ,cm,fun _=>?_,?_⟩
           · rw [nY]
             simp only
             have:idx * size + (p.cap-idx) * size=p.cap * size:=by rw [←Nat.add_mul];congr 1;omega
             omega
           · refine ⟨by rw [nY,Eu,Nat.add_mul];simp only;omega,fun i y aD aZ=>?_⟩
             rw [xF _ _ _ _ (by omega) (by omega),if_pos (by omega),Nat.sub_zero]
             rw [zZ _ _ _ _ (by omega)] at aZ
             simp only at aZ
             by_cases b9:i<len * size
             · rw [if_neg (by omega)] at aZ
               rw [List.getElem?_append_left (by omega)]
               have ek:=gz w rfl
               have ET:=run_loadCells (P:=P) (w:=w) (off:=p.base+off) (n:=len * size) bc (by omega)
               rw [ET] at ek
               simp only [Result.ok.injEq,and_true] at ek
               have wF:bH=(c.toList.drop (p.base+off)).take (len * size):=by
                have:=congrArg Array.toList ek
                simpa using this.symm
               obtain ⟨sQ,g_,aG⟩:=eg.get i bO[i] (List.getElem?_eq_getElem (by omega))
               rw [List.getElem?_eq_getElem (by omega)]
               rw [wF] at g_
               rw [List.getElem?_take_of_lt (by omega),List.getElem?_drop] at g_
               simp only [Array.getElem?_toList] at g_
               rw [aZ] at g_
               cases g_
               exact Rel.mono hle _ _ aG
             · rw [if_pos (by omega)] at aZ
               rw [List.getElem?_append_right (by omega)]
               have bT:p.base+off+i - (p.base+off+len * size)=i-bO.length:=by omega
               rw [bT] at aZ
               have wG:i-bO.length<new.length:=by omega
               obtain ⟨sQ,g_,aG⟩:=ai.get (i-bO.length) new[i-bO.length] (List.getElem?_eq_getElem wG)
               rw [aZ] at g_;cases g_
               rw [List.getElem?_eq_getElem wG]
               exact Rel.mono hle _ _ aG
       · -- elsewhere
         obtain ⟨bR,rest,aj,bL,b0,fN,fV,jY,mX,mY⟩:=oZ (some ⟨p.a8,p.base+off,none⟩) (len) (p.cap-idx) _
          (fun aj hw=>by simp only [Builtin.firstCells];exact gz aj hw) er EJ (by rw [eg.length,oY]) mN
         obtain ⟨ao,g1,g2,g3⟩:=so (aj:=aj) (bK:=(0,0)) xK (eg.append ai) e_ b0 (.inr (Nat.le_refl _)) (fun _=>rfl) fV jY mX mY
         refine ⟨_,aj,ao,fN,g1,?_,g3⟩
         simp only [Rel]
         exact ⟨_,g2,by simp only;omega,by simp⟩
 · -- nil
   simp only [Rel] at al
   subst al
   simp only [ta] at he
   cases hC:Nat.beq n 0 with
   | true=>
     rw [hC] at he
     simp only [cond_true] at he
     cases he
     rw [Nat.beq_eq] at hC
     subst hC
     exact cO.plain s (ft w _ _ _ (by omega) (fun a br=>by cases br) (fun _=>rfl)) (by simp [Rel])
   | false=>
     rw [hC] at he
     simp only [cond_false] at he
     have r2:¬n=0:=by intro e;subst e;simp at hC
     cases e_:ic h new size false with
     | none=>rw [e_] at he;cases he
     | some aa=>
     rw [e_] at he
     simp only [aU.val.injEq] at he
     obtain ⟨rfl,rfl⟩:=he
     obtain ⟨c,rest,aj,bL,b0,fN,fV,jY,mX,mY⟩:=oZ (none) (0) (0) []
      (fun aj _=>by simp [Builtin.firstCells]) (by omega) (by omega) (by simp) mN
     obtain ⟨ao,g1,g2,g3⟩:=so (aj:=aj) (bK:=(0,0)) s ai e_ b0 (.inr (Nat.le_refl _)) (fun _=>rfl) fV jY mX mY
     refine ⟨_,aj,ao,fN,g1,?_,g3⟩
     simp only [Rel]
     exact ⟨_,g2,by simp only;omega,by simp⟩
structure BW (P:Program) (t u e:TypeId) (size bytes:Nat) (k:IntKind) (z:Value):Prop where
 ut:∀w,(underlying t).run P w=.ok (.slice e) w
 pw:∀w,(underlying u).run P w=.ok (.int k) w
 ja:∀w,(sizeOf e).run P w=.ok size w
 yA:∀w,∃i,(typeInfo e).run P w=.ok i w∧i.bytes=bytes
 vb:∀w,(zeroValue e).run P w=.ok z w
 h2:z.cells.size=size
 pos:1≤size
 small:bytes≤4096
theorem O1 (c:Array Value):Builtin.zeroCells c 0=#[]:=by simp [Builtin.zeroCells]
theorem adu {t u e:TypeId} {size bytes:Nat} {k:IntKind} {z:Value} (H:BW P t u e size bytes k z) {n:Nat} (aV:n≤100000) {ty:TypeId} {w aj:World} {A:Option Addr} {cC eO:Nat} (er:cC+n≤eO)
 (cm:∀a,A=some a→(storeCells (a.add (cC * size)) (Builtin.zeroCells z.cells n).toList).run P w=.ok () aj) (cT:A=none→aj=w):
 (Builtin.append_ #[t,u] ty #[.slice A cC eO,.int .i64 n]).run P w=.ok (.slice A (cC+n) eO) aj:=by
 have hw:IntKind.i64.wrap (n:Int)=n:=by unfold IntKind.wrap;simp [IntKind.bits,IntKind.signed];omega
 obtain ⟨i,aD,p6⟩:=H.yA w
 have pZ:¬(281474976710656 < (n:Int) * (i.bytes:Int)):=by
  rw [p6]
  have aa:n * bytes≤100000 * 4096:=Nat.mul_le_mul aV H.small
  have ae:((n * bytes:Nat):Int)=(n:Int) * (bytes:Int):=Int.natCast_mul _ _
  omega
 have l0:¬((n:Int)<0):=by omega
 have b5:size≠0:=by have:=H.pos;omega
 have br:∀w,(asInt (.int .i64 (n:Int))).run P w=.ok (n:Int) w:=fun w=>by simp [asInt,asIntOf]
 have zm:∀w,(asInt (.int .i64 0)).run P w=.ok 0 w:=fun w=>by simp [asInt,asIntOf]
 have uh:IntKind.i64.wrap 0=0:=by decide
 cases A with
 | none=>
   have:=cT rfl;subst this
   by_cases a_:n=0
   · subst a_
     simp [Builtin.append_,H.ut,H.pw,H.ja,zm,aD,uh,(show cC≤eO from by omega)]
   · simp [Builtin.append_,H.ut,H.pw,H.ja,H.vb,br,aD,pZ,hw,er,l0,b5,a_]
 | some a=>
   have:=cm a rfl
   by_cases a_:n=0
   · subst a_
     rw [O1] at this
     simp [Builtin.append_,H.ut,H.pw,H.ja,zm,aD,uh,(show cC≤eO from by omega),this]
   · simp [Builtin.append_,H.ut,H.pw,H.ja,H.vb,br,aD,pZ,hw,er,l0,Nat.mul_ne_zero a_ b5,this]
theorem adv {t u e:TypeId} {size bytes:Nat} {k:IntKind} {z:Value} (H:BW P t u e size bytes k z) {n:Nat} (aV:n≤100000) {ty:TypeId} {w:World} (A:Option Addr) (cC eO:Nat) (bO:List Value)
 (hold:∀aj:World,aj.heap=w.heap→(Builtin.firstCells size cC (.slice A cC eO)).run P aj=.ok bO.toArray aj) (er:¬cC+n≤eO) (wW:cC+n≤top) (aS:bO.length=cC * size) (ai:(Builtin.zeroCells z.cells n).toList.length=n * size):
 ∃cap rest aj,cC+n≤cap∧cap * size≤((bO++(Builtin.zeroCells z.cells n).toList).toArray++rest).size∧
  (Builtin.append_ #[t,u] ty #[.slice A cC eO,.int .i64 n]).run P w=.ok (.slice (some ⟨w.heap.size,0,none⟩) (cC+n) cap) aj∧
  aj.heap=w.heap.push (.cells ((bO++(Builtin.zeroCells z.cells n).toList).toArray++rest) e)∧aj.os=w.os∧aj.tape=w.tape∧aj.output=w.output:=by
 have hw:IntKind.i64.wrap (n:Int)=n:=by simp only [IntKind.wrap,IntKind.bits,IntKind.signed];simp;omega
 obtain ⟨i,aD,p6⟩:=H.yA w
 have lq:P.info? e=some i:=by
  simp only [typeInfo,Sem.run_bind,run_program,Result.andThen_ok] at aD
  cases az:P.info? e with
  | none=>rw [az] at aD;simp at aD
  | some j=>rw [az] at aD;simp at aD;rw [aD]
 have rS:∀aj,(typeInfo e).run P aj=.ok i aj:=fun aj=>uV lq aj
 have Yk:¬(281474976710656 < (n:Int) * (i.bytes:Int)):=by
  rw [p6]
  have aa:n * bytes≤100000 * 4096:=Nat.mul_le_mul aV H.small
  have ae:((n * bytes:Nat):Int)=(n:Int) * (bytes:Int):=Int.natCast_mul _ _
  omega
 have pZ:¬(281474976710656<Builtin.nextslicecap (cC+n) eO * i.bytes):=by
  have aa:eO<cC+n:=by omega
  have:=growslice_fits (bytes:=i.bytes) aa (by
   rw [p6]
   have ae:(cC+n) * bytes≤top * 4096:=Nat.mul_le_mul wW H.small
   unfold top at ae
   omega)
  omega
 have hk:¬(9223372036854775807 < ((cC:Int) + (n:Int))):=by unfold top at wW;omega
 have l0:¬((n:Int)<0):=by omega
 have b5:size≠0:=by have:=H.pos;omega
 have br:∀w,(asInt (.int .i64 (n:Int))).run P w=.ok (n:Int) w:=fun w=>by simp [asInt,asIntOf]
 have zm:∀w,(asInt (.int .i64 0)).run P w=.ok 0 w:=fun w=>by simp [asInt,asIntOf]
 have uh:IntKind.i64.wrap 0=0:=by decide
 let q:Question:=.appendCap (cC+n) eO e
 let cap:=q.cut (w.tape w.drawn q)
 have kO:cC+n≤cap:=by show cC+n≤(cC+n)+_;omega
 refine ⟨cap,Builtin.zeroCells z.cells (cap - (cC+n)),w.drew.alloc (.cells ((bO++(Builtin.zeroCells z.cells n).toList).toArray++Builtin.zeroCells z.cells (cap - (cC+n))) e),kO,?_,?_,rfl,rfl,rfl,rfl⟩
 · simp only [Array.size_append,List.size_toArray,List.length_append,aS,ai]
   have:(Builtin.zeroCells z.cells (cap - (cC+n))).size=(cap - (cC+n)) * size:=by simp [Builtin.zeroCells,H.h2]
   rw [this,←Nat.add_mul,←Nat.add_mul]
   exact Nat.mul_le_mul_right _ (by omega)
 · have f2:=hold w.drew rfl
   by_cases a_:n=0
   · subst a_
     have wR:¬cC≤eO:=by omega
     have Wr:¬(9223372036854775807 < (cC:Int)):=by omega
     rw [Nat.add_zero] at pZ
     simp [Builtin.append_,H.ut,H.pw,H.ja,H.vb,zm,uh,rS,wR,pZ,Wr,Question.forced,f2,newRow]
     refine ⟨rfl,?_⟩
     have aN:(bO++(Builtin.zeroCells z.cells 0).toList).toArray=bO.toArray:=by rw [O1];simp
     rw [aN]
     rfl
   · simp [Builtin.append_,H.ut,H.pw,H.ja,H.vb,br,hw,Yk,l0,Nat.mul_ne_zero a_ b5,er,rS,pZ,hk,Question.forced,f2,newRow]
     refine ⟨rfl,?_⟩
     have aN:(bO++(Builtin.zeroCells z.cells n).toList).toArray=bO.toArray++Builtin.zeroCells z.cells n:=by simp
     rw [aN,Array.append_assoc]
end
end Go.Proofs.YthemdhlheglhoaaGreatDoor.a6
namespace Go.Proofs.YthemdhlheglhoaaGreatDoor.a6
variable [Lay]
open Go Go.RowKit
section
variable {P:Program}
abbrev b8 (rd:Option Nat):Fence:={fn:=fun _=>True,depth:=none,alive:=false,round:=rd}
theorem pO {rd:Option Nat} {n:Nat} {f:FuncId} {args:Array Value} {w:World} {R:Ending→World→Prop}:CallsIn (b8 rd) n P f args w R↔Calls P f args w R:=callsIn_wide
theorem GH {rd:Option Nat} (n:Nat):(b8 rd).room n:=fun _ h=>by simp [b8] at h
abbrev nc (x:Value):List PanicEntry:=[{v:=x,recovered:=false}]
structure fy (P:Program) (call:dd):Prop where
 fn:∀(ar:Fr) f args h v ab,f≠c4→call f args h=.val v ab→∀E w xs,a7 E args xs→aY ar E h w→
  ((∃fn,P.funcs[f]? =some fn∧fn.body.isSome=true)∧Calls P f xs.toArray w fun e aj=>∃ao x,e=.returned x∧E.le ao∧Rel ao v x∧aY ar ao ab aj)∨
  ∃ao x aj,(callFunc f xs.toArray).run P w=.ok (.value x) aj∧E.le ao∧Rel ao v x∧aY ar ao ab aj
 cp:∀(ar:Fr) f args h v ab,f≠c4→call f args h=.cp v ab→∀E w xs,a7 E args xs→aY ar E h w→
  (∃fn,P.funcs[f]? =some fn∧fn.body.isSome=true)∧Calls P f xs.toArray w fun e aj=>∃ao x,e=.panicked (nc x)∧E.le ao∧Rel ao v x∧aY ar ao ab aj
 OY:∀(ar:Fr) args b h v ab,call c4 (args++[.ptr b 0]) h=.val v ab→∀E w xs p,a7 E args xs→aY ar E h w→E b=some p→
  ∃f tmps assign body,(Instr.yield p.a8 xs.toArray).run P w=.ok (.round p.a8 f tmps assign body) w∧
   RoundIn (b8 none) 0 P p.a8 f tmps assign body w fun e aj=>∃ao x,e=.returned x∧E.le ao∧Rel ao v x∧aY ar ao ab aj
 O0:∀args h v ab,call c4 args h≠.cp v ab
theorem nh {rd:Option Nat} {o:Oper} (lZ:∀c,o.op≠.defer c) (ρ:Operand→Value):o.semAt (b8 rd).round ρ=execOp ρ o:=Oper.semAt_eq _ ρ o lZ
theorem fo {rd:Option Nat} {o:Oper} {a:Act} {w:World} {ar:Fr} {E:Env} {ab:af} {v:V} {m:Sem Value} {K:Act→World→Prop} {Q:Exit→Act→World→Prop}
 (al:execOp a.eval o=(do pure (.value (←m)))) (g:cO ar P E w m v ab) (di:∀ao x aj,E.le ao→Rel ao v x→aY ar ao ab aj→K (a.put o.dst x) aj) (lZ:∀c,o.op≠.defer c:=by intro c h;cases h):
 o.wpIn (b8 rd) 0 P a w K Q:=by
 obtain ⟨Z,aj,ao,aa,ae,aI,bo⟩:=g
 refine ⟨fun _ _=>trivial,?_⟩
 rw [nh lZ,al,Sem.run_bind,aa]
 exact di ao Z aj ae aI bo
theorem AA {E:Env} {an:Nat} {r:bt} {a:Act} (k:RegRel0 E an r a):∀l:List (Nat × Operand),oz E ((qv l).run r) (l.map fun (i,x)=>(i,a.eval x))
 | []=>rfl
 | (i,x)::l=>by
   simp only [qv,List.map,oz]
   exact ⟨_,_,rfl,de k x,AA k l⟩
theorem Az {E:Env} {an:Nat} {r:bt} {a:Act} (k:RegRel0 E an r a) (x:Option Operand):gG E ((n_ x).run r) (x.map a.eval):=by
 cases x with
 | none=>rfl
 | some x=>simp only [n_,gG,Option.map];exact ⟨_,rfl,de k x⟩
theorem ab1 {v:V} {f:aO→Nat→aU} {r:V} {h:af} (he:v.hE .fail f=.val r h):∃b off,v=.ptr b off∧f b off=.val r h:=by
 cases v<;>simp only [V.hE] at he<;>first
  | (cases he;done)
  | exact ⟨_,_,rfl,he⟩
theorem abH {ar:Fr} {E:Env} {h ab:af} {w:World} (s:aY ar E h w) {x v:V} {X:Value} {ty:TypeId} (al:Rel E x X) (he:sq x h=.val v ab):cO ar P E w (Instr.next X true ty) v ab:=by
 unfold sq at he
 obtain ⟨b,off,rfl,aa⟩:=ab1 he
 have ah:=s.at (p:=_) (by simp only [Rel] at al;exact al.choose_spec.1)
 cases aE:h.get b with
 | dead=>rw [aE] at aa;cases aa
 | view _ _=>rw [aE] at aa;cases aa
 | cells _ _ _ _=>rw [aE] at aa;cases aa
 | mp _ _=>rw [aE] at aa;cases aa
 | cU _=>rw [aE] at aa;cases aa
 | eE=>rw [aE] at aa;cases aa
 | hU _=>rw [aE] at aa;cases aa
 | hT _ _ _ _=>rw [aE] at aa;cases aa
 | iter st pos=>
   rw [aE] at aa ah
   simp only at aa
   obtain ⟨a_,ae⟩:=iq aa
   rw [Nat.beq_eq] at a_
   subst a_
   obtain ⟨p,ag,cJ,ll,bc⟩:=ah
   simp only [Rel] at al
   obtain ⟨q,az,rfl⟩:=al
   rw [ag] at az;cases az
   have ek:(getObj p.a8).run P w=.ok (.stringIter ⟨⟨st⟩⟩ pos) w:=by simp only [getObj,Sem.run,bc]
   have b5:(⟨⟨st⟩⟩:ByteArray).size=st.length:=rfl
   cases aP:Nat.blt pos st.length with
   | true=>
     rw [aP] at ae
     simp only [cond_true,aU.val.injEq] at ae
     obtain ⟨rfl,rfl⟩:=ae
     rw [Nat.blt_eq] at aP
     let bU:Obj:=.stringIter ⟨⟨st⟩⟩ (pos + (decodeL st pos).2)
     let aj:World:={w with heap:=w.heap.setIfInBounds p.a8 bU}
     have jS:=(Array.getElem?_eq_some_iff.1 bc).1
     have o2:(setObj p.a8 bU).run P w=.ok () aj:=by simp only [setObj,Sem.run,bc];rfl
     refine ⟨.tuple #[.bool true,goInt pos,.int .i32 (decodeL st pos).1],aj,E,?_,Env.le.refl E,?_,s.set (p:=p) (by rw [aE];rfl) ag cJ (by simp [aj]) (fun j bB=>?_) rfl rfl rfl (fun _ _ _ e=>by cases e) ?_⟩
     · simp only [Instr.next,ll,Sem.run_bind,ek,Result.andThen_ok,b5,if_pos aP]
       have:(Utf8.decode (⟨⟨st⟩⟩:ByteArray) pos)=decodeL st pos:=rfl
       simp only [this]
       rw [o2]
       rfl
     · simp only [Rel,a7]
       exact ⟨_,rfl,_,_,rfl,rfl,_,_,rfl,rfl,_,_,rfl,rfl,rfl⟩
     · simp only [aj,Array.getElem?_setIfInBounds]
       rw [if_neg (fun e=>bB e.symm)]
     · exact ⟨p,ag,cJ,ll,by simp [aj,jS,bU]⟩
   | false=>
     rw [aP] at ae
     simp only [cond_false,aU.val.injEq] at ae
     obtain ⟨rfl,rfl⟩:=ae
     have kS:¬pos<st.length:=by rw [←Nat.blt_eq,aP];simp
     refine cO.plain (Z:=.tuple #[.bool false]) s ?_ ?_
     · simp only [Instr.next,ll,Sem.run_bind,ek,Result.andThen_ok,b5,if_neg kS,Sem.run_pure]
     · simp only [Rel,a7]
       exact ⟨_,rfl,_,_,rfl,rfl,rfl⟩
theorem ac' {ar:Fr} {E:Env} {h ab:af} {w:World} (s:aY ar E h w) {t:TypeId} {x v:V} {X:Value} (al:Rel E x X) (he:(AP P t).run x h=.val v ab):cO ar P E w (Instr.range t X) v ab:=by
 unfold AP at he
 cases aA:aX P t with
 | none=>rw [aA] at he;cases he
 | some aK=>
   rw [aA] at he
   simp only at he
   have hu:=eS aA
   cases bF:aK.a' with
   | string=>
     rw [bF] at he hu
     simp only at he
     cases x<;>simp only at he<;>try (cases he;done)
     rename_i st
     simp only [aU.val.injEq] at he
     obtain ⟨rfl,rfl⟩:=he
     have:=al.pq;subst this
     have cT:=s.fresh h.next (Nat.le_refl _)
     have dt:E.put (aq h.next) ⟨w.heap.size,0,0⟩ (aq h.next)=some ⟨w.heap.size,0,0⟩:=by unfold Env.put;rw [if_pos rfl]
     refine ⟨.pointer (some ⟨w.heap.size,0,none⟩),{w with heap:=w.heap.push (.stringIter ⟨⟨st⟩⟩ 0)},_,?_,Env.j0 (p:=⟨w.heap.size,0,0⟩) cT,?_,s.alloc 0 ?_⟩
     · simp only [Instr.range,Sem.run_bind,hu,Result.andThen_ok,Sem.run_pure,run_newObj]
     · simp only [Rel];exact ⟨_,dt,by simp⟩
     · exact ⟨_,dt,s.frame.size,rfl,by simp⟩
   | map b' iN=>
     rw [bF] at he hu
     exact ac_ s (hu w) al he
   | _=>rw [bF] at he;cases he
theorem Qi {ar:Fr} {E:Env} {h ab:af} {w:World} (s:aY ar E h w) {t u:TypeId} {x y v:V} {X Y:Value} {ty:TypeId}
 (he:(yn P t u).run x y h=.val v ab) (al:Rel E x X) (aZ:Rel E y Y):cO ar P E w (Builtin.append_ #[t,u] ty #[X,Y]) v ab:=by
 unfold yn at he
 cases aA:aX P t with
 | none=>rw [aA] at he;cases he
 | some aK=>
   cases hu:aX P u with
   | none=>rw [aA,hu] at he;cases he
   | some pv=>
     rw [aA,hu] at he
     simp only at he
     have main:(∀k,pv.a'≠.int k)→(match aK.a' with
      | .slice e=>match aX P e with
        | none=>(⟨fun _ _ _=>.fail⟩:xV)
        | some bd=>match bd.zero with
          | none=>⟨fun _ _ _=>.fail⟩
          | some z=>bif Nat.ble 1 bd.size&&Nat.ble bd.bytes 4096&&Nat.beq z.cells.length bd.size then ⟨lh bd.size⟩ else ⟨fun _ _ _=>.fail⟩
      | _=>⟨fun _ _ _=>.fail⟩).run x y h=.val v ab→cO ar P E w (Builtin.append_ #[t,u] ty #[X,Y]) v ab:=by
      intro nQ he
      cases bF:aK.a' with
      | slice e=>
        rw [bF] at he
        simp only at he
        cases ca:aX P e with
        | none=>rw [ca] at he;cases he
        | some bd=>
          rw [ca] at he
          simp only at he
          cases bm:bd.zero with
          | none=>rw [bm] at he;cases he
          | some z=>
            rw [bm] at he
            simp only at he
            cases aF:(Nat.ble 1 bd.size&&Nat.ble bd.bytes 4096&&Nat.beq z.cells.length bd.size) with
            | false=>rw [aF] at he;cases he
            | true=>
              rw [aF] at he
              simp only [cond_true] at he
              simp only [Bool.and_eq_true,Nat.ble_eq,Nat.beq_eq] at aF
              obtain ⟨om,wZ,_,nU⟩:=qP (P:=P) (E:=E) ca bm w
              refine Qk s ⟨fun w=>?_,⟨pv.a',fun w=>eS hu w,nQ⟩,fun w=>iI ca w,fun w=>GM ca w,⟨om,wZ,by rw [nU];exact aF.2⟩,aF.1.1,aF.1.2⟩ he al aZ
              have:=eS aA w
              rw [bF] at this
              exact this
      | _=>rw [bF] at he;cases he
     cases uf:pv.a' with
     | int k=>
       rw [uf] at he
       simp only at he
       cases bF:aK.a' with
       | slice e=>
         rw [bF] at he
         simp only at he
         cases ca:aX P e with
         | none=>rw [ca] at he;cases he
         | some bd=>
           rw [ca] at he
           simp only at he
           cases bm:bd.zero with
           | none=>rw [bm] at he;cases he
           | some z=>
             rw [bm] at he
             simp only at he
             cases aF:(Nat.ble 1 bd.size&&Nat.ble bd.bytes 4096&&Nat.beq z.cells.length bd.size) with
             | false=>rw [aF] at he;cases he
             | true=>
               rw [aF] at he
               simp only [cond_true] at he
               simp only [Bool.and_eq_true,Nat.ble_eq,Nat.beq_eq] at aF
               obtain ⟨om,wZ,Fb,nU⟩:=qP (P:=P) (E:=E) ca bm w
               have ug:∀w,(underlying t).run P w=.ok (.slice e) w:=fun w=>by have:=eS aA w;rw [bF] at this;exact this
               have E5:∀w,(underlying u).run P w=.ok (.int k) w:=fun w=>by have:=eS hu w;rw [uf] at this;exact this
               have H:BW P t u e bd.size bd.bytes k om:=⟨ug,E5,fun w=>iI ca w,fun w=>GM ca w,wZ,by rw [nU];exact aF.2,aF.1.1,aF.1.2⟩
               unfold HU at he
               split at he
               case h_2=>cases he
               rename_i cM m
               split at he
               case h_2=>cases he
               rename_i n
               obtain ⟨mK,bn⟩:=iq he
               simp only [Bool.and_eq_true,Nat.ble_eq] at mK
               have ax:=pU mK.1
               subst ax
               simp only [Rel] at aZ
               subst aZ
               have KU:=xH Fb n
               have hlen:(hZ z.cells n).length=n * bd.size:=by
                rw [←KU.length]
                simp [Builtin.zeroCells,nU,aF.2]
               exact Ql s aF.1.1 KU hlen (by have:=mK.2;unfold top;omega) (fun aj A cC eO a b c=>adu H mK.2 a b c) (fun A cC eO bO a b c d f=>adv H mK.2 A cC eO bO a b c d f) bn al
       | _=>rw [bF] at he;cases he
     | _=>rw [uf] at he;exact main (by rw [uf];simp) he
theorem Uo {ar:Fr} {E:Env} {h ab:af} {w:World} (s:aY ar E h w) {t:TypeId} {rest:List TypeId} {x y v:V} {X Y:Value} {ty:TypeId}
 (he:(yI P t).run x y h=.val v ab) (al:Rel E x X) (aZ:Rel E y Y):cO ar P E w (Builtin.copy_ (t::rest).toArray ty #[X,Y]) v ab:=by
 unfold yI at he
 cases aA:aX P t with
 | none=>rw [aA] at he;cases he
 | some aK=>
   rw [aA] at he
   simp only at he
   cases bF:aK.a' with
   | slice e=>
     rw [bF] at he
     simp only at he
     cases ca:aX P e with
     | none=>rw [ca] at he;cases he
     | some bd=>
       rw [ca] at he
       simp only at he
       exact Up s (fun w=>by have:=eS aA w;rw [bF] at this;exact this) (fun w=>iI ca w) he al aZ
   | _=>rw [bF] at he;cases he
theorem T_ {ar:Fr} {E:Env} {h ab:af} {w:World} (s:aY ar E h w) {t:TypeId} {x v:V} {X:Value} {ty:TypeId} {z:List V} (aF:vW P t=some z)
 (he:yH z x h=.val v ab) (al:Rel E x X):cO ar P E w (Builtin.clear_ #[t] ty #[X]) v ab:=by
 unfold vW at aF
 cases aA:aX P t with
 | none=>rw [aA] at aF;cases aF
 | some aK=>
   rw [aA] at aF
   simp only at aF
   cases bF:aK.a' with
   | slice e=>
     rw [bF] at aF
     simp only at aF
     cases ca:aX P e with
     | none=>rw [ca] at aF;cases aF
     | some bd=>
       rw [ca] at aF
       simp only at aF
       cases bm:bd.zero with
       | none=>rw [bm] at aF;cases aF
       | some z0=>
         rw [bm] at aF
         simp only [Option.some.injEq] at aF
         subst aF
         have hu:∀w,(underlying t).run P w=.ok (.slice e) w:=fun w=>by have:=eS aA w;rw [bF] at this;exact this
         obtain ⟨z,kl,Fb,K9⟩:=qP (P:=P) (E:=E) ca bm w
         have nothing:∀a c,X=.slice a 0 c→v=.tuple []→ab=h→cO ar P E w (Builtin.clear_ #[t] ty #[X]) v ab:=by
          intro a c cS bn bc
          subst cS bn bc
          refine ⟨.tuple #[],w,E,?_,Env.le.refl E,?_,s⟩
          · cases a<;>simp [Builtin.clear_,Sem.run_bind,hu,Result.andThen_ok,Sem.run_pure]
          · simp only [Rel];exact ⟨_,rfl,rfl⟩
         have N5:∀(b:aO) (off n c:Nat) (p:hJ),E b=some p→X=.slice (some ⟨p.a8,p.base+off,none⟩) n c→(bif Nat.beq n 0 then (aU.val (.tuple []) h) else (match lay h b off (hZ z0.cells n) with
          | some ab=>aU.val (.tuple []) ab
          | none=>.fail))=.val v ab→cO ar P E w (Builtin.clear_ #[t] ty #[X]) v ab:=by
          intro b off n c p ag cS he
          cases n with
          | zero=>
            simp only [Nat.beq_refl,cond_true,aU.val.injEq] at he
            exact nothing _ _ cS he.1.symm he.2.symm
          | succ n=>
            simp only [show Nat.beq (n+1) 0=false from rfl,cond_false] at he
            cases ai:lay h b off (hZ z0.cells (n+1)) with
            | none=>rw [ai] at he;cases he
            | some aa=>
              rw [ai] at he
              simp only [aU.val.injEq] at he
              obtain ⟨rfl,rfl⟩:=he
              obtain ⟨aj,g1,g2⟩:=uy (P:=P) s (xH Fb (n+1)) ai ag
              subst cS
              refine ⟨.tuple #[],aj,E,?_,Env.le.refl E,?_,g2⟩
              · simp only [Builtin.clear_,Sem.run_bind,List.getElem?_toArray,List.getElem?_cons_zero,hu,kl,Result.andThen_ok]
                have:(storeCells ⟨p.a8,p.base+off,none⟩ (Builtin.zeroCells z.cells (n+1)).toList).run P w=.ok () aj:=g1
                simp [this,Sem.run_pure,Result.andThen_ok]
              · simp only [Rel];exact ⟨_,rfl,rfl⟩
         unfold yH at he
         cases x<;>simp only at he<;>try (cases he;done)
         · simp only [Rel] at al
           obtain ⟨p,g1,g2,g3⟩:=al
           exact N5 _ _ _ _ p g1 g3 he
         · simp only [Rel] at al
           obtain ⟨p,g1,g2,g3⟩:=al
           exact N5 _ _ _ _ p g1 g3 he
         · simp only [Rel] at al
           obtain ⟨a,c,rfl⟩:=al
           simp only [aU.val.injEq] at he
           exact nothing _ _ rfl he.1.symm he.2.symm
         · simp only [Rel] at al
           simp only [aU.val.injEq] at he
           exact nothing _ _ al he.1.symm he.2.symm
   | _=>rw [bF] at aF;cases aF
theorem TQ {E:Env} {t:TypeId} {aK:lf} {x v:V} {X:Value} {ty:TypeId} (aA:aX P t=some aK) (aQ:Fq aK.a'=true) (he:Dd x=some v) (al:Rel E x X) (w:World):
 ∃Z,(Builtin.cap_ #[t] ty #[X]).run P w=.ok Z w∧Rel E v Z:=by
 cases bF:aK.a' with
 | slice e=>
   have hu:∀w,(underlying t).run P w=.ok (.slice e) w:=fun w=>by have:=eS aA w;rw [bF] at this;exact this
   cases x<;>simp only [Dd] at he<;>try (cases he;done)
   · simp only [Rel] at al
     obtain ⟨p,_,_,rfl⟩:=al
     cases he
     refine ⟨_,?_,rfl⟩
     simp [Builtin.cap_,Sem.run_bind,hu,Result.andThen_ok,Sem.run_pure]
     rfl
   · simp only [Rel] at al
     subst al
     cases he
     refine ⟨_,?_,rfl⟩
     simp [Builtin.cap_,Sem.run_bind,hu,Result.andThen_ok,Sem.run_pure]
     rfl
 | _=>rw [bF] at aQ;cases aQ
theorem xO {α:Type} (a:Array α):a.toList.toArray=a:=by simp
theorem Q1 {ar:Fr} {E:Env} {h ab:af} {w:World} (s:aY ar E h w) {b:Builtin} {cg:Array TypeId} {args:List V} {xs:List Value} {v:V} {ty:TypeId} {cs:Array Bool} (ai:a7 E args xs)
 (he:(oG P b cg.toList).run args h=.val v ab):∃m:Sem Value,Go.builtin b cg ty cs xs.toArray=(do pure (.value (←m)))∧cO ar P E w m v ab:=by
 have one:∀{x:V},a7 E [x] xs→∃X,xs=[X]∧Rel E x X:=by
  intro x h
  simp only [a7] at h
  obtain ⟨y,cu,rfl,aZ,rfl⟩:=h
  exact ⟨y,rfl,aZ⟩
 have two:∀{x y:V},a7 E [x,y] xs→∃X Y,xs=[X,Y]∧Rel E x X∧Rel E y Y:=by
  intro x y h
  simp only [a7] at h
  obtain ⟨X,_,rfl,cS,Y,_,rfl,eL,rfl⟩:=h
  exact ⟨X,Y,rfl,cS,eL⟩
 cases b<;>simp only [oG] at he<;>try (simp [e6.none] at he;done)
 · -- append
   cases eN:cg.toList with
   | nil=>rw [eN] at he;simp [e6.none] at he
   | cons t pt=>
     rw [eN] at he
     cases pt with
     | nil=>simp [e6.none] at he
     | cons u aeK=>
       cases aeK with
       | cons _ _=>simp [e6.none] at he
       | nil=>
         simp only at he
         match args,he,ai with
         | [x,y],he,ai=>
           obtain ⟨X,Y,rfl,cS,eL⟩:=two ai
           have e:cg=#[t,u]:=by rw [←xO cg,eN]
           exact ⟨_,rfl,by rw [e];exact Qi s he cS eL⟩
         | [],he,_=>cases he
         | [_],he,_=>cases he
         | _::_::_::_,he,_=>cases he
 · -- cap
   cases eN:cg.toList with
   | nil=>rw [eN] at he;simp [e6.none] at he
   | cons t pt=>
     rw [eN] at he
     cases pt with
     | cons _ _=>simp [e6.none] at he
     | nil=>
       simp only at he
       cases aA:aX P t with
       | none=>rw [aA] at he;simp [e6.none] at he
       | some aK=>
         rw [aA] at he
         simp only at he
         cases aQ:Fq aK.a' with
         | false=>rw [aQ] at he;simp [e6.none] at he
         | true=>
           rw [aQ] at he
           simp only [cond_true] at he
           match args,he,ai with
           | [x],he,ai=>
             obtain ⟨X,rfl,cS⟩:=one ai
             have e:cg=#[t]:=by rw [←xO cg,eN]
             obtain ⟨dM,rfl⟩:=aU.hb he
             obtain ⟨Z,eV,cv⟩:=TQ (P:=P) (ty:=ty) aA aQ dM cS w
             exact ⟨_,rfl,by rw [e];exact cO.plain s eV cv⟩
           | [],he,_=>cases he
           | _::_::_,he,_=>cases he
 · -- clear
   cases eN:cg.toList with
   | nil=>rw [eN] at he;simp [e6.none] at he
   | cons t pt=>
     rw [eN] at he
     cases pt with
     | cons _ _=>simp [e6.none] at he
     | nil=>
       simp only at he
       cases aF:vW P t with
       | none=>rw [aF] at he;simp [e6.none] at he
       | some z=>
         rw [aF] at he
         simp only at he
         match args,he,ai with
         | [x],he,ai=>
           obtain ⟨X,rfl,cS⟩:=one ai
           have e:cg=#[t]:=by rw [←xO cg,eN]
           exact ⟨_,rfl,by rw [e];exact T_ s aF he cS⟩
         | [],he,_=>cases he
         | _::_::_,he,_=>cases he
 · -- copy
   cases eN:cg.toList with
   | nil=>rw [eN] at he;simp [e6.none] at he
   | cons t pt=>
     rw [eN] at he
     simp only at he
     match args,he,ai with
     | [x,y],he,ai=>
       obtain ⟨X,Y,rfl,cS,eL⟩:=two ai
       have e:cg=(t::pt).toArray:=by rw [←xO cg,eN]
       exact ⟨_,rfl,by rw [e];exact Uo s he cS eL⟩
     | [],he,_=>cases he
     | [_],he,_=>cases he
     | _::_::_::_,he,_=>cases he
 · -- len
   cases eN:cg.toList with
   | nil=>rw [eN] at he;simp [e6.none] at he
   | cons t pt=>
     rw [eN] at he
     cases pt with
     | cons _ _=>simp [e6.none] at he
     | nil=>
       simp only at he
       cases aA:aX P t with
       | none=>rw [aA] at he;simp [e6.none] at he
       | some aK=>
         rw [aA] at he
         simp only at he
         match args,he,ai with
         | [x],he,ai=>
           obtain ⟨X,rfl,cS⟩:=one ai
           have e:cg=[t].toArray:=by rw [←xO cg,eN]
           cases hm:qf aK.a' with
           | true=>
             rw [hm] at he
             exact ⟨_,rfl,by rw [e];exact aaV s aA hm cS ty [] he⟩
           | false=>
             rw [hm] at he
             simp only [cond_false] at he
             obtain ⟨dM,rfl⟩:=aU.hb he
             obtain ⟨Z,eV,cv⟩:=aaW (P:=P) aA dM cS ty [] w
             exact ⟨_,rfl,by rw [e];exact cO.plain s eV cv⟩
         | [],he,_=>cases hm:qf aK.a'<;>rw [hm] at he<;>cases he
         | _::_::_,he,_=>cases hm:qf aK.a'<;>rw [hm] at he<;>cases he
 · -- max
   obtain ⟨dM,rfl⟩:=aU.hb he
   clear he
   cases args with
   | nil=>cases dM
   | cons x args=>
     simp only [iY] at dM
     obtain ⟨k,a,rfl,aa⟩:=ie dM
     simp only [a7] at ai
     obtain ⟨X,cu,rfl,cS,ai⟩:=ai
     have:=cS.hQ;subst this
     obtain ⟨Z,eV,cv⟩:=Ga (P:=P) false args cu k a v ai aa w
     exact ⟨_,rfl,cO.plain (Z:=Z) s (by simpa [Builtin.max_] using eV) cv⟩
 · -- min
   obtain ⟨dM,rfl⟩:=aU.hb he
   clear he
   cases args with
   | nil=>cases dM
   | cons x args=>
     simp only [iY] at dM
     obtain ⟨k,a,rfl,aa⟩:=ie dM
     simp only [a7] at ai
     obtain ⟨X,cu,rfl,cS,ai⟩:=ai
     have:=cS.hQ;subst this
     obtain ⟨Z,eV,cv⟩:=Ga (P:=P) true args cu k a v ai aa w
     exact ⟨_,rfl,cO.plain (Z:=Z) s (by simpa [Builtin.min_] using eV) cv⟩
end
end Go.Proofs.YthemdhlheglhoaaGreatDoor.a6
namespace Go.Proofs.YthemdhlheglhoaaGreatDoor.a6
variable [Lay]
open Go Go.RowKit
section
variable {P:Program}
def ea (P:Program):Prop:=∀(f:FuncId) (fn:Func),P.funcs[f]? =some fn→(fn.name == "runtime.NumGoroutine")=false
theorem qG (bx:ea P) {f:FuncId} {fn:Func} (av:P.funcs[f]? =some fn) (ah:fn.body.isSome=true) (args:Array Value) (w:World):(callFunc f args).run P w=.ok (.enter f args) w:=by
 have fT:fn.body.isNone=false:=by cases h:fn.body with | none=>rw [h] at ah;cases ah | some c=>rfl
 simp only [callFunc,Sem.run_bind,run_program,Result.andThen_ok,av]
 rw [if_neg (by rw [bx f fn av];simp)]
 simp [fT]
theorem FD {α β:Type} (f:α→β) (a:Array α):a.map f=(a.toList.map f).toArray:=by
 apply Array.ext'
 simp
theorem F' (ρ:Operand→Value) (ba:Array (Nat × Operand)):(ba.map fun (i,x)=>(i,ρ x))=(ba.toList.map fun (i,x)=>(i,ρ x)).toArray:=by
 apply Array.ext'
 simp
theorem QA {E:Env} {t qN:TypeId} {aK:lf} {ok:Bool} {x v:V} {X:Value} (aA:aX P t=some aK) (ah:Nat.beq (en aK.a') 5=false) (al:Rel E x X)
 (he:vL t aK.zero ok x=some v) (w:World):∃Z,(Instr.typeAssert X qN t ok).run P w=.ok Z w∧Rel E v Z:=by
 have hu:=eS aA w
 have nQ:∀ms,aK.a'≠.interface ms:=fun ms e=>by rw [e] at ah;simp [en] at ah
 have zero:∀z,aK.zero=some z→∃x,(zeroValue t).run P w=.ok x w∧Rel E z x:=fun z bm=>by
  obtain ⟨x,aa,ae,_⟩:=uW (P:=P) aA bm E w
  exact ⟨x,aa,ae⟩
 unfold vL at he
 cases x<;>simp only at he<;>try (cases he;done)
 case iface u y=>
  simp only [Rel] at al
  obtain ⟨Y,rfl,eL⟩:=al
  rw [gM] at he
  by_cases ug:u=t
  · rw [if_pos ug] at he
    simp only [Option.some.injEq] at he
    subst ug
    cases ok with
    | true=>
      simp only [cond_true] at he
      subst he
      refine ⟨.tuple #[Y,.bool true],?_,by simp only [Rel,a7];exact ⟨_,rfl,_,_,rfl,eL,_,_,rfl,rfl,rfl⟩⟩
      simp only [Instr.typeAssert,Sem.run_bind,hu,Result.andThen_ok]
      cases bF:aK.a'<;>first
       | exact absurd bF (nQ _)
       | (simp only [if_true];rfl)
    | false=>
      simp only [cond_false] at he
      subst he
      refine ⟨Y,?_,eL⟩
      simp only [Instr.typeAssert,Sem.run_bind,hu,Result.andThen_ok]
      cases bF:aK.a'<;>first
       | exact absurd bF (nQ _)
       | (simp only [if_true];rfl)
  · rw [if_neg ug] at he
    cases ok with
    | false=>cases he
    | true=>
      simp only [cond_true] at he
      cases bm:aK.zero with
      | none=>rw [bm] at he;cases he
      | some z=>
        rw [bm] at he
        simp only [Option.some.injEq] at he
        subst he
        obtain ⟨bj,cj,z2⟩:=zero z bm
        refine ⟨.tuple #[bj,.bool false],?_,by simp only [Rel,a7];exact ⟨_,rfl,_,_,rfl,z2,_,_,rfl,rfl,rfl⟩⟩
        simp only [Instr.typeAssert,Sem.run_bind,hu,Result.andThen_ok]
        cases bF:aK.a'<;>first
         | exact absurd bF (nQ _)
         | (simp only [if_neg ug,if_true,Sem.run_bind,cj,Result.andThen_ok];rfl)
 case nilIface=>
  simp only [Rel] at al
  subst al
  cases ok with
  | false=>cases he
  | true=>
    simp only [cond_true] at he
    cases bm:aK.zero with
    | none=>rw [bm] at he;cases he
    | some z=>
      rw [bm] at he
      simp only [Option.some.injEq] at he
      subst he
      obtain ⟨bj,cj,z2⟩:=zero z bm
      refine ⟨.tuple #[bj,.bool false],?_,by simp only [Rel,a7];exact ⟨_,rfl,_,_,rfl,z2,_,_,rfl,rfl,rfl⟩⟩
      simp only [Instr.typeAssert,Sem.run_bind,hu,Result.andThen_ok]
      cases bF:aK.a'<;>first
       | exact absurd bF (nQ _)
       | (simp only [if_true,Sem.run_bind,cj,Result.andThen_ok];rfl)
def fI (P:Program) (call:dd):Prop:=∀f args h v ab,call f args h=.val v ab→True
set_option maxHeartbeats 2000000 in
theorem I0 {rd:Option Nat} {ar:Fr} {E:Env} {h ab:af} {w:World} {call:dd} (bx:ea P) (cw:fy P call) (c9:fI P call) {o:Oper} {an:Nat} {r:bt} {a:Act} {v:V}
 (he:(eD P o).run call r h=.val v ab) (k:RegRel0 E an r a) (s:aY ar E h w) {K:Act→World→Prop} {Q:Exit→Act→World→Prop}
 (di:∀ao x aj,E.le ao→Rel ao v x→aY ar ao ab aj→K (a.put o.dst x) aj):o.wpIn (b8 rd) 0 P a w K Q:=by
 obtain ⟨dst,op,type,pos,after,guard⟩:=o
 cases op<;>simp only [eD] at he<;>try (simp [cW.none] at he;done)
 case move x=>
  simp only [aU.val.injEq] at he;obtain ⟨rfl,rfl⟩:=he
  exact fo (m:=pure (a.eval x)) rfl (cO.plain s rfl (de k x)) di
 case assign x=>
  simp only [aU.val.injEq] at he;obtain ⟨rfl,rfl⟩:=he
  exact fo (m:=pure (a.eval x)) rfl (cO.plain s rfl (de k x)) di
 case pick c x y=>
  have aF:=de k c
  generalize (bD c).run r=Ha at he aF
  cases Ha<;>simp only at he<;>try (cases he;done)
  rename_i t
  simp only [aU.val.injEq] at he;obtain ⟨rfl,rfl⟩:=he
  simp only [Rel] at aF
  refine fo (m:=do pure (if ←asBool (a.eval c) then a.eval x else a.eval y)) (by simp only [execOp,bind_assoc,pure_bind]) (cO.plain (Z:=if t then a.eval x else a.eval y) s ?_ ?_) di
  · rw [aF];rfl
  · cases t
    · exact de k y
    · exact de k x
 case alloc t=>
  cases aA:aX P t with
  | none=>rw [aA] at he;simp [cW.none] at he
  | some aK=>
    rw [aA] at he
    simp only at he
    cases bm:aK.zero with
    | none=>rw [bm] at he;simp [cW.none] at he
    | some z=>
      rw [bm] at he
      simp only at he
      cases aV:fi h z.cells with
      | none=>rw [aV] at he;cases he
      | some aa=>
        rw [aV] at he
        simp only [fY,aU.val.injEq] at he;obtain ⟨rfl,rfl⟩:=he
        obtain ⟨x,al,nT,_⟩:=qP (P:=P) (E:=E) aA bm w
        obtain ⟨ao,g1,g2,g3,g4⟩:=Ak (P:=P) s nT aV t
        have DJ:(newRow t x.cells).run P w=.ok ⟨w.heap.size,0,none⟩ {w with heap:=w.heap.push (.cells x.cells t)}:=by simpa using g3
        have DK:aY ar ao aa {w with heap:=w.heap.push (.cells x.cells t)}:=by simpa using g4
        exact fo (m:=Instr.alloc t true (.tuple #[])) rfl ⟨.pointer (some ⟨w.heap.size,0,none⟩),_,ao,by simp only [Instr.alloc,Sem.run_bind,al,Result.andThen_ok,newVar,DJ,Sem.run_pure],g1,by simp only [Rel];exact ⟨_,g2,by simp⟩,DK⟩ di
 case box t x=>
  obtain ⟨aE,he⟩:=iq he
  cases aV:fi h ((bD x).run r).cells with
  | none=>rw [aV] at he;cases he
  | some aa=>
    rw [aV] at he
    simp only [fY,aU.val.injEq] at he;obtain ⟨rfl,rfl⟩:=he
    have ai:=(de k x).cells (fun e=>by rw [e] at aE;cases aE)
    obtain ⟨ao,g1,g2,g3,g4⟩:=Ak (P:=P) s ai aV t
    have DJ:(newRow t (a.eval x).cells).run P w=.ok ⟨w.heap.size,0,none⟩ {w with heap:=w.heap.push (.cells (a.eval x).cells t)}:=by simpa using g3
    have DK:aY ar ao aa {w with heap:=w.heap.push (.cells (a.eval x).cells t)}:=by simpa using g4
    exact fo (m:=Instr.box t (a.eval x)) rfl ⟨.pointer (some ⟨w.heap.size,0,none⟩),_,ao,by simp only [Instr.box,Sem.run_bind,newVar,DJ,Result.andThen_ok,Sem.run_pure],g1,by simp only [Rel];exact ⟨_,g2,by simp⟩,DK⟩ di
 case build t ba=>
  obtain ⟨dM,rfl⟩:=aU.hb he
  clear he
  obtain ⟨Z,eV,cv⟩:=QX (P:=P) (AA k ba.toList) dM w
  refine fo (m:=Instr.build t (ba.map fun (i,x)=>(i,a.eval x))) rfl (cO.plain (Z:=Z) s ?_ cv) di
  rw [F'];exact eV
 case buildSlice t n ba=>
  refine fo (m:=Instr.buildSlice t n (ba.map fun (i,x)=>(i,a.eval x))) rfl ?_ di
  rw [F']
  exact QZ s (AA k ba.toList) he
 case load t x=>
  obtain ⟨dM,rfl⟩:=aU.hb he
  clear he
  obtain ⟨Y,eL,cv,_⟩:=L6 (P:=P) s (de k x) dM
  exact fo (m:=Instr.loadAt t (a.eval x)) rfl (cO.plain s eL cv) di
 case store t x y=>
  cases cm:(pj P t).run h ((bD x).run r) ((bD y).run r) with
  | none=>rw [cm] at he;cases he
  | some aa=>
    rw [cm] at he
    simp only [fY,aU.val.injEq] at he;obtain ⟨rfl,rfl⟩:=he
    obtain ⟨aj,cA,gA⟩:=aeg (P:=P) s (de k x) (de k y) cm
    refine ⟨fun _ _=>trivial,?_⟩
    rw [nh (by intro c h;cases h)]
    have:execOp a.eval ⟨dst,.store t x y,type,pos,after,guard⟩=(do Instr.storeAt t (a.eval x) (a.eval y);pure .skip):=rfl
    rw [this,Sem.run_bind,cA]
    exact di E undef aj (Env.le.refl E) (by simp [Rel]) gA
 case nilCheck x=>
  obtain ⟨dM,rfl⟩:=aU.hb he
  clear he
  have al:=de k x
  generalize (bD x).run r=sO at dM al
  have ek:∀X,Rel E sO X→(match X with
   | .pointer none | .nilIface | .nilFunc=>(runtimePanic .nilDeref:Sem Next)
   | .func (.method name) first captured=>
     match (first[0]? :Option Value) with
     | some .nilIface=>runtimePanic .nilDeref
     | some (.iface t w)=>do
       if (←nilAhead ((←program).types.size+Made.depth) t w name) != some false then
        unsupported (.noEntry "op/nilCheck.the method's receiver behind this interface value is a nil pointer, or cannot be seen to be none, and the arguments act or may panic (ledger 612)")
       pure (.value (.func (.method name) first captured))
     | _=>pure (.value (.func (.method name) first captured))
   | x=>pure (.value x))=pure (.value X)∧v=sO:=by
   intro X cS
   cases sO<;>simp only [qn] at dM<;>try (cases dM;done)
   all_goals simp only [Option.some.injEq] at dM
   all_goals simp only [Rel] at cS
   · obtain ⟨p,_,rfl⟩:=cS;exact ⟨rfl,dM.symm⟩
   · rcases cS with ⟨_,_,rfl,_⟩ | ⟨_,_,_,_,_,rfl⟩<;>exact ⟨rfl,dM.symm⟩
   · obtain ⟨p,rfl,_⟩:=cS;exact ⟨rfl,dM.symm⟩
   · obtain ⟨_,p,rfl,_⟩:=cS;exact ⟨rfl,dM.symm⟩
  obtain ⟨aa,rfl⟩:=ek _ al
  exact fo (m:=pure (a.eval x)) (by simp only [execOp];rw [pure_bind];exact aa) (cO.plain s rfl al) di
 case binOp op t x y u=>
  obtain ⟨dM,rfl⟩:=aU.hb he
  clear he
  obtain ⟨Z,eV,cv⟩:=QR (P:=P) (hX:=x) (fl:=y) dM (de k x) (de k y) w
  exact fo rfl (cO.plain s eV cv) di
 case unOp op t x=>
  obtain ⟨dM,rfl⟩:=aU.hb he
  clear he
  obtain ⟨Z,eV,cv⟩:=aeT (P:=P) dM (de k x) w
  exact fo (m:=Op.unary op (a.eval x)) rfl (cO.plain s eV cv) di
 case convert t u x=>exact fo (m:=convert t u (a.eval x)) rfl (Uk s he (de k x)) di
 case makeInterface t x=>
  cases aA:aX P t with
  | none=>rw [aA] at he;simp [cW.none] at he
  | some aK=>
    rw [aA] at he
    simp only at he
    cases ah:Nat.beq (en aK.a') 5 with
    | true=>rw [ah] at he;simp [cW.none] at he
    | false=>
      rw [ah] at he
      simp only [cond_false,aU.val.injEq] at he;obtain ⟨rfl,rfl⟩:=he
      refine fo (m:=Instr.makeInterface t (a.eval x)) rfl (cO.plain (Z:=.iface t (a.eval x)) s ?_ ?_) di
      · have hu:=eS aA w
        simp only [Instr.makeInterface,Sem.run_bind,hu,Result.andThen_ok]
        cases bF:aK.a'<;>first
         | rfl
         | (rw [bF] at ah;simp [en] at ah)
      · simp only [Rel];exact ⟨_,rfl,de k x⟩
 case makeFunc fn first eb=>
  cases fn<;>simp only at he<;>try (simp [cW.none] at he;done)
  rename_i f
  cases av:(first.isEmpty&&!Nat.beq f c4) with
  | false=>
    rw [av] at he
    simp only [cond_false] at he
    cases hM:(eb.isEmpty&&!Nat.beq f c4) with
    | false=>rw [hM] at he;simp [cW.none] at he
    | true=>
      rw [hM] at he
      simp only [cond_true,aU.val.injEq] at he;obtain ⟨rfl,rfl⟩:=he
      simp only [Bool.and_eq_true,Bool.not_eq_true'] at hM
      have Eh:f≠c4:=fun e=>by rw [e] at hM;exact absurd hM.2 (by decide)
      have Ed:eb=#[]:=by simpa using hM.1
      subst Ed
      refine fo (m:=Instr.makeFunc (.func f) (first.map a.eval) #[]) (by simp [execOp]) (cO.plain s rfl ?_) di
      simp only [Rel]
      exact ⟨Eh,_,rfl,by rw [FD];simpa using nE k first.toList⟩
  | true=>
    rw [av] at he
    simp only [cond_true,aU.val.injEq] at he;obtain ⟨rfl,rfl⟩:=he
    simp only [Bool.and_eq_true,Bool.not_eq_true'] at av
    have Eh:f≠c4:=fun e=>by rw [e] at av;exact absurd av.2 (by decide)
    have Ed:first=#[]:=by simpa using av.1
    subst Ed
    refine fo (m:=Instr.makeFunc (.func f) #[] (eb.map a.eval)) (by simp [execOp]) (cO.plain s rfl ?_) di
    simp only [Rel]
    exact .inl ⟨Eh,_,rfl,by rw [FD];simpa using nE k eb.toList⟩
 case makeSlice t l c=>exact fo (m:=Instr.makeSlice t (a.eval l) (a.eval c)) rfl (abo s (de k l) (de k c) he) di
 case slice t x bH aD dm=>
  obtain ⟨dM,rfl⟩:=aU.hb he
  clear he
  obtain ⟨Z,eV,cv⟩:=ad3 (P:=P) dM (de k x) (Az k bH) (Az k aD) (Az k dm) w
  exact fo (m:=Instr.sliceAt t (a.eval x) (bH.map a.eval) (aD.map a.eval) (dm.map a.eval)) rfl (cO.plain s eV cv) di
 case fieldAddr t x i=>
  obtain ⟨dM,rfl⟩:=aU.hb he
  clear he
  obtain ⟨Z,eV,cv⟩:=Vb (P:=P) dM (de k x) w
  exact fo (m:=Instr.fieldAt t (a.eval x) i) rfl (cO.plain s eV cv) di
 case field t x i=>
  obtain ⟨dM,rfl⟩:=aU.hb he
  clear he
  obtain ⟨Z,eV,cv⟩:=Vc (P:=P) dM (de k x) w
  exact fo (m:=Instr.field t (a.eval x) i) rfl (cO.plain s eV cv) di
 case indexAddr t x i=>
  obtain ⟨dM,rfl⟩:=aU.hb he
  clear he
  obtain ⟨Z,eV,cv⟩:=Yx (P:=P) dM (de k x) (de k i) w
  exact fo (m:=Instr.indexAt t (a.eval x) (a.eval i)) rfl (cO.plain s eV cv) di
 case index t x i=>
  obtain ⟨dM,rfl⟩:=aU.hb he
  clear he
  obtain ⟨Z,eV,cv⟩:=Yz (P:=P) dM (de k x) (de k i) w
  exact fo (m:=Instr.index t (a.eval x) (a.eval i)) rfl (cO.plain s eV cv) di
 case range t x=>exact fo (m:=Instr.range t (a.eval x)) rfl (ac' s (de k x) he) di
 case next it ur=>
  cases ur with
  | true=>exact fo (m:=Instr.next (a.eval it) true type) rfl (abH s (de k it) he) di
  | false=>exact fo (m:=Instr.next (a.eval it) false type) rfl (abF s (de k it) he) di
 case entry it=>exact fo (m:=Instr.entry (a.eval it)) rfl (UR s (de k it) he) di
 case lookup t x y ok=>
  obtain ⟨dM,rfl⟩:=aU.hb he
  clear he
  obtain ⟨Z,eV,cv⟩:=abg (P:=P) s (de k x) (de k y) dM
  exact fo (m:=Instr.lookup t (a.eval x) (a.eval y) ok) rfl (cO.plain s eV cv) di
 case mapEntry t m y=>exact fo (m:=Instr.mapEntry t (a.eval m) (a.eval y)) rfl (abp s (de k m) (de k y) he) di
 case entryStore t m st x=>
  cases cm:yT h ((bD m).run r) ((bD st).run r) ((bD x).run r) with
  | none=>rw [cm] at he;cases he
  | some aa=>
    rw [cm] at he
    simp only [fY,aU.val.injEq] at he;obtain ⟨rfl,rfl⟩:=he
    obtain ⟨aj,cA,gA⟩:=UQ (P:=P) (t:=t) s (de k m) (de k st) (de k x) cm
    refine ⟨fun _ _=>trivial,?_⟩
    rw [nh (by intro c h;cases h)]
    have:execOp a.eval ⟨dst,.entryStore t m st x,type,pos,after,guard⟩=(do Instr.entryStore t (a.eval m) (a.eval st) (a.eval x);pure .skip):=rfl
    rw [this,Sem.run_bind,cA]
    exact di E undef aj (Env.le.refl E) (by simp [Rel]) gA
 case mapUpdate t m y x=>
  cases cm:(mr P t).run h ((bD m).run r) ((bD y).run r) ((bD x).run r) with
  | none=>rw [cm] at he;cases he
  | some aa=>
    rw [cm] at he
    simp only [fY,aU.val.injEq] at he;obtain ⟨rfl,rfl⟩:=he
    obtain ⟨aj,cA,gA⟩:=OH (P:=P) s (de k m) (de k y) (de k x) cm
    refine ⟨fun _ _=>trivial,?_⟩
    rw [nh (by intro c h;cases h)]
    have:execOp a.eval ⟨dst,.mapUpdate t m y x,type,pos,after,guard⟩=(do Instr.mapUpdate t (a.eval m) (a.eval y) (a.eval x);pure .skip):=rfl
    rw [this,Sem.run_bind,cA]
    exact di E undef aj (Env.le.refl E) (by simp [Rel]) gA
 case insert t m y x=>
  cases cm:(mr P t).run h ((bD m).run r) ((bD y).run r) ((bD x).run r) with
  | none=>rw [cm] at he;cases he
  | some aa=>
    rw [cm] at he
    simp only [fY,aU.val.injEq] at he;obtain ⟨rfl,rfl⟩:=he
    obtain ⟨aj,cA,gA⟩:=OH (P:=P) s (de k m) (de k y) (de k x) cm
    refine ⟨fun _ _=>trivial,?_⟩
    rw [nh (by intro c h;cases h)]
    have:execOp a.eval ⟨dst,.insert t m y x,type,pos,after,guard⟩=(do Instr.mapUpdate t (a.eval m) (a.eval y) (a.eval x);pure .skip):=rfl
    rw [this,Sem.run_bind,cA]
    exact di E undef aj (Env.le.refl E) (by simp [Rel]) gA
 case makeMap t x=>exact fo (m:=Instr.makeMap t (x.map a.eval)) rfl (abn s (Az k x) he) di
 case panic x=>
  exfalso
  unfold F9 at he
  split at he<;>cases he
 case typeAssert x qN t ok=>
  cases aA:aX P t with
  | none=>rw [aA] at he;simp [cW.none] at he
  | some aK=>
    rw [aA] at he
    simp only at he
    cases ah:Nat.beq (en aK.a') 5 with
    | true=>rw [ah] at he;simp [cW.none] at he
    | false=>
      rw [ah] at he
      simp only [cond_false] at he
      obtain ⟨dM,rfl⟩:=aU.hb he
      clear he
      obtain ⟨Z,eV,cv⟩:=QA aA ah (qN:=qN) (de k x) dM w
      exact fo (m:=Instr.typeAssert (a.eval x) qN t ok) rfl (cO.plain s eV cv) di
 case extract x i=>
  have al:=de k x
  generalize (bD x).run r=sO at he al
  cases sO<;>simp only at he<;>try (cases he;done)
  obtain ⟨dM,rfl⟩:=aU.hb he
  clear he
  simp only [Rel] at al
  obtain ⟨arr,cS,ai⟩:=al
  obtain ⟨y,aZ,cv⟩:=ai.get i v dM
  refine fo (m:=Instr.extract (a.eval x) i) rfl (cO.plain (Z:=y) s ?_ cv) di
  rw [cS]
  have:arr[i]? =some y:=by simpa using aZ
  simp only [Instr.extract,this,Sem.run_pure]
 case call c=>
  obtain ⟨callee,args,types⟩:=c
  cases callee with
  | invoke _ _=>simp [oK,cW.none] at he
  | builtin b=>
    simp only [oK] at he
    obtain ⟨cs,eW⟩:∃cs,execOp a.eval ⟨dst,.call ⟨.builtin b,args,types⟩,type,pos,after,guard⟩=Go.builtin b types type cs (args.map a.eval):=by
     simp only [execOp,resolve,pure_bind,invoke]
     exact ⟨_,rfl⟩
    obtain ⟨m,hm,aE⟩:=Q1 (P:=P) (ty:=type) (cs:=cs) s (nE k args.toList) he
    refine fo (m:=m) ?_ aE di
    rw [eW,←hm,FD]
  | value f=>
    simp only [oK] at he
    have av:=de k f
    generalize X7:(bD f).run r=sM at he av
    cases sM<;>simp only [V.uK] at he<;>try (cases he;done)
    rotate_left
    · rename_i g cs
      simp only [Rel] at av
      refine ⟨fun _ _=>trivial,?_⟩
      rw [nh (by intro c h;cases h)]
      obtain ⟨aE,first,cS,ai⟩:=av
      have mI:=a7.append ai (nE k args.toList)
      have mK:=cw.fn _ _ _ _ _ _ aE he E w _ mI s
      have hex:execOp a.eval ⟨dst,.call ⟨.value f,args,types⟩,type,pos,after,guard⟩=callFunc g (first++args.map a.eval):=by
       simp only [execOp,resolve,cS,Deferred.ofValue,pure_bind,invoke]
       simp
      have e:first++args.map a.eval=(first.toList++args.toList.map a.eval).toArray:=by
       apply Array.ext';simp
      rw [hex,e]
      rcases mK with ⟨⟨fn,ix,ah⟩,aF⟩ | ⟨ao,x,aj,aG,au,aC,aM⟩
      case inr=>
       rw [aG]
       exact di ao x aj au aC aM
      rw [qG bx ix ah]
      refine ⟨fun h=>by simp at h,pO.2 (aF.mono fun e aj az=>?_)⟩
      obtain ⟨ao,x,rfl,au,aC,aM⟩:=az
      exact di ao x aj au aC aM
    rename_i g cs
    simp only [Rel] at av
    refine ⟨fun _ _=>trivial,?_⟩
    rw [nh (by intro c h;cases h)]
    rcases av with ⟨aE,eb,cS,ai⟩ | ⟨aE,b,p,eW,ag,cS⟩
    · have mI:=(nE k args.toList).append ai
      have mK:=cw.fn _ _ _ _ _ _ aE he E w _ mI s
      have hex:execOp a.eval ⟨dst,.call ⟨.value f,args,types⟩,type,pos,after,guard⟩=callFunc g (args.map a.eval++eb):=by
       simp only [execOp,resolve,cS,Deferred.ofValue,pure_bind,invoke]
       simp
      have e:args.map a.eval++eb=(args.toList.map a.eval++eb.toList).toArray:=by
       apply Array.ext';simp
      rw [hex,e]
      rcases mK with ⟨⟨fn,ix,ah⟩,aF⟩ | ⟨ao,x,aj,aG,au,aC,aM⟩
      case inr=>
       rw [aG]
       exact di ao x aj au aC aM
      rw [qG bx ix ah]
      refine ⟨fun h=>by simp at h,pO.2 (aF.mono fun e aj az=>?_)⟩
      obtain ⟨ao,x,rfl,au,aC,aM⟩:=az
      exact di ao x aj au aC aM
    · subst aE eW
      obtain ⟨tr,tmps,assign,body,au,aC⟩:=cw.OY _ _ _ _ _ _ he E w _ p (nE k args.toList) s ag
      have hex:execOp a.eval ⟨dst,.call ⟨.value f,args,types⟩,type,pos,after,guard⟩=Instr.yield p.a8 (args.map a.eval):=by
       simp only [execOp,resolve,cS,Deferred.ofValue,pure_bind,invoke]
       simp
      have e:args.map a.eval=(args.toList.map a.eval).toArray:=by
       apply Array.ext';simp
      rw [hex,e,au]
      refine ⟨fun h=>by simp at h,RoundIn.mono aC fun e aj az=>?_⟩
      obtain ⟨ao,x,rfl,bw,cb,bS⟩:=az
      exact di ao x aj bw cb bS
end
end Go.Proofs.YthemdhlheglhoaaGreatDoor.a6
namespace Go.Proofs.YthemdhlheglhoaaGreatDoor.a6
variable [Lay]
open Go Go.RowKit
section
variable {P:Program}
theorem DP {E:Env} {an:Nat} {r:bt} {a:Act} (k:RegRel0 E an r a) {all:Array Oper} {j:Nat} {g:Oper} {d:Nat} (bB:all[j]? =some g) (a1:g.dst=some d) (Kk:d<an) (rN:d≤top):
 (∀b,T.get .bad (aq d) r=.bool b→yielded all a.tmps j=some b)∧(∀ad,T.get .bad (aq d) r=.tuple ad→yielded all a.tmps j=none):=by
 have aG:=k.aB d rN
 have aP:d<a.tmps.size:=by rw [k.size];exact Kk
 have he:a.tmps[d]? =some (a.tmps.getD d undef):=by simp [Array.getD_eq_getD_getElem?,aP]
 refine ⟨fun b ah=>?_,fun ad ah=>?_⟩
 · rw [ah] at aG
   simp only [Rel] at aG
   simp only [yielded,bB,Option.bind,a1,he,aG]
 · rw [ah] at aG
   simp only [Rel] at aG
   obtain ⟨arr,aG,_⟩:=aG
   simp only [yielded,bB,Option.bind,a1,he,aG]
theorem IX {rd:Option Nat} {ar:Fr} {E:Env} {h ab:af} {w:World} {call:dd} (bx:ea P) (cw:fy P call) {o:Oper} {an:Nat} {r:bt} {a:Act} {v:V} (hm:j1 o.op=true)
 (he:(eD P o).run call r h=.cp v ab) (k:RegRel0 E an r a) (s:aY ar E h w) {K:Act→World→Prop} {Q:Exit→Act→World→Prop}
 (cK:∀ao x aj,E.le ao→Rel ao v x→aY ar ao ab aj→Q (.panic (nc x)) a aj):o.wpIn (b8 rd) 0 P a w K Q:=by
 obtain ⟨dst,op,type,pos,after,guard⟩:=o
 cases op<;>simp only [j1] at hm<;>try (cases hm;done)
 all_goals simp only [eD] at he
 case panic x=>
  have al:=de k x
  generalize (bD x).run r=sO at he al
  unfold F9 at he
  cases sO<;>simp only at he<;>try (cases he;done)
  simp only [aU.cp.injEq] at he
  obtain ⟨rfl,rfl⟩:=he
  have wY:=al
  simp only [Rel] at al
  obtain ⟨Y,cS,eL⟩:=al
  refine ⟨fun _ _=>trivial,?_⟩
  rw [nh (by intro c h;cases h)]
  have hex:(execOp a.eval ⟨dst,.panic x,type,pos,after,guard⟩).run P w=.halt (.panic (a.eval x)) w:=by
   simp only [execOp,cS,Instr.panic,Sem.run_bind]
   rfl
  rw [hex]
  exact cK E _ w (Env.le.refl E) wY s
 case call c=>
  obtain ⟨callee,args,types⟩:=c
  cases callee<;>simp only at hm<;>try (cases hm;done)
  rename_i f
  simp only [oK] at he
  have av:=de k f
  generalize X7:(bD f).run r=sM at he av
  cases sM<;>simp only [V.uK] at he<;>try (cases he;done)
  rotate_left
  · rename_i g cs
    simp only [Rel] at av
    refine ⟨fun _ _=>trivial,?_⟩
    rw [nh (by intro c h;cases h)]
    obtain ⟨aE,first,cS,ai⟩:=av
    have mI:=a7.append ai (nE k args.toList)
    obtain ⟨⟨fn,ix,ah⟩,aF⟩:=cw.cp _ _ _ _ _ _ aE he E w _ mI s
    have hex:execOp a.eval ⟨dst,.call ⟨.value f,args,types⟩,type,pos,after,guard⟩=callFunc g (first++args.map a.eval):=by
     simp only [execOp,resolve,cS,Deferred.ofValue,pure_bind,invoke]
     simp
    have e:first++args.map a.eval=(first.toList++args.toList.map a.eval).toArray:=by
     apply Array.ext';simp
    rw [hex,e,qG bx ix ah]
    refine ⟨fun h=>by simp at h,pO.2 (aF.mono fun e aj az=>?_)⟩
    obtain ⟨ao,x,rfl,au,aC,aM⟩:=az
    exact cK ao x aj au aC aM
  rename_i g cs
  simp only [Rel] at av
  refine ⟨fun _ _=>trivial,?_⟩
  rw [nh (by intro c h;cases h)]
  rcases av with ⟨aE,eb,cS,ai⟩ | ⟨aE,b,p,eW,ag,cS⟩
  · have mI:=(nE k args.toList).append ai
    obtain ⟨⟨fn,ix,ah⟩,aF⟩:=cw.cp _ _ _ _ _ _ aE he E w _ mI s
    have hex:execOp a.eval ⟨dst,.call ⟨.value f,args,types⟩,type,pos,after,guard⟩=callFunc g (args.map a.eval++eb):=by
     simp only [execOp,resolve,cS,Deferred.ofValue,pure_bind,invoke]
     simp
    have e:args.map a.eval++eb=(args.toList.map a.eval++eb.toList).toArray:=by
     apply Array.ext';simp
    rw [hex,e,qG bx ix ah]
    refine ⟨fun h=>by simp at h,pO.2 (aF.mono fun e aj az=>?_)⟩
    obtain ⟨ao,x,rfl,au,aC,aM⟩:=az
    exact cK ao x aj au aC aM
  · subst aE
    exact absurd he (cw.O0 _ _ _ _)
def la (ar:Fr) (E:Env) (an:Nat) (K:Act→World→Prop) (Q:Exit→Act→World→Prop):lI→Prop
 | .ok r h=>∀ao bg aj,E.le ao→eJ ao an r bg→aY ar ao h aj→K bg aj
 | .cp v r h=>∀ao bg aj x,E.le ao→eJ ao an r bg→Rel ao v x→aY ar ao h aj→Q (.panic (nc x)) bg aj
 | .fail=>False
theorem la.up {ar:Fr} {E ao:Env} (h:E.le ao) {an:Nat} {K:Act→World→Prop} {Q:Exit→Act→World→Prop} {x:lI} (k:la ar E an K Q x):la ar ao an K Q x:=by
 cases x with
 | ok r bc=>exact fun bX a w ae=>k bX a w (h.trans ae)
 | cp v r bc=>exact fun bX a w x ae=>k bX a w x (h.trans ae)
 | fail=>exact k
theorem MF {rd:Option Nat} {ar:Fr} {E:Env} {h:af} {w:World} {call:dd} (bx:ea P) (cw:fy P call) (c9:fI P call) {all:Array Oper} {i:Nat} {o:Oper} (aD:all[i]? =some o) {an:Nat} {r:bt} {a:Act}
 (a1:eG an o.dst=true) (k:eJ E an r a) (s:aY ar E h w) {K:Act→World→Prop} {Q:Exit→Act→World→Prop} (hw:Region.wanted o (yielded all a.tmps)=true)
 (ag:la ar E an K Q (Ay (j1 o.op) (eD P o) (eR o.dst) call r h)):wpOpIn (b8 rd) 0 P all Q i K a w:=by
 simp only [wpOpIn,aD,hw,if_true]
 unfold Ay at ag
 cases aS:(eD P o).run call r h with
 | fail=>rw [aS] at ag;exact ag.elim
 | val v aa=>
   rw [aS] at ag
   exact I0 bx cw c9 aS k.toRegRel0 s fun ao x aj au aC aM=>ag ao _ aj au ((k.mono au).put a1 aC) aM
 | cp v aa=>
   rw [aS] at ag
   simp only at ag
   cases hm:j1 o.op with
   | false=>rw [hm] at ag;exact ag.elim
   | true=>
     rw [hm] at ag
     exact IX bx cw hm aS k.toRegRel0 s fun ao x aj au aC aM=>ag ao a aj x au (k.mono au) aC aM
theorem OG {rd:Option Nat} {ar:Fr} {E:Env} {h:af} {w:World} {all:Array Oper} {i:Nat} {o:Oper} (aD:all[i]? =some o) {an:Nat} {r:bt} {a:Act}
 (a1:eG an o.dst=true) (k:eJ E an r a) (s:aY ar E h w) {K:Act→World→Prop} {Q:Exit→Act→World→Prop} (hw:Region.wanted o (yielded all a.tmps)=false)
 (ag:la ar E an K Q (.ok ((eR o.dst).run r (.tuple [])) h)):wpOpIn (b8 rd) 0 P all Q i K a w:=by
 simp only [wpOpIn,aD,hw,Bool.false_eq_true,if_false]
 exact ⟨fun _ _=>trivial,ag E _ w (Env.le.refl E) (k.put a1 (by simp only [Rel];exact ⟨#[],rfl,rfl⟩)) s⟩
theorem Ax {rd:Option Nat} {ar:Fr} {E:Env} {h:af} {w:World} {call:dd} (bx:ea P) (cw:fy P call) (c9:fI P call) {all:Array Oper} {i:Nat} {o:Oper} (aD:all[i]? =some o) {an:Nat} {r:bt} {a:Act}
 (a1:eG an o.dst=true) (k:eJ E an r a) (s:aY ar E h w) {K:Act→World→Prop} {Q:Exit→Act→World→Prop}
 (ag:la ar E an K Q ((uM P an all o).run call r h)):wpOpIn (b8 rd) 0 P all Q i K a w:=by
 unfold uM at ag
 cases aE:o.guard with
 | none=>
   rw [aE] at ag
   exact MF bx cw c9 aD a1 k s (by simp [Region.wanted,aE]) ag
 | some mW=>
   obtain ⟨j,want⟩:=mW
   rw [aE] at ag
   simp only at ag
   cases bB:all[j]? with
   | none=>rw [bB] at ag;exact ag.elim
   | some g=>
     rw [bB] at ag
     simp only at ag
     cases iS:g.dst with
     | none=>rw [iS] at ag;exact ag.elim
     | some d=>
       rw [iS] at ag
       simp only at ag
       cases aF:(Nat.blt d an&&Nat.ble d top) with
       | false=>rw [aF] at ag;exact ag.elim
       | true=>
         rw [aF] at ag
         simp only [cond_true,J5,lR] at ag
         simp only [Bool.and_eq_true,Nat.blt_eq,Nat.ble_eq] at aF
         obtain ⟨g1,g2⟩:=DP k.toRegRel0 bB iS aF.1 aF.2
         cases bn:T.get .bad (aq d) r<;>rw [bn] at ag<;>simp only at ag<;>try (exact ag.elim)
         · rename_i b
           have aZ:=g1 b bn
           cases ah:(bif want then b else !b) with
           | true=>
             rw [ah] at ag
             simp only [cond_true] at ag
             refine MF bx cw c9 aD a1 k s ?_ ag
             simp only [Region.wanted,aE,aZ]
             cases want<;>cases b<;>simp_all
           | false=>
             rw [ah] at ag
             simp only [cond_false] at ag
             refine OG aD a1 k s ?_ ag
             simp only [Region.wanted,aE,aZ]
             cases want<;>cases b<;>simp_all
         · rename_i ad
           have aZ:=g2 ad bn
           refine OG aD a1 k s ?_ ag
           simp only [Region.wanted,aE,aZ]
           rfl
theorem jA.list {E:Env} {v:V} {ds:List Deferred} (k:jA E v ds):k' E v.list ds:=by
 cases v<;>first
  | exact k
theorem ack {rd:Option Nat} {ar:Fr} {E:Env} {h:af} {w:World} {call:dd} (bx:ea P) (cw:fy P call) (c9:fI P call) {all:Array Oper} {i:Nat} {o:Oper} (aD:all[i]? =some o) {an:Nat} {r:bt} {a:Act}
 (aG:rd=none∨FR o=true) (k:eJ E an r a) (s:aY ar E h w) {K:Act→World→Prop} {Q:Exit→Act→World→Prop}
 (ag:la ar E an K Q ((Aw P an all o).run call r h)):wpOpIn (b8 rd) 0 P all Q i K a w:=by
 unfold Aw at ag
 cases a1:eG an o.dst with
 | false=>rw [a1] at ag;exact ag.elim
 | true=>
   rw [a1] at ag
   simp only [cond_true] at ag
   obtain ⟨dst,op,type,pos,after,guard⟩:=o
   cases op with
   | defer c=>
     rcases aG with rfl | aG
     case inr=>cases aG
     simp only at ag
     cases guard with
     | some _=>exact ag.elim
     | none=>
       simp only at ag
       obtain ⟨callee,args,types⟩:=c
       simp only [I'] at ag
       cases callee<;>simp only at ag<;>try (exact ag.elim)
       rename_i f
       unfold I_ at ag
       have av:=de k.toRegRel0 f
       generalize (bD f).run r=sM at ag av
       cases sM<;>simp only at ag<;>try (exact ag.elim)
       rename_i g cs
       cases aZ:Nat.beq g c4 with
       | true=>rw [aZ] at ag;exact ag.elim
       | false=>
         rw [aZ] at ag
         simp only [cond_false] at ag
         have zv:g≠c4:=fun e=>by rw [e] at aZ;exact absurd aZ (by decide)
         simp only [Rel] at av
         rcases av with ⟨_,eb,cS,ai⟩ | ⟨aE,_⟩
         case inr=>exact absurd aE zv
         simp only [wpOpIn,aD,Region.wanted,if_true]
         refine ⟨fun _ _=>trivial,?_⟩
         have hex:((Oper.mk dst (.defer ⟨.value f,args,types⟩) type pos after none).semAt (b8 none).round a.eval).run P w=.ok (.defer {target:=.fn (.func g) eb,args:=#[]++args.map a.eval}) w:=by
          simp only [Oper.semAt_none,execOp,resolve,cS,Deferred.ofValue,pure_bind]
          rfl
         rw [hex]
         refine ag E _ w (Env.le.refl E) (eJ.put ?_ a1 (by simp only [Rel];exact ⟨#[],rfl,rfl⟩)) s
         refine ⟨⟨k.size,fun t aA=>?_⟩,?_⟩
         rotate_left
         · rw [T.gP,if_pos rfl]
           simp only [jA,k']
           refine ⟨_,_,rfl,⟨zv,eb,rfl,?_⟩,k.defers.list⟩
           have:=(nE k.toRegRel0 args.toList).append ai
           simpa using this
         · rw [T.gP,if_neg (fun e=>su aA e.symm)]
           exact k.aB t aA
   | binOp op t x y u=>
     simp only at ag
     cases guard with
     | some g=>exact Ax bx cw c9 aD a1 k s ag
     | none=>
       simp only at ag
       cases jT:AJ P op t with
       | none=>rw [jT] at ag;exact Ax bx cw c9 aD a1 k s ag
       | some neg=>
         rw [jT] at ag
         simp only [Na] at ag
         cases az:mh h ((bD x).run r) ((bD y).run r) with
         | none=>rw [az] at ag;exact Ax bx cw c9 aD a1 k s ag
         | some b=>
           rw [az] at ag
           simp only [wpOpIn,aD,Region.wanted,if_true]
           obtain ⟨Z,eV,cv⟩:=acP (P:=P) (hX:=x) (fl:=y) s jT az (de k.toRegRel0 x) (de k.toRegRel0 y)
           exact fo rfl (cO.plain s eV cv) fun ao v aj au aC aM=>ag ao _ aj au ((k.mono au).put a1 aC) aM
   | _=>exact Ax bx cw c9 aD a1 k s ag
theorem MG {rd:Option Nat} {ar:Fr} {call:dd} (bx:ea P) (cw:fy P call) (c9:fI P call) {all:Array Oper} {an:Nat} {Q:Exit→Act→World→Prop}:∀(l:List Oper) (i:Nat),(∀j,l[j]? =all[i+j]?)→(rd=none∨∀o ∈ l,FR o=true)→
 ∀(E:Env) (r:bt) (h:af) (a:Act) (w:World),la ar E an (Q .normal) Q ((xr P an all l).run call r h)→eJ E an r a→aY ar E h w→
 wpOpsIn (b8 rd) 0 P all Q (List.range' i l.length) a w
 | [],i,_,_,E,r,h,a,w,ag,k,s=>by
   simp only [xr] at ag
   simp only [List.length_nil,List.range'_zero,wpOpsIn]
   exact ag E a w (Env.le.refl E) k s
 | o::os,i,ai,aG,E,r,h,a,w,ag,k,s=>by
   simp only [xr,NX] at ag
   have aD:all[i]? =some o:=by have:=ai 0;simpa using this.symm
   rw [List.length_cons,List.range'_succ,wpOpsIn_cons]
   refine ack bx cw c9 aD (aG.imp id fun h=>h o (by simp)) k s ?_
   cases aa:(Aw P an all o).run call r h with
   | fail=>rw [aa] at ag;exact ag
   | cp v bw nK=>rw [aa] at ag;exact ag
   | ok bw nK=>
     rw [aa] at ag
     simp only at ag
     intro ao bg aj au aC aM
     refine MG bx cw c9 os (i+1) (fun j=>?_) (aG.imp id fun h bU gj=>h bU (by simp [gj])) ao bw nK bg aj (ag.up au) aC aM
     have:=ai (j+1)
     simp only [List.getElem?_cons_succ] at this
     rw [this]
     congr 1
     omega
end
end Go.Proofs.YthemdhlheglhoaaGreatDoor.a6
namespace Go.Proofs.YthemdhlheglhoaaGreatDoor.a6
variable [Lay]
open Go Go.RowKit
theorem Jy {a b:V} (h:yV a b=true):a=b:=by
 cases a<;>cases b<;>simp only [yV] at h<;>first
  | rfl
  | (cases h;done)
  | (rename_i x y;cases x<;>cases y<;>simp_all;done)
  | (rename_i k x l y
     simp only [Bool.and_eq_true] at h
     have aa:=pU h.1
     have ae:=h.2
     rw [jK,beq_iff_eq] at ae
     rw [aa,ae];done)
  | (rw [re,beq_iff_eq] at h;rw [h];done)
  | (simp only [Bool.and_eq_true,Nat.beq_eq] at h
     obtain ⟨aa,ae,aI,bo⟩:=h
     rw [aO.jK aa,ae,aI,bo];done)
  | (simp only [Bool.and_eq_true,Nat.beq_eq] at h
     rw [aO.jK h.1,h.2];done)
  | (rw [aO.jK h];done)
  | (simp only [Bool.and_eq_true,Nat.beq_eq,List.isEmpty_iff] at h
     obtain ⟨aa,ae,aI⟩:=h
     rw [aa,ae,aI];done)
  | (simp only [Bool.and_eq_true,List.isEmpty_iff] at h
     rw [h.1,h.2];done)
theorem DA {f:V→V→Bool} (av:∀a b,f a b=true→a=b):∀{a b:List V},tm f a b=true→a=b
 | [],[],_=>rfl
 | [],_::_,h=>by cases h
 | _::_,[],h=>by cases h
 | a::x,b::y,h=>by
   simp only [tm] at h
   cases aa:f a b with
   | false=>rw [aa] at h;cases h
   | true=>
     rw [aa] at h
     rw [av a b aa,DA av h]
theorem QP {c x:Bool} (h:(bif c then x else false)=true):c=true∧x=true:=by
 cases c with
 | false=>cases h
 | true=>exact ⟨rfl,h⟩
theorem Jz:∀(d:Nat) (a b:V),rz d a b=true→a=b
 | 0,a,b,h=>Jy h
 | d+1,a,b,h=>by
   have bh:=Jz d
   cases a<;>simp only [rz] at h<;>first
    | exact Jy h
    | (cases b<;>simp only at h<;>first
        | (cases h;done)
        | rfl
        | (rw [DA bh h];done)
        | (obtain ⟨aa,ae⟩:=QP h
           rw [Nat.beq_eq] at aa
           rw [aa]
           first
            | rw [DA bh ae]
            | rw [bh _ _ ae]))
theorem DB {a b:V} (h:wa a b=true):a=b:=Jz 5 a b h
theorem vO (m i:Nat):e1 m i=m.testBit i:=by
 rw [Nat.testBit_eq_decide_div_mod_eq]
 unfold e1
 have e:Nat.mod (Nat.shiftRight m i) 2=m / 2 ^ i % 2:=by
  show (m >>> i) % 2=_
  rw [Nat.shiftRight_eq_div_pow]
 rw [e,Bool.eq_iff_iff,Nat.beq_eq,decide_eq_true_eq]
theorem FE {dk:List Nat} {i:Nat}:∀{es:List Edge},e1 (qm dk es) i=true→∃e ∈ es,rf e=true∧(e.on=i∨e1 ((dk[e.on]?).getD 0) i=true)
 | [],h=>by simp [qm,vO] at h
 | e::es,h=>by
   simp only [qm] at h
   cases ah:rf e with
   | false=>
     rw [ah] at h
     obtain ⟨c0,aa,ae⟩:=FE (es:=es) h
     exact ⟨c0,by simp [aa],ae⟩
   | true=>
     rw [ah] at h
     simp only [cond_true,vO] at h
     have ab:((1 <<< e.on||| (dk[e.on]?).getD 0)||| qm dk es).testBit i=true:=h
     rw [Nat.testBit_or,Nat.testBit_or,Bool.or_eq_true,Bool.or_eq_true] at ab
     rcases ab with (aa | aa) | aa
     · refine ⟨e,by simp,ah,.inl ?_⟩
       rw [Nat.testBit_shiftLeft] at aa
       simp only [Bool.and_eq_true,decide_eq_true_eq] at aa
       have:=aa.2
       rw [Nat.testBit_one_eq_true_iff_self_eq_zero] at this
       omega
     · exact ⟨e,by simp,ah,.inr (by rw [vO];exact aa)⟩
     · rw [←vO] at aa
       obtain ⟨c0,au,aC⟩:=FE (es:=es) aa
       exact ⟨c0,by simp [au],aC⟩
def nt (ops:Array Oper) (L:Nat→Prop):Prop:=∀k o e,L k→ops[k]? =some o→e ∈ o.after.toList→rf e=true→L e.on
theorem xf {ops:Array Oper} {L:Nat→Prop} (rG:nt ops L):∀(os:List Oper) (dk:List Nat),(∀j,os[j]? =ops[dk.length+j]?)→
 (∀k m i,dk[k]? =some m→e1 m i=true→L k→L i)→∀k m i,(d_ dk os)[k]? =some m→e1 m i=true→L k→L i
 | [],dk,_,h,k,m,i,ax,ah,dW=>h k m i ax ah dW
 | o::os,dk,l2,h,k,m,i,ax,ah,dW=>by
   simp only [d_] at ax
   refine xf rG os (dk++[qm dk o.after.toList]) (fun j=>?_) (fun k m i ax ah dW=>?_) k m i ax ah dW
   · have:=l2 (j+1)
     simp only [List.getElem?_cons_succ] at this
     rw [this]
     congr 1
     simp
     omega
   · by_cases aP:k<dk.length
     · rw [List.getElem?_append_left aP] at ax
       exact h k m i ax ah dW
     · rw [List.getElem?_append_right (by omega)] at ax
       have wC:k-dk.length=0:=by
        cases bm:k-dk.length with
        | zero=>rfl
        | succ n=>rw [bm] at ax;simp at ax
       rw [wC] at ax
       simp only [List.getElem?_cons_zero,Option.some.injEq] at ax
       subst ax
       have zz:k=dk.length:=by omega
       have aS:ops[k]? =some o:=by have:=l2 0;simp only [List.getElem?_cons_zero,Nat.add_zero] at this;rw [zz];exact this.symm
       obtain ⟨e,he,D2,gz⟩:=FE ah
       have J_:=rG k o e dW aS he D2
       rcases gz with rfl | gz
       · exact J_
       · cases hm:dk[e.on]? with
         | none=>rw [hm] at gz;simp [vO] at gz
         | some cX=>rw [hm] at gz;exact h e.on cX i hm gz J_
theorem np {f:Nat→Nat→Oper→Bool}:∀{k:Nat} {ms:List Nat} {os:List Oper},k8 f k ms os=true→∀j o,os[j]? =some o→∃m,ms[j]? =some m∧f (k+j) m o=true
 | _,_,[],_,j,o,h=>by simp at h
 | _,[],_::_,h,_,_,_=>by cases h
 | k,m::ms,bU::os,h,j,o,aS=>by
   simp only [k8,Bool.and_eq_true] at h
   cases j with
   | zero=>simp only [List.getElem?_cons_zero,Option.some.injEq] at aS;subst aS;exact ⟨m,rfl,h.1⟩
   | succ j=>
     obtain ⟨cX,aa,ae⟩:=np h.2 j o (by simpa using aS)
     exact ⟨cX,by simpa using aa,by rw [show k + (j+1)=k+1+j from by omega];exact ae⟩
theorem Hk {f:Nat→Nat→Oper→Bool}:∀{k:Nat} {ms:List Nat} {os:List Oper},ms.length=os.length→(∀j m o,ms[j]? =some m→os[j]? =some o→f (k+j) m o=true)→k8 f k ms os=true
 | _,[],[],_,_=>rfl
 | _,[],_::_,h,_=>by simp at h
 | _,_::_,[],h,_=>by simp at h
 | k,m::ms,o::os,h,av=>by
   simp only [k8,Bool.and_eq_true]
   refine ⟨av 0 m o rfl rfl,Hk (by simpa using h) fun j cX bU aa ae=>?_⟩
   have:=av (j+1) cX bU (by simpa using aa) (by simpa using ae)
   rw [show k+1+j=k + (j+1) from by omega]
   exact this
theorem FF:∀(os:List Oper) (dk:List Nat),(d_ dk os).length=dk.length+os.length
 | [],dk=>rfl
 | o::os,dk=>by simp [d_,FF os];omega
section
variable {P:Program}
theorem IZ {o:Oper} {call:dd} {r:bt} {h ab:af} {v:V} (az:eh P o.op=false) (he:(eD P o).run call r h=.val v ab):ab=h:=by
 obtain ⟨dst,op,type,pos,after,guard⟩:=o
 cases op<;>simp only [eh] at az<;>try (cases az;done)
 all_goals simp only [eD] at he
 case convert s d x=>
  unfold nx at he
  cases aQ:aX P s with
  | none=>rw [aQ] at he;cases he
  | some qH=>
    cases a1:aX P d with
    | none=>rw [a1] at az;cases az
    | some lO=>
      rw [aQ,a1] at he
      rw [a1] at az
      simp only at he az
      cases hu:lO.a' with
      | int k=>
        rw [hu] at he
        obtain ⟨bp,n,_,aa⟩:=xo he
        simp only [aU.val.injEq] at aa
        exact aa.2.symm
      | slice e=>rw [hu] at az;cases az
      | string=>
        rw [hu] at he
        simp only at he
        have other:∀x:V,(match x with
         | .str s=>aU.val (.str s) h
         | .int _ n=>.val (.str (Utf8.encode n).data.toList) h
         | _=>.fail)=.val v ab→ab=h:=by
         intro x he
         cases x<;>simp only at he<;>first
          | (cases he;done)
          | (simp only [aU.val.injEq] at he;exact he.2.symm)
        cases zK:qH.a' with
        | slice e=>
          rw [zK] at he
          simp only at he
          cases ca:aX P e with
          | none=>rw [ca] at he;cases he
          | some bd=>
            rw [ca] at he
            simp only at he
            have aej:∀b off len,qJ b off len h=.val v ab→ab=h:=by
             intro b off len he
             unfold qJ at he
             cases aE:h.get b<;>rw [aE] at he<;>simp only [b1.mm] at he<;>try (cases he;done)
             all_goals
              obtain ⟨_,ae⟩:=iq he
              cases X3:lF (jk _ off len)<;>rw [X3] at ae<;>first
               | (cases ae;done)
               | (simp only [aU.val.injEq] at ae;exact ae.2.symm)
            cases eM:bd.a' with
            | int w8=>
              rw [eM] at he
              cases w8<;>simp only at he<;>try (cases he;done)
              simp only [pP] at he
              cases al:(bD x).run r<;>rw [al] at he<;>simp only at he<;>first
               | (cases he;done)
               | exact aej _ _ _ he
               | (simp only [aU.val.injEq] at he;exact he.2.symm)
            | _=>rw [eM] at he;cases he
        | _=>rw [zK] at he;exact other _ he
      | _=>rw [hu] at he;cases he
 case call c=>
  obtain ⟨callee,args,types⟩:=c
  cases callee<;>simp only at az<;>try (cases az;done)
  rename_i b
  simp only [oK] at he
  cases b<;>simp only at az<;>try (cases az;done)
  · simp only [oG] at he
    cases eN:types.toList with
    | nil=>rw [eN] at he;simp [e6.none] at he
    | cons t cg=>
      cases cg with
      | cons _ _=>rw [eN] at he;simp [e6.none] at he
      | nil=>
        rw [eN] at he
        simp only at he
        cases aA:aX P t with
        | none=>rw [aA] at he;simp [e6.none] at he
        | some aK=>
          rw [aA] at he
          rw [eN] at az
          simp only [Fp,aA] at az
          simp only [az,cond_false] at he
          split at he
          · exact (aU.hb he).2
          · cases he
  · exact (aU.hb he).2
  · exact (aU.hb he).2
 case move=>simp only [aU.val.injEq] at he;exact he.2.symm
 case assign=>simp only [aU.val.injEq] at he;exact he.2.symm
 case pick c a b=>
  split at he
  · simp only [aU.val.injEq] at he;exact he.2.symm
  · cases he
 case makeFunc fn first eb=>
  cases fn<;>simp only at he<;>try (simp [cW.none] at he;done)
  rename_i f
  cases av:(first.isEmpty&&!Nat.beq f c4)<;>rw [av] at he
  · simp only [cond_false] at he
    cases hM:(eb.isEmpty&&!Nat.beq f c4)<;>rw [hM] at he
    · simp [cW.none] at he
    · simp only [cond_true,aU.val.injEq] at he;exact he.2.symm
  · simp only [cond_true,aU.val.injEq] at he;exact he.2.symm
 case typeAssert x qN t ok=>
  cases aA:aX P t with
  | none=>rw [aA] at he;simp [cW.none] at he
  | some aK=>
    rw [aA] at he
    simp only at he
    cases ah:Nat.beq (en aK.a') 5<;>rw [ah] at he
    · exact (aU.hb he).2
    · simp [cW.none] at he
 case makeInterface t x=>
  cases aA:aX P t with
  | none=>rw [aA] at he;simp [cW.none] at he
  | some aK=>
    rw [aA] at he
    simp only at he
    cases ah:Nat.beq (en aK.a') 5<;>rw [ah] at he
    · simp only [cond_false,aU.val.injEq] at he;exact he.2.symm
    · simp [cW.none] at he
 case extract x i=>
  split at he
  · exact (aU.hb he).2
  · cases he
 all_goals exact (aU.hb he).2
theorem aU.ss {h ab:af} {x:Option V} {v:V} (he:aU.of h x=.val v ab) (H:af):aU.of H x=.val v H:=by
 rw [(aU.hb he).1];rfl
theorem IY {o:Oper} {call:dd} {r:bt} {h ab:af} {v:V} (az:eh P o.op=false) (ai:looks o.op=false) (he:(eD P o).run call r h=.val v ab) (H:af):(eD P o).run call r H=.val v H:=by
 obtain ⟨dst,op,type,pos,after,guard⟩:=o
 cases op<;>simp only [eh] at az<;>try (cases az;done)
 all_goals simp only [looks] at ai<;>try (cases ai;done)
 all_goals simp only [eD] at he ⊢
 case call c=>
  obtain ⟨callee,args,types⟩:=c
  cases callee<;>simp only at az<;>try (cases az;done)
  rename_i b
  simp only [oK] at he ⊢
  cases b<;>simp only at az<;>try (cases az;done)
  · simp only [oG] at he ⊢
    cases eN:types.toList with
    | nil=>rw [eN] at he;simp [e6.none] at he
    | cons t cg=>
      cases cg with
      | cons _ _=>rw [eN] at he;simp [e6.none] at he
      | nil=>
        rw [eN] at he
        simp only at he ⊢
        cases aA:aX P t with
        | none=>rw [aA] at he;simp [e6.none] at he
        | some aK=>
          rw [aA] at he
          rw [eN] at az
          simp only [Fp,aA] at az
          simp only [az,cond_false] at he ⊢
          split at he
          · exact aU.ss he H
          · cases he
  · exact aU.ss he H
  · exact aU.ss he H
 case move=>simp only [aU.val.injEq] at he;rw [he.1]
 case assign=>simp only [aU.val.injEq] at he;rw [he.1]
 case pick c a b=>
  split at he
  · simp only [aU.val.injEq] at he;rw [he.1]
  · cases he
 case makeFunc fn first eb=>
  cases fn<;>simp only at he ⊢<;>try (simp [cW.none] at he;done)
  rename_i f
  cases av:(first.isEmpty&&!Nat.beq f c4)<;>rw [av] at he
  · simp only [cond_false] at he ⊢
    cases hM:(eb.isEmpty&&!Nat.beq f c4)<;>rw [hM] at he
    · simp [cW.none] at he
    · simp only [cond_true,aU.val.injEq] at he ⊢;exact ⟨he.1,trivial⟩
  · simp only [cond_true,aU.val.injEq] at he ⊢;exact ⟨he.1,trivial⟩
 case typeAssert x qN t ok=>
  cases aA:aX P t with
  | none=>rw [aA] at he;simp [cW.none] at he
  | some aK=>
    rw [aA] at he
    simp only at he ⊢
    cases ah:Nat.beq (en aK.a') 5<;>rw [ah] at he
    · exact aU.ss he H
    · simp [cW.none] at he
 case makeInterface t x=>
  cases aA:aX P t with
  | none=>rw [aA] at he;simp [cW.none] at he
  | some aK=>
    rw [aA] at he
    simp only at he ⊢
    cases ah:Nat.beq (en aK.a') 5<;>rw [ah] at he
    · simp only [cond_false,aU.val.injEq] at he ⊢;exact ⟨he.1,trivial⟩
    · simp [cW.none] at he
 case extract x i=>
  split at he
  · exact aU.ss he H
  · cases he
 all_goals exact aU.ss he H
end
end Go.Proofs.YthemdhlheglhoaaGreatDoor.a6
namespace Go.Proofs.YthemdhlheglhoaaGreatDoor.a6
variable [Lay]
open Go Go.RowKit
section
variable {P:Program}
def HG (P:Program) (E:Env) (m:Sem Value) (v:V) (h ab:af):Prop:=
 ∃k,ab=h.new k∧True∧∀w,∃X qp,m.run P w=.ok X {w with heap:=w.heap.push qp}∧
  ∀ao,E.le ao→ao (aq h.next)=some ⟨w.heap.size,0,0⟩→Rel ao v X∧∀B,B≤w.heap.size→ga B ao {w with heap:=w.heap.push qp} (aq h.next) k
theorem FL {E:Env} {h ab:af} {ad:List V} {l:List Value} (ai:a7 E ad l) (he:fi h ad=some ab) (t:TypeId):
 ∃k,ab=h.new k∧True∧∀w,(newRow t l.toArray).run P w=.ok ⟨w.heap.size,0,none⟩ {w with heap:=w.heap.push (.cells l.toArray t)}∧
  ∀ao,E.le ao→ao (aq h.next)=some ⟨w.heap.size,0,0⟩→∀B,B≤w.heap.size→ga B ao {w with heap:=w.heap.push (.cells l.toArray t)} (aq h.next) k:=by
 unfold fi at he
 obtain ⟨aF,he⟩:=dR he
 rw [Nat.ble_eq] at aF
 cases he
 refine ⟨_,rfl,trivial,fun w=>⟨by simp [newRow],fun ao hle dt B cJ=>?_⟩⟩
 have:=za (a7.mono hle _ _ ai) aF #[]
 rw [Array.append_empty] at this
 exact ⟨aF,_,_,t,(0,0),dt,cJ,by simp,.inr (Nat.le_refl _),fun _=>rfl,fun h=>absurd rfl h,this⟩
theorem Q0 {E:Env} {h ab:af} {t:TypeId} {n:Nat} {ba:List (Nat × V)} {ig:List (Nat × Value)} {v:V} (ag:oz E ba ig) (he:(rh P t n).run ba h=.val v ab):
 HG P E (Instr.buildSlice t n ig.toArray) v h ab:=by
 unfold rh at he
 cases aA:aX P t with
 | none=>rw [aA] at he;cases he
 | some aK=>
   rw [aA] at he
   simp only at he
   have hu:=eS aA
   cases bF:aK.a' with
   | slice e=>
     rw [bF] at he hu
     simp only at he
     cases ca:aX P e with
     | none=>rw [ca] at he;cases he
     | some bd=>
       rw [ca] at he
       simp only at he
       cases bm:bd.zero with
       | none=>rw [bm] at he;cases he
       | some z=>
         rw [bm] at he
         simp only at he
         cases aF:(Nat.ble (n * bd.size) 1000000&&Nat.beq z.cells.length bd.size) with
         | false=>rw [aF] at he;cases he
         | true=>
           rw [aF] at he
           simp only [cond_true] at he
           simp only [Bool.and_eq_true,Nat.ble_eq,Nat.beq_eq] at aF
           cases av:kK (fun i=>some (i * bd.size,bd.size)) (hZ z.cells n) ba with
           | none=>rw [av] at he;cases he
           | some cs=>
             rw [av] at he
             simp only at he
             cases aV:fi h cs with
             | none=>rw [aV] at he;cases he
             | some aa=>
               rw [aV] at he
               simp only [aU.val.injEq] at he
               obtain ⟨rfl,rfl⟩:=he
               obtain ⟨x,al,nT,nU⟩:=qP (P:=P) (E:=E) ca bm ⟨#[],fun _ _=>0,0,default,#[]⟩
               have r_:x.cells.size=bd.size:=by rw [nU,aF.2]
               have r7:=xH nT n
               rw [r_] at r7
               obtain ⟨b,iv,nH⟩:=wb (a:=(Array.range (n * bd.size)).map (x.cells[· % x.cells.size]!)) ag (by rw [r_];exact r7) av
               obtain ⟨k,g1,g2,g3⟩:=FL (P:=P) nH aV e
               refine ⟨k,g1,g2,fun w=>⟨.slice (some ⟨w.heap.size,0,none⟩) n n,.cells b e,?_,fun ao hle dt=>⟨?_,?_⟩⟩⟩
               · have rZ:¬16777216<n * bd.size:=by omega
                 have kP:(newRow e b).run P w=.ok ⟨w.heap.size,0,none⟩ {w with heap:=w.heap.push (.cells b e)}:=by simpa using (g3 w).1
                 by_cases a_:n * bd.size=0
                 · have D0:Instr.fill (fun i=>some (i * bd.size,bd.size)) ((Array.range (n * bd.size)).map ((#[]:Array Value)[· % 0]!)) ig=some b:=by
                    have aN:(Array.range (n * bd.size)).map ((#[]:Array Value)[· % 0]!)=(Array.range (n * bd.size)).map (x.cells[· % x.cells.size]!):=by
                     rw [a_];simp
                    rw [aN];exact iv
                   have D1:Instr.fill (fun i=>some (i * bd.size,bd.size)) ((Array.range (n * bd.size)).map (fun x=>(#[]:Array Value)[x % (#[]:Array Value).size]!)) ig=some b:=D0
                   simp only [Instr.buildSlice,Sem.run_bind,hu,Result.andThen_ok,iI ca,Sem.run_ite]
                   rw [if_neg rZ]
                   simp only [Sem.run_pure,Result.andThen_ok,if_pos a_]
                   rw [D1]
                   simp only [Sem.run_bind,kP,Result.andThen_ok,Sem.run_pure]
                 · simp only [Instr.buildSlice,Sem.run_bind,hu,Result.andThen_ok,iI ca,Sem.run_ite]
                   rw [if_neg rZ]
                   simp only [Sem.run_pure,Result.andThen_ok,if_neg a_,al]
                   rw [iv]
                   simp only [Sem.run_bind,kP,Result.andThen_ok,Sem.run_pure]
               · simp only [Rel]
                 exact ⟨_,dt,Nat.le_refl _,by simp⟩
               · simpa using (g3 w).2 ao hle dt
   | _=>rw [bF] at he;cases he
set_option maxHeartbeats 2000000 in
theorem Ul {E:Env} {h ab:af} {call:dd} {o:Oper} {an:Nat} {r:bt} {a:Act} {v:V} (br:fv o=true) (he:(eD P o).run call r h=.val v ab) (k:RegRel0 E an r a):
 ∃m:Sem Value,execOp a.eval o=(do pure (.value (←m)))∧HG P E m v h ab:=by
 obtain ⟨dst,op,type,pos,after,guard⟩:=o
 cases op<;>simp only [fv] at br<;>try (cases br;done)
 all_goals simp only [eD] at he
 case alloc t=>
  refine ⟨Instr.alloc t true (.tuple #[]),rfl,?_⟩
  cases aA:aX P t with
  | none=>rw [aA] at he;simp [cW.none] at he
  | some aK=>
    rw [aA] at he
    simp only at he
    cases bm:aK.zero with
    | none=>rw [bm] at he;simp [cW.none] at he
    | some z=>
      rw [bm] at he
      simp only at he
      cases aV:fi h z.cells with
      | none=>rw [aV] at he;cases he
      | some aa=>
        rw [aV] at he
        simp only [fY,aU.val.injEq] at he;obtain ⟨rfl,rfl⟩:=he
        obtain ⟨x,al,nT,_⟩:=qP (P:=P) (E:=E) aA bm ⟨#[],fun _ _=>0,0,default,#[]⟩
        obtain ⟨cM,g1,g2,g3⟩:=FL (P:=P) nT aV t
        refine ⟨cM,g1,g2,fun w=>⟨.pointer (some ⟨w.heap.size,0,none⟩),.cells x.cells t,?_,fun ao hle dt=>⟨?_,?_⟩⟩⟩
        · have:=(g3 w).1
          simp only [Array.toArray_toList] at this
          simp only [Instr.alloc,Sem.run_bind,al,Result.andThen_ok,newVar,this,Sem.run_pure]
        · simp only [Rel];exact ⟨_,dt,by simp⟩
        · simpa using (g3 w).2 ao hle dt
 case box t x=>
  refine ⟨Instr.box t (a.eval x),rfl,?_⟩
  obtain ⟨aE,he⟩:=iq he
  cases aV:fi h ((bD x).run r).cells with
  | none=>rw [aV] at he;cases he
  | some aa=>
    rw [aV] at he
    simp only [fY,aU.val.injEq] at he;obtain ⟨rfl,rfl⟩:=he
    have ai:=(de k x).cells (fun e=>by rw [e] at aE;cases aE)
    obtain ⟨cM,g1,g2,g3⟩:=FL (P:=P) ai aV t
    refine ⟨cM,g1,g2,fun w=>⟨.pointer (some ⟨w.heap.size,0,none⟩),.cells (a.eval x).cells t,?_,fun ao hle dt=>⟨?_,?_⟩⟩⟩
    · have:=(g3 w).1
      simp only [Array.toArray_toList] at this
      simp only [Instr.box,Sem.run_bind,newVar,this,Result.andThen_ok,Sem.run_pure]
    · simp only [Rel];exact ⟨_,dt,by simp⟩
    · simpa using (g3 w).2 ao hle dt
 case buildSlice t n ba=>
  refine ⟨Instr.buildSlice t n (ba.map fun (i,x)=>(i,a.eval x)),rfl,?_⟩
  rw [F']
  exact Q0 (AA k ba.toList) he
 case makeMap t x=>
  cases x with
  | some _=>cases br
  | none=>
    refine ⟨Instr.makeMap t none,rfl,?_⟩
    simp only [n_,uB] at he
    cases aA:aX P t with
    | none=>rw [aA] at he;cases he
    | some aK=>
      rw [aA] at he
      simp only at he
      cases ah:Nat.beq (en aK.a') 3 with
      | false=>rw [ah] at he;cases he
      | true=>
        rw [ah] at he
        simp only [cond_true,qk,uF] at he
        simp only [aU.val.injEq] at he
        obtain ⟨rfl,rfl⟩:=he
        refine ⟨_,rfl,trivial,fun w=>⟨.map (some w.heap.size),.map #[] 0,?_,fun ao hle dt=>⟨?_,fun B cJ=>?_⟩⟩⟩
        · simp only [Instr.makeMap,Sem.run_bind,run_newObj,Result.andThen_ok,Sem.run_pure]
        · simp only [Rel];exact ⟨_,dt,rfl⟩
        · exact ⟨_,#[],dt,cJ,by simp,rfl⟩
def Fr.hold (F:Fr) (b:aO) (k:b1):Fr:=⟨F.w,fun bC=>if bC=b then some k else F.dz bC⟩
def Fr.free (F:Fr) (b:aO):Fr:=⟨F.w,fun bC=>if bC=b then none else F.dz bC⟩
theorem aY.hold {F:Fr} {E:Env} {h:af} {w:World} (s:aY F E h w) (k:b1):aY (F.hold (aq h.next) k) E (h.new k) w:=by
 have cT:=s.fresh h.next (Nat.le_refl _)
 refine ⟨fun b ah=>?_,fun b bp ax=>?_,fun b bC p p' aa ae aN bf gZ=>?_,fun i aD=>s.fresh i (Nat.le_of_succ_le aD),s.frame,s.laid,fun b p n cs st aa aN=>s.base b p n cs st (by
  have cr:aq h.next≠b:=fun e=>by rw [←e,cT] at aN;cases aN
  rwa [af.gO,if_neg cr] at aa) aN⟩
 · simp only [Fr.hold] at ah
   by_cases az:b=aq h.next
   · rw [if_pos az] at ah;cases ah
   · rw [if_neg az] at ah
     rw [af.gO,if_neg (fun e=>az e.symm)]
     exact s.a8 b ah
 · simp only [Fr.hold] at ax
   by_cases az:b=aq h.next
   · rw [if_pos az] at ax
     cases ax
     exact ⟨by rw [af.gO,if_pos az.symm],by rw [az];exact cT,h.next,Nat.lt_succ_self _,az⟩
   · rw [if_neg az] at ax
     obtain ⟨au,aC,i,aM,bG⟩:=s.nf b bp ax
     exact ⟨by rw [af.gO,if_neg (fun e=>az e.symm)];exact au,aC,i,Nat.lt_succ_of_lt aM,bG⟩
 · have cr:aq h.next≠b:=fun e=>by rw [←e,cT] at aN;cases aN
   have gr:aq h.next≠bC:=fun e=>by rw [←e,cT] at bf;cases bf
   rw [af.gO,if_neg cr] at aa
   rw [af.gO,if_neg gr] at ae
   exact s.inj b bC p p' aa ae aN bf gZ
theorem aY.link {F:Fr} {E:Env} {h:af} {w:World} (s:aY F E h w) {b:aO} {k:b1} (ag:F.dz b=some k) {o:Obj}
 (iA:ga F.w.heap.size (E.put b ⟨w.heap.size,0,0⟩) {w with heap:=w.heap.push o} b k):
 E.le (E.put b ⟨w.heap.size,0,0⟩)∧aY (F.free b) (E.put b ⟨w.heap.size,0,0⟩) h {w with heap:=w.heap.push o}:=by
 obtain ⟨ax,cT,i0,rT,rJ⟩:=s.nf b k ag
 have hle:E.le (E.put b ⟨w.heap.size,0,0⟩):=Env.j0 cT
 have dt:E.put b ⟨w.heap.size,0,0⟩ b=some ⟨w.heap.size,0,0⟩:=by unfold Env.put;rw [if_pos rfl]
 have hold:∀bC,bC≠b→E.put b ⟨w.heap.size,0,0⟩ bC=E bC:=by intro bC ah;unfold Env.put;rw [if_neg ah]
 have iw:∀bC q,E bC=some q→(h.get bC)≠.dead→q.a8<w.heap.size:=by
  intro bC q az a1
  have ah:=s.at az
  cases aE:h.get bC with
  | dead=>exact absurd aE a1
  | view n cs=>rw [aE] at ah;obtain ⟨_,dX,c,el,bK,e,_,bc,_⟩:=ah;rw [e] at az;cases az;exact (Array.getElem?_eq_some_iff.1 bc).1
  | cells n cs cl st=>rw [aE] at ah;obtain ⟨_,dX,c,el,bK,e,_,bc,_⟩:=ah;rw [e] at az;cases az;exact (Array.getElem?_eq_some_iff.1 bc).1
  | iter st pos=>rw [aE] at ah;obtain ⟨dX,e,_,_,bc⟩:=ah;rw [e] at az;cases az;exact (Array.getElem?_eq_some_iff.1 bc).1
  | mp es clock=>rw [aE] at ah;obtain ⟨dX,a,e,_,bc,_⟩:=ah;rw [e] at az;cases az;exact (Array.getElem?_eq_some_iff.1 bc).1
  | cU l=>rw [aE] at ah;obtain ⟨dX,a,e,_,bc,_⟩:=ah;rw [e] at az;cases az;exact (Array.getElem?_eq_some_iff.1 bc).1
  | eE=>rw [aE] at ah;obtain ⟨dX,e,_,bc⟩:=ah;rw [e] at az;cases az;exact (Array.getElem?_eq_some_iff.1 bc).1
  | hU es=>rw [aE] at ah;obtain ⟨dX,a,c,l,e,_,bc,_⟩:=ah;rw [e] at az;cases az;exact (Array.getElem?_eq_some_iff.1 bc).1
  | hT src since seen last=>rw [aE] at ah;obtain ⟨dX,m,a,e,_,_,bc,_⟩:=ah;rw [e] at az;cases az;exact (Array.getElem?_eq_some_iff.1 bc).1
 refine ⟨hle,fun bC fT=>?_,fun bC bp eX=>?_,fun ct cf bW b3 aa ae aN bf gZ=>?_,fun i aD=>?_,⟨s.frame.os,s.frame.tape,s.frame.output,?_,fun j bB=>?_⟩,s.laid,fun ct bW n cs st aa aN=>by
  by_cases bE:ct=b
  · subst bE;rw [dt] at aN;cases aN;rfl
  · rw [hold ct bE] at aN;exact s.base _ _ _ _ _ aa aN⟩
 · by_cases az:bC=b
   · subst az;rw [ax];exact iA
   · simp only [Fr.free,if_neg az] at fT
     have a_:=(s.a8 bC fT).mono hle
     by_cases a1:h.get bC=.dead
     · rw [a1];trivial
     · refine ga.fO a_ fun q mS=>?_
       rw [hold bC az] at mS
       have:=iw bC q mS a1
       simp only [Array.getElem?_push]
       rw [if_neg (by omega)]
 · simp only [Fr.free] at eX
   by_cases az:bC=b
   · rw [if_pos az] at eX;cases eX
   · rw [if_neg az] at eX
     obtain ⟨au,aC,aM⟩:=s.nf bC bp eX
     exact ⟨au,by rw [hold bC az];exact aC,aM⟩
 · by_cases bE:ct=b<;>by_cases bR:cf=b
   · exact bE.trans bR.symm
   · subst bE
     rw [dt] at aN;cases aN
     rw [hold cf bR] at bf
     have:=iw cf b3 bf (fun e=>by rw [e] at ae;cases ae)
     simp only at gZ
     omega
   · subst bR
     rw [dt] at bf;cases bf
     rw [hold ct bE] at aN
     have:=iw ct bW aN (fun e=>by rw [e] at aa;cases aa)
     simp only at gZ
     omega
   · rw [hold ct bE] at aN
     rw [hold cf bR] at bf
     exact s.inj ct cf bW b3 aa ae aN bf gZ
 · rw [hold _ (fun e=>?_)]
   · exact s.fresh i aD
   · rw [rJ] at e
     have:=eZ e
     omega
 · have:=s.frame.size
   simp only [Array.size_push,Fr.free]
   omega
 · have aa:=s.frame.size
   simp only [Fr.free,Array.getElem?_push]
   rw [if_neg (by simp only [Fr.free] at bB;omega)]
   exact s.frame.block j bB
end
end Go.Proofs.YthemdhlheglhoaaGreatDoor.a6
namespace Go.Proofs.YthemdhlheglhoaaGreatDoor.a6
variable [Lay]
open Go Go.RowKit
section
variable {P:Program}
def dH (es:List ec) (cB:bt) (i:Nat):bt:=
 match es[i]? with
 | some e=>e.r
 | none=>cB
theorem tM (e:ec) (es:List ec) (av:af) (i:Nat):bY (e::es) av (i+1)=bY es av i:=by simp [bY]
theorem uT (e:ec) (es:List ec) (cB:bt) (i:Nat):dH (e::es) cB (i+1)=dH es cB i:=by simp [dH]
theorem qI {an:Nat} {all:Array Oper} {call:dd}:∀{l:List Oper} {r cB:bt} {h av:af} {es:List ec},(eP P an all l).run call r h=.ok es cB av→
 es.length=l.length∧bY es av 0=h∧dH es cB 0=r∧∀j o,l[j]? =some o→∃e,es[j]? =some e∧(cd P an all o).run call e.r e.h=.val e.v (bY es av (j+1))∧dH es cB (j+1)=(eR o.dst).run e.r e.v
 | [],r,cB,h,av,es,he=>by
   simp only [eP,ns.ok.injEq] at he
   obtain ⟨rfl,rfl,rfl⟩:=he
   exact ⟨rfl,rfl,rfl,fun j o aS=>by simp at aS⟩
 | o::os,r,cB,h,av,es,he=>by
   simp only [eP,xM] at he
   cases aa:(cd P an all o).run call r h with
   | fail=>rw [aa] at he;cases he
   | cp _ _=>rw [aa] at he;simp only at he;cases hm:j1 o.op<;>rw [hm] at he<;>cases he
   | val v bc=>
     rw [aa] at he
     simp only at he
     cases ae:(eP P an all os).run call ((eR o.dst).run r v) bc with
     | fail=>rw [ae] at he;cases he
     | cp _ _ _ _ _=>rw [ae] at he;cases he
     | ok gi bw aI=>
       rw [ae] at he
       simp only [ns.ok.injEq] at he
       obtain ⟨rfl,rfl,rfl⟩:=he
       obtain ⟨au,aC,aM,bG⟩:=qI ae
       refine ⟨by simp [au],by simp [bY],by simp [dH],fun j bU aS=>?_⟩
       cases j with
       | zero=>
         simp only [List.getElem?_cons_zero,Option.some.injEq] at aS
         subst aS
         exact ⟨⟨r,h,v⟩,rfl,by rw [tM,aC];exact aa,by rw [uT,aM]⟩
       | succ j=>
         obtain ⟨e,bW,b3,dv⟩:=bG j bU (by simpa using aS)
         exact ⟨e,by simpa using bW,by rw [tM];exact b3,by rw [uT];exact dv⟩
theorem Od {an:Nat} {all:Array Oper} {call:dd}:∀{l:List Oper} {r cB:bt} {h av ab:af} {es:List ec} {v:V},(eP P an all l).run call r h=.cp es cB av v ab→
 bY es av 0=h∧dH es cB 0=r∧(∀j o,j<es.length→l[j]? =some o→∃e,es[j]? =some e∧(cd P an all o).run call e.r e.h=.val e.v (bY es av (j+1))∧dH es cB (j+1)=(eR o.dst).run e.r e.v)∧
  ∃o,l[es.length]? =some o∧j1 o.op=true∧(cd P an all o).run call cB av=.cp v ab
 | [],r,cB,h,av,ab,es,v,he=>by simp [eP] at he
 | o::os,r,cB,h,av,ab,es,v,he=>by
   simp only [eP,xM] at he
   cases aa:(cd P an all o).run call r h with
   | fail=>rw [aa] at he;cases he
   | cp x al=>
     rw [aa] at he
     simp only at he
     cases hm:j1 o.op with
     | false=>rw [hm] at he;cases he
     | true=>
       rw [hm] at he
       simp only [cond_true,ns.cp.injEq] at he
       obtain ⟨rfl,rfl,rfl,rfl,rfl⟩:=he
       exact ⟨rfl,rfl,fun j bU bB=>by simp at bB,o,rfl,hm,aa⟩
   | val x bc=>
     rw [aa] at he
     simp only at he
     cases ae:(eP P an all os).run call ((eR o.dst).run r x) bc with
     | fail=>rw [ae] at he;cases he
     | ok _ _ _=>rw [ae] at he;cases he
     | cp gi bw aI v1 bo=>
       rw [ae] at he
       simp only [ns.cp.injEq] at he
       obtain ⟨rfl,rfl,rfl,rfl,rfl⟩:=he
       obtain ⟨aC,aM,bG,dS,dJ,e0,hY⟩:=Od ae
       refine ⟨by simp [bY],by simp [dH],fun j bU bB aS=>?_,dS,by simpa using dJ,e0,hY⟩
       cases j with
       | zero=>
         simp only [List.getElem?_cons_zero,Option.some.injEq] at aS
         subst aS
         exact ⟨⟨r,h,x⟩,rfl,by rw [tM,aC];exact aa,by rw [uT,aM]⟩
       | succ j=>
         obtain ⟨e,bW,b3,dv⟩:=bG j bU (by simpa using bB) (by simpa using aS)
         exact ⟨e,by simpa using bW,by rw [tM];exact b3,by rw [uT];exact dv⟩
theorem JZ {an:Nat} {d:Option Nat} (a1:eG an d=true) {r:bt} {v:V} {t:Nat} (aA:t≤top):T.get .bad (aq t) ((eR d).run r v)=if d=some t then v else T.get .bad (aq t) r:=by
 cases d with
 | none=>simp [eR]
 | some d=>
   simp only [eG,Bool.and_eq_true,Nat.blt_eq,Nat.ble_eq] at a1
   simp only [eR,T.gP,Option.some.injEq]
   by_cases h:d=t
   · subst h;simp
   · rw [if_neg (fun e=>h (eZ e)),if_neg h]
theorem iL {an:Nat} {all:Array Oper} {o:Oper} {call:dd} {r:bt} {h ab:af} {v:V} (he:(cd P an all o).run call r h=.val v ab):eG an o.dst=true∧i_ (bQ all o)=true:=by
 unfold cd at he
 cases aF:(eG an o.dst&&i_ (bQ all o)) with
 | false=>rw [aF] at he;simp [cW.none] at he
 | true=>simpa using aF
theorem Ow {r:bt} {rs:List Nat} (aQ:i_ rs=true) {t:Nat} (aA:t≤top):T.get .bad (aq t) (c6 r rs)=if t ∈ rs then T.get .bad (aq t) r else .bad:=by
 induction rs with
 | nil=>simp [c6]
 | cons u rs bh=>
   simp only [i_,List.all_cons,Bool.and_eq_true,Nat.ble_eq] at aQ
   simp only [c6,T.gP,List.mem_cons]
   by_cases h:u=t
   · subst h;simp
   · rw [if_neg (fun e=>h (eZ e)),bh aQ.2]
     have ab:¬t=u:=fun e=>h e.symm
     simp [ab]
theorem Jc {an:Nat} {all:Array Oper} {o:Oper} {call:dd} {r:bt} {h ab:af} {v:V} (he:(cd P an all o).run call r h=.cp v ab):eG an o.dst=true∧i_ (bQ all o)=true:=by
 unfold cd at he
 cases aF:(eG an o.dst&&i_ (bQ all o)) with
 | false=>rw [aF] at he;simp [cW.none] at he
 | true=>simpa using aF
def BM (ar:Fr) (E:Env) (o:Oper) (a:Act) (K:Act→World→Prop) (Q:Exit→Act→World→Prop):aU→Prop
 | .val v ab=>∀ao x aj,E.le ao→Rel ao v x→aY ar ao ab aj→K (a.put o.dst x) aj
 | .cp v ab=>j1 o.op=true∧∀ao x aj,E.le ao→Rel ao v x→aY ar ao ab aj→Q (.panic (nc x)) a aj
 | .fail=>False
theorem Jd {rd:Option Nat} {ar:Fr} {E:Env} {h:af} {w:World} {call:dd} (bx:ea P) (cw:fy P call) (c9:fI P call) {all:Array Oper} {i:Nat} {o:Oper} (aD:all[i]? =some o) {an:Nat} {r:bt} {a:Act}
 (fU:eG an o.dst=true∧i_ (bQ all o)=true) (mT:a.tmps.size=an) (iT:∀t ∈ bQ all o,Rel E (T.get .bad (aq t) r) (a.tmps.getD t undef)) (s:aY ar E h w)
 {K:Act→World→Prop} {Q:Exit→Act→World→Prop} (ag:BM ar E o a K Q ((cd P an all o).run call r h)):wpOpIn (b8 rd) 0 P all Q i K a w:=by
 obtain ⟨a1,aQ⟩:=fU
 have k:RegRel0 E an (c6 r (bQ all o)) a:=⟨mT,fun t aA=>by
  rw [Ow aQ aA]
  by_cases hm:t ∈ bQ all o
  · rw [if_pos hm];exact iT t hm
  · rw [if_neg hm];simp [Rel]⟩
 unfold cd at ag
 rw [show (eG an o.dst&&i_ (bQ all o))=true from by rw [a1,aQ];rfl] at ag
 simp only [cond_true] at ag
 have wanted:BM ar E o a K Q ((eD P o).run call (c6 r (bQ all o)) h)→Region.wanted o (yielded all a.tmps)=true→wpOpIn (b8 rd) 0 P all Q i K a w:=by
  intro aa hw
  simp only [wpOpIn,aD,hw,if_true]
  cases aG:(eD P o).run call (c6 r (bQ all o)) h with
  | fail=>rw [aG] at aa;exact aa.elim
  | val v ab=>rw [aG] at aa;exact I0 bx cw c9 aG k s aa
  | cp v ab=>rw [aG] at aa;exact IX bx cw aa.1 aG k s aa.2
 have OF:BM ar E o a K Q (.val (.tuple []) h)→Region.wanted o (yielded all a.tmps)=false→wpOpIn (b8 rd) 0 P all Q i K a w:=by
  intro aa hw
  simp only [wpOpIn,aD,hw,Bool.false_eq_true,if_false]
  exact ⟨fun _ _=>trivial,aa E undef w (Env.le.refl E) (by simp only [Rel];exact ⟨#[],rfl,rfl⟩) s⟩
 cases aE:o.guard with
 | none=>
   rw [aE] at ag
   exact wanted ag (by simp [Region.wanted,aE])
 | some mW=>
   obtain ⟨j,want⟩:=mW
   rw [aE] at ag
   simp only at ag
   cases bB:all[j]? with
   | none=>rw [bB] at ag;exact ag.elim
   | some g=>
     rw [bB] at ag
     simp only at ag
     cases iS:g.dst with
     | none=>rw [iS] at ag;exact ag.elim
     | some d=>
       rw [iS] at ag
       simp only at ag
       cases aF:(Nat.blt d an&&Nat.ble d top) with
       | false=>rw [aF] at ag;exact ag.elim
       | true=>
         rw [aF] at ag
         simp only [cond_true,hx,lR] at ag
         simp only [Bool.and_eq_true,Nat.blt_eq,Nat.ble_eq] at aF
         obtain ⟨g1,g2⟩:=DP k bB iS aF.1 aF.2
         cases bn:T.get .bad (aq d) (c6 r (bQ all o))<;>rw [bn] at ag<;>simp only at ag<;>try (exact ag.elim)
         · rename_i b
           have aZ:=g1 b bn
           cases ah:(bif want then b else !b) with
           | true=>
             rw [ah] at ag
             simp only [cond_true] at ag
             refine wanted ag ?_
             simp only [Region.wanted,aE,aZ]
             cases want<;>cases b<;>simp_all
           | false=>
             rw [ah] at ag
             simp only [cond_false] at ag
             refine OF ag ?_
             simp only [Region.wanted,aE,aZ]
             cases want<;>cases b<;>simp_all
         · rename_i ad
           have aZ:=g2 ad bn
           refine OF ag ?_
           simp only [Region.wanted,aE,aZ]
           rfl
theorem ny {rd:Option Nat} {ar:Fr} {E:Env} {h ab:af} {w:World} {call:dd} (bx:ea P) (cw:fy P call) (c9:fI P call) {all:Array Oper} {i:Nat} {o:Oper} (aD:all[i]? =some o) {an:Nat} {r:bt} {a:Act} {v:V}
 (he:(cd P an all o).run call r h=.val v ab) (mT:a.tmps.size=an) (iT:∀t ∈ bQ all o,Rel E (T.get .bad (aq t) r) (a.tmps.getD t undef)) (s:aY ar E h w)
 {K:Act→World→Prop} {Q:Exit→Act→World→Prop} (di:∀ao x aj,E.le ao→Rel ao v x→aY ar ao ab aj→K (a.put o.dst x) aj):wpOpIn (b8 rd) 0 P all Q i K a w:=
 Jd bx cw c9 aD (iL he) mT iT s (by rw [he];exact di)
theorem UH {rd:Option Nat} {ar:Fr} {E:Env} {h ab:af} {w:World} {call:dd} (bx:ea P) (cw:fy P call) (c9:fI P call) {all:Array Oper} {i:Nat} {o:Oper} (aD:all[i]? =some o) {an:Nat} {r:bt} {a:Act} {v:V}
 (he:(cd P an all o).run call r h=.cp v ab) (hm:j1 o.op=true) (mT:a.tmps.size=an) (iT:∀t ∈ bQ all o,Rel E (T.get .bad (aq t) r) (a.tmps.getD t undef)) (s:aY ar E h w)
 {K:Act→World→Prop} {Q:Exit→Act→World→Prop} (cK:∀ao x aj,E.le ao→Rel ao v x→aY ar ao ab aj→Q (.panic (nc x)) a aj):wpOpIn (b8 rd) 0 P all Q i K a w:=
 Jd bx cw c9 aD (Jc he) mT iT s (by rw [he];exact ⟨hm,cK⟩)
theorem rn {an:Nat} {all:Array Oper} {o:Oper} {call:dd} {r:bt} {h ab:af} {v:V} (az:eh P o.op=false) (he:(cd P an all o).run call r h=.val v ab):
 ab=h∧(looks o.op=false→∀H,(cd P an all o).run call r H=.val v H):=by
 obtain ⟨a1,aQ⟩:=iL he
 have cz:(eG an o.dst&&i_ (bQ all o))=true:=by rw [a1,aQ];rfl
 have key:cd P an all o=(match o.guard with
  | none=>⟨hx none (eD P o) (bQ all o)⟩
  | some (j,want)=>match all[j]? with
    | some g=>match g.dst with
      | some d=>bif Nat.blt d an&&Nat.ble d top then ⟨hx (some (lR (aq d),want)) (eD P o) (bQ all o)⟩ else cW.none
      | none=>cW.none
    | none=>cW.none):=by
  unfold cd;rw [cz];rfl
 rw [key] at he ⊢
 cases aE:o.guard with
 | none=>
   rw [aE] at he
   exact ⟨IZ az he,fun ai H=>IY az ai he H⟩
 | some mW=>
   obtain ⟨j,want⟩:=mW
   rw [aE] at he
   simp only at he ⊢
   cases bB:all[j]? with
   | none=>rw [bB] at he;simp [cW.none] at he
   | some g=>
     rw [bB] at he
     simp only at he ⊢
     cases iS:g.dst with
     | none=>rw [iS] at he;simp [cW.none] at he
     | some d=>
       rw [iS] at he
       simp only at he ⊢
       cases aF:(Nat.blt d an&&Nat.ble d top) with
       | false=>rw [aF] at he;simp [cW.none] at he
       | true=>
         rw [aF] at he
         simp only [cond_true,hx] at he ⊢
         cases bn:(lR (aq d)).run (c6 r (bQ all o))<;>rw [bn] at he<;>simp only at he ⊢<;>try (cases he;done)
         · rename_i b
           cases ah:(bif want then b else !b)<;>rw [ah] at he<;>simp only [cond_true,cond_false] at he ⊢
           · simp only [aU.val.injEq] at he ⊢
             exact ⟨he.2.symm,fun _ H=>⟨he.1,trivial⟩⟩
           · exact ⟨IZ az he,fun ai H=>IY az ai he H⟩
         · simp only [aU.val.injEq] at he ⊢
           exact ⟨he.2.symm,fun _ H=>⟨he.1,trivial⟩⟩
theorem HX {op:cW} {call:dd} {es:List ec} {av:af} {r:bt} {v:V}:∀{ey:List Nat},yp op call es av r v ey=true→∀s ∈ ey,∃ab,op.run call r (bY es av s)=.val v ab
 | [],_,s,h=>by simp at h
 | f'::ey,he,s,hm=>by
   simp only [yp,Bool.and_eq_true] at he
   simp only [List.mem_cons] at hm
   rcases hm with rfl | hm
   · have aa:=he.1
     cases aG:op.run call r (bY es av s) with
     | fail=>rw [aG] at aa;cases aa
     | cp _ _=>rw [aG] at aa;cases aa
     | val eQ ab=>
       rw [aG] at aa
       rw [DB aa]
       exact ⟨ab,rfl⟩
   · exact HX he.2 s hm
theorem B4 {an:Nat} {all:Array Oper} {dk ay dO:List Nat} {call:dd} {es:List ec} {av:af}:∀{l:List Oper} {i:Nat},(oD P an all dk ay dO i l).run call es av=true→
 ∀j o,l[j]? =some o→looks o.op=true→eh P o.op=false→∀e,es[posOf ay (i+j)]? =some e→∀s ∈ dO,pa P dk all.toList ay (i+j) ((dk[i+j]?).getD 0) s=true→∃ab,(cd P an all o).run call e.r (bY es av s)=.val e.v ab
 | [],_,_,j,o,aS,_,_=>by simp at aS
 | bU::os,i,he,j,o,aS,ai,az=>by
   simp only [oD] at he
   cases j with
   | zero=>
     simp only [List.getElem?_cons_zero,Option.some.injEq] at aS
     subst aS
     rw [ai,az] at he
     simp only [Bool.not_false,Bool.and_true,cond_true,Bool.and_eq_true,HY] at he
     have aa:=he.1
     intro e lU s aQ hm
     · rw [Nat.add_zero] at lU
       rw [lU] at aa
       exact HX aa s (List.mem_filter.2 ⟨aQ,by simpa using hm⟩)
   | succ j=>
     have rest:(oD P an all dk ay dO (i+1) os).run call es av=true:=by
      cases aF:(looks bU.op&&!eh P bU.op) with
      | false=>rw [aF] at he;exact he
      | true=>rw [aF] at he;simp only [cond_true,Bool.and_eq_true] at he;exact he.2
     have:=B4 rest j o (by simpa using aS) ai az
     rw [show i + (j+1)=i+1+j from by omega]
     exact this
theorem uz {ay:List Nat}:∀{l:List Oper} {i j:Nat} {o:Oper},l[j]? =some o→dC P o=true→posOf ay (i+j) ∈ gq P ay i l
 | [],_,j,o,h,_=>by simp at h
 | bU::os,i,j,o,h,he=>by
   simp only [gq]
   cases j with
   | zero=>
     simp only [List.getElem?_cons_zero,Option.some.injEq] at h
     subst h
     rw [he]
     simp
   | succ j=>
     have:=uz (ay:=ay) (i:=i+1) (by simpa using h) he
     rw [show i + (j+1)=i+1+j from by omega]
     cases dC P bU with
     | true=>simp [this]
     | false=>exact this
theorem z' {ay:List Nat}:∀{l:List Oper} {i:Nat},i+l.length ∈ gq P ay i l
 | [],_=>by simp [gq]
 | o::os,i=>by
   have:=z' (ay:=ay) (l:=os) (i:=i+1)
   simp only [gq,List.length_cons]
   rw [show i + (os.length+1)=i+1+os.length from by omega]
   cases dC P o with
   | true=>simp [this]
   | false=>exact this
theorem qj {ay:List Nat}:∀{l:List Oper} {i s:Nat},s ∈ gq P ay i l→s=i+l.length∨∃j o,l[j]? =some o∧dC P o=true∧s=posOf ay (i+j)
 | [],i,s,h=>by simp only [gq,List.mem_singleton] at h;exact .inl (by simpa using h)
 | o::os,i,s,h=>by
   simp only [gq] at h
   have rest:s ∈ gq P ay (i+1) os→s=i + (o::os).length∨∃j bU,(o::os)[j]? =some bU∧dC P bU=true∧s=posOf ay (i+j):=by
    intro h
    rcases qj h with h | ⟨j,bU,aa,ae,aI⟩
    · exact .inl (by simp only [List.length_cons];omega)
    · exact .inr ⟨j+1,bU,by simpa using aa,ae,by rw [aI];congr 1;omega⟩
   cases aF:dC P o with
   | true=>
     rw [aF] at h
     simp only [cond_true,List.mem_cons] at h
     rcases h with h | h
     · exact .inr ⟨0,o,rfl,aF,h⟩
     · exact rest h
   | false=>rw [aF] at h;exact rest h
theorem Um {o:Oper} {call:dd} {r:bt} {h ab:af} {v:V} (br:fv o=true) (he:(eD P o).run call r h=.val v ab):∃k,ab=h.new k∧True:=by
 have cells:∀{ad:List V} {aa:af},fi h ad=some aa→∃k,aa=h.new k∧True:=by
  intro ad aa he
  unfold fi at he
  obtain ⟨aF,he⟩:=dR he
  cases he
  exact ⟨_,rfl,trivial⟩
 obtain ⟨dst,op,type,pos,after,guard⟩:=o
 cases op<;>simp only [fv] at br<;>try (cases br;done)
 all_goals simp only [eD] at he
 case alloc t=>
  cases aA:aX P t with
  | none=>rw [aA] at he;simp [cW.none] at he
  | some aK=>
    rw [aA] at he
    simp only at he
    cases bm:aK.zero with
    | none=>rw [bm] at he;simp [cW.none] at he
    | some z=>
      rw [bm] at he
      simp only at he
      cases aV:fi h z.cells with
      | none=>rw [aV] at he;cases he
      | some aa=>
        rw [aV] at he
        simp only [fY,aU.val.injEq] at he;obtain ⟨_,rfl⟩:=he
        exact cells aV
 case box t x=>
  obtain ⟨aE,he⟩:=iq he
  cases aV:fi h ((bD x).run r).cells with
  | none=>rw [aV] at he;cases he
  | some aa=>
    rw [aV] at he
    simp only [fY,aU.val.injEq] at he;obtain ⟨_,rfl⟩:=he
    exact cells aV
 case buildSlice t n ba=>
  unfold rh at he
  cases aA:aX P t with
  | none=>rw [aA] at he;cases he
  | some aK=>
    rw [aA] at he
    simp only at he
    cases bF:aK.a'<;>rw [bF] at he<;>simp only at he<;>try (cases he;done)
    rename_i e
    cases ca:aX P e with
    | none=>rw [ca] at he;cases he
    | some bd=>
      rw [ca] at he
      simp only at he
      cases bm:bd.zero with
      | none=>rw [bm] at he;cases he
      | some z=>
        rw [bm] at he
        simp only at he
        cases aF:(Nat.ble (n * bd.size) 1000000&&Nat.beq z.cells.length bd.size) with
        | false=>rw [aF] at he;cases he
        | true=>
          rw [aF] at he
          simp only [cond_true] at he
          cases av:kK (fun i=>some (i * bd.size,bd.size)) (hZ z.cells n) ((qv ba.toList).run r) with
          | none=>rw [av] at he;cases he
          | some cs=>
            rw [av] at he
            simp only at he
            cases aV:fi h cs with
            | none=>rw [aV] at he;cases he
            | some aa=>
              rw [aV] at he
              simp only [aU.val.injEq] at he
              obtain ⟨_,rfl⟩:=he
              exact cells aV
 case makeMap t x=>
  cases x with
  | some _=>cases br
  | none=>
    simp only [n_,uB] at he
    cases aA:aX P t with
    | none=>rw [aA] at he;cases he
    | some aK=>
      rw [aA] at he
      simp only at he
      cases ah:Nat.beq (en aK.a') 3 with
      | false=>rw [ah] at he;cases he
      | true=>
        rw [ah] at he
        simp only [cond_true,qk,uF] at he
        simp only [aU.val.injEq] at he
        exact ⟨_,he.2.symm,trivial⟩
theorem YF {o:Oper} (br:fv o=true):eh P o.op=true:=by
 obtain ⟨dst,op,type,pos,after,guard⟩:=o
 cases op<;>simp only [fv] at br<;>first | (cases br;done) | rfl
theorem Jf {an:Nat} {all:Array Oper} {o:Oper} {call:dd} {r:bt} {h ab:af} {v:V} (he:(cd P an all o).run call r h=.val v ab):
 ((eD P o).run call (c6 r (bQ all o)) h=.val v ab∧∀E a,RegRel0 E an (c6 r (bQ all o)) a→Region.wanted o (yielded all a.tmps)=true)∨
 (ab=h∧∀H,(cd P an all o).run call r H=.val v H):=by
 obtain ⟨a1,aQ⟩:=iL he
 have cz:(eG an o.dst&&i_ (bQ all o))=true:=by rw [a1,aQ];rfl
 have key:cd P an all o=(match o.guard with
  | none=>⟨hx none (eD P o) (bQ all o)⟩
  | some (j,want)=>match all[j]? with
    | some g=>match g.dst with
      | some d=>bif Nat.blt d an&&Nat.ble d top then ⟨hx (some (lR (aq d),want)) (eD P o) (bQ all o)⟩ else cW.none
      | none=>cW.none
    | none=>cW.none):=by
  unfold cd;rw [cz];rfl
 rw [key] at he ⊢
 cases aE:o.guard with
 | none=>
   rw [aE] at he
   exact .inl ⟨he,fun E a _=>by simp [Region.wanted,aE]⟩
 | some mW=>
   obtain ⟨j,want⟩:=mW
   rw [aE] at he
   simp only at he ⊢
   cases bB:all[j]? with
   | none=>rw [bB] at he;simp [cW.none] at he
   | some g=>
     rw [bB] at he
     simp only at he ⊢
     cases iS:g.dst with
     | none=>rw [iS] at he;simp [cW.none] at he
     | some d=>
       rw [iS] at he
       simp only at he ⊢
       cases aF:(Nat.blt d an&&Nat.ble d top) with
       | false=>rw [aF] at he;simp [cW.none] at he
       | true=>
         rw [aF] at he
         simp only [cond_true,hx] at he ⊢
         have mJ:=aF
         simp only [Bool.and_eq_true,Nat.blt_eq,Nat.ble_eq] at mJ
         cases bn:(lR (aq d)).run (c6 r (bQ all o))<;>rw [bn] at he<;>simp only at he ⊢<;>try (cases he;done)
         · rename_i b
           cases ah:(bif want then b else !b)<;>rw [ah] at he<;>simp only [cond_true,cond_false] at he ⊢
           · simp only [aU.val.injEq] at he ⊢
             exact .inr ⟨he.2.symm,fun H=>⟨he.1,trivial⟩⟩
           · refine .inl ⟨he,fun E a k=>?_⟩
             obtain ⟨g1,_⟩:=DP k bB iS mJ.1 mJ.2
             have aZ:=g1 b bn
             simp only [Region.wanted,aE,aZ]
             cases want<;>cases b<;>simp_all
         · simp only [aU.val.injEq] at he ⊢
           exact .inr ⟨he.2.symm,fun H=>⟨he.1,trivial⟩⟩
theorem Je {an:Nat} {all:Array Oper} {o:Oper} {call:dd} {r:bt} {h ab:af} {v:V} (br:fv o=true) (he:(cd P an all o).run call r h=.val v ab):
 (∃k,ab=h.new k∧True)∨(ab=h∧∀H,(cd P an all o).run call r H=.val v H):=by
 rcases Jf he with ⟨aa,_⟩ | aa
 · exact .inl (Um br aa)
 · exact .inr aa
theorem UF {rd:Option Nat} {F:Fr} {E:Env} {h ab H:af} {w:World} {call:dd} {all:Array Oper} {i:Nat} {o:Oper} (aD:all[i]? =some o) (br:fv o=true) {an:Nat} {r:bt} {a:Act} {v:V}
 (he:(cd P an all o).run call r h=.val v ab) (mT:a.tmps.size=an) (iT:∀t ∈ bQ all o,Rel E (T.get .bad (aq t) r) (a.tmps.getD t undef)) (s:aY F E H w)
 (EA:ab.next≠h.next) (ag:F.dz (aq h.next)=some (ab.get (aq h.next)))
 {K:Act→World→Prop} {Q:Exit→Act→World→Prop} (di:∀ao x aj,E.le ao→Rel ao v x→aY (F.free (aq h.next)) ao H aj→K (a.put o.dst x) aj):wpOpIn (b8 rd) 0 P all Q i K a w:=by
 obtain ⟨a1,aQ⟩:=iL he
 have k:RegRel0 E an (c6 r (bQ all o)) a:=⟨mT,fun t aA=>by
  rw [Ow aQ aA]
  by_cases hm:t ∈ bQ all o
  · rw [if_pos hm];exact iT t hm
  · rw [if_neg hm];simp [Rel]⟩
 obtain ⟨d',hw⟩:(eD P o).run call (c6 r (bQ all o)) h=.val v ab∧Region.wanted o (yielded all a.tmps)=true:=by
  rcases Jf he with ⟨aa,ae⟩ | ⟨aa,_⟩
  · exact ⟨aa,ae E a k⟩
  · exact absurd (by rw [aa]) EA
 obtain ⟨m,al,cM,au,aC,aM⟩:=Ul br d' k
 simp only [wpOpIn,aD,hw,if_true]
 obtain ⟨X,qp,bW,b3⟩:=aM w
 rw [au,af.gO,if_pos rfl] at ag
 have dt:E.put (aq h.next) ⟨w.heap.size,0,0⟩ (aq h.next)=some ⟨w.heap.size,0,0⟩:=by unfold Env.put;rw [if_pos rfl]
 have hle:E.le (E.put (aq h.next) ⟨w.heap.size,0,0⟩):=Env.j0 (s.nf _ _ ag).2.1
 obtain ⟨bw,cb⟩:=b3 _ hle dt
 have b5:F.w.heap.size≤w.heap.size:=s.frame.size
 obtain ⟨_,hB⟩:=s.link ag (o:=qp) (cb _ b5)
 refine ⟨fun _ _=>trivial,?_⟩
 rw [nh (by intro c h;have:=br;unfold fv at this;rw [h] at this;cases this),al,Sem.run_bind,bW]
 exact di _ X _ hle bw hB
end
end Go.Proofs.YthemdhlheglhoaaGreatDoor.a6
