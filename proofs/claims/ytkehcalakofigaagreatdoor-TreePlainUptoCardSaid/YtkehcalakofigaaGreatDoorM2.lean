/- The abstract machine and its walks (a verified interpreter of the model's code: plain definitions and lemmas, no condition). Printed by a program from longer texts: names made short. -/
import Derived.Test.YtkehcalakofigaaGreatDoorM1
import Derived.LaidEqlPtr
import Derived.RangeFuncLeaves
import Derived.RecoverIn
import Derived.OrdersIn
set_option linter.unusedSectionVars false
set_option linter.unusedSimpArgs false
set_option linter.unusedVariables false
namespace Go.Proofs.YtkehcalakofigaaGreatDoor.aS
variable [Lay]
open Go Go.RowKit
section
variable {P:Program}
theorem PO {α β:Type} (g:α→Sem β) (k:α→β) (w:World):∀(l:List α),(∀x ∈ l,(g x).run P w=.ok (k x) w)→(l.mapM g).run P w=.ok (l.map k) w
 | [],_=>by simp
 | x::l,h=>by
   rw [List.mapM_cons,Sem.run_bind,h x (by simp)]
   simp only [Result.andThen_ok,Sem.run_bind,PO g k w l (fun y a6=>h y (by simp [a6])),Sem.run_pure,List.map]
theorem S2 {E:Env} {t:TypeId} {bc:List (Nat × V)} {h_:List (Nat × Value)} {v:V} (ah:o3 E bc h_) (he:(zL P t).run bc=some v) (w:World):
 ∃Z,(Instr.build t h_.toArray).run P w=.ok Z w∧Rel E v Z:=by
 unfold zL at he
 cases aD:a7 P t with
 | none=>rw [aD] at he;cases he
 | some aM=>
   rw [aD] at he
   simp only at he
   cases bh:aM.zero with
   | none=>rw [bh] at he;cases he
   | some z=>
     rw [bh] at he
     simp only at he
     obtain ⟨x,ak,ou,k7⟩:=vF (P:=P) aD bh E w
     have hu:=eK aD w
     have MT:a8 E z.cells x.cells.toList:=by
      rw [k7]
      have:∀y:Value,a8 E (fT y).cells y.cells.toList:=by
       intro y
       cases y with
       | agg cs=>simp only [fT,V.cells,Value.cells];exact ye E _
       | pointer a=>cases a<;>simp [fT,hP,V.cells,Value.cells,a8,Rel]
       | slice a n c=>
         have:=q9 E (.slice a n c)
         cases a with
         | some a=>simp [fT,hP,V.cells,Value.cells,a8,Rel]
         | none=>
           simp only [fT,hP] at this ⊢
           cases ag:(Nat.beq n 0&&Nat.beq c 0) with
           | false=>simp [V.cells,Value.cells,a8,Rel]
           | true=>rw [ag] at this;simpa [V.cells,Value.cells,a8] using this
       | map r=>cases r<;>simp [fT,hP,V.cells,Value.cells,a8,Rel]
       | tuple cs=>
         have:=q9 E (.tuple cs)
         simp only [fT,V.cells,Value.cells,a8] at this ⊢
         exact ⟨_,_,rfl,this,rfl⟩
       | _=>simp [fT,hP,V.cells,Value.cells,a8,Rel]
      exact this x
     cases bJ:aM.bb with
     | struct bP=>
       rw [bJ] at he hu
       simp only at he
       cases aA:Ap P bP.toList with
       | false=>rw [aA] at he;cases he
       | true=>
         rw [aA] at he
         simp only [cond_true] at he
         cases ax:kS (uq P bP) z.cells bc with
         | none=>rw [ax] at he;cases he
         | some cs=>
           rw [ax] at he
           simp only [Option.some.injEq] at he
           subst he
           let k:Field→Nat × Nat:=fun f=>(f.offset,((a7 P f.type).map (·.size)).getD 0)
           have lI:(bP.mapM fun f=>do pure (f.offset,←sizeOf f.type):Sem (Array (Nat × Nat))).run P w=.ok (bP.map k) w:=by
            rw [Array.mapM_eq_mapM_toList,Sem.run_map,PO _ k w bP.toList]
            · simp only [Result.andThen_ok]
              congr 1
              apply Array.ext'
              simp
            · intro f hK
              have:=List.all_eq_true.1 aA f hK
              cases u1:a7 P f.type with
              | none=>rw [u1] at this;simp at this
              | some iH=>simp only [Sem.run_bind,ix u1,Result.andThen_ok,Sem.run_pure,k,u1];rfl
           have Zm:(fun i=>(bP.map k)[i]?)=uq P bP:=by
            funext i
            simp only [uq,Array.getElem?_map]
            cases az:bP[i]? with
            | none=>rfl
            | some f=>
              have uO:f ∈ bP.toList:=by
               have:=List.mem_of_getElem? (l:=bP.toList) (i:=i) (a:=f) (by simpa using az)
               exact this
              have:=List.all_eq_true.1 aA f uO
              cases u1:a7 P f.type with
              | none=>rw [u1] at this;simp at this
              | some iH=>simp [k,u1]
           obtain ⟨b,ij,m'⟩:=w3 (a:=x.cells) ah MT ax
           refine ⟨.agg b,?_,by simp only [Rel];exact ⟨b,rfl,m'⟩⟩
           simp only [Instr.build,Sem.run_bind,ak,hu,Result.andThen_ok,lI]
           rw [Zm]
           simp only [ij,Sem.run_pure]
     | array n e=>
       rw [bJ] at he hu
       simp only at he
       cases cf:a7 P e with
       | none=>rw [cf] at he;cases he
       | some bd=>
         rw [cf] at he
         simp only at he
         cases ax:kS (fun i=>some (i * bd.size,bd.size)) z.cells bc with
         | none=>rw [ax] at he;cases he
         | some cs=>
           rw [ax] at he
           simp only [Option.some.injEq] at he
           subst he
           obtain ⟨b,ij,m'⟩:=w3 (a:=x.cells) ah MT ax
           refine ⟨.agg b,?_,by simp only [Rel];exact ⟨b,rfl,m'⟩⟩
           simp only [Instr.build,Sem.run_bind,ak,hu,Result.andThen_ok,ix cf,ij,Sem.run_pure]
     | _=>rw [bJ] at he;cases he
theorem yC {E:Env} {z:List V} {l:Array Value} (bh:a8 E z l.toList):∀n:Nat,a8 E (hh z n) ((Array.range (n * l.size)).map (l[· % l.size]!)).toList:=by
 have ZF:(List.range l.size).map (l[· % l.size]!)=l.toList:=by
  apply List.ext_getElem?
  intro i
  simp only [List.getElem?_map]
  by_cases az:i<l.size
  · rw [List.getElem?_range az]
    simp only [Option.map,Nat.mod_eq_of_lt az,Array.getElem?_toList]
    rw [getElem!_pos l i az,Array.getElem?_eq_getElem az]
  · rw [List.getElem?_eq_none (by simp;omega),Array.getElem?_toList,Array.getElem?_eq_none (by omega)]
    rfl
 intro n
 simp only [Array.toList_map,Array.toList_range]
 induction n with
 | zero=>simp [hh,a8]
 | succ n bf=>
   have e:(n+1) * l.size=l.size+n * l.size:=by rw [Nat.add_mul];omega
   rw [e,List.range_add,List.map_append,ZF,List.map_map]
   have aY:((l[· % l.size]!) ∘ fun x=>l.size+x)=(l[· % l.size]!):=by
    funext x
    simp
   rw [aY]
   exact bh.append bf
theorem rD {E:Env} {t:TypeId} {aM:ly} {z:V} (aD:a7 P t=some aM) (bh:aM.zero=some z) (w:World):∃x:Value,(∀w,(zeroValue t).run P w=.ok x w)∧a8 E z.cells x.cells.toList∧x.cells.size=z.cells.length:=by
 obtain ⟨x,ak,_,k7⟩:=vF (P:=P) aD bh E w
 obtain ⟨i,aa,_,_,_,_,fx⟩:=rz aD
 rw [bh] at fx
 have Z9:∃y,i.zero=some y:=by cases aC:i.zero with | none=>rw [aC] at fx;cases fx | some y=>exact ⟨y,rfl⟩
 obtain ⟨y,a6⟩:=Z9
 have cA:∀w,(zeroValue t).run P w=.ok y w:=fun w=>by simp only [zeroValue,Sem.run_bind,vE aa,Result.andThen_ok,a6];rfl
 have Z5:y=x:=by have:=cA w;rw [ak] at this;simp at this;exact this.symm
 subst Z5
 refine ⟨_,cA,?_,?_⟩
 · rw [k7]
   have:∀y:Value,a8 E (fT y).cells y.cells.toList:=by
    intro y
    cases y with
    | agg cs=>simp only [fT,V.cells,Value.cells];exact ye E _
    | pointer a=>cases a<;>simp [fT,hP,V.cells,Value.cells,a8,Rel]
    | slice a n c=>
      have:=q9 E (.slice a n c)
      cases a with
      | some a=>simp [fT,hP,V.cells,Value.cells,a8,Rel]
      | none=>
        simp only [fT,hP] at this ⊢
        cases ag:(Nat.beq n 0&&Nat.beq c 0) with
        | false=>simp [V.cells,Value.cells,a8,Rel]
        | true=>rw [ag] at this;simpa [V.cells,Value.cells,a8] using this
    | map r=>cases r<;>simp [fT,hP,V.cells,Value.cells,a8,Rel]
    | tuple cs=>
      have:=q9 E (.tuple cs)
      simp only [fT,V.cells,Value.cells,a8] at this ⊢
      exact ⟨_,_,rfl,this,rfl⟩
    | _=>simp [fT,hP,V.cells,Value.cells,a8,Rel]
   exact this _
 · rw [k7,ad3]
theorem S4 {au:Fr} {E:Env} {h ab:af} {w:World} (s:a1 au E h w) {t:TypeId} {n:Nat} {bc:List (Nat × V)} {h_:List (Nat × Value)} {v:V} (ah:o3 E bc h_) (he:(r2 P t n).run bc h=.val v ab):
 cK au P E w (Instr.buildSlice t n h_.toArray) v ab:=by
 unfold r2 at he
 cases aD:a7 P t with
 | none=>rw [aD] at he;cases he
 | some aM=>
   rw [aD] at he
   simp only at he
   have hu:=eK aD
   cases bJ:aM.bb with
   | slice e=>
     rw [bJ] at he hu
     simp only at he
     cases cf:a7 P e with
     | none=>rw [cf] at he;cases he
     | some bd=>
       rw [cf] at he
       simp only at he
       cases bh:bd.zero with
       | none=>rw [bh] at he;cases he
       | some z=>
         rw [bh] at he
         simp only at he
         cases ao:(Nat.ble (n * bd.size) 1000000&&Nat.beq z.cells.length bd.size) with
         | false=>rw [ao] at he;cases he
         | true=>
           rw [ao] at he
           simp only [cond_true] at he
           simp only [Bool.and_eq_true,Nat.ble_eq,Nat.beq_eq] at ao
           cases ax:kS (fun i=>some (i * bd.size,bd.size)) (hh z.cells n) bc with
           | none=>rw [ax] at he;cases he
           | some cs=>
             rw [ax] at he
             simp only at he
             cases aZ:fg h cs with
             | none=>rw [aZ] at he;cases he
             | some aa=>
               rw [aZ] at he
               simp only [aV.val.injEq] at he
               obtain ⟨rfl,rfl⟩:=he
               obtain ⟨x,ak,ou,ov⟩:=rD (P:=P) (E:=E) cf bh w
               have sO:x.cells.size=bd.size:=by rw [ov,ao.2]
               have sK:=yC ou n
               rw [sO] at sK
               obtain ⟨b,ij,m'⟩:=w3 (a:=(Array.range (n * bd.size)).map (x.cells[· % x.cells.size]!)) ah (by rw [sO];exact sK) ax
               obtain ⟨ar,g1,g2,g3,g4⟩:=Bn (P:=P) s m' aZ e
               refine ⟨.slice (some ⟨w.heap.size,0,none⟩) n n,_,ar,?_,g1,?_,g4⟩
               · have sC:¬16777216<n * bd.size:=by omega
                 have kZ:(newRow e b).run P w=.ok ⟨w.heap.size,0,none⟩ {w with heap:=w.heap.push (.cells b e)}:=by simpa using g3
                 by_cases ba:n * bd.size=0
                 · have Fl:Instr.fill (fun i=>some (i * bd.size,bd.size)) ((Array.range (n * bd.size)).map ((#[]:Array Value)[· % 0]!)) h_=some b:=by
                    have aN:(Array.range (n * bd.size)).map ((#[]:Array Value)[· % 0]!)=(Array.range (n * bd.size)).map (x.cells[· % x.cells.size]!):=by
                     rw [ba];simp
                    rw [aN];exact ij
                   have Fm:Instr.fill (fun i=>some (i * bd.size,bd.size)) ((Array.range (n * bd.size)).map (fun x=>(#[]:Array Value)[x % (#[]:Array Value).size]!)) h_=some b:=Fl
                   simp only [Instr.buildSlice,Sem.run_bind,hu,Result.andThen_ok,ix cf,Sem.run_ite]
                   rw [if_neg sC]
                   simp only [Sem.run_pure,Result.andThen_ok,if_pos ba]
                   rw [Fm]
                   simp only [Sem.run_bind,kZ,Result.andThen_ok,Sem.run_pure]
                 · simp only [Instr.buildSlice,Sem.run_bind,hu,Result.andThen_ok,ix cf,Sem.run_ite]
                   rw [if_neg sC]
                   simp only [Sem.run_pure,Result.andThen_ok,if_neg ba,ak]
                   rw [ij]
                   simp only [Sem.run_bind,kZ,Result.andThen_ok,Sem.run_pure]
               · simp only [Rel]
                 exact ⟨_,g2,Nat.le_refl _,by simp⟩
   | _=>rw [bJ] at he;cases he
theorem adl {au:Fr} {E:Env} {h ab:af} {w:World} (s:a1 au E h w) {t:TypeId} {x y v:V} {X Y:Value} (ak:Rel E x X) (a6:Rel E y Y) (he:(Bl P t).run x y h=.val v ab):
 cK au P E w (Instr.makeSlice t X Y) v ab:=by
 unfold Bl at he
 cases aD:a7 P t with
 | none=>rw [aD] at he;cases he
 | some aM=>
   rw [aD] at he
   simp only at he
   have hu:=eK aD
   cases bJ:aM.bb with
   | slice e=>
     rw [bJ] at he hu
     simp only at he
     cases cf:a7 P e with
     | none=>rw [cf] at he;cases he
     | some bd=>
       rw [cf] at he
       simp only at he
       cases bh:bd.zero with
       | none=>rw [bh] at he;cases he
       | some z=>
         rw [bh] at he
         simp only at he
         cases pv:Nat.ble bd.bytes 4096 with
         | false=>rw [pv] at he;cases he
         | true=>
           rw [pv] at he
           simp only [cond_true,vg] at he
           obtain ⟨cb,l,rfl,AM⟩:=yj he
           obtain ⟨cB,c,rfl,dM⟩:=yj AM
           have:=ak.hN;subst this
           have:=a6.hN;subst this
           obtain ⟨ao,xf⟩:=jb dM
           simp only [Bool.and_eq_true,nu,decide_eq_true_eq,Nat.beq_eq] at ao
           obtain ⟨⟨ba,aa,ae⟩,aF⟩:=ao
           rw [Nat.ble_eq] at pv
           cases aZ:fg h (hh z.cells c.toNat) with
           | none=>rw [aZ] at xf;cases xf
           | some a'=>
             rw [aZ] at xf
             simp only [aV.val.injEq] at xf
             obtain ⟨rfl,rfl⟩:=xf
             obtain ⟨oT,xO,ou,ov⟩:=rD (P:=P) (E:=E) cf bh w
             have sO:oT.cells.size=bd.size:=by rw [ov,aF]
             have sK:=yC ou c.toNat
             obtain ⟨ar,g1,g2,g3,g4⟩:=Bn (P:=P) s sK aZ e
             obtain ⟨i,az,qP⟩:=H9 (P:=P) cf w
             have Gx:IntKind.i64.wrap l=l:=by simp only [IntKind.wrap,IntKind.bits,IntKind.signed];simp;omega
             have Z1:IntKind.i64.wrap c=c:=by simp only [IntKind.wrap,IntKind.bits,IntKind.signed];simp;omega
             have hmul:(bd.bytes:Int) * c≤4096 * 1000000:=by
              have ag:(bd.bytes:Int)≤4096:=by omega
              have:=Int.mul_le_mul_of_nonneg_right (c:=c) ag (by omega)
              omega
             refine ⟨.slice (some ⟨w.heap.size,0,none⟩) l.toNat c.toNat,_,ar,?_,g1,?_,g4⟩
             · have kZ:=g3
               simp only [Array.toArray_toList] at kZ
               have bs:¬c<0:=by omega
               have bN:¬((bd.bytes:Int) * c>281474976710656):=by omega
               have c3:¬l<0:=by omega
               have g':¬l>c:=by omega
               have same:(if c.toNat * bd.size=0 then (Array.range (c.toNat * bd.size)).map (fun x=>(#[]:Array Value)[x % (#[]:Array Value).size]!) else (Array.range (c.toNat * bd.size)).map (fun x=>oT.cells[x % oT.cells.size]!))=
                (Array.range (c.toNat * oT.cells.size)).map (oT.cells[· % oT.cells.size]!):=by
                rw [sO]
                by_cases aC:c.toNat * bd.size=0
                · rw [aC];simp
                · rw [if_neg aC]
               simp only [Instr.makeSlice,Sem.run_bind,hu,Result.andThen_ok,asInt,asIntOf,Sem.run_pure,az,Gx,Z1,qP]
               rw [if_neg (by simp only [Bool.or_eq_true,decide_eq_true_eq,not_or];exact ⟨⟨⟨bs,bN⟩,c3⟩,g'⟩)]
               simp only [Result.andThen_ok,Sem.run_bind,run_askRoom,ix cf]
               by_cases aC:c.toNat * bd.size=0
               · rw [if_pos aC] at same
                 rw [if_pos aC]
                 simp only [Sem.run_pure,Result.andThen_ok,Sem.run_bind,same,kZ,Array.toArray_toList]
               · rw [if_neg aC] at same
                 rw [if_neg aC]
                 simp only [Sem.run_pure,Result.andThen_ok,Sem.run_bind,xO,same,kZ,Array.toArray_toList]
             · simp only [Rel]
               exact ⟨_,g2,by omega,by simp⟩
   | _=>rw [bJ] at he;cases he
end
end Go.Proofs.YtkehcalakofigaaGreatDoor.aS
namespace Go.Proofs.YtkehcalakofigaaGreatDoor.aS
variable [Lay]
open Go Go.RowKit
theorem aO.kh:∀{p q:aO},aO.fG p q=true→p=q
 | .z,.z,_=>rfl
 | .l p,.l q,h=>by rw [aO.kh (p:=p) (q:=q) h]
 | .r p,.r q,h=>by rw [aO.kh (p:=p) (q:=q) h]
 | .z,.l _,h=>by cases h
 | .z,.r _,h=>by cases h
 | .l _,.z,h=>by cases h
 | .l _,.r _,h=>by cases h
 | .r _,.z,h=>by cases h
 | .r _,.l _,h=>by cases h
theorem aO.w0:∀p:aO,aO.fG p p=true
 | .z=>rfl
 | .l p=>aO.w0 p
 | .r p=>aO.w0 p
section
variable {P:Program}
theorem OS {au:Fr} {E:Env} {h:af} {w:World} (s:a1 au E h w) {b:aO} {p:hn} (ah:E b=some p) (ag:(h.get b).BO=true):(h.get b).own=true∧∃c t,w.heap[p.a_]? =some (.cells c t (0,0)):=by
 have aA:=s.at ah
 cases aG:h.get b<;>rw [aG] at ag<;>try (cases ag;done)
 rename_i n cs cv st
 rw [aG] at aA
 obtain ⟨_,p',c,el,bL,aN,_,oh,_,cn,_⟩:=aA
 rw [ah] at aN;cases aN
 have:st=false:=by simpa [bW.BO] using ag
 rw [cn this] at oh
 exact ⟨rfl,c,el,oh⟩
theorem Pd {t:TypeId} (h:kC P t=true):∃e j,P.underlying t=some (.pointer e)∧P.info? e=some j∧j.size≠0:=by
 unfold kC at h
 cases aD:a7 P t with
 | none=>rw [aD] at h;cases h
 | some aM=>
   rw [aD] at h
   simp only at h
   cases hu:aM.bb<;>rw [hu] at h<;>simp only at h<;>try (cases h;done)
   rename_i e
   cases he:a7 P e with
   | none=>rw [he] at h;cases h
   | some bd=>
     rw [he] at h
     simp only at h
     obtain ⟨_,_,ae,_⟩:=rz aD
     obtain ⟨j,g1,_,g3,_⟩:=rz he
     refine ⟨e,j,by rw [ae,hu],g1,fun cI=>?_⟩
     rw [g3,cI] at h
     cases h
theorem aeS {t:TypeId} (h:kC P t=true) (w:World):∃e,(underlying t).run P w=.ok (.pointer e) w:=by
 obtain ⟨e,_,aa,_⟩:=Pd h
 exact ⟨e,H' aa w⟩
theorem afx {t e:TypeId} {w:World} (hu:(underlying t).run P w=.ok (.pointer e) w) (b:Bool) (v:Value):(Instr.checkKey b 10000 t v).run P w=.ok () w:=by
 show (Instr.checkKey b (9999+1) t v).run P w=.ok () w
 unfold Instr.checkKey
 rw [Sem.run_bind,hu]
 rfl
theorem Pb {au:Fr} {E:Env} {h:af} {w:World} (s:a1 au E h w) {t:TypeId} (aD:kC P t=true) {x y:V} {X Y:Value} {b:Bool} (he:mC h x y=some b) (ak:Rel E x X) (a6:Rel E y Y):
 (∃a c,X=.pointer (some a)∧Y=.pointer (some c))∧∀d,(Op.equalIn (d+1) t X Y).run P w=.ok b w:=by
 obtain ⟨e,j,ah,cf,b5⟩:=Pd aD
 unfold mC at he
 split at he
 case h_2=>cases he
 rename_i b7 c2
 split at he
 case h_2=>cases he
 rename_i b_ cL
 simp only [Rel] at ak a6
 obtain ⟨p,hb,rfl⟩:=ak
 obtain ⟨q,gH,rfl⟩:=a6
 refine ⟨⟨_,_,rfl,rfl⟩,fun d=>?_⟩
 cases heq:aO.fG b7 b_ with
 | true=>
   rw [heq] at he
   simp only [cond_true,Option.some.injEq] at he
   have:=aO.kh heq
   subst this
   rw [hb] at gH;cases gH
   have ag:b=decide (c2=cL):=by
    rw [←he]
    by_cases h:c2=cL
    · subst h;simp
    · rw [decide_eq_false h,←Bool.not_eq_true,Nat.beq_eq];exact h
   have key:(sameAddr ⟨p.a_,p.base+c2,none⟩ ⟨p.a_,p.base+cL,none⟩).run P w=.ok b w:=by
    rw [ag]
    by_cases h:c2=cL
    · subst h
      simpa using run_sameAddr_same w (⟨p.a_,p.base+c2,none⟩:Addr)
    · have cZ:((⟨p.a_,p.base+c2,none⟩:Addr) == ⟨p.a_,p.base+cL,none⟩)=false:=by
       rw [beq_eq_false_iff_ne]
       intro e
       injection e with _ aY _
       omega
      simp [sameAddr,cZ,h]
   simp [Op.equalIn,run_underlying ah,sizeOf,typeInfo,cf,b5,key]
 | false=>
   rw [heq] at he
   simp only [cond_false] at he
   obtain ⟨ao,he⟩:=dL he
   simp only [Bool.and_eq_true] at ao
   cases he
   obtain ⟨Hz,bs,t1,og⟩:=OS s hb ao.1
   obtain ⟨HA,bN,t2,FL⟩:=OS s gH ao.2
   have cZ:(⟨p.a_,p.base+c2,none⟩:Addr)≠⟨q.a_,q.base+cL,none⟩:=by
    intro e
    injection e with aN _ _
    have:=s.inj b7 b_ p q Hz HA hb gH aN
    subst this
    rw [aO.w0] at heq
    cases heq
   simp [Op.equalIn,run_underlying ah,sizeOf,typeInfo,cf,b5,run_sameAddr_other w cZ og FL]
theorem aeQ {au:Fr} {E:Env} {h:af} {w:World} (s:a1 au E h w) {op:BinOp} {t:TypeId} {neg:Bool} (jO:BU P op t=some neg) {x y:V} {fs hR:Operand} {X Y:Value} {b:Bool} (he:mC h x y=some b) (ak:Rel E x X) (a6:Rel E y Y):
 ∃Z,(do eqGuard op t fs hR X Y;binOp op t X Y:Sem Value).run P w=.ok Z w∧Rel E (.bool (bif neg then !b else b)) Z:=by
 unfold BU at jO
 have main:kC P t=true→((op=.eql∧neg=false)∨(op=.neq∧neg=true))→∃Z,(do eqGuard op t fs hR X Y;binOp op t X Y:Sem Value).run P w=.ok Z w∧Rel E (.bool (bif neg then !b else b)) Z:=by
  intro aD ks
  obtain ⟨⟨a,c,rfl,rfl⟩,cA⟩:=Pb s aD he ak a6
  have aG:=fun (o:BinOp)=>Af (P:=P) (op:=o) (t:=t) (x:=fs) (y:=hR) (X:=.pointer (some a)) (Y:=.pointer (some c)) (by simp) (.inl (by simp)) w
  have aN:(Op.equal t (.pointer (some a)) (.pointer (some c))).run P w=.ok b w:=cA 9999
  rcases ks with ⟨rfl,rfl⟩ | ⟨rfl,rfl⟩
  · refine ⟨.bool b,?_,by simp [Rel]⟩
    rw [Sem.run_bind,aG,Result.andThen_ok,binOp_eql (X:=.pointer (some a)) True.intro,Sem.run_bind,aN]
    rfl
  · refine ⟨.bool (!b),?_,by simp [Rel]⟩
    rw [Sem.run_bind,aG,Result.andThen_ok,binOp_neq (X:=.pointer (some a)) True.intro,Sem.run_bind,aN]
    rfl
 cases op<;>simp only at jO<;>try (cases jO;done)
 · obtain ⟨aa,ae⟩:=dL jO
   cases ae
   exact main aa (.inl ⟨rfl,rfl⟩)
 · obtain ⟨aa,ae⟩:=dL jO
   cases ae
   exact main aa (.inr ⟨rfl,rfl⟩)
end
end Go.Proofs.YtkehcalakofigaaGreatDoor.aS
namespace Go.Proofs.YtkehcalakofigaaGreatDoor.aS
variable [Lay]
open Go Go.RowKit
section
variable {P:Program}
def tI (P:Program) (w:World) (E:Env) (bV:TypeId) (e:db):Prop:=
 ∀k bl K lr b,e.run k bl=some b→Rel E k K→Rel E bl lr→(Op.equal bV K lr).run P w=.ok b w∧(b=true→lr=K∧Instr.sameBits 10000 K K=true)
theorem aeR {au:Fr} {E:Env} {h:af} {w:World} (s:a1 au E h w) {bV:TypeId} (aD:kC P bV=true):tI P w E bV ⟨mC h⟩:=by
 intro k bl K lr b he ak a6
 obtain ⟨⟨a,c,rfl,rfl⟩,cA⟩:=Pb s aD he ak a6
 refine ⟨cA 9999,fun ag=>?_⟩
 subst ag
 simp only [mC] at he
 split at he
 case h_2=>cases he
 split at he
 case h_2=>cases he
 rename_i b7 c2 _ b_ cL
 simp only [Rel] at ak a6
 obtain ⟨p,hb,ak⟩:=ak
 obtain ⟨q,gH,a6⟩:=a6
 cases heq:aO.fG b7 b_ with
 | false=>
   rw [heq] at he
   simp only [cond_false] at he
   obtain ⟨_,he⟩:=dL he
   cases he
 | true=>
   rw [heq] at he
   simp only [cond_true,Option.some.injEq] at he
   have:=aO.kh heq
   subst this
   rw [hb] at gH;cases gH
   have:=Nat.eq_of_beq_eq_true he
   subst this
   rw [ak,a6]
   exact ⟨rfl,by simp [Instr.sameBits]⟩
theorem Lc {w:World} {E:Env} {bV:TypeId} {e:db} (kk:tI P w E bV e) {k:V} {K:Value} (aA:Rel E k K):∀(es:List b1) (l:List MapEntry) (r:Option V) (i:Nat),jd e k es=some r→du E es l→
 ∃R,(Instr.findAsking bV K l i).run P w=.ok R w∧(match r with
  | none=>R=none
  | some v=>∃j Y,R=some (j,Y)∧Rel E v Y)
 | [],l,r,i,h,aH=>by
   simp only [du] at aH
   subst aH
   simp only [jd,Option.some.injEq] at h
   subst h
   exact ⟨none,rfl,rfl⟩
 | m::ms,l,r,i,h,aH=>by
   obtain ⟨dz,es,rfl,aa,ae,aF,bu⟩:=aH
   simp only [jd] at h
   cases aQ:e.run k m.k with
   | none=>rw [aQ] at h;cases h
   | some b=>
     rw [aQ] at h
     simp only at h
     obtain ⟨aq,av⟩:=kk _ _ _ _ _ aQ aA aa
     cases b with
     | true=>
       simp only [cond_true,Option.some.injEq] at h
       subst h
       exact ⟨some (i,dz.val),by simp [Instr.findAsking,aq],i,dz.val,rfl,ae⟩
     | false=>
       simp only [cond_false] at h
       obtain ⟨R,g1,g2⟩:=Lc kk aA ms es r (i+1) h bu
       exact ⟨R,by simp [Instr.findAsking,aq,g1],g2⟩
theorem Pe {w:World} {E:Env} {bV:TypeId} {e:db} (kk:tI P w E bV e) {k v:V} {K X:Value} (aA:Rel E k K) (bp:Rel E v X) (clock:Nat):∀(es:List b1) (l:List MapEntry) (r:List b1 × Bool) (i:Nat),j2 e k v clock es=some r→du E es l→
 (r.2=true→(Instr.findAsking bV K l i).run P w=.ok none w∧du E r.1 (l++[⟨K,X,clock⟩]))∧
 (r.2=false→∃j dz Y,(Instr.findAsking bV K l i).run P w=.ok (some (i+j,Y)) w∧l[j]? =some dz∧Instr.sameBits 10000 dz.key K=true∧du E r.1 (l.modify j fun dz=>{dz with key:=K,val:=X}))
 | [],l,r,i,h,aH=>by
   simp only [du] at aH
   subst aH
   simp only [j2,Option.some.injEq] at h
   subst h
   exact ⟨fun _=>⟨rfl,_,_,rfl,aA,bp,rfl,rfl⟩,fun h=>by cases h⟩
 | m::ms,l,r,i,h,aH=>by
   obtain ⟨dz,es,rfl,aa,ae,aF,bu⟩:=aH
   simp only [j2] at h
   cases aQ:e.run k m.k with
   | none=>rw [aQ] at h;cases h
   | some b=>
     rw [aQ] at h
     simp only at h
     obtain ⟨aq,av⟩:=kk _ _ _ _ _ aQ aA aa
     cases b with
     | true=>
       simp only [cond_true,Option.some.injEq] at h
       subst h
       obtain ⟨aK,bD⟩:=av rfl
       refine ⟨fun h=>(by cases h),fun _=>⟨0,dz,dz.val,by simp [Instr.findAsking,aq],rfl,by rw [aK];exact bD,?_⟩⟩
       exact ⟨_,es,rfl,aA,bp,aF,bu⟩
     | false=>
       simp only [cond_false] at h
       cases ah:j2 e k v clock ms with
       | none=>rw [ah] at h;cases h
       | some bo=>
         rw [ah] at h
         simp only [Option.some.injEq] at h
         subst h
         obtain ⟨g1,g2⟩:=Pe kk aA bp clock ms es bo (i+1) ah bu
         refine ⟨fun h=>?_,fun h=>?_⟩
         · obtain ⟨bH,a2⟩:=g1 h
           exact ⟨by simp [Instr.findAsking,aq,bH],⟨dz,es++[⟨K,X,clock⟩],rfl,aa,ae,aF,a2⟩⟩
         · obtain ⟨j,cU,Y,bH,a2,a3,a4⟩:=g2 h
           exact ⟨j+1,cU,Y,by simp [Instr.findAsking,aq,bH];omega,by simpa using a2,a3,⟨dz,_,rfl,aa,ae,aF,a4⟩⟩
theorem afz {bV:TypeId} {iF:TypeId} {w:World} (hu:(underlying bV).run P w=.ok (.pointer iF) w) {K:Value} {l:List MapEntry} {R:Option (Nat × Value)} (h:(Instr.findAsking bV K l 0).run P w=.ok R w):
 (Instr.findKey bV K l).run P w=.ok R w:=by
 cases l with
 | nil=>
   simp only [Instr.findAsking,Sem.run_pure] at h
   cases h
   simp [Instr.findKey,hu,Instr.findNow]
 | cons dz es=>
   have aZ:Instr.findNow (.pointer iF) K (dz::es) 0=none:=by simp [Instr.findNow,Instr.sameNow]
   simp [Instr.findKey,hu,aZ,h]
theorem WB {x y:V} (h:r8 x y=true):x=y:=by
 cases x<;>simp only [r8] at h<;>try (cases h;done)
 all_goals (cases y<;>simp only at h<;>try (cases h;done))
 · rw [beq_iff_eq] at h;rw [h]
 · simp only [Bool.and_eq_true,kh,beq_iff_eq] at h
   rw [qD h.1,h.2]
 · rw [r0,beq_iff_eq] at h;rw [h]
theorem K5:∀{xs b':List V},r9 xs b'=true→xs=b'
 | [],[],_=>rfl
 | [],_::_,h=>by cases h
 | _::_,[],h=>by cases h
 | x::xs,y::b',h=>by
   simp only [r9] at h
   cases aa:r8 x y with
   | false=>rw [aa] at h;cases h
   | true=>rw [aa] at h;rw [WB aa,K5 h]
theorem WA {E:Env} {x:V} {X Y:Value} (h:r8 x x=true) (cQ:Rel E x X) (eB:Rel E x Y):X=Y∧∀n,Instr.sameBits n X X=true:=by
 cases x<;>simp only [r8] at h<;>try (cases h;done)
 · simp only [Rel] at cQ eB;subst cQ eB;exact ⟨rfl,fun n=>by cases n<;>simp [Instr.sameBits]⟩
 · simp only [Rel] at cQ eB;subst cQ eB;exact ⟨rfl,fun n=>by cases n<;>simp [Instr.sameBits]⟩
 · simp only [Rel] at cQ eB;subst cQ eB;exact ⟨rfl,fun n=>by cases n<;>simp [Instr.sameBits,bytes_beq]⟩
theorem K4 {E:Env}:∀{xs:List V} {l ec:List Value},r9 xs xs=true→a8 E xs l→a8 E xs ec→l=ec∧∀n,((l.zip l).all fun (x,y)=>Instr.sameBits n x y)=true
 | [],l,ec,_,aa,ae=>by
   simp only [a8] at aa ae
   subst aa ae
   exact ⟨rfl,fun _=>rfl⟩
 | x::xs,l,ec,h,aa,ae=>by
   obtain ⟨y,b',rfl,bH,a2⟩:=aa
   obtain ⟨ql,ai4,rfl,b7,b_⟩:=ae
   simp only [r9] at h
   cases ao:r8 x x with
   | false=>rw [ao] at h;cases h
   | true=>
     rw [ao] at h
     obtain ⟨rfl,aq⟩:=WA ao bH b7
     obtain ⟨rfl,av⟩:=K4 h a2 b_
     exact ⟨rfl,fun n=>by simp only [List.zip_cons_cons,List.all_cons,aq,av,Bool.and_self]⟩
theorem agp {w:World} {E:Env} {bV:TypeId}:tI P w E bV (structEq P bV):=by
 intro k bl K lr b he ak a6
 simp only [structEq] at he
 split at he
 case h_2=>cases he
 split at he
 case h_2=>cases he
 rename_i xs _ b'
 cases aC:(fZ P 12 bV).run (.agg xs) (.agg b') with
 | none=>rw [aC] at he;cases he
 | some c=>
   rw [aC] at he
   have aQ:=EO 12 Op.maxDepth bV _ _ K lr c (by decide) aC ak a6 w
   cases c with
   | false=>
     simp only [cond_false,Option.some.injEq] at he
     subst he
     exact ⟨aQ,fun h=>by cases h⟩
   | true=>
     simp only [cond_true] at he
     cases ah:r9 xs b' with
     | false=>rw [ah] at he;cases he
     | true=>
       rw [ah] at he
       simp only [cond_true,Option.some.injEq] at he
       subst he
       refine ⟨aQ,fun _=>?_⟩
       have:=K5 ah
       subst this
       simp only [Rel] at ak a6
       obtain ⟨a,rfl,aa⟩:=ak
       obtain ⟨bg,rfl,ae⟩:=a6
       obtain ⟨e,q⟩:=K4 ah aa ae
       have cU:a=bg:=Array.toList_inj.1 e
       subst cU
       exact ⟨rfl,by show Instr.sameBits (9999+1) _ _=true;simp only [Instr.sameBits,beq_self_eq_true,Bool.true_and];exact q _⟩
theorem run_checkKey_plain {bb:TypeDesc} (ax:lM bb=true) {t:TypeId} {w:World} (hu:(underlying t).run P w=.ok bb w) (b:Bool) (n:Nat) (v:Value):(Instr.checkKey b (n+1) t v).run P w=.ok () w:=by
 unfold Instr.checkKey
 rw [Sem.run_bind,hu]
 cases bb<;>simp only [lM] at ax<;>first
  | (cases ax;done)
  | rfl
theorem Xb {w:World} {E:Env} {cs:List V} {a:Array Value} (bn:a8 E cs a.toList) (b:Bool) (n:Nat):∀(bP:List Field),Ao P cs bP=true→
 (do for f in bP do
      if f.name≠ "_" then Instr.checkKey b (n+1) f.type (←part f.type a f.offset):Sem Unit).run P w=.ok () w:=by
 intro bP
 induction bP with
 | nil=>intro _;simp
 | cons f bP bf=>
   intro h
   simp only [Ao] at h
   cases aa:(nB P f.type f.offset).run cs with
   | none=>rw [aa] at h;cases h
   | some x=>
     rw [aa] at h
     simp only at h
     cases ae:a7 P f.type with
     | none=>rw [ae] at h;cases h
     | some iH=>
       rw [ae] at h
       simp only at h
       cases aF:lM iH.bb with
       | false=>rw [aF] at h;cases h
       | true=>
         rw [aF] at h
         simp only [cond_true] at h
         obtain ⟨X,cQ,_⟩:=yr bn aa w
         have aA:=run_checkKey_plain (P:=P) aF (eK ae w) b n X
         have:=bf h
         by_cases aZ:f.name= "_"
         · simpa [aZ] using this
         · simpa [aZ,cQ,aA] using this
theorem agq {t:TypeId} (h:qe P t=true) (w:World):∃bP,(underlying t).run P w=.ok (.struct bP) w:=by
 unfold qe at h
 cases aD:a7 P t with
 | none=>rw [aD] at h;cases h
 | some aM=>
   rw [aD] at h
   simp only at h
   have hu:=eK aD w
   cases bJ:aM.bb<;>rw [bJ] at h<;>simp only at h<;>try (cases h;done)
   rw [bJ] at hu
   exact ⟨_,hu⟩
theorem afy {t:TypeId} {k:V} (aG:sX P t k=true) {E:Env} {K:Value} (aA:Rel E k K) {w:World} (b:Bool):(Instr.checkKey b 10000 t K).run P w=.ok () w:=by
 unfold sX at aG
 cases aD:a7 P t with
 | none=>rw [aD] at aG;cases aG
 | some aM=>
   rw [aD] at aG
   simp only at aG
   have hu:=eK aD w
   cases bJ:aM.bb<;>rw [bJ] at aG<;>simp only at aG<;>try (cases aG;done)
   rename_i bP
   rw [bJ] at hu
   cases k<;>simp only at aG<;>try (cases aG;done)
   rename_i cs
   simp only [Rel] at aA
   obtain ⟨a,rfl,bn⟩:=aA
   show (Instr.checkKey b (9998+1+1) t (.agg a)).run P w=.ok () w
   unfold Instr.checkKey
   rw [Sem.run_bind,hu]
   have:=Xb (P:=P) (w:=w) bn b 9998 bP.toList aG
   simp only [Result.andThen_ok,Array.forIn_toList] at this ⊢
   exact this
theorem afA {bV:TypeId} {bP:Array Field} {w:World} (hu:(underlying bV).run P w=.ok (.struct bP) w) {K:Value} {l:List MapEntry} {R:Option (Nat × Value)} (h:(Instr.findAsking bV K l 0).run P w=.ok R w):
 (Instr.findKey bV K l).run P w=.ok R w:=by
 cases l with
 | nil=>
   simp only [Instr.findAsking,Sem.run_pure] at h
   cases h
   simp [Instr.findKey,hu,Instr.findNow]
 | cons dz es=>
   have aZ:Instr.findNow (.struct bP) K (dz::es) 0=none:=by simp [Instr.findNow,Instr.sameNow]
   simp [Instr.findKey,hu,aZ,h]
structure vT (P:Program) (w:World) (E:Env) (bV:TypeId) (e:db) (K:Value):Prop where
 eq:tI P w E bV e
 check:∀b,(Instr.checkKey b 10000 bV K).run P w=.ok () w
 find:∀{l:List MapEntry} {R},(Instr.findAsking bV K l 0).run P w=.ok R w→(Instr.findKey bV K l).run P w=.ok R w
theorem Dm {au:Fr} {E:Env} {h:af} {w:World} (s:a1 au E h w) {bV:TypeId} (aD:kC P bV=true) (K:Value):vT P w E bV ⟨mC h⟩ K:=by
 obtain ⟨ON,k1⟩:=aeS aD w
 exact ⟨aeR s aD,fun b=>afx k1 b K,fun q=>afz k1 q⟩
theorem Dn {w:World} {E:Env} {bV:TypeId} (aD:qe P bV=true) {k:V} (aG:sX P bV k=true) {K:Value} (aA:Rel E k K):vT P w E bV (structEq P bV) K:=by
 obtain ⟨bP,k1⟩:=agq aD w
 exact ⟨agp,fun b=>afy aG aA b,fun q=>afA k1 q⟩
end
end Go.Proofs.YtkehcalakofigaaGreatDoor.aS
namespace Go.Proofs.YtkehcalakofigaaGreatDoor.aS
variable [Lay]
open Go Go.RowKit
section
variable {P:Program}
theorem GP {E:Env} {bb:TypeDesc} {k bl:V} {K lr:Value} {b:Bool} (he:(jm bb).run k bl=some b) (ak:Rel E k K) (a6:Rel E bl lr):
 Instr.sameNow bb K lr=some b∧(b=true→lr=K∧∀n,Instr.sameBits n K K=true):=by
 cases bb<;>simp only [jm] at he<;>try (simp [db.none] at he;done)
 case bool=>
  simp only [nZ] at he
  cases k<;>simp only at he<;>try (cases he;done)
  cases bl<;>simp only at he<;>try (cases he;done)
  simp only [Rel] at ak a6
  subst ak a6
  simp only [Option.some.injEq] at he
  subst he
  refine ⟨rfl,fun h=>?_⟩
  rw [beq_iff_eq] at h
  subst h
  exact ⟨rfl,fun n=>by cases n<;>simp [Instr.sameBits]⟩
 case int oy=>
  simp only [ki] at he
  obtain ⟨j,m,rfl,aa⟩:=h9 he
  clear he
  obtain ⟨Bb,cW,rfl,ae⟩:=h9 aa
  clear aa
  obtain ⟨aA,h⟩:=dL ae
  clear ae
  have:=qD aA
  subst this
  simp only [Rel] at ak a6
  subst ak a6
  simp only [Option.some.injEq,kh] at h
  subst h
  refine ⟨by simp [Instr.sameNow],fun h=>?_⟩
  rw [beq_iff_eq] at h
  subst h
  exact ⟨rfl,fun n=>by cases n<;>simp [Instr.sameBits]⟩
 case string=>
  simp only [kR] at he
  cases k<;>simp only at he<;>try (cases he;done)
  cases bl<;>simp only at he<;>try (cases he;done)
  simp only [Rel] at ak a6
  subst ak a6
  simp only [Option.some.injEq,r0] at he
  subst he
  refine ⟨by simp only [Instr.sameNow,bytes_beq],fun h=>?_⟩
  rw [beq_iff_eq] at h
  subst h
  exact ⟨rfl,fun n=>by cases n<;>simp [Instr.sameBits,bytes_beq]⟩
theorem run_checkKey {bb:TypeDesc} (ax:lM bb=true) {t:TypeId} {w:World} (hu:(underlying t).run P w=.ok bb w) (b:Bool) (v:Value):(Instr.checkKey b 10000 t v).run P w=.ok () w:=by
 show (Instr.checkKey b (9999+1) t v).run P w=.ok () w
 unfold Instr.checkKey
 rw [Sem.run_bind,hu]
 cases bb<;>simp only [lM] at ax<;>first
  | (cases ax;done)
  | rfl
theorem run_findKey {bb:TypeDesc} {t:TypeId} {w:World} (hu:(underlying t).run P w=.ok bb w) {K:Value} {l:List MapEntry} {R:Option (Nat × Value)} (h:Instr.findNow bb K l 0=some R):
 (Instr.findKey t K l).run P w=.ok R w:=by
 simp only [Instr.findKey,Sem.run_bind,hu,Result.andThen_ok,h,Sem.run_pure]
theorem Lh {E:Env} {bb:TypeDesc} {k:V} {K:Value} (aA:Rel E k K):∀(es:List b1) (l:List MapEntry) (r:Option V) (i:Nat),jd (jm bb) k es=some r→du E es l→
 ∃R,Instr.findNow bb K l i=some R∧(match r with
  | none=>R=none
  | some v=>∃j Y,R=some (j,Y)∧Rel E v Y)
 | [],l,r,i,h,aH=>by
   simp only [du] at aH
   subst aH
   simp only [jd,Option.some.injEq] at h
   subst h
   exact ⟨none,rfl,rfl⟩
 | m::ms,l,r,i,h,aH=>by
   obtain ⟨e,es,rfl,aa,ae,aF,bu⟩:=aH
   simp only [jd] at h
   cases aQ:(jm bb).run k m.k with
   | none=>rw [aQ] at h;cases h
   | some b=>
     rw [aQ] at h
     simp only at h
     obtain ⟨aq,av⟩:=GP aQ aA aa
     cases b with
     | true=>
       simp only [cond_true,Option.some.injEq] at h
       subst h
       exact ⟨some (i,e.val),by simp only [Instr.findNow,aq],i,e.val,rfl,ae⟩
     | false=>
       simp only [cond_false] at h
       obtain ⟨R,g1,g2⟩:=Lh aA ms es r (i+1) h bu
       exact ⟨R,by simp only [Instr.findNow,aq,g1],g2⟩
theorem Pk {E:Env} {bb:TypeDesc} {k v:V} {K X:Value} (aA:Rel E k K) (bp:Rel E v X) (clock:Nat):∀(es:List b1) (l:List MapEntry) (r:List b1 × Bool) (i:Nat),j2 (jm bb) k v clock es=some r→du E es l→
 (r.2=true→Instr.findNow bb K l i=some none∧du E r.1 (l++[⟨K,X,clock⟩]))∧
 (r.2=false→∃j e Y,Instr.findNow bb K l i=some (some (i+j,Y))∧l[j]? =some e∧Instr.sameBits 10000 e.key K=true∧du E r.1 (l.modify j fun e=>{e with key:=K,val:=X}))
 | [],l,r,i,h,aH=>by
   simp only [du] at aH
   subst aH
   simp only [j2,Option.some.injEq] at h
   subst h
   exact ⟨fun _=>⟨rfl,_,_,rfl,aA,bp,rfl,rfl⟩,fun h=>by cases h⟩
 | m::ms,l,r,i,h,aH=>by
   obtain ⟨e,es,rfl,aa,ae,aF,bu⟩:=aH
   simp only [j2] at h
   cases aQ:(jm bb).run k m.k with
   | none=>rw [aQ] at h;cases h
   | some b=>
     rw [aQ] at h
     simp only at h
     obtain ⟨aq,av⟩:=GP aQ aA aa
     cases b with
     | true=>
       simp only [cond_true,Option.some.injEq] at h
       subst h
       obtain ⟨aK,bD⟩:=av rfl
       refine ⟨fun h=>(by cases h),fun _=>⟨0,e,e.val,by simp only [Instr.findNow,aq,Nat.add_zero],rfl,by rw [aK];exact bD _,?_⟩⟩
       exact ⟨_,es,rfl,aA,bp,aF,bu⟩
     | false=>
       simp only [cond_false] at h
       cases ah:j2 (jm bb) k v clock ms with
       | none=>rw [ah] at h;cases h
       | some bo=>
         rw [ah] at h
         simp only [Option.some.injEq] at h
         subst h
         obtain ⟨g1,g2⟩:=Pk aA bp clock ms es bo (i+1) ah bu
         refine ⟨fun h=>?_,fun h=>?_⟩
         · obtain ⟨bH,a2⟩:=g1 h
           exact ⟨by simp only [Instr.findNow,aq,bH],⟨e,es++[⟨K,X,clock⟩],rfl,aa,ae,aF,a2⟩⟩
         · obtain ⟨j,cU,Y,bH,a2,a3,a4⟩:=g2 h
           exact ⟨j+1,cU,Y,by simp only [Instr.findNow,aq,bH];congr 3;omega,by simpa using a2,a3,e,_,rfl,aa,ae,aF,a4⟩
theorem G4 {au:Fr} {E:Env} {h:af} {w:World} (s:a1 au E h w) {x:V} {X:Value} {es:List b1} (he:oE h x=some es) (ak:Rel E x X):
 (X=.map none∧es=[])∨∃r a clock,X=.map (some r)∧(getObj r).run P w=.ok (.map a clock) w∧du E es a.toList:=by
 cases x<;>simp only [oE] at he<;>try (cases he;done)
 · simp only [Rel] at ak
   exact .inl ⟨ak,by simpa using he.symm⟩
 · rename_i b
   simp only [Rel] at ak
   obtain ⟨p,ah,rfl⟩:=ak
   have ag:=s.at ah
   cases aG:h.get b<;>rw [aG] at he<;>simp only [bW.iw] at he<;>try (cases he;done)
   simp only [Option.some.injEq] at he
   subst he
   rw [aG] at ag
   obtain ⟨q,a,aa,_,aF,bu⟩:=ag
   rw [ah] at aa;cases aa
   exact .inr ⟨p.a_,a,_,rfl,by simp only [getObj,Sem.run,aF];rfl,bu⟩
theorem Le {bb:TypeDesc} {K:Value}:∀{l:List MapEntry} {i:Nat},(∀e ∈ l,Instr.sameNow bb K e.key=some false)→Instr.findNow bb K l i=some none
 | [],_,_=>rfl
 | e::es,i,h=>by
   simp only [Instr.findNow,h e (by simp)]
   exact Le fun cU dA=>h cU (by simp [dA])
theorem Lf {bb:TypeDesc} {K:Value}:∀{l:List MapEntry} {i:Nat},(∀e ∈ l,∃b,Instr.sameNow bb K e.key=some b)→(∃e ∈ l,Instr.sameNow bb K e.key=some true)→
 ∃j,∃e ∈ l,Instr.sameNow bb K e.key=some true∧Instr.findNow bb K l i=some (some (j,e.val))
 | [],_,_,h=>by obtain ⟨e,he,_⟩:=h;simp at he
 | e::es,i,aa,ae=>by
   obtain ⟨b,ag⟩:=aa e (by simp)
   cases b with
   | true=>exact ⟨i,e,by simp,ag,by simp only [Instr.findNow,ag]⟩
   | false=>
     obtain ⟨cU,dA,aD⟩:=ae
     simp only [List.mem_cons] at dA
     rcases dA with rfl | dA
     · rw [ag] at aD;cases aD
     · obtain ⟨j,aY,aq,av,aK⟩:=Lf (i:=i+1) (fun x ak=>aa x (by simp [ak])) ⟨cU,dA,aD⟩
       exact ⟨j,aY,by simp [aq],av,by simp only [Instr.findNow,ag,aK]⟩
theorem Lg {E:Env} {bb:TypeDesc} {k:V} {K:Value} (aA:Rel E k K):∀(es:List b1) (l:List MapEntry) (r:Option V),kT (jm bb) k es=some r→i_ E es l→
 (∀e ∈ l,∃b,Instr.sameNow bb K e.key=some b)∧(match r with
  | none=>∀e ∈ l,Instr.sameNow bb K e.key=some false
  | some v=>(∃e ∈ l,Instr.sameNow bb K e.key=some true)∧∀e ∈ l,Instr.sameNow bb K e.key=some true→Rel E v e.val)
 | [],l,r,h,aH=>by
   simp only [i_] at aH
   subst aH
   simp only [kT,Option.some.injEq] at h
   subst h
   exact ⟨fun e he=>by simp at he,fun e he=>by simp at he⟩
 | m::ms,l,r,h,aH=>by
   obtain ⟨e,es,rfl,aa,ae,bu⟩:=aH
   simp only [kT] at h
   cases ax:kT (jm bb) k ms with
   | none=>rw [ax] at h;cases h
   | some bo=>
     rw [ax] at h
     simp only at h
     obtain ⟨g1,g2⟩:=Lg aA ms es bo ax bu
     cases aQ:(jm bb).run k m.k with
     | none=>rw [aQ] at h;cases h
     | some b=>
       rw [aQ] at h
       simp only at h
       obtain ⟨aq,_⟩:=GP aQ aA aa
       have Fu:∀cU ∈ e::es,∃b,Instr.sameNow bb K cU.key=some b:=by
        intro cU dA
        rcases List.mem_cons.1 dA with rfl | dA
        · exact ⟨b,aq⟩
        · exact g1 cU dA
       refine ⟨Fu,?_⟩
       cases b with
       | true=>
         simp only [cond_true] at h
         cases bo with
         | some _=>cases h
         | none=>
           simp only [Option.some.injEq] at h
           subst h
           refine ⟨⟨e,by simp,aq⟩,fun cU dA aD=>?_⟩
           rcases List.mem_cons.1 dA with rfl | dA
           · exact ae
           · have:=g2 cU dA
             rw [aD] at this;cases this
       | false=>
         simp only [cond_false,Option.some.injEq] at h
         subst h
         cases bo with
         | none=>
           intro cU dA
           rcases List.mem_cons.1 dA with rfl | dA
           · exact aq
           · exact g2 cU dA
         | some v=>
           obtain ⟨⟨cI,dH,fW⟩,y3⟩:=g2
           refine ⟨⟨cI,by simp [dH],fW⟩,fun cU dA aD=>?_⟩
           rcases List.mem_cons.1 dA with rfl | dA
           · rw [aq] at aD;cases aD
           · exact y3 cU dA aD
theorem W3 {E:Env} {bb:TypeDesc} {k:V} {K:Value} (aA:Rel E k K) {es:List b1} {l a:List MapEntry} {r:Option V} (h:kT (jm bb) k es=some r) (aH:i_ E es l) (ah:l.Perm a):
 ∃R,Instr.findNow bb K a 0=some R∧(match r with
  | none=>R=none
  | some v=>∃j Y,R=some (j,Y)∧Rel E v Y):=by
 obtain ⟨aa,ae⟩:=Lg aA es l r h aH
 have hm:∀e,e ∈ a↔e ∈ l:=fun e=>ah.mem_iff.symm
 cases r with
 | none=>exact ⟨none,Le fun e he=>ae e ((hm e).1 he),rfl⟩
 | some v=>
   obtain ⟨⟨cI,dH,fW⟩,y3⟩:=ae
   obtain ⟨j,e,aq,av,aK⟩:=Lf (i:=0) (fun e he=>aa e ((hm e).1 he)) ⟨cI,(hm cI).2 dH,fW⟩
   exact ⟨_,aK,j,e.val,rfl,y3 e ((hm e).1 aq) av⟩
theorem adg {e:db} {z:V} {ok:Bool} {h:af} {x k v:V} (he:iq e z ok h x k=some v):
 nw e z ok h x k=some v∨∃b es r,x=.map b∧h.get b=.gx es∧kT e k es=some r∧v=(match r with
  | some u=>bif ok then .tuple [u,.bool true] else u
  | none=>bif ok then .tuple [z,.bool false] else z):=by
 unfold iq at he
 cases x<;>simp only at he<;>try (exact .inl he)
 rename_i b
 cases aG:h.get b<;>rw [aG] at he<;>simp only at he<;>try (exact .inl he)
 rename_i es
 cases ax:kT e k es with
 | none=>rw [ax] at he;cases he
 | some r=>
   rw [ax] at he
   refine .inr ⟨b,es,r,rfl,aG,ax,?_⟩
   cases r<;>simp only [Option.some.injEq] at he<;>exact he.symm
theorem adf {au:Fr} {E:Env} {h:af} {w:World} (s:a1 au E h w) {t:TypeId} {ok:Bool} {x k v:V} {X K:Value} (ak:Rel E x X) (aA:Rel E k K) (he:(Bk P t ok).run h x k=some v):
 ∃Z,(Instr.lookup t X K ok).run P w=.ok Z w∧Rel E v Z:=by
 unfold Bk at he
 cases aD:a7 P t with
 | none=>rw [aD] at he;cases he
 | some aM=>
   rw [aD] at he
   simp only at he
   have hu:=eK aD w
   cases bJ:aM.bb<;>rw [bJ] at he<;>simp only at he<;>try (cases he;done)
   rename_i bV iF
   rw [bJ] at hu
   cases kn:a7 P bV with
   | none=>rw [kn] at he;cases he
   | some gg=>
     rw [kn] at he
     simp only at he
     cases het:a7 P iF with
     | none=>rw [het] at he;cases he
     | some bd=>
       rw [het] at he
       simp only at he
       cases bh:bd.zero with
       | none=>rw [bh] at he;cases he
       | some z=>
         rw [bh] at he
         simp only at he
         cases ax:lM gg.bb with
         | false=>
           rw [ax] at he
           simp only [cond_false] at he
           have qL:∃e,vT P w E bV e K∧nw e z ok h x k=some v:=by
            cases k5:kC P bV with
            | true=>
              rw [k5] at he
              exact ⟨_,Dm s k5 K,he⟩
            | false=>
              rw [k5] at he
              simp only [cond_false] at he
              cases cn:qe P bV with
              | false=>rw [cn] at he;cases he
              | true=>
                rw [cn] at he
                simp only [cond_true] at he
                obtain ⟨aG,he⟩:=dL he
                exact ⟨_,Dn cn aG aA,he⟩
           clear he
           obtain ⟨e,ask,he⟩:=qL
           obtain ⟨rE,k7,ku,_⟩:=vF (P:=P) het bh E w
           simp only [nw] at he
           cases hm:oE h x with
           | none=>rw [hm] at he;cases he
           | some es=>
             rw [hm] at he
             simp only at he
             cases ss:jd e k es with
             | none=>rw [ss] at he;cases he
             | some r=>
               rw [ss] at he
               simp only at he
               have main:∀(l:List MapEntry),du E es l→∃R,(Instr.findKey bV K l).run P w=.ok R w∧
                ((R=none∧Rel E v (if ok=true then .tuple #[rE,.bool false] else rE))∨∃j Y,R=some (j,Y)∧Rel E v (if ok=true then .tuple #[Y,.bool true] else Y)):=by
                intro l ai
                obtain ⟨R,g1,g2⟩:=Lc ask.eq aA es l r 0 ss ai
                refine ⟨R,ask.find g1,?_⟩
                cases r with
                | none=>
                  simp only at g2 he
                  refine .inl ⟨g2,?_⟩
                  simp only [Option.some.injEq] at he
                  subst he
                  cases ok
                  · exact ku
                  · simp only [cond_true,if_true,Rel,a8];exact ⟨_,rfl,_,_,rfl,ku,_,_,rfl,rfl,rfl⟩
                | some u=>
                  simp only at g2 he
                  obtain ⟨j,Y,cx,eB⟩:=g2
                  refine .inr ⟨j,Y,cx,?_⟩
                  simp only [Option.some.injEq] at he
                  subst he
                  cases ok
                  · exact eB
                  · simp only [cond_true,if_true,Rel,a8];exact ⟨_,rfl,_,_,rfl,eB,_,_,rfl,rfl,rfl⟩
               rcases G4 (P:=P) s hm ak with ⟨rfl,rfl⟩ | ⟨bO,a,clock,rfl,dQ,pE⟩
               · obtain ⟨R,g1,g2⟩:=main [] rfl
                 have ik:=ask.check true
                 rcases g2 with ⟨rfl,g3⟩ | ⟨j,Y,rfl,g3⟩
                 all_goals
                  refine ⟨_,?_,g3⟩
                  simp only [Instr.lookup,Sem.run_bind,hu,Result.andThen_ok,Sem.run_pure]
                  have aN:(#[]:Array MapEntry).isEmpty=true:=rfl
                  rw [aN,ik,Result.andThen_ok,g1,Result.andThen_ok]
                  simp only [Sem.run_bind,k7,Result.andThen_ok,Sem.run_pure]
               · obtain ⟨R,g1,g2⟩:=main a.toList pE
                 have ik:=ask.check a.isEmpty
                 rcases g2 with ⟨rfl,g3⟩ | ⟨j,Y,rfl,g3⟩
                 all_goals
                  refine ⟨_,?_,g3⟩
                  simp only [Instr.lookup,Sem.run_bind,hu,Result.andThen_ok,Sem.run_pure,dQ]
                  rw [ik,Result.andThen_ok,g1,Result.andThen_ok]
                  simp only [Sem.run_bind,k7,Result.andThen_ok,Sem.run_pure]
         | true=>
           rw [ax] at he
           simp only [cond_true] at he
           obtain ⟨rE,k7,ku,_⟩:=vF (P:=P) het bh E w
           have k1:=eK kn w
           rcases adg he with he | ⟨b,es,r,rfl,aG,YN,rfl⟩
           case inr=>
            simp only [Rel] at ak
            obtain ⟨p,ah,rfl⟩:=ak
            have ag:=s.at ah
            rw [aG] at ag
            obtain ⟨p',a,c,l,fK,_,a',ZS,ZT⟩:=ag
            rw [ah] at fK;cases fK
            obtain ⟨R,g1,g2⟩:=W3 aA YN ZS ZT
            have dQ:(getObj p.a_).run P w=.ok (.map a c) w:=by simp only [getObj,Sem.run,a']
            have ik:=run_checkKey (P:=P) ax k1 a.isEmpty K
            have Aw:=run_findKey k1 g1
            cases r with
            | none=>
              simp only at g2
              subst g2
              refine ⟨if ok=true then .tuple #[rE,.bool false] else rE,?_,?_⟩
              · simp only [Instr.lookup,Sem.run_bind,hu,Result.andThen_ok,Sem.run_pure,dQ]
                rw [ik,Result.andThen_ok,Aw,Result.andThen_ok]
                simp only [Sem.run_bind,k7,Result.andThen_ok,Sem.run_pure]
              · cases ok
                · exact ku
                · simp only [cond_true,if_true,Rel,a8];exact ⟨_,rfl,_,_,rfl,ku,_,_,rfl,rfl,rfl⟩
            | some u=>
              simp only at g2
              obtain ⟨j,Y,rfl,eB⟩:=g2
              refine ⟨if ok=true then .tuple #[Y,.bool true] else Y,?_,?_⟩
              · simp only [Instr.lookup,Sem.run_bind,hu,Result.andThen_ok,Sem.run_pure,dQ]
                rw [ik,Result.andThen_ok,Aw,Result.andThen_ok]
                simp only [Sem.run_bind,Sem.run_pure,Result.andThen_ok]
              · cases ok
                · exact eB
                · simp only [cond_true,if_true,Rel,a8];exact ⟨_,rfl,_,_,rfl,eB,_,_,rfl,rfl,rfl⟩
           simp only [nw] at he
           cases hm:oE h x with
           | none=>rw [hm] at he;cases he
           | some es=>
             rw [hm] at he
             simp only at he
             cases ss:jd (jm gg.bb) k es with
             | none=>rw [ss] at he;cases he
             | some r=>
               rw [ss] at he
               simp only at he
               have main:∀(l:List MapEntry),du E es l→∃R,(Instr.findKey bV K l).run P w=.ok R w∧
                ((R=none∧Rel E v (if ok=true then .tuple #[rE,.bool false] else rE))∨∃j Y,R=some (j,Y)∧Rel E v (if ok=true then .tuple #[Y,.bool true] else Y)):=by
                intro l ai
                obtain ⟨R,g1,g2⟩:=Lh aA es l r 0 ss ai
                refine ⟨R,run_findKey k1 g1,?_⟩
                cases r with
                | none=>
                  simp only at g2 he
                  refine .inl ⟨g2,?_⟩
                  simp only [Option.some.injEq] at he
                  subst he
                  cases ok
                  · exact ku
                  · simp only [cond_true,if_true,Rel,a8];exact ⟨_,rfl,_,_,rfl,ku,_,_,rfl,rfl,rfl⟩
                | some u=>
                  simp only at g2 he
                  obtain ⟨j,Y,cx,eB⟩:=g2
                  refine .inr ⟨j,Y,cx,?_⟩
                  simp only [Option.some.injEq] at he
                  subst he
                  cases ok
                  · exact eB
                  · simp only [cond_true,if_true,Rel,a8];exact ⟨_,rfl,_,_,rfl,eB,_,_,rfl,rfl,rfl⟩
               rcases G4 (P:=P) s hm ak with ⟨rfl,rfl⟩ | ⟨bO,a,clock,rfl,dQ,pE⟩
               · obtain ⟨R,g1,g2⟩:=main [] rfl
                 have ik:=run_checkKey (P:=P) ax k1 true K
                 rcases g2 with ⟨rfl,g3⟩ | ⟨j,Y,rfl,g3⟩
                 all_goals
                  refine ⟨_,?_,g3⟩
                  simp only [Instr.lookup,Sem.run_bind,hu,Result.andThen_ok,Sem.run_pure]
                  have aN:(#[]:Array MapEntry).isEmpty=true:=rfl
                  rw [aN,ik,Result.andThen_ok,g1,Result.andThen_ok]
                  simp only [Sem.run_bind,k7,Result.andThen_ok,Sem.run_pure]
               · obtain ⟨R,g1,g2⟩:=main a.toList pE
                 have ik:=run_checkKey (P:=P) ax k1 a.isEmpty K
                 rcases g2 with ⟨rfl,g3⟩ | ⟨j,Y,rfl,g3⟩
                 all_goals
                  refine ⟨_,?_,g3⟩
                  simp only [Instr.lookup,Sem.run_bind,hu,Result.andThen_ok,Sem.run_pure,dQ]
                  rw [ik,Result.andThen_ok,g1,Result.andThen_ok]
                  simp only [Sem.run_bind,k7,Result.andThen_ok,Sem.run_pure]
theorem Qz {au:Fr} {E:Env} {h ab:af} {w:World} (s:a1 au E h w) {t:TypeId} {x k v:V} {X K Y:Value} (ak:Rel E x X) (aA:Rel E k K) (bp:Rel E v Y) (he:(mH P t).run h x k v=some ab):
 ∃aj,(Instr.mapUpdate t X K Y).run P w=.ok () aj∧a1 au E ab aj:=by
 unfold mH at he
 cases aD:a7 P t with
 | none=>rw [aD] at he;cases he
 | some aM=>
   rw [aD] at he
   simp only at he
   have hu:=eK aD w
   cases bJ:aM.bb<;>rw [bJ] at he<;>simp only at he<;>try (cases he;done)
   rename_i bV iF
   rw [bJ] at hu
   cases kn:a7 P bV with
   | none=>rw [kn] at he;cases he
   | some gg=>
     rw [kn] at he
     simp only at he
     cases ax:lM gg.bb with
     | false=>
       rw [ax] at he
       simp only [cond_false] at he
       have qL:∃e,vT P w E bV e K∧mI e h x k v=some ab:=by
        cases k5:kC P bV with
        | true=>
          rw [k5] at he
          exact ⟨_,Dm s k5 K,he⟩
        | false=>
          rw [k5] at he
          simp only [cond_false] at he
          cases cn:qe P bV with
          | false=>rw [cn] at he;cases he
          | true=>
            rw [cn] at he
            simp only [cond_true] at he
            obtain ⟨aG,he⟩:=dL he
            exact ⟨_,Dn cn aG aA,he⟩
       clear he
       obtain ⟨e,ask,he⟩:=qL
       cases x<;>simp only [mI] at he<;>try (cases he;done)
       rename_i b
       simp only [Rel] at ak
       obtain ⟨p,ah,rfl⟩:=ak
       have ag:=s.at ah
       cases aG:h.get b<;>rw [aG] at he<;>simp only [bW.iw] at he<;>try (cases he;done)
       rename_i es clock
       rw [aG] at ag
       obtain ⟨q,a,aa,cN,aF,bu⟩:=ag
       rw [ah] at aa;cases aa
       cases sH:j2 e k v clock es with
       | none=>rw [sH] at he;cases he
       | some r=>
         rw [sH] at he
         simp only [Option.some.injEq] at he
         subst he
         have dQ:(getObj p.a_).run P w=.ok (.map a clock) w:=by simp only [getObj,Sem.run,aF]
         have ik:=ask.check false
         have jN:=(Array.getElem?_eq_some_iff.1 aF).1
         have wR:∀(bg:Array MapEntry) (eM:Nat),du E r.1 bg.toList→eM=(bif r.2 then clock+1 else clock)→
          ∃aj,(setObj p.a_ (.map bg eM)).run P w=.ok () aj∧a1 au E (h.set b (.mp r.1 (bif r.2 then clock+1 else clock))) aj:=by
          intro bg eM hm ao
          refine ⟨{w with heap:=w.heap.setIfInBounds p.a_ (.map bg eM)},by simp only [setObj,Sem.run,aF],s.set (p:=p) (by rw [aG];rfl) ah cN (by simp) (fun j bI=>?_) rfl rfl rfl (fun _ _ _ e=>by cases e) ?_⟩
          · simp only [Array.getElem?_setIfInBounds]
            rw [if_neg (fun e=>bI e.symm)]
          · exact ⟨p,bg,ah,cN,by simp [jN,ao],hm⟩
         obtain ⟨g1,g2⟩:=Pe ask.eq aA bp clock es a.toList r 0 sH bu
         cases jP:r.2 with
         | true=>
           obtain ⟨bH,a2⟩:=g1 jP
           obtain ⟨aj,d1,d2⟩:=wR (a.push ⟨K,Y,clock⟩) (clock+1) (by simpa using a2) (by rw [jP];rfl)
           rw [jP] at d2
           refine ⟨aj,?_,d2⟩
           simp only [Instr.mapUpdate,Sem.run_bind,hu,Result.andThen_ok,dQ,ik,ask.find bH,d1]
         | false=>
           obtain ⟨j,dz,R0,bH,a2,a3,a4⟩:=g2 jP
           obtain ⟨aj,d1,d2⟩:=wR (a.modify j fun dz=>{dz with key:=K,val:=Y}) clock (by simpa using a4) (by rw [jP];rfl)
           rw [jP] at d2
           refine ⟨aj,?_,d2⟩
           rw [Nat.zero_add] at bH
           have aN:a[j]? =some dz:=by simpa using a2
           simp only [Instr.mapUpdate,Sem.run_bind,hu,Result.andThen_ok,dQ,ik,ask.find bH,aN,Option.map,Option.getD,Instr.keyThatStays,a3,if_true,Sem.run_pure,d1]
     | true=>
       rw [ax] at he
       simp only [cond_true] at he
       have k1:=eK kn w
       cases x<;>simp only [mI] at he<;>try (cases he;done)
       rename_i b
       simp only [Rel] at ak
       obtain ⟨p,ah,rfl⟩:=ak
       have ag:=s.at ah
       cases aG:h.get b<;>rw [aG] at he<;>simp only [bW.iw] at he<;>try (cases he;done)
       rename_i es clock
       rw [aG] at ag
       obtain ⟨q,a,aa,cN,aF,bu⟩:=ag
       rw [ah] at aa;cases aa
       cases sH:j2 (jm gg.bb) k v clock es with
       | none=>rw [sH] at he;cases he
       | some r=>
         rw [sH] at he
         simp only [Option.some.injEq] at he
         subst he
         have dQ:(getObj p.a_).run P w=.ok (.map a clock) w:=by simp only [getObj,Sem.run,aF]
         have ik:=run_checkKey (P:=P) ax k1 false K
         have jN:=(Array.getElem?_eq_some_iff.1 aF).1
         have done:∀(bg:Array MapEntry) (eM:Nat),du E r.1 bg.toList→eM=(bif r.2 then clock+1 else clock)→
          ∃aj,(setObj p.a_ (.map bg eM)).run P w=.ok () aj∧a1 au E (h.set b (.mp r.1 (bif r.2 then clock+1 else clock))) aj:=by
          intro bg eM hm ao
          refine ⟨{w with heap:=w.heap.setIfInBounds p.a_ (.map bg eM)},by simp only [setObj,Sem.run,aF],s.set (p:=p) (by rw [aG];rfl) ah cN (by simp) (fun j bI=>?_) rfl rfl rfl (fun _ _ _ e=>by cases e) ?_⟩
          · simp only [Array.getElem?_setIfInBounds]
            rw [if_neg (fun e=>bI e.symm)]
          · exact ⟨p,bg,ah,cN,by simp [jN,ao],hm⟩
         obtain ⟨g1,g2⟩:=Pk aA bp clock es a.toList r 0 sH bu
         cases jP:r.2 with
         | true=>
           obtain ⟨bH,a2⟩:=g1 jP
           obtain ⟨aj,d1,d2⟩:=done (a.push ⟨K,Y,clock⟩) (clock+1) (by simpa using a2) (by rw [jP];rfl)
           rw [jP] at d2
           refine ⟨aj,?_,d2⟩
           simp only [Instr.mapUpdate,Sem.run_bind,hu,Result.andThen_ok,dQ,ik,run_findKey k1 bH,d1]
         | false=>
           obtain ⟨j,e,R0,bH,a2,a3,a4⟩:=g2 jP
           obtain ⟨aj,d1,d2⟩:=done (a.modify j fun e=>{e with key:=K,val:=Y}) clock (by simpa using a4) (by rw [jP];rfl)
           rw [jP] at d2
           refine ⟨aj,?_,d2⟩
           rw [Nat.zero_add] at bH
           have aN:a[j]? =some e:=by simpa using a2
           simp only [Instr.mapUpdate,Sem.run_bind,hu,Result.andThen_ok,dQ,ik,run_findKey k1 bH,aN,Option.map,Option.getD,Instr.keyThatStays,a3,if_true,Sem.run_pure,d1]
theorem N8 {au:Fr} {E:Env} {h ab:af} {w:World} (s:a1 au E h w) {v:V} (he:s5 h=.val v ab):cK au P E w (do pure (.map (some (←newObj (.map #[] 0))))) v ab:=by
 unfold s5 at he
 simp only [aV.val.injEq] at he
 obtain ⟨rfl,rfl⟩:=he
 have c7:=s.fresh h.next (Nat.le_refl _)
 have dj:E.put (ay h.next) ⟨w.heap.size,0,0⟩ (ay h.next)=some ⟨w.heap.size,0,0⟩:=by unfold Env.put;rw [if_pos rfl]
 refine ⟨.map (some w.heap.size),{w with heap:=w.heap.push (.map #[] 0)},_,?_,Env.jn (p:=⟨w.heap.size,0,0⟩) c7,?_,s.alloc 0 ?_⟩
 · simp only [Sem.run_bind,run_newObj,Result.andThen_ok,Sem.run_pure]
 · simp only [Rel];exact ⟨_,dj,rfl⟩
 · exact ⟨_,#[],dj,s.frame.size,by simp,rfl⟩
theorem adk {au:Fr} {E:Env} {h ab:af} {w:World} (s:a1 au E h w) {t:TypeId} {x:Option V} {X:Option Value} {v:V} (ak:gy E x X) (he:vf P t x h=.val v ab):cK au P E w (Instr.makeMap t X) v ab:=by
 unfold vf at he
 cases aD:a7 P t with
 | none=>rw [aD] at he;cases he
 | some aM=>
   rw [aD] at he
   simp only at he
   have hu:=eK aD
   cases ag:Nat.beq (ef aM.bb) 3 with
   | false=>rw [ag] at he;cases he
   | true=>
     rw [ag] at he
     simp only [cond_true] at he
     cases x with
     | none=>
       have:X=none:=by cases X with | none=>rfl | some _=>simp [gy] at ak
       subst this
       simp only [q2] at he
       have:=N8 (P:=P) s he
       exact this
     | some u=>
       simp only [q2] at he
       obtain ⟨cJ,n,rfl,aa⟩:=yj he
       obtain ⟨Y,rfl,eB⟩:∃Y,X=some Y∧Rel E (.int cJ n) Y:=by
        cases X with
        | none=>simp [gy] at ak
        | some Y=>simp only [gy] at ak;obtain ⟨ahD,aa,ae⟩:=ak;cases aa;exact ⟨_,rfl,ae⟩
       have:=eB.hN;subst this
       obtain ⟨Z,aj,ar,aq,av⟩:=N8 (P:=P) s aa
       refine ⟨Z,aj,ar,?_,av⟩
       cases bJ:aM.bb<;>rw [bJ] at ag<;>simp [ef] at ag
       have hu:=hu w
       rw [bJ] at hu
       simp only [Instr.makeMap,Sem.run_bind,hu,Result.andThen_ok,asInt,Sem.run_pure]
       exact aq
theorem acV {au:Fr} {E:Env} {h ab:af} {w:World} (s:a1 au E h w) {t:TypeId} {aM:ly} (aD:a7 P t=some aM) (hm:qY aM.bb=true) {x v:V} {X:Value} (ak:Rel E x X) (ty:TypeId) (rest:List TypeId)
 (he:x5 [x] h=.val v ab):cK au P E w (Builtin.len_ (t::rest).toArray ty #[X]) v ab:=by
 simp only [x5] at he
 cases aQ:oE h x with
 | none=>rw [aQ] at he;cases he
 | some es=>
   rw [aQ] at he
   simp only [aV.val.injEq] at he
   obtain ⟨rfl,rfl⟩:=he
   have hu:=eK aD w
   cases bJ:aM.bb<;>rw [bJ] at hm<;>simp [qY] at hm
   rw [bJ] at hu
   rcases G4 (P:=P) s aQ ak with ⟨rfl,rfl⟩ | ⟨bO,a,clock,rfl,dQ,pE⟩
   · refine cK.plain (Z:=goInt 0) s ?_ (by simp [Rel,goInt])
     simp [Builtin.len_,hu]
   · have hlen:∀(ms:List b1) (l:List MapEntry),du E ms l→l.length=ms.length:=by
      intro ms
      induction ms with
      | nil=>intro l h;simp only [du] at h;subst h;rfl
      | cons m ms bf=>intro l h;obtain ⟨e,es,rfl,_,_,_,bu⟩:=h;simp [bf _ bu]
     refine cK.plain (Z:=goInt a.size) s ?_ ?_
     · simp [Builtin.len_,hu,dQ]
     · have:=hlen _ _ pE
       simp only [Array.length_toList] at this
       simp [Rel,goInt,this]
end
end Go.Proofs.YtkehcalakofigaaGreatDoor.aS
namespace Go.Proofs.YtkehcalakofigaaGreatDoor.aS
variable [Lay]
open Go Go.RowKit
section
variable {P:Program}
theorem Lb {E:Env} {v:V} {Y:Value} (bp:Rel E v Y) {n:Nat}:∀(es:List b1) (l:List MapEntry) (r:List b1),ur n v es=some r→du E es l→
 ∃j,l.findIdx? (fun e=>(e.born:Int) == (n:Int))=some j∧du E r (l.modify j fun e=>{e with val:=Y})
 | [],l,r,h,aH=>by cases h
 | m::ms,l,r,h,aH=>by
   obtain ⟨e,es,rfl,aa,ae,aF,bu⟩:=aH
   simp only [ur] at h
   cases ag:Nat.beq m.born n with
   | true=>
     rw [ag] at h
     simp only [cond_true,Option.some.injEq] at h
     subst h
     have aZ:=Nat.eq_of_beq_eq_true ag
     refine ⟨0,by simp [List.findIdx?_cons,aF,aZ],?_⟩
     exact ⟨_,es,rfl,aa,bp,aF,bu⟩
   | false=>
     rw [ag] at h
     simp only [cond_false] at h
     cases ax:ur n v ms with
     | none=>rw [ax] at h;cases h
     | some bo=>
       rw [ax] at h
       simp only [Option.some.injEq] at h
       subst h
       obtain ⟨j,g1,g2⟩:=Lb bp ms es bo ax bu
       have cZ:¬((e.born:Int) == (n:Int))=true:=by
        rw [aF]
        intro aC
        have uV:(m.born:Int)=(n:Int):=by simpa using aC
        have Zr:m.born=n:=by omega
        rw [Zr,Nat.beq_refl] at ag
        cases ag
       refine ⟨j+1,by simp only [List.findIdx?_cons,cZ];simp [g1],⟨e,_,by simp [List.modify],aa,ae,aF,g2⟩⟩
theorem Wx {au:Fr} {E:Env} {h ab:af} {w:World} (s:a1 au E h w) {t:TypeId} {x st v:V} {X S Y:Value} (ak:Rel E x X) (cn:Rel E st S) (bp:Rel E v Y) (he:Ae h x st v=some ab):
 ∃aj,(Instr.entryStore t X S Y).run P w=.ok () aj∧a1 au E ab aj:=by
 unfold Ae at he
 split at he
 case h_2=>cases he
 rename_i b
 split at he
 case h_2=>cases he
 rename_i cJ m
 split at he
 case h_2=>cases he
 rename_i n
 simp only [Rel] at ak cn
 obtain ⟨p,ah,rfl⟩:=ak
 subst cn
 have ag:=s.at ah
 cases aG:h.get b<;>rw [aG] at he<;>simp only [bW.iw] at he<;>try (cases he;done)
 rename_i es clock
 rw [aG] at ag
 obtain ⟨q,a,aa,cN,aF,bu⟩:=ag
 rw [ah] at aa;cases aa
 cases ax:ur n v es with
 | none=>rw [ax] at he;cases he
 | some r=>
   rw [ax] at he
   simp only [Option.some.injEq] at he
   subst he
   obtain ⟨j,g1,g2⟩:=Lb bp es a.toList r ax bu
   have dQ:(getObj p.a_).run P w=.ok (.map a clock) w:=by simp only [getObj,Sem.run,aF]
   have jN:=(Array.getElem?_eq_some_iff.1 aF).1
   have Aw:a.findIdx? (fun e=>(e.born:Int) == (n:Int))=some j:=by
    rw [←g1]
    cases a with | mk Nq=>simp
   have bn:(asInt (.int cJ (Int.ofNat n))).run P w=.ok (n:Int) w:=by simp [asInt,asIntOf]
   refine ⟨{w with heap:=w.heap.setIfInBounds p.a_ (.map (a.modify j fun e=>{e with val:=Y}) clock)},?_,s.set (p:=p) (by rw [aG];rfl) ah cN (by simp) (fun j bI=>?_) rfl rfl rfl (fun _ _ _ e=>by cases e) ?_⟩
   · simp only [Instr.entryStore,Sem.run_bind,dQ,Result.andThen_ok,bn,Aw,setObj,Sem.run,aF]
   · simp only [Array.getElem?_setIfInBounds]
     rw [if_neg (fun e=>bI e.symm)]
   · exact ⟨p,a.modify j fun e=>{e with val:=Y},ah,cN,by simp [jN],by rw [Array.toList_modify];exact g2⟩
theorem Ld {w:World} {E:Env} {bV:TypeId} {e:db} (kk:tI P w E bV e) {k:V} {K:Value} (aA:Rel E k K):∀(es:List b1) (l:List MapEntry) (r:Option b1) (i:Nat),uu e k es=some r→du E es l→
 (r=none→(Instr.findAsking bV K l i).run P w=.ok none w)∧
 (∀m,r=some m→∃j dz,(Instr.findAsking bV K l i).run P w=.ok (some (i+j,dz.val)) w∧l[j]? =some dz∧dz.key=K∧Rel E m.v dz.val∧dz.born=m.born∧Instr.sameBits 10000 K K=true∧du E es (l.modify j fun dz=>{dz with key:=K}))
 | [],l,r,i,h,aH=>by
   simp only [du] at aH
   subst aH
   simp only [uu,Option.some.injEq] at h
   subst h
   exact ⟨fun _=>rfl,fun m hm=>by cases hm⟩
 | m::ms,l,r,i,h,aH=>by
   obtain ⟨dz,es,rfl,aa,ae,aF,bu⟩:=aH
   simp only [uu] at h
   cases aQ:e.run k m.k with
   | none=>rw [aQ] at h;cases h
   | some b=>
     rw [aQ] at h
     simp only at h
     obtain ⟨aq,av⟩:=kk _ _ _ _ _ aQ aA aa
     cases b with
     | true=>
       simp only [cond_true,Option.some.injEq] at h
       subst h
       obtain ⟨aK,bD⟩:=av rfl
       refine ⟨fun h=>(by cases h),fun cW hm=>?_⟩
       cases hm
       exact ⟨0,dz,by simp [Instr.findAsking,aq],rfl,aK,ae,aF,bD,⟨_,es,rfl,by rw [←aK];exact aa,ae,aF,bu⟩⟩
     | false=>
       simp only [cond_false] at h
       obtain ⟨g1,g2⟩:=Ld kk aA ms es r (i+1) h bu
       refine ⟨fun h=>by simp [Instr.findAsking,aq,g1 h],fun cW hm=>?_⟩
       obtain ⟨j,Ww,bH,a2,a3,a4,a5,hW,Dg⟩:=g2 cW hm
       exact ⟨j+1,Ww,by simp [Instr.findAsking,aq,bH];omega,by simpa using a2,a3,a4,a5,hW,⟨dz,_,rfl,aa,ae,aF,Dg⟩⟩
theorem NV {au:Fr} {E:Env} {h ab:af} {w:World} (s:a1 au E h w) {t bV iF:TypeId} (hu:(underlying t).run P w=.ok (.map bV iF) w) {e:db} {z:V} {Z:Value} (bh:(zeroValue iF).run P w=.ok Z w) (ku:Rel E z Z)
 {x k v:V} {X K:Value} (ak:Rel E x X) (aA:Rel E k K) (ask:vT P w E bV e K) (he:vh e z h x k=some (v,ab)):cK au P E w (Instr.mapEntry t X K) v ab:=by
 unfold vh at he
 split at he
 case h_2=>cases he
 rename_i b
 simp only [Rel] at ak
 obtain ⟨p,ah,rfl⟩:=ak
 have ag:=s.at ah
 cases aG:h.get b<;>rw [aG] at he<;>simp only [bW.iw] at he<;>try (cases he;done)
 rename_i es clock
 rw [aG] at ag
 obtain ⟨q,a,aa,cN,aF,bu⟩:=ag
 rw [ah] at aa;cases aa
 have dQ:(getObj p.a_).run P w=.ok (.map a clock) w:=by simp only [getObj,Sem.run,aF]
 have ik:=ask.check false
 have jN:=(Array.getElem?_eq_some_iff.1 aF).1
 have wR:∀(hH:List b1) (bg:Array MapEntry) (eM:Nat),du E hH bg.toList→
  ∃aj,(setObj p.a_ (.map bg eM)).run P w=.ok () aj∧a1 au E (h.set b (.mp hH eM)) aj:=by
  intro hH bg eM hm
  refine ⟨{w with heap:=w.heap.setIfInBounds p.a_ (.map bg eM)},by simp only [setObj,Sem.run,aF],s.set (p:=p) (by rw [aG];rfl) ah cN (by simp) (fun j bI=>?_) rfl rfl rfl (fun _ _ _ e=>by cases e) ?_⟩
  · simp only [Array.getElem?_setIfInBounds]
    rw [if_neg (fun e=>bI e.symm)]
  · exact ⟨p,bg,ah,cN,by simp [jN],hm⟩
 cases ax:uu e k es with
 | none=>rw [ax] at he;cases he
 | some r=>
   rw [ax] at he
   simp only at he
   obtain ⟨g1,g2⟩:=Ld ask.eq aA es a.toList r 0 ax bu
   cases r with
   | none=>
     simp only [Option.some.injEq,Prod.mk.injEq] at he
     obtain ⟨rfl,rfl⟩:=he
     have bH:=ask.find (g1 rfl)
     obtain ⟨aj,d1,d2⟩:=wR (es++[⟨k,z,clock⟩]) (a.push ⟨K,Z,clock⟩) (clock+1) (by
      have:∀(es:List b1) (l:List MapEntry),du E es l→du E (es++[⟨k,z,clock⟩]) (l++[⟨K,Z,clock⟩]):=by
       intro es
       induction es with
       | nil=>intro l ai;simp only [du] at ai;subst ai;exact ⟨_,_,rfl,aA,ku,rfl,rfl⟩
       | cons m ms bf=>intro l ai;obtain ⟨dz,hH,rfl,b7,b_,gN,kM⟩:=ai;exact ⟨dz,_,rfl,b7,b_,gN,bf _ kM⟩
      simpa using this es a.toList bu)
     refine ⟨.tuple #[Z,goInt clock],aj,E,?_,Env.le.refl E,?_,d2⟩
     · simp only [Instr.mapEntry,Sem.run_bind,hu,Result.andThen_ok,dQ,ik,bH,bh,d1,Sem.run_pure]
     · simp only [Rel,a8];exact ⟨_,rfl,_,_,rfl,ku,_,_,rfl,rfl,rfl⟩
   | some m=>
     simp only [Option.some.injEq,Prod.mk.injEq] at he
     obtain ⟨rfl,rfl⟩:=he
     obtain ⟨j,dz,bH,a2,a3,a4,a5,hW,Dg⟩:=g2 m rfl
     rw [Nat.zero_add] at bH
     have b7:=ask.find bH
     have aN:a[j]? =some dz:=by simpa using a2
     obtain ⟨aj,d1,d2⟩:=wR es (a.modify j fun dz=>{dz with key:=K}) clock (by rw [Array.toList_modify];exact Dg)
     refine ⟨.tuple #[dz.val,goInt dz.born],aj,E,?_,Env.le.refl E,?_,d2⟩
     · simp only [Instr.mapEntry,Sem.run_bind,hu,Result.andThen_ok,dQ,ik,b7,aN,Option.map,Option.getD,a3,Instr.keyThatStays,hW,if_true,Sem.run_pure,d1]
     · simp only [Rel,a8];exact ⟨_,rfl,_,_,rfl,a4,_,_,rfl,by rw [a5];rfl,rfl⟩
theorem adn {au:Fr} {E:Env} {h ab:af} {w:World} (s:a1 au E h w) {t:TypeId} {x k v:V} {X K:Value} (ak:Rel E x X) (aA:Rel E k K) (he:(G3 P t).run x k h=.val v ab):cK au P E w (Instr.mapEntry t X K) v ab:=by
 unfold G3 at he
 cases aD:a7 P t with
 | none=>rw [aD] at he;cases he
 | some aM=>
   rw [aD] at he
   simp only at he
   have hu:=eK aD w
   cases bJ:aM.bb<;>rw [bJ] at he<;>simp only at he<;>try (cases he;done)
   rename_i bV iF
   rw [bJ] at hu
   cases het:a7 P iF with
   | none=>rw [het] at he;cases he
   | some bd=>
     rw [het] at he
     simp only at he
     cases bh:bd.zero with
     | none=>rw [bh] at he;cases he
     | some z=>
       rw [bh] at he
       simp only at he
       obtain ⟨rE,k7,ku,_⟩:=vF (P:=P) het bh E w
       cases k5:kC P bV with
       | true=>
         rw [k5] at he
         simp only [cond_true,K0] at he
         cases hm:vh ⟨mC h⟩ z h x k with
         | none=>rw [hm] at he;cases he
         | some r=>
           rw [hm] at he
           simp only [aV.val.injEq] at he
           obtain ⟨rfl,rfl⟩:=he
           exact NV s hu k7 ku ak aA (Dm s k5 K) hm
       | false=>
         rw [k5] at he
         simp only [cond_false] at he
         cases cn:qe P bV with
         | false=>rw [cn] at he;cases he
         | true=>
           rw [cn] at he
           simp only [cond_true,K1] at he
           cases aG:sX P bV k with
           | false=>rw [aG] at he;cases he
           | true=>
             rw [aG] at he
             simp only [cond_true] at he
             cases hm:vh (structEq P bV) z h x k with
             | none=>rw [hm] at he;cases he
             | some r=>
               rw [hm] at he
               simp only [aV.val.injEq] at he
               obtain ⟨rfl,rfl⟩:=he
               exact NV s hu k7 ku ak aA (Dn cn aG aA) hm
end
end Go.Proofs.YtkehcalakofigaaGreatDoor.aS
namespace Go.Proofs.YtkehcalakofigaaGreatDoor.aS
variable [Lay]
open Go Go.RowKit
section
variable {P:Program}
theorem L1 (n:Nat):∀(l:List Nat),qK l n=true↔n ∈ l
 | []=>by simp [qK]
 | x::xs=>by
   simp only [qK]
   cases ag:Nat.beq x n with
   | true=>have:=Nat.eq_of_beq_eq_true ag;subst this;simp
   | false=>
     have cZ:x≠n:=fun e=>by subst e;rw [Nat.beq_refl] at ag;cases ag
     simp [L1 n xs,Ne.symm cZ]
theorem Yn {a:Array Nat} {seen:List Nat} (h:a.toList=seen.reverse) (n:Nat):a.contains n=qK seen n:=by
 rw [Bool.eq_iff_iff,L1,Array.contains_iff_mem,←Array.mem_toList_iff,h,List.mem_reverse]
theorem NB {E:Env} {a:Array Nat} {seen:List Nat} (h:a.toList=seen.reverse):∀(ms:List b1) (l:List MapEntry),du E ms l→du E (leftOf seen ms) (l.filter fun e=>!a.contains e.born)
 | [],l,aH=>by simp only [du] at aH;subst aH;rfl
 | m::ms,l,aH=>by
   obtain ⟨e,es,rfl,aa,ae,aF,bu⟩:=aH
   have bf:=NB h ms es bu
   have aC:a.contains e.born=qK seen m.born:=by rw [Yn h,aF]
   cases ag:qK seen m.born with
   | true=>
     rw [ag] at aC
     rw [List.filter_cons_of_neg (by rw [aC];decide)]
     simp only [leftOf,ag,cond_true]
     exact bf
   | false=>
     rw [ag] at aC
     rw [List.filter_cons_of_pos (by rw [aC];decide)]
     simp only [leftOf,ag,cond_false]
     exact ⟨e,_,rfl,aa,ae,aF,bf⟩
theorem JA {E:Env} {last:Nat}:∀(ms:List b1) (l:List MapEntry),du E ms l→l.all (fun e=>decide (e.born≥last))=tP last ms
 | [],l,aH=>by simp only [du] at aH;subst aH;rfl
 | m::ms,l,aH=>by
   obtain ⟨e,es,rfl,aa,ae,aF,bu⟩:=aH
   simp only [tP,List.all_cons,JA ms es bu,aF]
   cases ag:Nat.ble last m.born with
   | true=>rw [Nat.ble_eq] at ag;simp [ag]
   | false=>
     have:¬last≤m.born:=by rw [←Nat.ble_eq,ag];simp
     simp [this]
theorem JY {E:Env} {n:Nat}:∀(ms:List b1) (l:List MapEntry) (m:b1),du E ms l→wH n ms=some m→∃e,l.find? (fun e=>e.born == n)=some e∧Rel E m.k e.key∧Rel E m.v e.val
 | [],l,m,aH,h=>by cases h
 | x::xs,l,m,aH,h=>by
   obtain ⟨e,es,rfl,aa,ae,aF,bu⟩:=aH
   simp only [wH] at h
   cases ag:Nat.beq x.born n with
   | true=>
     rw [ag] at h
     simp only [cond_true,Option.some.injEq] at h
     subst h
     have:=Nat.eq_of_beq_eq_true ag
     exact ⟨e,by simp [List.find?_cons,aF,this],aa,ae⟩
   | false=>
     rw [ag] at h
     simp only [cond_false] at h
     obtain ⟨cU,g1,g2⟩:=JY xs es m bu h
     have cZ:x.born≠n:=fun e=>by rw [e,Nat.beq_refl] at ag;cases ag
     exact ⟨cU,by simp [List.find?_cons,aF,cZ,g1],g2⟩
theorem Hu {k:bW} {f:List b1→Nat→aV} {v:V} {ab:af} (h:k.iw .fail f=.val v ab):∃es clock,k=.mp es clock∧f es clock=.val v ab:=by
 cases k<;>simp only [bW.iw] at h<;>first
  | (cases h;done)
  | exact ⟨_,_,rfl,h⟩
theorem Ov {v:V} {f:aO→Nat→aV} {r:V} {ab:af} (h:v.hQ .fail f=.val r ab):∃b off,v=.ptr b off∧f b off=.val r ab:=by
 cases v<;>simp only [V.hQ] at h<;>first
  | (cases h;done)
  | exact ⟨_,_,rfl,h⟩
theorem ae_ {au:Fr} {E:Env} {h ab:af} {w:World} (s:a1 au E h w) {t bV iF:TypeId} (hu:(underlying t).run P w=.ok (.map bV iF) w) {x v:V} {X:Value} (ak:Rel E x X) (he:rangeMap x h=.val v ab):cK au P E w (Instr.range t X) v ab:=by
 have c7:=s.fresh h.next (Nat.le_refl _)
 have dj:E.put (ay h.next) ⟨w.heap.size,0,0⟩ (ay h.next)=some ⟨w.heap.size,0,0⟩:=by unfold Env.put;rw [if_pos rfl]
 unfold rangeMap at he
 split at he
 · simp only [aV.val.injEq] at he
   obtain ⟨rfl,rfl⟩:=he
   simp only [Rel] at ak
   subst ak
   refine ⟨.pointer (some ⟨w.heap.size,0,none⟩),{w with heap:=w.heap.push (.mapIter none 0 #[] 0)},_,?_,Env.jn (p:=⟨w.heap.size,0,0⟩) c7,?_,s.alloc 0 ?_⟩
   · simp only [Instr.range,Sem.run_bind,hu,Result.andThen_ok,Sem.run_pure,run_newObj]
   · simp only [Rel];exact ⟨_,dj,by simp⟩
   · exact ⟨_,none,#[],dj,s.frame.size,rfl,by simp,rfl,rfl⟩
 · rename_i c
   obtain ⟨es,clock,aG,he⟩:=Hu he
   simp only [aV.val.injEq] at he
   obtain ⟨rfl,rfl⟩:=he
   simp only [Rel] at ak
   obtain ⟨p,ah,rfl⟩:=ak
   have ag:=s.at ah
   rw [aG] at ag
   obtain ⟨q,a,aa,cN,aF,bu⟩:=ag
   rw [ah] at aa;cases aa
   have dQ:(getObj p.a_).run P w=.ok (.map a clock) w:=by simp only [getObj,Sem.run,aF]
   have hle:E.le (E.put (ay h.next) ⟨w.heap.size,0,0⟩):=Env.jn c7
   refine ⟨.pointer (some ⟨w.heap.size,0,none⟩),{w with heap:=w.heap.push (.mapIter (some p.a_) clock #[] clock)},_,?_,hle,?_,s.alloc 0 ?_⟩
   · simp only [Instr.range,Sem.run_bind,hu,Result.andThen_ok,Sem.run_pure,dQ,run_newObj]
   · simp only [Rel];exact ⟨_,dj,by simp⟩
   · exact ⟨_,some p.a_,#[],dj,s.frame.size,rfl,by simp,rfl,p,hle _ _ ah,rfl⟩
 · cases he
theorem adG {au:Fr} {E:Env} {h ab:af} {w:World} (s:a1 au E h w) {x v:V} {X:Value} {ty:TypeId} (ak:Rel E x X) (he:fN x h=.val v ab):cK au P E w (Instr.next X false ty) v ab:=by
 unfold fN at he
 obtain ⟨b,off,rfl,aa⟩:=Ov he
 clear he
 have ag:=s.at (p:=_) (by simp only [Rel] at ak;exact ak.choose_spec.1)
 cases aG:h.get b<;>rw [aG] at aa<;>simp only at aa<;>try (cases aa;done)
 rename_i src since seen last
 rw [aG] at ag
 cases ba:Nat.beq off 0 with
 | false=>rw [ba] at aa;cases aa
 | true=>
 rw [ba] at aa
 simp only [cond_true] at aa
 have ba:=Nat.eq_of_beq_eq_true ba
 subst ba
 obtain ⟨p,m,a,ah,cN,jH,a',bn,h6⟩:=ag
 simp only [Rel] at ak
 obtain ⟨q,aC,rfl⟩:=ak
 rw [ah] at aC;cases aC
 have dQ:(getObj p.a_).run P w=.ok (.mapIter m since a last) w:=by simp only [getObj,Sem.run,a']
 have over:Rel E (.tuple [.bool false]) (.tuple #[.bool false]):=by simp only [Rel,a8];exact ⟨_,rfl,_,_,rfl,rfl,rfl⟩
 cases src with
 | none=>
   simp only [rV] at h6
   subst h6
   simp only [aV.val.injEq] at aa
   obtain ⟨rfl,rfl⟩:=aa
   refine cK.plain (Z:=.tuple #[.bool false]) s ?_ over
   simp only [Instr.next,jH,Sem.run_bind,dQ,Result.andThen_ok,Sem.run_pure]
 | some c=>
   simp only [rV] at h6
   obtain ⟨p1,nk,rfl⟩:=h6
   simp only at aa
   obtain ⟨es,clock,FJ,aa⟩:=Hu aa
   have qM:=s.at nk
   rw [FJ] at qM
   obtain ⟨q,lh,g1,_,g3,g4⟩:=qM
   rw [nk] at g1;cases g1
   have AN:(getObj p1.a_).run P w=.ok (.map lh clock) w:=by simp only [getObj,Sem.run,g3]
   cases ao:(!seen.isEmpty&&(!es.isEmpty&&tP last es)) with
   | true=>rw [ao] at aa;cases aa
   | false=>
     rw [ao] at aa
     simp only [cond_false] at aa
     have aN:a.isEmpty=seen.isEmpty:=by
      have:a.toList.isEmpty=seen.reverse.isEmpty:=by rw [bn]
      simpa using this
     have aY:lh.isEmpty=es.isEmpty:=by
      cases es with
      | nil=>simp only [du] at g4;have:lh=#[]:=Array.toList_inj.1 g4
             simp [this]
      | cons y b'=>obtain ⟨e,l,ai,_⟩:=g4;have:lh.toList.isEmpty=false:=by rw [ai];rfl
                   simpa using this
     have cz:lh.all (fun e=>decide (e.born≥last))=tP last es:=by rw [←JA es _ g4,Array.all_toList]
     have L6:(!a.isEmpty&&!lh.isEmpty&&lh.all (fun e=>decide (e.born≥last)))=false:=by rw [aN,aY,cz,Bool.and_assoc];exact ao
     have xq:=NB (E:=E) bn es _ g4
     have L_:(lh.filter fun e=>!a.contains e.born).toList=lh.toList.filter fun e=>!a.contains e.born:=by simp
     cases ai:leftOf seen es with
     | nil=>
       rw [ai] at aa xq
       simp only [Hi,aV.val.injEq] at aa
       obtain ⟨rfl,rfl⟩:=aa
       simp only [du] at xq
       have kV:(lh.filter fun e=>!a.contains e.born)=#[]:=by
        apply Array.toList_inj.1;rw [L_,xq]
       refine cK.plain (Z:=.tuple #[.bool false]) s ?_ over
       simp only [Instr.next,jH,Sem.run_bind,dQ,Result.andThen_ok,AN,L6,Bool.false_eq_true,if_false,kV,Sem.run_pure]
       simp [choose,Sem.run,Question.forced]
     | cons y b'=>
       rw [ai] at aa xq
       cases b' with
       | cons _ _=>cases aa
       | nil=>
         simp only [Hi] at aa
         cases aP:Nat.blt y.born since with
         | false=>rw [aP] at aa;cases aa
         | true=>
           rw [aP] at aa
           simp only [cond_true,aV.val.injEq] at aa
           obtain ⟨rfl,rfl⟩:=aa
           rw [Nat.blt_eq] at aP
           obtain ⟨e,r,aH,cb,cB,fM,fR⟩:=xq
           simp only [du] at fR
           subst fR
           have kV:(lh.filter fun e=>!a.contains e.born)=#[e]:=by
            apply Array.toList_inj.1;rw [L_,aH]
           rw [←fM] at aP ⊢
           let bX:Obj:=.mapIter (some p1.a_) since (a.push e.born) clock
           let aj:World:={w with heap:=w.heap.setIfInBounds p.a_ bX}
           have jN:=(Array.getElem?_eq_some_iff.1 a').1
           have pN:(setObj p.a_ bX).run P w=.ok () aj:=by simp only [setObj,Sem.run,a'];rfl
           have ni:¬since≤e.born:=by omega
           refine ⟨.tuple #[.bool true,e.key,e.val],aj,E,?_,Env.le.refl E,?_,s.set (p:=p) (by rw [aG];rfl) ah cN (by simp [aj]) (fun j bI=>?_) rfl rfl rfl (fun _ _ _ e=>by cases e) ?_⟩
           · simp only [Instr.next,jH,Sem.run_bind,dQ,Result.andThen_ok,AN,L6,Bool.false_eq_true,if_false,kV,Sem.run_pure]
             have aa:(#[e]:Array MapEntry).filter (fun x=>decide (x.born<since))=#[e]:=by simp [aP]
             have ae:(#[e]:Array MapEntry).filter (fun x=>decide (x.born≥since))=#[]:=by simp [aP]
             have kl:(choose (.mapNext 1)).run P w=.ok 0 w:=by simp [choose,Sem.run,Question.forced]
             simp only [aa,ae]
             simp [kl]
             change ((setObj p.a_ bX).run P w).andThen _=_
             rw [pN]
             rfl
           · simp only [Rel,a8]
             exact ⟨_,rfl,_,_,rfl,rfl,_,_,rfl,cb,_,_,rfl,cB,rfl⟩
           · simp only [aj,Array.getElem?_setIfInBounds]
             rw [if_neg (fun e=>bI e.symm)]
           · exact ⟨p,some p1.a_,a.push e.born,ah,cN,jH,by simp [aj,jN,bX],by simp [bn],p1,nk,rfl⟩
theorem Wy {au:Fr} {E:Env} {h ab:af} {w:World} (s:a1 au E h w) {x v:V} {X:Value} (ak:Rel E x X) (he:EM x h=.val v ab):cK au P E w (Instr.entry X) v ab:=by
 unfold EM at he
 obtain ⟨b,off,rfl,aa⟩:=Ov he
 clear he
 have ag:=s.at (p:=_) (by simp only [Rel] at ak;exact ak.choose_spec.1)
 cases aG:h.get b<;>rw [aG] at aa<;>simp only at aa<;>try (cases aa;done)
 rename_i src since seen last
 rw [aG] at ag
 cases ba:Nat.beq off 0 with
 | false=>rw [ba] at aa;cases aa
 | true=>
 rw [ba] at aa
 simp only [cond_true] at aa
 have ba:=Nat.eq_of_beq_eq_true ba
 subst ba
 obtain ⟨p,m,a,ah,cN,jH,a',bn,h6⟩:=ag
 simp only [Rel] at ak
 obtain ⟨q,aC,rfl⟩:=ak
 rw [ah] at aC;cases aC
 have dQ:(getObj p.a_).run P w=.ok (.mapIter m since a last) w:=by simp only [getObj,Sem.run,a']
 cases src with
 | none=>cases aa
 | some c=>
   simp only [rV] at h6
   obtain ⟨p1,nk,rfl⟩:=h6
   simp only at aa
   cases seen with
   | nil=>cases aa
   | cons n aiy=>
   simp only at aa
   obtain ⟨es,clock,FJ,aa⟩:=Hu aa
   have qM:=s.at nk
   rw [FJ] at qM
   obtain ⟨q,lh,g1,_,g3,g4⟩:=qM
   rw [nk] at g1;cases g1
   have AN:(getObj p1.a_).run P w=.ok (.map lh clock) w:=by simp only [getObj,Sem.run,g3]
   rename_i X3 _
   clear X3
   cases h0:Nat.beq clock last with
   | false=>rw [h0] at aa;cases aa
   | true=>
     rw [h0] at aa
     simp only [cond_true] at aa
     have:=Nat.eq_of_beq_eq_true h0
     subst this
     cases pt:wH n es with
     | none=>rw [pt] at aa;cases aa
     | some y=>
       rw [pt] at aa
       simp only [aV.val.injEq] at aa
       obtain ⟨rfl,rfl⟩:=aa
       obtain ⟨e,f1,f2,f3⟩:=JY es _ y g4 pt
       have Ys:a.back? =some n:=by
        have:a.toList.getLast? =some n:=by rw [bn];simp
        simpa using this
       have qN:lh.find? (fun e=>e.born == n)=some e:=by rw [←f1];simp
       refine cK.plain (Z:=.tuple #[e.key,e.val]) s ?_ ?_
       · simp only [Instr.entry,jH,Sem.run_bind,dQ,Result.andThen_ok,Ys,AN,bne_self_eq_false,Bool.false_eq_true,if_false,qN,Sem.run_pure]
       · simp only [Rel,a8]
         exact ⟨_,rfl,_,_,rfl,f2,_,_,rfl,f3,rfl⟩
end
end Go.Proofs.YtkehcalakofigaaGreatDoor.aS
namespace Go.Proofs.YtkehcalakofigaaGreatDoor.aS
variable [Lay]
open Go Go.RowKit
section
variable {P:Program}
theorem Sm {au:Fr} {E:Env} {h ab:af} {w:World} (s:a1 au E h w) {t u e:TypeId} {size:Nat} (Zn:1≤size) {x v:V} {X Y:Value} {ty:TypeId} {n:Nat} {new:List V} {l:List Value}
 (ai:a8 E new l) (jL:new.length=n * size) (fI:n≤top)
 (fo:∀(aj:World) (A:Option Addr) (cD eG:Nat),cD+n≤eG→(∀a,A=some a→(storeCells (a.add (cD * size)) l).run P w=.ok () aj)→(A=none→aj=w)→
   (Builtin.append_ #[t,u] ty #[.slice A cD eG,Y]).run P w=.ok (.slice A (cD+n) eG) aj)
 (pI:∀(A:Option Addr) (cD eG:Nat) (bR:List Value),(∀aj:World,aj.heap=w.heap→(Builtin.firstCells size cD (.slice A cD eG)).run P aj=.ok bR.toArray aj)→¬cD+n≤eG→cD+n≤top→bR.length=cD * size→l.length=n * size→
   ∃cap rest aj,cD+n≤cap∧cap * size≤((bR++l).toArray++rest).size∧
   (Builtin.append_ #[t,u] ty #[.slice A cD eG,Y]).run P w=.ok (.slice (some ⟨w.heap.size,0,none⟩) (cD+n) cap) aj∧
   aj.heap=w.heap.push (.cells ((bR++l).toArray++rest) e)∧aj.os=w.os∧aj.tape=w.tape∧aj.output=w.output)
 (he:Dl size n new x h=.val v ab) (ak:Rel E x X):cK au P E w (Builtin.append_ #[t,u] ty #[X,Y]) v ab:=by
 have nf:l.length=n * size:=by rw [ai.length,jL]
 unfold Dl at he
 cases x<;>simp only at he<;>try (cases he;done)
 · -- a slice of known capacity
   rename_i b off len cap
   simp only [Rel] at ak
   obtain ⟨p,ah,pC,rfl⟩:=ak
   simp only [tR] at he
   cases fe:Nat.ble (len+n) cap with
   | true=>
     rw [fe] at he
     simp only [cond_true] at he
     rw [Nat.ble_eq] at fe
     cases ji:lay h b (off+len * size) new with
     | none=>rw [ji] at he;cases he
     | some aa=>
     rw [ji] at he
     simp only [aV.val.injEq] at he
     obtain ⟨rfl,rfl⟩:=he
     obtain ⟨aj,cn,hM⟩:=vb (P:=P) s ai ji ah
     refine ⟨_,aj,E,fo aj _ _ _ fe (fun a bn=>?_) (fun bn=>by cases bn),Env.le.refl E,?_,hM⟩
     · cases bn
       rw [add_eq,Nat.add_assoc]
       exact cn
     · simp only [Rel];exact ⟨p,ah,fe,rfl⟩
   | false=>
     rw [fe] at he
     simp only [cond_false] at he
     have Gj:¬len+n≤cap:=by rw [←Nat.ble_eq,fe];simp
     obtain ⟨ag,he⟩:=jb he
     simp only [Bool.and_eq_true,Nat.ble_eq] at ag
     cases hold:mG h size b off len with
     | none=>rw [hold] at he;cases he
     | some bR=>
     rw [hold] at he
     simp only at he
     cases e3:hf h (bR++new) size false with
     | none=>rw [e3] at he;cases he
     | some aa=>
     rw [e3] at he
     simp only [aV.val.injEq] at he
     obtain ⟨rfl,rfl⟩:=he
     obtain ⟨q,bG,aC,ek,pH,gr⟩:=vK (P:=P) s ⟨p,ah⟩ hold
     rw [ah] at aC;cases aC
     obtain ⟨c,rest,aj,cb,cB,fM,fR,jV,nr,ns⟩:=pI (some ⟨p.a_,p.base+off,none⟩) (len) (cap) _
      (fun aj hw=>by simp only [Builtin.firstCells];exact gr aj hw) Gj ag.1 (by rw [ek.length,pH]) nf
     obtain ⟨ar,g1,g2,g3⟩:=s4 (aj:=aj) (bL:=(0,0)) s (ek.append ai) e3 cB (.inr (Nat.le_refl _)) (fun _=>rfl) fR jV nr ns
     refine ⟨_,aj,ar,fM,g1,?_,g3⟩
     simp only [Rel]
     exact ⟨_,g2,by simp only;omega,by simp⟩
 · -- one that was appended to
   rename_i b off len idx
   have xN:=ak
   simp only [Rel] at ak
   obtain ⟨p,ah,Mc,rfl⟩:=ak
   simp only [tQ] at he
   cases hs:Nat.beq n 0 with
   | true=>
     rw [hs] at he
     simp only [cond_true] at he
     cases he
     rw [Nat.beq_eq] at hs
     subst hs
     have lG:l=[]:=by cases l with | nil=>rfl | cons _ _=>simp at nf
     subst lG
     refine ⟨_,w,E,fo w _ _ _ (by omega) (fun a _=>rfl) (fun bn=>by cases bn),Env.le.refl E,?_,s⟩
     simpa using xN
   | false=>
     rw [hs] at he
     simp only [cond_false] at he
     have m_:=s.at ah
     cases aG:h.get b with
     | dead=>rw [aG] at he;cases he
     | view _ _=>rw [aG] at he;cases he
     | iter _ _=>rw [aG] at he;cases he
     | mp _ _=>rw [aG] at he;cases he
     | cY _=>rw [aG] at he;cases he
     | eu=>rw [aG] at he;cases he
     | gx _=>rw [aG] at he;cases he
     | hv _ _ _ _=>rw [aG] at he;cases he
     | cells N cs cv st=>
       rw [aG] at he m_
       simp only [bW.on] at he
       obtain ⟨ag,he⟩:=jb he
       simp only [Bool.and_eq_true,Nat.ble_eq,Nat.beq_eq] at ag
       obtain ⟨⟨FA,F',Ga⟩,xx⟩:=ag
       cases hold:mG h size b off len with
       | none=>rw [hold] at he;cases he
       | some bR=>
       rw [hold] at he
       simp only at he
       cases e3:hf (h.set b .dead) (bR++new) size st with
       | none=>rw [e3] at he;cases he
       | some aa=>
       rw [e3] at he
       simp only [aV.val.injEq] at he
       obtain ⟨rfl,rfl⟩:=he
       obtain ⟨q,bG,aC,ek,pH,gr⟩:=vK (P:=P) s ⟨p,ah⟩ hold
       rw [ah] at aC;cases aC
       obtain ⟨bx,q,c,el,bL,aN,cN,a',oe,cn,kW,bt⟩:=m_
       rw [ah] at aN;cases aN
       have xz:=Zn
       have kW:=kW (by omega)
       rw [FA] at kW
       have yF:=s.kill ah
       by_cases fe:len+n≤p.cap-idx
       · -- in place
         have aP:=(Array.getElem?_eq_some_iff.1 a').1
         have YW:(idx+len+n) * size≤p.cap * size:=Nat.mul_le_mul_right _ (by omega)
         have hbound:p.base+off+len * size+0+l.length≤c.size:=by
          rw [nf,xx]
          have:(idx+len+n) * size=idx * size+len * size+n * size:=by rw [Nat.add_mul,Nat.add_mul]
          omega
         have xK:=Cd (P:=P) aP el bL (p.base+off+len * size) l c 0 (BE Ga ai) hbound oe
         rw [IB a',Nat.add_zero] at xK
         have Gm:=fo (jw w p.a_ (nt c (p.base+off+len * size) l) el bL) (some ⟨p.a_,p.base+off,none⟩) _ _ fe
          (fun a bn=>by cases bn;rw [add_eq];exact xK) (fun bn=>by cases bn)
         unfold hf at e3
         obtain ⟨ao,e3⟩:=dL e3
         simp only [Bool.and_eq_true,Nat.ble_eq] at ao
         simp only [Option.some.injEq] at e3
         subst e3
         have c7:=s.fresh h.next (Nat.le_refl _)
         have hle:E.le (E.put (ay h.next) ⟨p.a_,p.base+off,p.cap-idx⟩):=Env.jn c7
         have dj:E.put (ay h.next) ⟨p.a_,p.base+off,p.cap-idx⟩ (ay h.next)=some ⟨p.a_,p.base+off,p.cap-idx⟩:=by unfold Env.put;rw [if_pos rfl]
         refine ⟨_,_,_,Gm,hle,?_,a1.add (p:=⟨p.a_,p.base+off,p.cap-idx⟩) yF (by rw [IC];exact Nat.le_refl _) (fun j _ bI=>IA _ _ _ bI) cN (fun bC dS fq lK heq=>?_) rfl rfl rfl (fun _ _ _ e=>by injection e with _ _ cz;omega) ?_⟩
         · simp only [Rel]
           exact ⟨_,dj,by simp only;omega,by simp⟩
         · rw [af.di] at fq
           by_cases ga:b=bC
           · rw [if_pos ga] at fq;cases fq
           · rw [if_neg ga] at fq
             exact ga (s.inj b bC p dS (by rw [aG];rfl) fq ah lK heq.symm)
         · have FU:(bR++new).length=(len+n) * size:=by rw [List.length_append,pH,jL,Nat.add_mul]
           have YM:(len+n) * size=len * size+n * size:=Nat.add_mul _ _ _
           refine ⟨ao.1,_,_,el,bL,dj,cN,yQ aP _ _ _,by rw [oA];exact oe,cn,fun _=>?_,?_⟩
           · rw [oA]
             simp only
             have:idx * size + (p.cap-idx) * size=p.cap * size:=by rw [←Nat.add_mul];congr 1;omega
             omega
           · refine ⟨by rw [oA,FU,Nat.add_mul];simp only;omega,fun i y az a6=>?_⟩
             rw [yz _ _ _ _ (by omega) (by omega),if_pos (by omega),Nat.sub_zero]
             rw [Bd _ _ _ _ (by omega)] at a6
             simp only at a6
             by_cases cc:i<len * size
             · rw [if_neg (by omega)] at a6
               rw [List.getElem?_append_left (by omega)]
               have dQ:=gr w rfl
               have Gg:=run_loadCells (P:=P) (w:=w) (off:=p.base+off) (n:=len * size) a' (by omega)
               rw [Gg] at dQ
               simp only [Result.ok.injEq,and_true] at dQ
               have xr:bG=(c.toList.drop (p.base+off)).take (len * size):=by
                have:=congrArg Array.toList dQ
                simpa using this.symm
               obtain ⟨ql,gR,aH⟩:=ek.get i bR[i] (List.getElem?_eq_getElem (by omega))
               rw [List.getElem?_eq_getElem (by omega)]
               rw [xr] at gR
               rw [List.getElem?_take_of_lt (by omega),List.getElem?_drop] at gR
               simp only [Array.getElem?_toList] at gR
               rw [a6] at gR
               cases gR
               exact Rel.mono hle _ _ aH
             · rw [if_pos (by omega)] at a6
               rw [List.getElem?_append_right (by omega)]
               have cz:p.base+off+i - (p.base+off+len * size)=i-bR.length:=by omega
               rw [cz] at a6
               have xt:i-bR.length<new.length:=by omega
               obtain ⟨ql,gR,aH⟩:=ai.get (i-bR.length) new[i-bR.length] (List.getElem?_eq_getElem xt)
               rw [a6] at gR;cases gR
               rw [List.getElem?_eq_getElem xt]
               exact Rel.mono hle _ _ aH
       · -- elsewhere
         obtain ⟨bN,rest,aj,cb,cB,fM,fR,jV,nr,ns⟩:=pI (some ⟨p.a_,p.base+off,none⟩) (len) (p.cap-idx) _
          (fun aj hw=>by simp only [Builtin.firstCells];exact gr aj hw) fe F' (by rw [ek.length,pH]) nf
         obtain ⟨ar,g1,g2,g3⟩:=s4 (aj:=aj) (bL:=(0,0)) yF (ek.append ai) e3 cB (.inr (Nat.le_refl _)) (fun _=>rfl) fR jV nr ns
         refine ⟨_,aj,ar,fM,g1,?_,g3⟩
         simp only [Rel]
         exact ⟨_,g2,by simp only;omega,by simp⟩
 · -- nil
   simp only [Rel] at ak
   subst ak
   simp only [tT] at he
   cases hs:Nat.beq n 0 with
   | true=>
     rw [hs] at he
     simp only [cond_true] at he
     cases he
     rw [Nat.beq_eq] at hs
     subst hs
     exact cK.plain s (fo w _ _ _ (by omega) (fun a bn=>by cases bn) (fun _=>rfl)) (by simp [Rel])
   | false=>
     rw [hs] at he
     simp only [cond_false] at he
     have pG:¬n=0:=by intro e;subst e;simp at hs
     cases e3:hf h new size false with
     | none=>rw [e3] at he;cases he
     | some aa=>
     rw [e3] at he
     simp only [aV.val.injEq] at he
     obtain ⟨rfl,rfl⟩:=he
     obtain ⟨c,rest,aj,cb,cB,fM,fR,jV,nr,ns⟩:=pI (none) (0) (0) []
      (fun aj _=>by simp [Builtin.firstCells]) (by omega) (by omega) (by simp) nf
     obtain ⟨ar,g1,g2,g3⟩:=s4 (aj:=aj) (bL:=(0,0)) s ai e3 cB (.inr (Nat.le_refl _)) (fun _=>rfl) fR jV nr ns
     refine ⟨_,aj,ar,fM,g1,?_,g3⟩
     simp only [Rel]
     exact ⟨_,g2,by simp only;omega,by simp⟩
structure De (P:Program) (t u e:TypeId) (size bytes:Nat) (k:IntKind) (z:Value):Prop where
 ut:∀w,(underlying t).run P w=.ok (.slice e) w
 qh:∀w,(underlying u).run P w=.ok (.int k) w
 iW:∀w,(sizeOf e).run P w=.ok size w
 zP:∀w,∃i,(typeInfo e).run P w=.ok i w∧i.bytes=bytes
 vP:∀w,(zeroValue e).run P w=.ok z w
 fX:z.cells.size=size
 pos:1≤size
 small:bytes≤4096
theorem QT (c:Array Value):Builtin.zeroCells c 0=#[]:=by simp [Builtin.zeroCells]
theorem afu {t u e:TypeId} {size bytes:Nat} {k:IntKind} {z:Value} (H:De P t u e size bytes k z) {n:Nat} (aZ:n≤100000) {ty:TypeId} {w aj:World} {A:Option Addr} {cD eG:Nat} (fe:cD+n≤eG)
 (cn:∀a,A=some a→(storeCells (a.add (cD * size)) (Builtin.zeroCells z.cells n).toList).run P w=.ok () aj) (c7:A=none→aj=w):
 (Builtin.append_ #[t,u] ty #[.slice A cD eG,.int .i64 n]).run P w=.ok (.slice A (cD+n) eG) aj:=by
 have hw:IntKind.i64.wrap (n:Int)=n:=by unfold IntKind.wrap;simp [IntKind.bits,IntKind.signed];omega
 obtain ⟨i,az,qP⟩:=H.zP w
 have qI:¬(281474976710656 < (n:Int) * (i.bytes:Int)):=by
  rw [qP]
  have aa:n * bytes≤100000 * 4096:=Nat.mul_le_mul aZ H.small
  have ae:((n * bytes:Nat):Int)=(n:Int) * (bytes:Int):=Int.natCast_mul _ _
  omega
 have AU:¬((n:Int)<0):=by omega
 have b5:size≠0:=by have:=H.pos;omega
 have bn:∀w,(asInt (.int .i64 (n:Int))).run P w=.ok (n:Int) w:=fun w=>by simp [asInt,asIntOf]
 have AH:∀w,(asInt (.int .i64 0)).run P w=.ok 0 w:=fun w=>by simp [asInt,asIntOf]
 have u5:IntKind.i64.wrap 0=0:=by decide
 cases A with
 | none=>
   have:=c7 rfl;subst this
   by_cases ba:n=0
   · subst ba
     simp [Builtin.append_,H.ut,H.qh,H.iW,AH,az,u5,(show cD≤eG from by omega)]
   · simp [Builtin.append_,H.ut,H.qh,H.iW,H.vP,bn,az,qI,hw,fe,AU,b5,ba]
 | some a=>
   have:=cn a rfl
   by_cases ba:n=0
   · subst ba
     rw [QT] at this
     simp [Builtin.append_,H.ut,H.qh,H.iW,AH,az,u5,(show cD≤eG from by omega),this]
   · simp [Builtin.append_,H.ut,H.qh,H.iW,H.vP,bn,az,qI,hw,fe,AU,Nat.mul_ne_zero ba b5,this]
theorem afv {t u e:TypeId} {size bytes:Nat} {k:IntKind} {z:Value} (H:De P t u e size bytes k z) {n:Nat} (aZ:n≤100000) {ty:TypeId} {w:World} (A:Option Addr) (cD eG:Nat) (bR:List Value)
 (hold:∀aj:World,aj.heap=w.heap→(Builtin.firstCells size cD (.slice A cD eG)).run P aj=.ok bR.toArray aj) (fe:¬cD+n≤eG) (xJ:cD+n≤top) (aR:bR.length=cD * size) (ai:(Builtin.zeroCells z.cells n).toList.length=n * size):
 ∃cap rest aj,cD+n≤cap∧cap * size≤((bR++(Builtin.zeroCells z.cells n).toList).toArray++rest).size∧
  (Builtin.append_ #[t,u] ty #[.slice A cD eG,.int .i64 n]).run P w=.ok (.slice (some ⟨w.heap.size,0,none⟩) (cD+n) cap) aj∧
  aj.heap=w.heap.push (.cells ((bR++(Builtin.zeroCells z.cells n).toList).toArray++rest) e)∧aj.os=w.os∧aj.tape=w.tape∧aj.output=w.output:=by
 have hw:IntKind.i64.wrap (n:Int)=n:=by simp only [IntKind.wrap,IntKind.bits,IntKind.signed];simp;omega
 obtain ⟨i,az,qP⟩:=H.zP w
 have lL:P.info? e=some i:=by
  simp only [typeInfo,Sem.run_bind,run_program,Result.andThen_ok] at az
  cases aC:P.info? e with
  | none=>rw [aC] at az;simp at az
  | some j=>rw [aC] at az;simp at az;rw [az]
 have sv:∀aj,(typeInfo e).run P aj=.ok i aj:=fun aj=>vE lL aj
 have Z':¬(281474976710656 < (n:Int) * (i.bytes:Int)):=by
  rw [qP]
  have aa:n * bytes≤100000 * 4096:=Nat.mul_le_mul aZ H.small
  have ae:((n * bytes:Nat):Int)=(n:Int) * (bytes:Int):=Int.natCast_mul _ _
  omega
 have qI:¬(281474976710656<Builtin.nextslicecap (cD+n) eG * i.bytes):=by
  have aa:eG<cD+n:=by omega
  have:=growslice_fits (bytes:=i.bytes) aa (by
   rw [qP]
   have ae:(cD+n) * bytes≤top * 4096:=Nat.mul_le_mul xJ H.small
   unfold top at ae
   omega)
  omega
 have g_:¬(9223372036854775807 < ((cD:Int) + (n:Int))):=by unfold top at xJ;omega
 have AU:¬((n:Int)<0):=by omega
 have b5:size≠0:=by have:=H.pos;omega
 have bn:∀w,(asInt (.int .i64 (n:Int))).run P w=.ok (n:Int) w:=fun w=>by simp [asInt,asIntOf]
 have AH:∀w,(asInt (.int .i64 0)).run P w=.ok 0 w:=fun w=>by simp [asInt,asIntOf]
 have u5:IntKind.i64.wrap 0=0:=by decide
 let q:Question:=.appendCap (cD+n) eG e
 let cap:=q.cut (w.tape w.drawn q)
 have kW:cD+n≤cap:=by show cD+n≤(cD+n)+_;omega
 refine ⟨cap,Builtin.zeroCells z.cells (cap - (cD+n)),w.drew.alloc (.cells ((bR++(Builtin.zeroCells z.cells n).toList).toArray++Builtin.zeroCells z.cells (cap - (cD+n))) e),kW,?_,?_,rfl,rfl,rfl,rfl⟩
 · simp only [Array.size_append,List.size_toArray,List.length_append,aR,ai]
   have:(Builtin.zeroCells z.cells (cap - (cD+n))).size=(cap - (cD+n)) * size:=by simp [Builtin.zeroCells,H.fX]
   rw [this,←Nat.add_mul,←Nat.add_mul]
   exact Nat.mul_le_mul_right _ (by omega)
 · have f2:=hold w.drew rfl
   by_cases ba:n=0
   · subst ba
     have ZB:¬cD≤eG:=by omega
     have Yr:¬(9223372036854775807 < (cD:Int)):=by omega
     rw [Nat.add_zero] at qI
     simp [Builtin.append_,H.ut,H.qh,H.iW,H.vP,AH,u5,sv,ZB,qI,Yr,Question.forced,f2,newRow]
     refine ⟨rfl,?_⟩
     have aN:(bR++(Builtin.zeroCells z.cells 0).toList).toArray=bR.toArray:=by rw [QT];simp
     rw [aN]
     rfl
   · simp [Builtin.append_,H.ut,H.qh,H.iW,H.vP,bn,hw,Z',AU,Nat.mul_ne_zero ba b5,fe,sv,qI,g_,Question.forced,f2,newRow]
     refine ⟨rfl,?_⟩
     have aN:(bR++(Builtin.zeroCells z.cells n).toList).toArray=bR.toArray++Builtin.zeroCells z.cells n:=by simp
     rw [aN,Array.append_assoc]
end
end Go.Proofs.YtkehcalakofigaaGreatDoor.aS
namespace Go.Proofs.YtkehcalakofigaaGreatDoor.aS
variable [Lay]
open Go Go.RowKit
section
variable {P:Program}
abbrev bU (rd:Option Nat):Fence:={fn:=fun _=>True,depth:=none,alive:=false,round:=rd}
theorem qA {rd:Option Nat} {n:Nat} {f:FuncId} {args:Array Value} {w:World} {R:Ending→World→Prop}:CallsIn (bU rd) n P f args w R↔Calls P f args w R:=callsIn_wide
theorem H5 {rd:Option Nat} (n:Nat):(bU rd).room n:=fun _ h=>by simp [bU] at h
abbrev nA (x:Value):List PanicEntry:=[{v:=x,recovered:=false}]
structure fv (P:Program) (call:dc):Prop where
 fn:∀(au:Fr) f args h v ab,f≠cR→call f args h=.val v ab→∀E w xs,a8 E args xs→a1 au E h w→
  ((∃fn,P.funcs[f]? =some fn∧fn.body.isSome=true)∧Calls P f xs.toArray w fun e aj=>∃ar x,e=.returned x∧E.le ar∧Rel ar v x∧a1 au ar ab aj)∨
  ∃ar x aj,(callFunc f xs.toArray).run P w=.ok (.value x) aj∧E.le ar∧Rel ar v x∧a1 au ar ab aj
 ck:∀(au:Fr) f args h v ab,f≠cR→call f args h=.ck v ab→∀E w xs,a8 E args xs→a1 au E h w→
  (∃fn,P.funcs[f]? =some fn∧fn.body.isSome=true)∧Calls P f xs.toArray w fun e aj=>∃ar x,e=.panicked (nA x)∧E.le ar∧Rel ar v x∧a1 au ar ab aj
 QP:∀(au:Fr) args b h v ab,call cR (args++[.ptr b 0]) h=.val v ab→∀E w xs p,a8 E args xs→a1 au E h w→E b=some p→
  ∃f tmps assign body,(Instr.yield p.a_ xs.toArray).run P w=.ok (.round p.a_ f tmps assign body) w∧
   RoundIn (bU none) 0 P p.a_ f tmps assign body w fun e aj=>∃ar x,e=.returned x∧E.le ar∧Rel ar v x∧a1 au ar ab aj
 QS:∀args h v ab,call cR args h≠.ck v ab
theorem nG {rd:Option Nat} {o:Oper} (mf:∀c,o.op≠.defer c) (ρ:Operand→Value):o.semAt (bU rd).round ρ=execOp ρ o:=Oper.semAt_eq _ ρ o mf
theorem fk {rd:Option Nat} {o:Oper} {a:Act} {w:World} {au:Fr} {E:Env} {ab:af} {v:V} {m:Sem Value} {K:Act→World→Prop} {Q:Exit→Act→World→Prop}
 (ak:execOp a.eval o=(do pure (.value (←m)))) (g:cK au P E w m v ab) (dk:∀ar x aj,E.le ar→Rel ar v x→a1 au ar ab aj→K (a.put o.dst x) aj) (mf:∀c,o.op≠.defer c:=by intro c h;cases h):
 o.wpIn (bU rd) 0 P a w K Q:=by
 obtain ⟨Z,aj,ar,aa,ae,aF,bu⟩:=g
 refine ⟨fun _ _=>trivial,?_⟩
 rw [nG mf,ak,Sem.run_bind,aa]
 exact dk ar Z aj ae aF bu
theorem BL {E:Env} {an:Nat} {r:br} {a:Act} (k:RegRel0 E an r a):∀l:List (Nat × Operand),o3 E ((re l).run r) (l.map fun (i,x)=>(i,a.eval x))
 | []=>rfl
 | (i,x)::l=>by
   simp only [re,List.map,o3]
   exact ⟨_,_,rfl,de k x,BL k l⟩
theorem BI {E:Env} {an:Nat} {r:br} {a:Act} (k:RegRel0 E an r a) (x:Option Operand):gy E ((oG x).run r) (x.map a.eval):=by
 cases x with
 | none=>rfl
 | some x=>simp only [oG,gy,Option.map];exact ⟨_,rfl,de k x⟩
theorem ad6 {v:V} {f:aO→Nat→aV} {r:V} {h:af} (he:v.hQ .fail f=.val r h):∃b off,v=.ptr b off∧f b off=.val r h:=by
 cases v<;>simp only [V.hQ] at he<;>first
  | (cases he;done)
  | exact ⟨_,_,rfl,he⟩
theorem adI {au:Fr} {E:Env} {h ab:af} {w:World} (s:a1 au E h w) {x v:V} {X:Value} {ty:TypeId} (ak:Rel E x X) (he:s6 x h=.val v ab):cK au P E w (Instr.next X true ty) v ab:=by
 unfold s6 at he
 obtain ⟨b,off,rfl,aa⟩:=ad6 he
 have ag:=s.at (p:=_) (by simp only [Rel] at ak;exact ak.choose_spec.1)
 cases aG:h.get b with
 | dead=>rw [aG] at aa;cases aa
 | view _ _=>rw [aG] at aa;cases aa
 | cells _ _ _ _=>rw [aG] at aa;cases aa
 | mp _ _=>rw [aG] at aa;cases aa
 | cY _=>rw [aG] at aa;cases aa
 | eu=>rw [aG] at aa;cases aa
 | gx _=>rw [aG] at aa;cases aa
 | hv _ _ _ _=>rw [aG] at aa;cases aa
 | iter st pos=>
   rw [aG] at aa ag
   simp only at aa
   obtain ⟨ba,ae⟩:=jb aa
   rw [Nat.beq_eq] at ba
   subst ba
   obtain ⟨p,ah,cN,jH,a'⟩:=ag
   simp only [Rel] at ak
   obtain ⟨q,aC,rfl⟩:=ak
   rw [ah] at aC;cases aC
   have dQ:(getObj p.a_).run P w=.ok (.stringIter ⟨⟨st⟩⟩ pos) w:=by simp only [getObj,Sem.run,a']
   have b5:(⟨⟨st⟩⟩:ByteArray).size=st.length:=rfl
   cases aP:Nat.blt pos st.length with
   | true=>
     rw [aP] at ae
     simp only [cond_true,aV.val.injEq] at ae
     obtain ⟨rfl,rfl⟩:=ae
     rw [Nat.blt_eq] at aP
     let bX:Obj:=.stringIter ⟨⟨st⟩⟩ (pos + (decodeL st pos).2)
     let aj:World:={w with heap:=w.heap.setIfInBounds p.a_ bX}
     have jN:=(Array.getElem?_eq_some_iff.1 a').1
     have pN:(setObj p.a_ bX).run P w=.ok () aj:=by simp only [setObj,Sem.run,a'];rfl
     refine ⟨.tuple #[.bool true,goInt pos,.int .i32 (decodeL st pos).1],aj,E,?_,Env.le.refl E,?_,s.set (p:=p) (by rw [aG];rfl) ah cN (by simp [aj]) (fun j bI=>?_) rfl rfl rfl (fun _ _ _ e=>by cases e) ?_⟩
     · simp only [Instr.next,jH,Sem.run_bind,dQ,Result.andThen_ok,b5,if_pos aP]
       have:(Utf8.decode (⟨⟨st⟩⟩:ByteArray) pos)=decodeL st pos:=rfl
       simp only [this]
       rw [pN]
       rfl
     · simp only [Rel,a8]
       exact ⟨_,rfl,_,_,rfl,rfl,_,_,rfl,rfl,_,_,rfl,rfl,rfl⟩
     · simp only [aj,Array.getElem?_setIfInBounds]
       rw [if_neg (fun e=>bI e.symm)]
     · exact ⟨p,ah,cN,jH,by simp [aj,jN,bX]⟩
   | false=>
     rw [aP] at ae
     simp only [cond_false,aV.val.injEq] at ae
     obtain ⟨rfl,rfl⟩:=ae
     have nh:¬pos<st.length:=by rw [←Nat.blt_eq,aP];simp
     refine cK.plain (Z:=.tuple #[.bool false]) s ?_ ?_
     · simp only [Instr.next,jH,Sem.run_bind,dQ,Result.andThen_ok,b5,if_neg nh,Sem.run_pure]
     · simp only [Rel,a8]
       exact ⟨_,rfl,_,_,rfl,rfl,rfl⟩
theorem ae' {au:Fr} {E:Env} {h ab:af} {w:World} (s:a1 au E h w) {t:TypeId} {x v:V} {X:Value} (ak:Rel E x X) (he:(B4 P t).run x h=.val v ab):cK au P E w (Instr.range t X) v ab:=by
 unfold B4 at he
 cases aD:a7 P t with
 | none=>rw [aD] at he;cases he
 | some aM=>
   rw [aD] at he
   simp only at he
   have hu:=eK aD
   cases bJ:aM.bb with
   | string=>
     rw [bJ] at he hu
     simp only at he
     cases x<;>simp only at he<;>try (cases he;done)
     rename_i st
     simp only [aV.val.injEq] at he
     obtain ⟨rfl,rfl⟩:=he
     have:=ak.qd;subst this
     have c7:=s.fresh h.next (Nat.le_refl _)
     have dj:E.put (ay h.next) ⟨w.heap.size,0,0⟩ (ay h.next)=some ⟨w.heap.size,0,0⟩:=by unfold Env.put;rw [if_pos rfl]
     refine ⟨.pointer (some ⟨w.heap.size,0,none⟩),{w with heap:=w.heap.push (.stringIter ⟨⟨st⟩⟩ 0)},_,?_,Env.jn (p:=⟨w.heap.size,0,0⟩) c7,?_,s.alloc 0 ?_⟩
     · simp only [Instr.range,Sem.run_bind,hu,Result.andThen_ok,Sem.run_pure,run_newObj]
     · simp only [Rel];exact ⟨_,dj,by simp⟩
     · exact ⟨_,dj,s.frame.size,rfl,by simp⟩
   | map bV iF=>
     rw [bJ] at he hu
     exact ae_ s (hu w) ak he
   | _=>rw [bJ] at he;cases he
theorem Sj {au:Fr} {E:Env} {h ab:af} {w:World} (s:a1 au E h w) {t u:TypeId} {x y v:V} {X Y:Value} {ty:TypeId}
 (he:(zB P t u).run x y h=.val v ab) (ak:Rel E x X) (a6:Rel E y Y):cK au P E w (Builtin.append_ #[t,u] ty #[X,Y]) v ab:=by
 unfold zB at he
 cases aD:a7 P t with
 | none=>rw [aD] at he;cases he
 | some aM=>
   cases hu:a7 P u with
   | none=>rw [aD,hu] at he;cases he
   | some qg=>
     rw [aD,hu] at he
     simp only at he
     have main:(∀k,qg.bb≠.int k)→(match aM.bb with
      | .slice e=>match a7 P e with
        | none=>(⟨fun _ _ _=>.fail⟩:yY)
        | some bd=>match bd.zero with
          | none=>⟨fun _ _ _=>.fail⟩
          | some z=>bif Nat.ble 1 bd.size&&Nat.ble bd.bytes 4096&&Nat.beq z.cells.length bd.size then ⟨lz bd.size⟩ else ⟨fun _ _ _=>.fail⟩
      | _=>⟨fun _ _ _=>.fail⟩).run x y h=.val v ab→cK au P E w (Builtin.append_ #[t,u] ty #[X,Y]) v ab:=by
      intro oj he
      cases bJ:aM.bb with
      | slice e=>
        rw [bJ] at he
        simp only at he
        cases cf:a7 P e with
        | none=>rw [cf] at he;cases he
        | some bd=>
          rw [cf] at he
          simp only at he
          cases bh:bd.zero with
          | none=>rw [bh] at he;cases he
          | some z=>
            rw [bh] at he
            simp only at he
            cases ao:(Nat.ble 1 bd.size&&Nat.ble bd.bytes 4096&&Nat.beq z.cells.length bd.size) with
            | false=>rw [ao] at he;cases he
            | true=>
              rw [ao] at he
              simp only [cond_true] at he
              simp only [Bool.and_eq_true,Nat.ble_eq,Nat.beq_eq] at ao
              obtain ⟨oT,xO,_,ov⟩:=rD (P:=P) (E:=E) cf bh w
              refine Sl s ⟨fun w=>?_,⟨qg.bb,fun w=>eK hu w,oj⟩,fun w=>ix cf w,fun w=>H9 cf w,⟨oT,xO,by rw [ov];exact ao.2⟩,ao.1.1,ao.1.2⟩ he ak a6
              have:=eK aD w
              rw [bJ] at this
              exact this
      | _=>rw [bJ] at he;cases he
     cases u3:qg.bb with
     | int k=>
       rw [u3] at he
       simp only at he
       cases bJ:aM.bb with
       | slice e=>
         rw [bJ] at he
         simp only at he
         cases cf:a7 P e with
         | none=>rw [cf] at he;cases he
         | some bd=>
           rw [cf] at he
           simp only at he
           cases bh:bd.zero with
           | none=>rw [bh] at he;cases he
           | some z=>
             rw [bh] at he
             simp only at he
             cases ao:(Nat.ble 1 bd.size&&Nat.ble bd.bytes 4096&&Nat.beq z.cells.length bd.size) with
             | false=>rw [ao] at he;cases he
             | true=>
               rw [ao] at he
               simp only [cond_true] at he
               simp only [Bool.and_eq_true,Nat.ble_eq,Nat.beq_eq] at ao
               obtain ⟨oT,xO,GC,ov⟩:=rD (P:=P) (E:=E) cf bh w
               have u4:∀w,(underlying t).run P w=.ok (.slice e) w:=fun w=>by have:=eK aD w;rw [bJ] at this;exact this
               have Gs:∀w,(underlying u).run P w=.ok (.int k) w:=fun w=>by have:=eK hu w;rw [u3] at this;exact this
               have H:De P t u e bd.size bd.bytes k oT:=⟨u4,Gs,fun w=>ix cf w,fun w=>H9 cf w,xO,by rw [ov];exact ao.2,ao.1.1,ao.1.2⟩
               unfold JF at he
               split at he
               case h_2=>cases he
               rename_i cJ m
               split at he
               case h_2=>cases he
               rename_i n
               obtain ⟨nb,bp⟩:=jb he
               simp only [Bool.and_eq_true,Nat.ble_eq] at nb
               have aA:=qD nb.1
               subst aA
               simp only [Rel] at a6
               subst a6
               have Gi:=yC GC n
               have hlen:(hh z.cells n).length=n * bd.size:=by
                rw [←Gi.length]
                simp [Builtin.zeroCells,ov,ao.2]
               exact Sm s ao.1.1 Gi hlen (by have:=nb.2;unfold top;omega) (fun aj A cD eG a b c=>afu H nb.2 a b c) (fun A cD eG bR a b c d f=>afv H nb.2 A cD eG bR a b c d f) bp ak
       | _=>rw [bJ] at he;cases he
     | _=>rw [u3] at he;exact main (by rw [u3];simp) he
theorem V' {au:Fr} {E:Env} {h ab:af} {w:World} (s:a1 au E h w) {t:TypeId} {rest:List TypeId} {x y v:V} {X Y:Value} {ty:TypeId}
 (he:(zZ P t).run x y h=.val v ab) (ak:Rel E x X) (a6:Rel E y Y):cK au P E w (Builtin.copy_ (t::rest).toArray ty #[X,Y]) v ab:=by
 unfold zZ at he
 cases aD:a7 P t with
 | none=>rw [aD] at he;cases he
 | some aM=>
   rw [aD] at he
   simp only at he
   cases bJ:aM.bb with
   | slice e=>
     rw [bJ] at he
     simp only at he
     cases cf:a7 P e with
     | none=>rw [cf] at he;cases he
     | some bd=>
       rw [cf] at he
       simp only at he
       exact V_ s (fun w=>by have:=eK aD w;rw [bJ] at this;exact this) (fun w=>ix cf w) he ak a6
   | _=>rw [bJ] at he;cases he
theorem VR {au:Fr} {E:Env} {h ab:af} {w:World} (s:a1 au E h w) {t:TypeId} {x v:V} {X:Value} {ty:TypeId} {z:List V} (ao:wM P t=some z)
 (he:zY z x h=.val v ab) (ak:Rel E x X):cK au P E w (Builtin.clear_ #[t] ty #[X]) v ab:=by
 unfold wM at ao
 cases aD:a7 P t with
 | none=>rw [aD] at ao;cases ao
 | some aM=>
   rw [aD] at ao
   simp only at ao
   cases bJ:aM.bb with
   | slice e=>
     rw [bJ] at ao
     simp only at ao
     cases cf:a7 P e with
     | none=>rw [cf] at ao;cases ao
     | some bd=>
       rw [cf] at ao
       simp only at ao
       cases bh:bd.zero with
       | none=>rw [bh] at ao;cases ao
       | some z0=>
         rw [bh] at ao
         simp only [Option.some.injEq] at ao
         subst ao
         have hu:∀w,(underlying t).run P w=.ok (.slice e) w:=fun w=>by have:=eK aD w;rw [bJ] at this;exact this
         obtain ⟨z,ku,GC,MV⟩:=rD (P:=P) (E:=E) cf bh w
         have nothing:∀a c,X=.slice a 0 c→v=.tuple []→ab=h→cK au P E w (Builtin.clear_ #[t] ty #[X]) v ab:=by
          intro a c cQ bp a'
          subst cQ bp a'
          refine ⟨.tuple #[],w,E,?_,Env.le.refl E,?_,s⟩
          · cases a<;>simp [Builtin.clear_,Sem.run_bind,hu,Result.andThen_ok,Sem.run_pure]
          · simp only [Rel];exact ⟨_,rfl,rfl⟩
         have P4:∀(b:aO) (off n c:Nat) (p:hn),E b=some p→X=.slice (some ⟨p.a_,p.base+off,none⟩) n c→(bif Nat.beq n 0 then (aV.val (.tuple []) h) else (match lay h b off (hh z0.cells n) with
          | some ab=>aV.val (.tuple []) ab
          | none=>.fail))=.val v ab→cK au P E w (Builtin.clear_ #[t] ty #[X]) v ab:=by
          intro b off n c p ah cQ he
          cases n with
          | zero=>
            simp only [Nat.beq_refl,cond_true,aV.val.injEq] at he
            exact nothing _ _ cQ he.1.symm he.2.symm
          | succ n=>
            simp only [show Nat.beq (n+1) 0=false from rfl,cond_false] at he
            cases ai:lay h b off (hh z0.cells (n+1)) with
            | none=>rw [ai] at he;cases he
            | some aa=>
              rw [ai] at he
              simp only [aV.val.injEq] at he
              obtain ⟨rfl,rfl⟩:=he
              obtain ⟨aj,g1,g2⟩:=vb (P:=P) s (yC GC (n+1)) ai ah
              subst cQ
              refine ⟨.tuple #[],aj,E,?_,Env.le.refl E,?_,g2⟩
              · simp only [Builtin.clear_,Sem.run_bind,List.getElem?_toArray,List.getElem?_cons_zero,hu,ku,Result.andThen_ok]
                have:(storeCells ⟨p.a_,p.base+off,none⟩ (Builtin.zeroCells z.cells (n+1)).toList).run P w=.ok () aj:=g1
                simp [this,Sem.run_pure,Result.andThen_ok]
              · simp only [Rel];exact ⟨_,rfl,rfl⟩
         unfold zY at he
         cases x<;>simp only at he<;>try (cases he;done)
         · simp only [Rel] at ak
           obtain ⟨p,g1,g2,g3⟩:=ak
           exact P4 _ _ _ _ p g1 g3 he
         · simp only [Rel] at ak
           obtain ⟨p,g1,g2,g3⟩:=ak
           exact P4 _ _ _ _ p g1 g3 he
         · simp only [Rel] at ak
           obtain ⟨a,c,rfl⟩:=ak
           simp only [aV.val.injEq] at he
           exact nothing _ _ rfl he.1.symm he.2.symm
         · simp only [Rel] at ak
           simp only [aV.val.injEq] at he
           exact nothing _ _ ak he.1.symm he.2.symm
   | _=>rw [bJ] at ao;cases ao
theorem Vw {E:Env} {t:TypeId} {aM:ly} {x v:V} {X:Value} {ty:TypeId} (aD:a7 P t=some aM) (aQ:GM aM.bb=true) (he:Es x=some v) (ak:Rel E x X) (w:World):
 ∃Z,(Builtin.cap_ #[t] ty #[X]).run P w=.ok Z w∧Rel E v Z:=by
 cases bJ:aM.bb with
 | slice e=>
   have hu:∀w,(underlying t).run P w=.ok (.slice e) w:=fun w=>by have:=eK aD w;rw [bJ] at this;exact this
   cases x<;>simp only [Es] at he<;>try (cases he;done)
   · simp only [Rel] at ak
     obtain ⟨p,_,_,rfl⟩:=ak
     cases he
     refine ⟨_,?_,rfl⟩
     simp [Builtin.cap_,Sem.run_bind,hu,Result.andThen_ok,Sem.run_pure]
     rfl
   · simp only [Rel] at ak
     subst ak
     cases he
     refine ⟨_,?_,rfl⟩
     simp [Builtin.cap_,Sem.run_bind,hu,Result.andThen_ok,Sem.run_pure]
     rfl
 | _=>rw [bJ] at aQ;cases aQ
theorem yL {α:Type} (a:Array α):a.toList.toArray=a:=by simp
theorem S6 {au:Fr} {E:Env} {h ab:af} {w:World} (s:a1 au E h w) {b:Builtin} {cl:Array TypeId} {args:List V} {xs:List Value} {v:V} {ty:TypeId} {cs:Array Bool} (ai:a8 E args xs)
 (he:(o_ P b cl.toList).run args h=.val v ab):∃m:Sem Value,Go.builtin b cl ty cs xs.toArray=(do pure (.value (←m)))∧cK au P E w m v ab:=by
 have one:∀{x:V},a8 E [x] xs→∃X,xs=[X]∧Rel E x X:=by
  intro x h
  simp only [a8] at h
  obtain ⟨y,b',rfl,a6,rfl⟩:=h
  exact ⟨y,rfl,a6⟩
 have two:∀{x y:V},a8 E [x,y] xs→∃X Y,xs=[X,Y]∧Rel E x X∧Rel E y Y:=by
  intro x y h
  simp only [a8] at h
  obtain ⟨X,_,rfl,cQ,Y,_,rfl,eB,rfl⟩:=h
  exact ⟨X,Y,rfl,cQ,eB⟩
 cases b<;>simp only [o_] at he<;>try (simp [eZ.none] at he;done)
 · -- append
   cases eE:cl.toList with
   | nil=>rw [eE] at he;simp [eZ.none] at he
   | cons t qf=>
     rw [eE] at he
     cases qf with
     | nil=>simp [eZ.none] at he
     | cons u agP=>
       cases agP with
       | cons _ _=>simp [eZ.none] at he
       | nil=>
         simp only at he
         match args,he,ai with
         | [x,y],he,ai=>
           obtain ⟨X,Y,rfl,cQ,eB⟩:=two ai
           have e:cl=#[t,u]:=by rw [←yL cl,eE]
           exact ⟨_,rfl,by rw [e];exact Sj s he cQ eB⟩
         | [],he,_=>cases he
         | [_],he,_=>cases he
         | _::_::_::_,he,_=>cases he
 · -- cap
   cases eE:cl.toList with
   | nil=>rw [eE] at he;simp [eZ.none] at he
   | cons t qf=>
     rw [eE] at he
     cases qf with
     | cons _ _=>simp [eZ.none] at he
     | nil=>
       simp only at he
       cases aD:a7 P t with
       | none=>rw [aD] at he;simp [eZ.none] at he
       | some aM=>
         rw [aD] at he
         simp only at he
         cases aQ:GM aM.bb with
         | false=>rw [aQ] at he;simp [eZ.none] at he
         | true=>
           rw [aQ] at he
           simp only [cond_true] at he
           match args,he,ai with
           | [x],he,ai=>
             obtain ⟨X,rfl,cQ⟩:=one ai
             have e:cl=#[t]:=by rw [←yL cl,eE]
             obtain ⟨dM,rfl⟩:=aV.gV he
             obtain ⟨Z,eO,cx⟩:=Vw (P:=P) (ty:=ty) aD aQ dM cQ w
             exact ⟨_,rfl,by rw [e];exact cK.plain s eO cx⟩
           | [],he,_=>cases he
           | _::_::_,he,_=>cases he
 · -- clear
   cases eE:cl.toList with
   | nil=>rw [eE] at he;simp [eZ.none] at he
   | cons t qf=>
     rw [eE] at he
     cases qf with
     | cons _ _=>simp [eZ.none] at he
     | nil=>
       simp only at he
       cases ao:wM P t with
       | none=>rw [ao] at he;simp [eZ.none] at he
       | some z=>
         rw [ao] at he
         simp only at he
         match args,he,ai with
         | [x],he,ai=>
           obtain ⟨X,rfl,cQ⟩:=one ai
           have e:cl=#[t]:=by rw [←yL cl,eE]
           exact ⟨_,rfl,by rw [e];exact VR s ao he cQ⟩
         | [],he,_=>cases he
         | _::_::_,he,_=>cases he
 · -- copy
   cases eE:cl.toList with
   | nil=>rw [eE] at he;simp [eZ.none] at he
   | cons t qf=>
     rw [eE] at he
     simp only at he
     match args,he,ai with
     | [x,y],he,ai=>
       obtain ⟨X,Y,rfl,cQ,eB⟩:=two ai
       have e:cl=(t::qf).toArray:=by rw [←yL cl,eE]
       exact ⟨_,rfl,by rw [e];exact V' s he cQ eB⟩
     | [],he,_=>cases he
     | [_],he,_=>cases he
     | _::_::_::_,he,_=>cases he
 · -- len
   cases eE:cl.toList with
   | nil=>rw [eE] at he;simp [eZ.none] at he
   | cons t qf=>
     rw [eE] at he
     cases qf with
     | cons _ _=>simp [eZ.none] at he
     | nil=>
       simp only at he
       cases aD:a7 P t with
       | none=>rw [aD] at he;simp [eZ.none] at he
       | some aM=>
         rw [aD] at he
         simp only at he
         match args,he,ai with
         | [x],he,ai=>
           obtain ⟨X,rfl,cQ⟩:=one ai
           have e:cl=[t].toArray:=by rw [←yL cl,eE]
           cases hm:qY aM.bb with
           | true=>
             rw [hm] at he
             exact ⟨_,rfl,by rw [e];exact acV s aD hm cQ ty [] he⟩
           | false=>
             rw [hm] at he
             simp only [cond_false] at he
             obtain ⟨dM,rfl⟩:=aV.gV he
             obtain ⟨Z,eO,cx⟩:=acW (P:=P) aD dM cQ ty [] w
             exact ⟨_,rfl,by rw [e];exact cK.plain s eO cx⟩
         | [],he,_=>cases hm:qY aM.bb<;>rw [hm] at he<;>cases he
         | _::_::_,he,_=>cases hm:qY aM.bb<;>rw [hm] at he<;>cases he
 · -- max
   obtain ⟨dM,rfl⟩:=aV.gV he
   clear he
   cases args with
   | nil=>cases dM
   | cons x args=>
     simp only [iQ] at dM
     obtain ⟨k,a,rfl,aa⟩:=h9 dM
     simp only [a8] at ai
     obtain ⟨X,b',rfl,cQ,ai⟩:=ai
     have:=cQ.hN;subst this
     obtain ⟨Z,eO,cx⟩:=HG (P:=P) false args b' k a v ai aa w
     exact ⟨_,rfl,cK.plain (Z:=Z) s (by simpa [Builtin.max_] using eO) cx⟩
 · -- min
   obtain ⟨dM,rfl⟩:=aV.gV he
   clear he
   cases args with
   | nil=>cases dM
   | cons x args=>
     simp only [iQ] at dM
     obtain ⟨k,a,rfl,aa⟩:=h9 dM
     simp only [a8] at ai
     obtain ⟨X,b',rfl,cQ,ai⟩:=ai
     have:=cQ.hN;subst this
     obtain ⟨Z,eO,cx⟩:=HG (P:=P) true args b' k a v ai aa w
     exact ⟨_,rfl,cK.plain (Z:=Z) s (by simpa [Builtin.min_] using eO) cx⟩
end
end Go.Proofs.YtkehcalakofigaaGreatDoor.aS
namespace Go.Proofs.YtkehcalakofigaaGreatDoor.aS
variable [Lay]
open Go Go.RowKit
section
variable {P:Program}
def dU (P:Program):Prop:=∀(f:FuncId) (fn:Func),P.funcs[f]? =some fn→(fn.name == "runtime.NumGoroutine")=false
theorem rp (bx:dU P) {f:FuncId} {fn:Func} (ax:P.funcs[f]? =some fn) (ag:fn.body.isSome=true) (args:Array Value) (w:World):(callFunc f args).run P w=.ok (.enter f args) w:=by
 have fP:fn.body.isNone=false:=by cases h:fn.body with | none=>rw [h] at ag;cases ag | some c=>rfl
 simp only [callFunc,Sem.run_bind,run_program,Result.andThen_ok,ax]
 rw [if_neg (by rw [bx f fn ax];simp)]
 simp [fP]
theorem G5 {α β:Type} (f:α→β) (a:Array α):a.map f=(a.toList.map f).toArray:=by
 apply Array.ext'
 simp
theorem HE (ρ:Operand→Value) (bc:Array (Nat × Operand)):(bc.map fun (i,x)=>(i,ρ x))=(bc.toList.map fun (i,x)=>(i,ρ x)).toArray:=by
 apply Array.ext'
 simp
theorem SA {E:Env} {t rC:TypeId} {aM:ly} {ok:Bool} {x v:V} {X:Value} (aD:a7 P t=some aM) (ag:Nat.beq (ef aM.bb) 5=false) (ak:Rel E x X)
 (he:wC t aM.zero ok x=some v) (w:World):∃Z,(Instr.typeAssert X rC t ok).run P w=.ok Z w∧Rel E v Z:=by
 have hu:=eK aD w
 have oj:∀ms,aM.bb≠.interface ms:=fun ms e=>by rw [e] at ag;simp [ef] at ag
 have zero:∀z,aM.zero=some z→∃x,(zeroValue t).run P w=.ok x w∧Rel E z x:=fun z bh=>by
  obtain ⟨x,aa,ae,_⟩:=vF (P:=P) aD bh E w
  exact ⟨x,aa,ae⟩
 unfold wC at he
 cases x<;>simp only at he<;>try (cases he;done)
 case iface u y=>
  simp only [Rel] at ak
  obtain ⟨Y,rfl,eB⟩:=ak
  rw [fY] at he
  by_cases u4:u=t
  · rw [if_pos u4] at he
    simp only [Option.some.injEq] at he
    subst u4
    cases ok with
    | true=>
      simp only [cond_true] at he
      subst he
      refine ⟨.tuple #[Y,.bool true],?_,by simp only [Rel,a8];exact ⟨_,rfl,_,_,rfl,eB,_,_,rfl,rfl,rfl⟩⟩
      simp only [Instr.typeAssert,Sem.run_bind,hu,Result.andThen_ok]
      cases bJ:aM.bb<;>first
       | exact absurd bJ (oj _)
       | (simp only [if_true];rfl)
    | false=>
      simp only [cond_false] at he
      subst he
      refine ⟨Y,?_,eB⟩
      simp only [Instr.typeAssert,Sem.run_bind,hu,Result.andThen_ok]
      cases bJ:aM.bb<;>first
       | exact absurd bJ (oj _)
       | (simp only [if_true];rfl)
  · rw [if_neg u4] at he
    cases ok with
    | false=>cases he
    | true=>
      simp only [cond_true] at he
      cases bh:aM.zero with
      | none=>rw [bh] at he;cases he
      | some z=>
        rw [bh] at he
        simp only [Option.some.injEq] at he
        subst he
        obtain ⟨bj,cm,z2⟩:=zero z bh
        refine ⟨.tuple #[bj,.bool false],?_,by simp only [Rel,a8];exact ⟨_,rfl,_,_,rfl,z2,_,_,rfl,rfl,rfl⟩⟩
        simp only [Instr.typeAssert,Sem.run_bind,hu,Result.andThen_ok]
        cases bJ:aM.bb<;>first
         | exact absurd bJ (oj _)
         | (simp only [if_neg u4,if_true,Sem.run_bind,cm,Result.andThen_ok];rfl)
 case nilIface=>
  simp only [Rel] at ak
  subst ak
  cases ok with
  | false=>cases he
  | true=>
    simp only [cond_true] at he
    cases bh:aM.zero with
    | none=>rw [bh] at he;cases he
    | some z=>
      rw [bh] at he
      simp only [Option.some.injEq] at he
      subst he
      obtain ⟨bj,cm,z2⟩:=zero z bh
      refine ⟨.tuple #[bj,.bool false],?_,by simp only [Rel,a8];exact ⟨_,rfl,_,_,rfl,z2,_,_,rfl,rfl,rfl⟩⟩
      simp only [Instr.typeAssert,Sem.run_bind,hu,Result.andThen_ok]
      cases bJ:aM.bb<;>first
       | exact absurd bJ (oj _)
       | (simp only [if_true,Sem.run_bind,cm,Result.andThen_ok];rfl)
def fF (P:Program) (call:dc):Prop:=∀f args h v ab,call f args h=.val v ab→True
set_option maxHeartbeats 2000000 in
theorem KB {rd:Option Nat} {au:Fr} {E:Env} {h ab:af} {w:World} {call:dc} (bx:dU P) (cy:fv P call) (c9:fF P call) {o:Oper} {an:Nat} {r:br} {a:Act} {v:V}
 (he:(et P o).run call r h=.val v ab) (k:RegRel0 E an r a) (s:a1 au E h w) {K:Act→World→Prop} {Q:Exit→Act→World→Prop}
 (dk:∀ar x aj,E.le ar→Rel ar v x→a1 au ar ab aj→K (a.put o.dst x) aj):o.wpIn (bU rd) 0 P a w K Q:=by
 obtain ⟨dst,op,type,pos,after,guard⟩:=o
 cases op<;>simp only [et] at he<;>try (simp [cT.none] at he;done)
 case move x=>
  simp only [aV.val.injEq] at he;obtain ⟨rfl,rfl⟩:=he
  exact fk (m:=pure (a.eval x)) rfl (cK.plain s rfl (de k x)) dk
 case assign x=>
  simp only [aV.val.injEq] at he;obtain ⟨rfl,rfl⟩:=he
  exact fk (m:=pure (a.eval x)) rfl (cK.plain s rfl (de k x)) dk
 case pick c x y=>
  have ao:=de k c
  generalize (bE c).run r=Iy at he ao
  cases Iy<;>simp only at he<;>try (cases he;done)
  rename_i t
  simp only [aV.val.injEq] at he;obtain ⟨rfl,rfl⟩:=he
  simp only [Rel] at ao
  refine fk (m:=do pure (if ←asBool (a.eval c) then a.eval x else a.eval y)) (by simp only [execOp,bind_assoc,pure_bind]) (cK.plain (Z:=if t then a.eval x else a.eval y) s ?_ ?_) dk
  · rw [ao];rfl
  · cases t
    · exact de k y
    · exact de k x
 case alloc t=>
  cases aD:a7 P t with
  | none=>rw [aD] at he;simp [cT.none] at he
  | some aM=>
    rw [aD] at he
    simp only at he
    cases bh:aM.zero with
    | none=>rw [bh] at he;simp [cT.none] at he
    | some z=>
      rw [bh] at he
      simp only at he
      cases aZ:fg h z.cells with
      | none=>rw [aZ] at he;cases he
      | some aa=>
        rw [aZ] at he
        simp only [gj,aV.val.injEq] at he;obtain ⟨rfl,rfl⟩:=he
        obtain ⟨x,ak,ou,_⟩:=rD (P:=P) (E:=E) aD bh w
        obtain ⟨ar,g1,g2,g3,g4⟩:=Bn (P:=P) s ou aZ t
        have E1:(newRow t x.cells).run P w=.ok ⟨w.heap.size,0,none⟩ {w with heap:=w.heap.push (.cells x.cells t)}:=by simpa using g3
        have E2:a1 au ar aa {w with heap:=w.heap.push (.cells x.cells t)}:=by simpa using g4
        exact fk (m:=Instr.alloc t true (.tuple #[])) rfl ⟨.pointer (some ⟨w.heap.size,0,none⟩),_,ar,by simp only [Instr.alloc,Sem.run_bind,ak,Result.andThen_ok,newVar,E1,Sem.run_pure],g1,by simp only [Rel];exact ⟨_,g2,by simp⟩,E2⟩ dk
 case box t x=>
  obtain ⟨aG,he⟩:=jb he
  cases aZ:fg h ((bE x).run r).cells with
  | none=>rw [aZ] at he;cases he
  | some aa=>
    rw [aZ] at he
    simp only [gj,aV.val.injEq] at he;obtain ⟨rfl,rfl⟩:=he
    have ai:=(de k x).cells (fun e=>by rw [e] at aG;cases aG)
    obtain ⟨ar,g1,g2,g3,g4⟩:=Bn (P:=P) s ai aZ t
    have E1:(newRow t (a.eval x).cells).run P w=.ok ⟨w.heap.size,0,none⟩ {w with heap:=w.heap.push (.cells (a.eval x).cells t)}:=by simpa using g3
    have E2:a1 au ar aa {w with heap:=w.heap.push (.cells (a.eval x).cells t)}:=by simpa using g4
    exact fk (m:=Instr.box t (a.eval x)) rfl ⟨.pointer (some ⟨w.heap.size,0,none⟩),_,ar,by simp only [Instr.box,Sem.run_bind,newVar,E1,Result.andThen_ok,Sem.run_pure],g1,by simp only [Rel];exact ⟨_,g2,by simp⟩,E2⟩ dk
 case build t bc=>
  obtain ⟨dM,rfl⟩:=aV.gV he
  clear he
  obtain ⟨Z,eO,cx⟩:=S2 (P:=P) (BL k bc.toList) dM w
  refine fk (m:=Instr.build t (bc.map fun (i,x)=>(i,a.eval x))) rfl (cK.plain (Z:=Z) s ?_ cx) dk
  rw [HE];exact eO
 case buildSlice t n bc=>
  refine fk (m:=Instr.buildSlice t n (bc.map fun (i,x)=>(i,a.eval x))) rfl ?_ dk
  rw [HE]
  exact S4 s (BL k bc.toList) he
 case load t x=>
  obtain ⟨dM,rfl⟩:=aV.gV he
  clear he
  obtain ⟨Y,eB,cx,_⟩:=NL (P:=P) s (de k x) dM
  exact fk (m:=Instr.loadAt t (a.eval x)) rfl (cK.plain s eB cx) dk
 case store t x y=>
  cases cn:(p_ P t).run h ((bE x).run r) ((bE y).run r) with
  | none=>rw [cn] at he;cases he
  | some aa=>
    rw [cn] at he
    simp only [gj,aV.val.injEq] at he;obtain ⟨rfl,rfl⟩:=he
    obtain ⟨aj,cA,hM⟩:=agj (P:=P) s (de k x) (de k y) cn
    refine ⟨fun _ _=>trivial,?_⟩
    rw [nG (by intro c h;cases h)]
    have:execOp a.eval ⟨dst,.store t x y,type,pos,after,guard⟩=(do Instr.storeAt t (a.eval x) (a.eval y);pure .skip):=rfl
    rw [this,Sem.run_bind,cA]
    exact dk E undef aj (Env.le.refl E) (by simp [Rel]) hM
 case nilCheck x=>
  obtain ⟨dM,rfl⟩:=aV.gV he
  clear he
  have ak:=de k x
  generalize (bE x).run r=tu at dM ak
  have dQ:∀X,Rel E tu X→(match X with
   | .pointer none | .nilIface | .nilFunc=>(runtimePanic .nilDeref:Sem Next)
   | .func (.method name) first captured=>
     match (first[0]? :Option Value) with
     | some .nilIface=>runtimePanic .nilDeref
     | some (.iface t w)=>do
       if (←nilAhead ((←program).types.size+Made.depth) t w name) != some false then
        unsupported (.noEntry "op/nilCheck.the method's receiver behind this interface value is a nil pointer, or cannot be seen to be none, and the arguments act or may panic (ledger 612)")
       pure (.value (.func (.method name) first captured))
     | _=>pure (.value (.func (.method name) first captured))
   | x=>pure (.value x))=pure (.value X)∧v=tu:=by
   intro X cQ
   cases tu<;>simp only [q7] at dM<;>try (cases dM;done)
   all_goals simp only [Option.some.injEq] at dM
   all_goals simp only [Rel] at cQ
   · obtain ⟨p,_,rfl⟩:=cQ;exact ⟨rfl,dM.symm⟩
   · rcases cQ with ⟨_,_,rfl,_⟩ | ⟨_,_,_,_,_,rfl⟩<;>exact ⟨rfl,dM.symm⟩
   · obtain ⟨p,rfl,_⟩:=cQ;exact ⟨rfl,dM.symm⟩
   · obtain ⟨_,p,rfl,_⟩:=cQ;exact ⟨rfl,dM.symm⟩
  obtain ⟨aa,rfl⟩:=dQ _ ak
  exact fk (m:=pure (a.eval x)) (by simp only [execOp];rw [pure_bind];exact aa) (cK.plain s rfl ak) dk
 case binOp op t x y u=>
  obtain ⟨dM,rfl⟩:=aV.gV he
  clear he
  obtain ⟨Z,eO,cx⟩:=SQ (P:=P) (fs:=x) (hR:=y) dM (de k x) (de k y) w
  exact fk rfl (cK.plain s eO cx) dk
 case unOp op t x=>
  obtain ⟨dM,rfl⟩:=aV.gV he
  clear he
  obtain ⟨Z,eO,cx⟩:=agZ (P:=P) dM (de k x) w
  exact fk (m:=Op.unary op (a.eval x)) rfl (cK.plain s eO cx) dk
 case convert t u x=>exact fk (m:=convert t u (a.eval x)) rfl (V7 s he (de k x)) dk
 case makeInterface t x=>
  cases aD:a7 P t with
  | none=>rw [aD] at he;simp [cT.none] at he
  | some aM=>
    rw [aD] at he
    simp only at he
    cases ag:Nat.beq (ef aM.bb) 5 with
    | true=>rw [ag] at he;simp [cT.none] at he
    | false=>
      rw [ag] at he
      simp only [cond_false,aV.val.injEq] at he;obtain ⟨rfl,rfl⟩:=he
      refine fk (m:=Instr.makeInterface t (a.eval x)) rfl (cK.plain (Z:=.iface t (a.eval x)) s ?_ ?_) dk
      · have hu:=eK aD w
        simp only [Instr.makeInterface,Sem.run_bind,hu,Result.andThen_ok]
        cases bJ:aM.bb<;>first
         | rfl
         | (rw [bJ] at ag;simp [ef] at ag)
      · simp only [Rel];exact ⟨_,rfl,de k x⟩
 case makeFunc fn first dY=>
  cases fn<;>simp only at he<;>try (simp [cT.none] at he;done)
  rename_i f
  cases ax:(first.isEmpty&&!Nat.beq f cR) with
  | false=>
    rw [ax] at he
    simp only [cond_false] at he
    cases hK:(dY.isEmpty&&!Nat.beq f cR) with
    | false=>rw [hK] at he;simp [cT.none] at he
    | true=>
      rw [hK] at he
      simp only [cond_true,aV.val.injEq] at he;obtain ⟨rfl,rfl⟩:=he
      simp only [Bool.and_eq_true,Bool.not_eq_true'] at hK
      have FH:f≠cR:=fun e=>by rw [e] at hK;exact absurd hK.2 (by decide)
      have FD:dY=#[]:=by simpa using hK.1
      subst FD
      refine fk (m:=Instr.makeFunc (.func f) (first.map a.eval) #[]) (by simp [execOp]) (cK.plain s rfl ?_) dk
      simp only [Rel]
      exact ⟨FH,_,rfl,by rw [G5];simpa using n_ k first.toList⟩
  | true=>
    rw [ax] at he
    simp only [cond_true,aV.val.injEq] at he;obtain ⟨rfl,rfl⟩:=he
    simp only [Bool.and_eq_true,Bool.not_eq_true'] at ax
    have FH:f≠cR:=fun e=>by rw [e] at ax;exact absurd ax.2 (by decide)
    have FD:first=#[]:=by simpa using ax.1
    subst FD
    refine fk (m:=Instr.makeFunc (.func f) #[] (dY.map a.eval)) (by simp [execOp]) (cK.plain s rfl ?_) dk
    simp only [Rel]
    exact .inl ⟨FH,_,rfl,by rw [G5];simpa using n_ k dY.toList⟩
 case makeSlice t l c=>exact fk (m:=Instr.makeSlice t (a.eval l) (a.eval c)) rfl (adl s (de k l) (de k c) he) dk
 case slice t x bG az dF=>
  obtain ⟨dM,rfl⟩:=aV.gV he
  clear he
  obtain ⟨Z,eO,cx⟩:=af0 (P:=P) dM (de k x) (BI k bG) (BI k az) (BI k dF) w
  exact fk (m:=Instr.sliceAt t (a.eval x) (bG.map a.eval) (az.map a.eval) (dF.map a.eval)) rfl (cK.plain s eO cx) dk
 case fieldAddr t x i=>
  obtain ⟨dM,rfl⟩:=aV.gV he
  clear he
  obtain ⟨Z,eO,cx⟩:=WW (P:=P) dM (de k x) w
  exact fk (m:=Instr.fieldAt t (a.eval x) i) rfl (cK.plain s eO cx) dk
 case field t x i=>
  obtain ⟨dM,rfl⟩:=aV.gV he
  clear he
  obtain ⟨Z,eO,cx⟩:=WX (P:=P) dM (de k x) w
  exact fk (m:=Instr.field t (a.eval x) i) rfl (cK.plain s eO cx) dk
 case indexAddr t x i=>
  obtain ⟨dM,rfl⟩:=aV.gV he
  clear he
  obtain ⟨Z,eO,cx⟩:=aal (P:=P) dM (de k x) (de k i) w
  exact fk (m:=Instr.indexAt t (a.eval x) (a.eval i)) rfl (cK.plain s eO cx) dk
 case index t x i=>
  obtain ⟨dM,rfl⟩:=aV.gV he
  clear he
  obtain ⟨Z,eO,cx⟩:=aan (P:=P) dM (de k x) (de k i) w
  exact fk (m:=Instr.index t (a.eval x) (a.eval i)) rfl (cK.plain s eO cx) dk
 case range t x=>exact fk (m:=Instr.range t (a.eval x)) rfl (ae' s (de k x) he) dk
 case next it u_=>
  cases u_ with
  | true=>exact fk (m:=Instr.next (a.eval it) true type) rfl (adI s (de k it) he) dk
  | false=>exact fk (m:=Instr.next (a.eval it) false type) rfl (adG s (de k it) he) dk
 case entry it=>exact fk (m:=Instr.entry (a.eval it)) rfl (Wy s (de k it) he) dk
 case lookup t x y ok=>
  obtain ⟨dM,rfl⟩:=aV.gV he
  clear he
  obtain ⟨Z,eO,cx⟩:=adf (P:=P) s (de k x) (de k y) dM
  exact fk (m:=Instr.lookup t (a.eval x) (a.eval y) ok) rfl (cK.plain s eO cx) dk
 case mapEntry t m y=>exact fk (m:=Instr.mapEntry t (a.eval m) (a.eval y)) rfl (adn s (de k m) (de k y) he) dk
 case entryStore t m st x=>
  cases cn:Ae h ((bE m).run r) ((bE st).run r) ((bE x).run r) with
  | none=>rw [cn] at he;cases he
  | some aa=>
    rw [cn] at he
    simp only [gj,aV.val.injEq] at he;obtain ⟨rfl,rfl⟩:=he
    obtain ⟨aj,cA,hM⟩:=Wx (P:=P) (t:=t) s (de k m) (de k st) (de k x) cn
    refine ⟨fun _ _=>trivial,?_⟩
    rw [nG (by intro c h;cases h)]
    have:execOp a.eval ⟨dst,.entryStore t m st x,type,pos,after,guard⟩=(do Instr.entryStore t (a.eval m) (a.eval st) (a.eval x);pure .skip):=rfl
    rw [this,Sem.run_bind,cA]
    exact dk E undef aj (Env.le.refl E) (by simp [Rel]) hM
 case mapUpdate t m y x=>
  cases cn:(mH P t).run h ((bE m).run r) ((bE y).run r) ((bE x).run r) with
  | none=>rw [cn] at he;cases he
  | some aa=>
    rw [cn] at he
    simp only [gj,aV.val.injEq] at he;obtain ⟨rfl,rfl⟩:=he
    obtain ⟨aj,cA,hM⟩:=Qz (P:=P) s (de k m) (de k y) (de k x) cn
    refine ⟨fun _ _=>trivial,?_⟩
    rw [nG (by intro c h;cases h)]
    have:execOp a.eval ⟨dst,.mapUpdate t m y x,type,pos,after,guard⟩=(do Instr.mapUpdate t (a.eval m) (a.eval y) (a.eval x);pure .skip):=rfl
    rw [this,Sem.run_bind,cA]
    exact dk E undef aj (Env.le.refl E) (by simp [Rel]) hM
 case insert t m y x=>
  cases cn:(mH P t).run h ((bE m).run r) ((bE y).run r) ((bE x).run r) with
  | none=>rw [cn] at he;cases he
  | some aa=>
    rw [cn] at he
    simp only [gj,aV.val.injEq] at he;obtain ⟨rfl,rfl⟩:=he
    obtain ⟨aj,cA,hM⟩:=Qz (P:=P) s (de k m) (de k y) (de k x) cn
    refine ⟨fun _ _=>trivial,?_⟩
    rw [nG (by intro c h;cases h)]
    have:execOp a.eval ⟨dst,.insert t m y x,type,pos,after,guard⟩=(do Instr.mapUpdate t (a.eval m) (a.eval y) (a.eval x);pure .skip):=rfl
    rw [this,Sem.run_bind,cA]
    exact dk E undef aj (Env.le.refl E) (by simp [Rel]) hM
 case makeMap t x=>exact fk (m:=Instr.makeMap t (x.map a.eval)) rfl (adk s (BI k x) he) dk
 case panic x=>
  exfalso
  unfold HD at he
  split at he<;>cases he
 case typeAssert x rC t ok=>
  cases aD:a7 P t with
  | none=>rw [aD] at he;simp [cT.none] at he
  | some aM=>
    rw [aD] at he
    simp only at he
    cases ag:Nat.beq (ef aM.bb) 5 with
    | true=>rw [ag] at he;simp [cT.none] at he
    | false=>
      rw [ag] at he
      simp only [cond_false] at he
      obtain ⟨dM,rfl⟩:=aV.gV he
      clear he
      obtain ⟨Z,eO,cx⟩:=SA aD ag (rC:=rC) (de k x) dM w
      exact fk (m:=Instr.typeAssert (a.eval x) rC t ok) rfl (cK.plain s eO cx) dk
 case extract x i=>
  have ak:=de k x
  generalize (bE x).run r=tu at he ak
  cases tu<;>simp only at he<;>try (cases he;done)
  obtain ⟨dM,rfl⟩:=aV.gV he
  clear he
  simp only [Rel] at ak
  obtain ⟨arr,cQ,ai⟩:=ak
  obtain ⟨y,a6,cx⟩:=ai.get i v dM
  refine fk (m:=Instr.extract (a.eval x) i) rfl (cK.plain (Z:=y) s ?_ cx) dk
  rw [cQ]
  have:arr[i]? =some y:=by simpa using a6
  simp only [Instr.extract,this,Sem.run_pure]
 case call c=>
  obtain ⟨callee,args,types⟩:=c
  cases callee with
  | invoke _ _=>simp [pc,cT.none] at he
  | builtin b=>
    simp only [pc] at he
    obtain ⟨cs,gb⟩:∃cs,execOp a.eval ⟨dst,.call ⟨.builtin b,args,types⟩,type,pos,after,guard⟩=Go.builtin b types type cs (args.map a.eval):=by
     simp only [execOp,resolve,pure_bind,invoke]
     exact ⟨_,rfl⟩
    obtain ⟨m,hm,aG⟩:=S6 (P:=P) (ty:=type) (cs:=cs) s (n_ k args.toList) he
    refine fk (m:=m) ?_ aG dk
    rw [gb,←hm,G5]
  | value f=>
    simp only [pc] at he
    have ax:=de k f
    generalize ZY:(bE f).run r=ts at he ax
    cases ts<;>simp only [V.vr] at he<;>try (cases he;done)
    rotate_left
    · rename_i g cs
      simp only [Rel] at ax
      refine ⟨fun _ _=>trivial,?_⟩
      rw [nG (by intro c h;cases h)]
      obtain ⟨aG,first,cQ,ai⟩:=ax
      have mZ:=a8.append ai (n_ k args.toList)
      have nb:=cy.fn _ _ _ _ _ _ aG he E w _ mZ s
      have hex:execOp a.eval ⟨dst,.call ⟨.value f,args,types⟩,type,pos,after,guard⟩=callFunc g (first++args.map a.eval):=by
       simp only [execOp,resolve,cQ,Deferred.ofValue,pure_bind,invoke]
       simp
      have e:first++args.map a.eval=(first.toList++args.toList.map a.eval).toArray:=by
       apply Array.ext';simp
      rw [hex,e]
      rcases nb with ⟨⟨fn,gG,ag⟩,ao⟩ | ⟨ar,x,aj,aH,aq,av,aK⟩
      case inr=>
       rw [aH]
       exact dk ar x aj aq av aK
      rw [rp bx gG ag]
      refine ⟨fun h=>by simp at h,qA.2 (ao.mono fun e aj aC=>?_)⟩
      obtain ⟨ar,x,rfl,aq,av,aK⟩:=aC
      exact dk ar x aj aq av aK
    rename_i g cs
    simp only [Rel] at ax
    refine ⟨fun _ _=>trivial,?_⟩
    rw [nG (by intro c h;cases h)]
    rcases ax with ⟨aG,dY,cQ,ai⟩ | ⟨aG,b,p,gb,ah,cQ⟩
    · have mZ:=(n_ k args.toList).append ai
      have nb:=cy.fn _ _ _ _ _ _ aG he E w _ mZ s
      have hex:execOp a.eval ⟨dst,.call ⟨.value f,args,types⟩,type,pos,after,guard⟩=callFunc g (args.map a.eval++dY):=by
       simp only [execOp,resolve,cQ,Deferred.ofValue,pure_bind,invoke]
       simp
      have e:args.map a.eval++dY=(args.toList.map a.eval++dY.toList).toArray:=by
       apply Array.ext';simp
      rw [hex,e]
      rcases nb with ⟨⟨fn,gG,ag⟩,ao⟩ | ⟨ar,x,aj,aH,aq,av,aK⟩
      case inr=>
       rw [aH]
       exact dk ar x aj aq av aK
      rw [rp bx gG ag]
      refine ⟨fun h=>by simp at h,qA.2 (ao.mono fun e aj aC=>?_)⟩
      obtain ⟨ar,x,rfl,aq,av,aK⟩:=aC
      exact dk ar x aj aq av aK
    · subst aG gb
      obtain ⟨pk,tmps,assign,body,aq,av⟩:=cy.QP _ _ _ _ _ _ he E w _ p (n_ k args.toList) s ah
      have hex:execOp a.eval ⟨dst,.call ⟨.value f,args,types⟩,type,pos,after,guard⟩=Instr.yield p.a_ (args.map a.eval):=by
       simp only [execOp,resolve,cQ,Deferred.ofValue,pure_bind,invoke]
       simp
      have e:args.map a.eval=(args.toList.map a.eval).toArray:=by
       apply Array.ext';simp
      rw [hex,e,aq]
      refine ⟨fun h=>by simp at h,RoundIn.mono av fun e aj aC=>?_⟩
      obtain ⟨ar,x,rfl,bz,bZ,b6⟩:=aC
      exact dk ar x aj bz bZ b6
end
end Go.Proofs.YtkehcalakofigaaGreatDoor.aS
namespace Go.Proofs.YtkehcalakofigaaGreatDoor.aS
variable [Lay]
open Go Go.RowKit
section
variable {P:Program}
theorem E6 {E:Env} {an:Nat} {r:br} {a:Act} (k:RegRel0 E an r a) {all:Array Oper} {j:Nat} {g:Oper} {d:Nat} (bI:all[j]? =some g) (aX:g.dst=some d) (xe:d<an) (so:d≤top):
 (∀b,T.get .bad (ay d) r=.bool b→yielded all a.tmps j=some b)∧(∀ad,T.get .bad (ay d) r=.tuple ad→yielded all a.tmps j=none):=by
 have aH:=k.aE d so
 have aP:d<a.tmps.size:=by rw [k.size];exact xe
 have he:a.tmps[d]? =some (a.tmps.getD d undef):=by simp [Array.getD_eq_getD_getElem?,aP]
 refine ⟨fun b ag=>?_,fun ad ag=>?_⟩
 · rw [ag] at aH
   simp only [Rel] at aH
   simp only [yielded,bI,Option.bind,aX,he,aH]
 · rw [ag] at aH
   simp only [Rel] at aH
   obtain ⟨arr,aH,_⟩:=aH
   simp only [yielded,bI,Option.bind,aX,he,aH]
theorem Ky {rd:Option Nat} {au:Fr} {E:Env} {h ab:af} {w:World} {call:dc} (bx:dU P) (cy:fv P call) {o:Oper} {an:Nat} {r:br} {a:Act} {v:V} (hm:jX o.op=true)
 (he:(et P o).run call r h=.ck v ab) (k:RegRel0 E an r a) (s:a1 au E h w) {K:Act→World→Prop} {Q:Exit→Act→World→Prop}
 (cP:∀ar x aj,E.le ar→Rel ar v x→a1 au ar ab aj→Q (.panic (nA x)) a aj):o.wpIn (bU rd) 0 P a w K Q:=by
 obtain ⟨dst,op,type,pos,after,guard⟩:=o
 cases op<;>simp only [jX] at hm<;>try (cases hm;done)
 all_goals simp only [et] at he
 case panic x=>
  have ak:=de k x
  generalize (bE x).run r=tu at he ak
  unfold HD at he
  cases tu<;>simp only at he<;>try (cases he;done)
  simp only [aV.ck.injEq] at he
  obtain ⟨rfl,rfl⟩:=he
  have xN:=ak
  simp only [Rel] at ak
  obtain ⟨Y,cQ,eB⟩:=ak
  refine ⟨fun _ _=>trivial,?_⟩
  rw [nG (by intro c h;cases h)]
  have hex:(execOp a.eval ⟨dst,.panic x,type,pos,after,guard⟩).run P w=.halt (.panic (a.eval x)) w:=by
   simp only [execOp,cQ,Instr.panic,Sem.run_bind]
   rfl
  rw [hex]
  exact cP E _ w (Env.le.refl E) xN s
 case call c=>
  obtain ⟨callee,args,types⟩:=c
  cases callee<;>simp only at hm<;>try (cases hm;done)
  rename_i f
  simp only [pc] at he
  have ax:=de k f
  generalize ZY:(bE f).run r=ts at he ax
  cases ts<;>simp only [V.vr] at he<;>try (cases he;done)
  rotate_left
  · rename_i g cs
    simp only [Rel] at ax
    refine ⟨fun _ _=>trivial,?_⟩
    rw [nG (by intro c h;cases h)]
    obtain ⟨aG,first,cQ,ai⟩:=ax
    have mZ:=a8.append ai (n_ k args.toList)
    obtain ⟨⟨fn,gG,ag⟩,ao⟩:=cy.ck _ _ _ _ _ _ aG he E w _ mZ s
    have hex:execOp a.eval ⟨dst,.call ⟨.value f,args,types⟩,type,pos,after,guard⟩=callFunc g (first++args.map a.eval):=by
     simp only [execOp,resolve,cQ,Deferred.ofValue,pure_bind,invoke]
     simp
    have e:first++args.map a.eval=(first.toList++args.toList.map a.eval).toArray:=by
     apply Array.ext';simp
    rw [hex,e,rp bx gG ag]
    refine ⟨fun h=>by simp at h,qA.2 (ao.mono fun e aj aC=>?_)⟩
    obtain ⟨ar,x,rfl,aq,av,aK⟩:=aC
    exact cP ar x aj aq av aK
  rename_i g cs
  simp only [Rel] at ax
  refine ⟨fun _ _=>trivial,?_⟩
  rw [nG (by intro c h;cases h)]
  rcases ax with ⟨aG,dY,cQ,ai⟩ | ⟨aG,b,p,gb,ah,cQ⟩
  · have mZ:=(n_ k args.toList).append ai
    obtain ⟨⟨fn,gG,ag⟩,ao⟩:=cy.ck _ _ _ _ _ _ aG he E w _ mZ s
    have hex:execOp a.eval ⟨dst,.call ⟨.value f,args,types⟩,type,pos,after,guard⟩=callFunc g (args.map a.eval++dY):=by
     simp only [execOp,resolve,cQ,Deferred.ofValue,pure_bind,invoke]
     simp
    have e:args.map a.eval++dY=(args.toList.map a.eval++dY.toList).toArray:=by
     apply Array.ext';simp
    rw [hex,e,rp bx gG ag]
    refine ⟨fun h=>by simp at h,qA.2 (ao.mono fun e aj aC=>?_)⟩
    obtain ⟨ar,x,rfl,aq,av,aK⟩:=aC
    exact cP ar x aj aq av aK
  · subst aG
    exact absurd he (cy.QS _ _ _ _)
def lv (au:Fr) (E:Env) (an:Nat) (K:Act→World→Prop) (Q:Exit→Act→World→Prop):l3→Prop
 | .ok r h=>∀ar bg aj,E.le ar→eA ar an r bg→a1 au ar h aj→K bg aj
 | .ck v r h=>∀ar bg aj x,E.le ar→eA ar an r bg→Rel ar v x→a1 au ar h aj→Q (.panic (nA x)) bg aj
 | .fail=>False
theorem lv.up {au:Fr} {E ar:Env} (h:E.le ar) {an:Nat} {K:Act→World→Prop} {Q:Exit→Act→World→Prop} {x:l3} (k:lv au E an K Q x):lv au ar an K Q x:=by
 cases x with
 | ok r a'=>exact fun bQ a w ae=>k bQ a w (h.trans ae)
 | ck v r a'=>exact fun bQ a w x ae=>k bQ a w x (h.trans ae)
 | fail=>exact k
theorem Oz {rd:Option Nat} {au:Fr} {E:Env} {h:af} {w:World} {call:dc} (bx:dU P) (cy:fv P call) (c9:fF P call) {all:Array Oper} {i:Nat} {o:Oper} (az:all[i]? =some o) {an:Nat} {r:br} {a:Act}
 (aX:ew an o.dst=true) (k:eA E an r a) (s:a1 au E h w) {K:Act→World→Prop} {Q:Exit→Act→World→Prop} (hw:Region.wanted o (yielded all a.tmps)=true)
 (ah:lv au E an K Q (BH (jX o.op) (et P o) (eJ o.dst) call r h)):wpOpIn (bU rd) 0 P all Q i K a w:=by
 simp only [wpOpIn,az,hw,if_true]
 unfold BH at ah
 cases aR:(et P o).run call r h with
 | fail=>rw [aR] at ah;exact ah.elim
 | val v aa=>
   rw [aR] at ah
   exact KB bx cy c9 aR k.toRegRel0 s fun ar x aj aq av aK=>ah ar _ aj aq ((k.mono aq).put aX av) aK
 | ck v aa=>
   rw [aR] at ah
   simp only at ah
   cases hm:jX o.op with
   | false=>rw [hm] at ah;exact ah.elim
   | true=>
     rw [hm] at ah
     exact Ky bx cy hm aR k.toRegRel0 s fun ar x aj aq av aK=>ah ar a aj x aq (k.mono aq) av aK
theorem Qy {rd:Option Nat} {au:Fr} {E:Env} {h:af} {w:World} {all:Array Oper} {i:Nat} {o:Oper} (az:all[i]? =some o) {an:Nat} {r:br} {a:Act}
 (aX:ew an o.dst=true) (k:eA E an r a) (s:a1 au E h w) {K:Act→World→Prop} {Q:Exit→Act→World→Prop} (hw:Region.wanted o (yielded all a.tmps)=false)
 (ah:lv au E an K Q (.ok ((eJ o.dst).run r (.tuple [])) h)):wpOpIn (bU rd) 0 P all Q i K a w:=by
 simp only [wpOpIn,az,hw,Bool.false_eq_true,if_false]
 exact ⟨fun _ _=>trivial,ah E _ w (Env.le.refl E) (k.put aX (by simp only [Rel];exact ⟨#[],rfl,rfl⟩)) s⟩
theorem BG {rd:Option Nat} {au:Fr} {E:Env} {h:af} {w:World} {call:dc} (bx:dU P) (cy:fv P call) (c9:fF P call) {all:Array Oper} {i:Nat} {o:Oper} (az:all[i]? =some o) {an:Nat} {r:br} {a:Act}
 (aX:ew an o.dst=true) (k:eA E an r a) (s:a1 au E h w) {K:Act→World→Prop} {Q:Exit→Act→World→Prop}
 (ah:lv au E an K Q ((vu P an all o).run call r h)):wpOpIn (bU rd) 0 P all Q i K a w:=by
 unfold vu at ah
 cases aG:o.guard with
 | none=>
   rw [aG] at ah
   exact Oz bx cy c9 az aX k s (by simp [Region.wanted,aG]) ah
 | some np=>
   obtain ⟨j,want⟩:=np
   rw [aG] at ah
   simp only at ah
   cases bI:all[j]? with
   | none=>rw [bI] at ah;exact ah.elim
   | some g=>
     rw [bI] at ah
     simp only at ah
     cases iI:g.dst with
     | none=>rw [iI] at ah;exact ah.elim
     | some d=>
       rw [iI] at ah
       simp only at ah
       cases ao:(Nat.blt d an&&Nat.ble d top) with
       | false=>rw [ao] at ah;exact ah.elim
       | true=>
         rw [ao] at ah
         simp only [cond_true,LO,mb] at ah
         simp only [Bool.and_eq_true,Nat.blt_eq,Nat.ble_eq] at ao
         obtain ⟨g1,g2⟩:=E6 k.toRegRel0 bI iI ao.1 ao.2
         cases bp:T.get .bad (ay d) r<;>rw [bp] at ah<;>simp only at ah<;>try (exact ah.elim)
         · rename_i b
           have a6:=g1 b bp
           cases ag:(bif want then b else !b) with
           | true=>
             rw [ag] at ah
             simp only [cond_true] at ah
             refine Oz bx cy c9 az aX k s ?_ ah
             simp only [Region.wanted,aG,a6]
             cases want<;>cases b<;>simp_all
           | false=>
             rw [ag] at ah
             simp only [cond_false] at ah
             refine Qy az aX k s ?_ ah
             simp only [Region.wanted,aG,a6]
             cases want<;>cases b<;>simp_all
         · rename_i ad
           have a6:=g2 ad bp
           refine Qy az aX k s ?_ ah
           simp only [Region.wanted,aG,a6]
           rfl
theorem jy.list {E:Env} {v:V} {ds:List Deferred} (k:jy E v ds):lo E v.list ds:=by
 cases v<;>first
  | exact k
theorem aeq {rd:Option Nat} {au:Fr} {E:Env} {h:af} {w:World} {call:dc} (bx:dU P) (cy:fv P call) (c9:fF P call) {all:Array Oper} {i:Nat} {o:Oper} (az:all[i]? =some o) {an:Nat} {r:br} {a:Act}
 (aH:rd=none∨Hm o=true) (k:eA E an r a) (s:a1 au E h w) {K:Act→World→Prop} {Q:Exit→Act→World→Prop}
 (ah:lv au E an K Q ((BF P an all o).run call r h)):wpOpIn (bU rd) 0 P all Q i K a w:=by
 unfold BF at ah
 cases aX:ew an o.dst with
 | false=>rw [aX] at ah;exact ah.elim
 | true=>
   rw [aX] at ah
   simp only [cond_true] at ah
   obtain ⟨dst,op,type,pos,after,guard⟩:=o
   cases op with
   | defer c=>
     rcases aH with rfl | aH
     case inr=>cases aH
     simp only at ah
     cases guard with
     | some _=>exact ah.elim
     | none=>
       simp only at ah
       obtain ⟨callee,args,types⟩:=c
       simp only [KJ] at ah
       cases callee<;>simp only at ah<;>try (exact ah.elim)
       rename_i f
       unfold KK at ah
       have ax:=de k.toRegRel0 f
       generalize (bE f).run r=ts at ah ax
       cases ts<;>simp only at ah<;>try (exact ah.elim)
       rename_i g cs
       cases a6:Nat.beq g cR with
       | true=>rw [a6] at ah;exact ah.elim
       | false=>
         rw [a6] at ah
         simp only [cond_false] at ah
         have uK:g≠cR:=fun e=>by rw [e] at a6;exact absurd a6 (by decide)
         simp only [Rel] at ax
         rcases ax with ⟨_,dY,cQ,ai⟩ | ⟨aG,_⟩
         case inr=>exact absurd aG uK
         simp only [wpOpIn,az,Region.wanted,if_true]
         refine ⟨fun _ _=>trivial,?_⟩
         have hex:((Oper.mk dst (.defer ⟨.value f,args,types⟩) type pos after none).semAt (bU none).round a.eval).run P w=.ok (.defer {target:=.fn (.func g) dY,args:=#[]++args.map a.eval}) w:=by
          simp only [Oper.semAt_none,execOp,resolve,cQ,Deferred.ofValue,pure_bind]
          rfl
         rw [hex]
         refine ah E _ w (Env.le.refl E) (eA.put ?_ aX (by simp only [Rel];exact ⟨#[],rfl,rfl⟩)) s
         refine ⟨⟨k.size,fun t aD=>?_⟩,?_⟩
         rotate_left
         · rw [T.gF,if_pos rfl]
           simp only [jy,lo]
           refine ⟨_,_,rfl,⟨uK,dY,rfl,?_⟩,k.defers.list⟩
           have:=(n_ k.toRegRel0 args.toList).append ai
           simpa using this
         · rw [T.gF,if_neg (fun e=>s' aD e.symm)]
           exact k.aE t aD
   | binOp op t x y u=>
     simp only at ah
     cases guard with
     | some g=>exact BG bx cy c9 az aX k s ah
     | none=>
       simp only at ah
       cases jO:BU P op t with
       | none=>rw [jO] at ah;exact BG bx cy c9 az aX k s ah
       | some neg=>
         rw [jO] at ah
         simp only [Pc] at ah
         cases aC:mC h ((bE x).run r) ((bE y).run r) with
         | none=>rw [aC] at ah;exact BG bx cy c9 az aX k s ah
         | some b=>
           rw [aC] at ah
           simp only [wpOpIn,az,Region.wanted,if_true]
           obtain ⟨Z,eO,cx⟩:=aeQ (P:=P) (fs:=x) (hR:=y) s jO aC (de k.toRegRel0 x) (de k.toRegRel0 y)
           exact fk rfl (cK.plain s eO cx) fun ar v aj aq av aK=>ah ar _ aj aq ((k.mono aq).put aX av) aK
   | _=>exact BG bx cy c9 az aX k s ah
theorem OA {rd:Option Nat} {au:Fr} {call:dc} (bx:dU P) (cy:fv P call) (c9:fF P call) {all:Array Oper} {an:Nat} {Q:Exit→Act→World→Prop}:∀(l:List Oper) (i:Nat),(∀j,l[j]? =all[i+j]?)→(rd=none∨∀o ∈ l,Hm o=true)→
 ∀(E:Env) (r:br) (h:af) (a:Act) (w:World),lv au E an (Q .normal) Q ((ym P an all l).run call r h)→eA E an r a→a1 au E h w→
 wpOpsIn (bU rd) 0 P all Q (List.range' i l.length) a w
 | [],i,_,_,E,r,h,a,w,ah,k,s=>by
   simp only [ym] at ah
   simp only [List.length_nil,List.range'_zero,wpOpsIn]
   exact ah E a w (Env.le.refl E) k s
 | o::os,i,ai,aH,E,r,h,a,w,ah,k,s=>by
   simp only [ym,PY] at ah
   have az:all[i]? =some o:=by have:=ai 0;simpa using this.symm
   rw [List.length_cons,List.range'_succ,wpOpsIn_cons]
   refine aeq bx cy c9 az (aH.imp id fun h=>h o (by simp)) k s ?_
   cases aa:(BF P an all o).run call r h with
   | fail=>rw [aa] at ah;exact ah
   | ck v bz og=>rw [aa] at ah;exact ah
   | ok bz og=>
     rw [aa] at ah
     simp only at ah
     intro ar bg aj aq av aK
     refine OA bx cy c9 os (i+1) (fun j=>?_) (aH.imp id fun h bX fJ=>h bX (by simp [fJ])) ar bz og bg aj (ah.up aq) av aK
     have:=ai (j+1)
     simp only [List.getElem?_cons_succ] at this
     rw [this]
     congr 1
     omega
end
end Go.Proofs.YtkehcalakofigaaGreatDoor.aS
namespace Go.Proofs.YtkehcalakofigaaGreatDoor.aS
variable [Lay]
open Go Go.RowKit
theorem K7 {a b:V} (h:Ag a b=true):a=b:=by
 cases a<;>cases b<;>simp only [Ag] at h<;>first
  | rfl
  | (cases h;done)
  | (rename_i x y;cases x<;>cases y<;>simp_all;done)
  | (rename_i k x l y
     simp only [Bool.and_eq_true] at h
     have aa:=qD h.1
     have ae:=h.2
     rw [kh,beq_iff_eq] at ae
     rw [aa,ae];done)
  | (rw [r0,beq_iff_eq] at h;rw [h];done)
  | (simp only [Bool.and_eq_true,Nat.beq_eq] at h
     obtain ⟨aa,ae,aF,bu⟩:=h
     rw [aO.kh aa,ae,aF,bu];done)
  | (simp only [Bool.and_eq_true,Nat.beq_eq] at h
     rw [aO.kh h.1,h.2];done)
  | (rw [aO.kh h];done)
  | (simp only [Bool.and_eq_true,Nat.beq_eq,List.isEmpty_iff] at h
     obtain ⟨aa,ae,aF⟩:=h
     rw [aa,ae,aF];done)
  | (simp only [Bool.and_eq_true,List.isEmpty_iff] at h
     rw [h.1,h.2];done)
theorem EP {f:V→V→Bool} (ax:∀a b,f a b=true→a=b):∀{a b:List V},uj f a b=true→a=b
 | [],[],_=>rfl
 | [],_::_,h=>by cases h
 | _::_,[],h=>by cases h
 | a::x,b::y,h=>by
   simp only [uj] at h
   cases aa:f a b with
   | false=>rw [aa] at h;cases h
   | true=>
     rw [aa] at h
     rw [ax a b aa,EP ax h]
theorem SO {c x:Bool} (h:(bif c then x else false)=true):c=true∧x=true:=by
 cases c with
 | false=>cases h
 | true=>exact ⟨rfl,h⟩
theorem K8:∀(d:Nat) (a b:V),r' d a b=true→a=b
 | 0,a,b,h=>K7 h
 | d+1,a,b,h=>by
   have bf:=K8 d
   cases a<;>simp only [r'] at h<;>first
    | exact K7 h
    | (cases b<;>simp only at h<;>first
        | (cases h;done)
        | rfl
        | (rw [EP bf h];done)
        | (obtain ⟨aa,ae⟩:=SO h
           rw [Nat.beq_eq] at aa
           rw [aa]
           first
            | rw [EP bf ae]
            | rw [bf _ _ ae]))
theorem ER {a b:V} (h:w2 a b=true):a=b:=K8 5 a b h
theorem wE (m i:Nat):eT m i=m.testBit i:=by
 rw [Nat.testBit_eq_decide_div_mod_eq]
 unfold eT
 have e:Nat.mod (Nat.shiftRight m i) 2=m / 2 ^ i % 2:=by
  show (m >>> i) % 2=_
  rw [Nat.shiftRight_eq_div_pow]
 rw [e,Bool.eq_iff_iff,Nat.beq_eq,decide_eq_true_eq]
theorem G6 {dn:List Nat} {i:Nat}:∀{es:List Edge},eT (q3 dn es) i=true→∃e ∈ es,r1 e=true∧(e.on=i∨eT ((dn[e.on]?).getD 0) i=true)
 | [],h=>by simp [q3,wE] at h
 | e::es,h=>by
   simp only [q3] at h
   cases ag:r1 e with
   | false=>
     rw [ag] at h
     obtain ⟨cU,aa,ae⟩:=G6 (es:=es) h
     exact ⟨cU,by simp [aa],ae⟩
   | true=>
     rw [ag] at h
     simp only [cond_true,wE] at h
     have ab:((1 <<< e.on||| (dn[e.on]?).getD 0)||| q3 dn es).testBit i=true:=h
     rw [Nat.testBit_or,Nat.testBit_or,Bool.or_eq_true,Bool.or_eq_true] at ab
     rcases ab with (aa | aa) | aa
     · refine ⟨e,by simp,ag,.inl ?_⟩
       rw [Nat.testBit_shiftLeft] at aa
       simp only [Bool.and_eq_true,decide_eq_true_eq] at aa
       have:=aa.2
       rw [Nat.testBit_one_eq_true_iff_self_eq_zero] at this
       omega
     · exact ⟨e,by simp,ag,.inr (by rw [wE];exact aa)⟩
     · rw [←wE] at aa
       obtain ⟨cU,aq,av⟩:=G6 (es:=es) aa
       exact ⟨cU,by simp [aq],av⟩
def nN (ops:Array Oper) (L:Nat→Prop):Prop:=∀k o e,L k→ops[k]? =some o→e ∈ o.after.toList→r1 e=true→L e.on
theorem x' {ops:Array Oper} {L:Nat→Prop} (mW:nN ops L):∀(os:List Oper) (dn:List Nat),(∀j,os[j]? =ops[dn.length+j]?)→
 (∀k m i,dn[k]? =some m→eT m i=true→L k→L i)→∀k m i,(dW dn os)[k]? =some m→eT m i=true→L k→L i
 | [],dn,_,h,k,m,i,aA,ag,cV=>h k m i aA ag cV
 | o::os,dn,mh,h,k,m,i,aA,ag,cV=>by
   simp only [dW] at aA
   refine x' mW os (dn++[q3 dn o.after.toList]) (fun j=>?_) (fun k m i aA ag cV=>?_) k m i aA ag cV
   · have:=mh (j+1)
     simp only [List.getElem?_cons_succ] at this
     rw [this]
     congr 1
     simp
     omega
   · by_cases aP:k<dn.length
     · rw [List.getElem?_append_left aP] at aA
       exact h k m i aA ag cV
     · rw [List.getElem?_append_right (by omega)] at aA
       have xn:k-dn.length=0:=by
        cases bh:k-dn.length with
        | zero=>rfl
        | succ n=>rw [bh] at aA;simp at aA
       rw [xn] at aA
       simp only [List.getElem?_cons_zero,Option.some.injEq] at aA
       subst aA
       have AQ:k=dn.length:=by omega
       have aR:ops[k]? =some o:=by have:=mh 0;simp only [List.getElem?_cons_zero,Nat.add_zero] at this;rw [AQ];exact this.symm
       obtain ⟨e,he,Fo,gr⟩:=G6 ag
       have LX:=mW k o e cV aR he Fo
       rcases gr with rfl | gr
       · exact LX
       · cases hm:dn[e.on]? with
         | none=>rw [hm] at gr;simp [wE] at gr
         | some cW=>rw [hm] at gr;exact h e.on cW i hm gr LX
theorem nJ {f:Nat→Nat→Oper→Bool}:∀{k:Nat} {ms:List Nat} {os:List Oper},ln f k ms os=true→∀j o,os[j]? =some o→∃m,ms[j]? =some m∧f (k+j) m o=true
 | _,_,[],_,j,o,h=>by simp at h
 | _,[],_::_,h,_,_,_=>by cases h
 | k,m::ms,bX::os,h,j,o,aR=>by
   simp only [ln,Bool.and_eq_true] at h
   cases j with
   | zero=>simp only [List.getElem?_cons_zero,Option.some.injEq] at aR;subst aR;exact ⟨m,rfl,h.1⟩
   | succ j=>
     obtain ⟨cW,aa,ae⟩:=nJ h.2 j o (by simpa using aR)
     exact ⟨cW,by simpa using aa,by rw [show k + (j+1)=k+1+j from by omega];exact ae⟩
theorem IJ {f:Nat→Nat→Oper→Bool}:∀{k:Nat} {ms:List Nat} {os:List Oper},ms.length=os.length→(∀j m o,ms[j]? =some m→os[j]? =some o→f (k+j) m o=true)→ln f k ms os=true
 | _,[],[],_,_=>rfl
 | _,[],_::_,h,_=>by simp at h
 | _,_::_,[],h,_=>by simp at h
 | k,m::ms,o::os,h,ax=>by
   simp only [ln,Bool.and_eq_true]
   refine ⟨ax 0 m o rfl rfl,IJ (by simpa using h) fun j cW bX aa ae=>?_⟩
   have:=ax (j+1) cW bX (by simpa using aa) (by simpa using ae)
   rw [show k+1+j=k + (j+1) from by omega]
   exact this
theorem G7:∀(os:List Oper) (dn:List Nat),(dW dn os).length=dn.length+os.length
 | [],dn=>rfl
 | o::os,dn=>by simp [dW,G7 os];omega
section
variable {P:Program}
theorem KA {o:Oper} {call:dc} {r:br} {h ab:af} {v:V} (aC:eb P o.op=false) (he:(et P o).run call r h=.val v ab):ab=h:=by
 obtain ⟨dst,op,type,pos,after,guard⟩:=o
 cases op<;>simp only [eb] at aC<;>try (cases aC;done)
 all_goals simp only [et] at he
 case convert s d x=>
  unfold nX at he
  cases aQ:a7 P s with
  | none=>rw [aQ] at he;cases he
  | some rq=>
    cases aX:a7 P d with
    | none=>rw [aX] at aC;cases aC
    | some l'=>
      rw [aQ,aX] at he
      rw [aX] at aC
      simp only at he aC
      cases hu:l'.bb with
      | int k=>
        rw [hu] at he
        obtain ⟨bl,n,_,aa⟩:=yj he
        simp only [aV.val.injEq] at aa
        exact aa.2.symm
      | slice e=>rw [hu] at aC;cases aC
      | string=>
        rw [hu] at he
        simp only at he
        have other:∀x:V,(match x with
         | .str s=>aV.val (.str s) h
         | .int _ n=>.val (.str (Utf8.encode n).data.toList) h
         | _=>.fail)=.val v ab→ab=h:=by
         intro x he
         cases x<;>simp only at he<;>first
          | (cases he;done)
          | (simp only [aV.val.injEq] at he;exact he.2.symm)
        cases MK:rq.bb with
        | slice e=>
          rw [MK] at he
          simp only at he
          cases cf:a7 P e with
          | none=>rw [cf] at he;cases he
          | some bd=>
            rw [cf] at he
            simp only at he
            have agn:∀b off len,ry b off len h=.val v ab→ab=h:=by
             intro b off len he
             unfold ry at he
             cases aG:h.get b<;>rw [aG] at he<;>simp only [bW.mE] at he<;>try (cases he;done)
             all_goals
              obtain ⟨_,ae⟩:=jb he
              cases ZU:lY (f_ _ off len)<;>rw [ZU] at ae<;>first
               | (cases ae;done)
               | (simp only [aV.val.injEq] at ae;exact ae.2.symm)
            cases eC:bd.bb with
            | int xY=>
              rw [eC] at he
              cases xY<;>simp only at he<;>try (cases he;done)
              simp only [qB] at he
              cases ak:(bE x).run r<;>rw [ak] at he<;>simp only at he<;>first
               | (cases he;done)
               | exact agn _ _ _ he
               | (simp only [aV.val.injEq] at he;exact he.2.symm)
            | _=>rw [eC] at he;cases he
        | _=>rw [MK] at he;exact other _ he
      | _=>rw [hu] at he;cases he
 case call c=>
  obtain ⟨callee,args,types⟩:=c
  cases callee<;>simp only at aC<;>try (cases aC;done)
  rename_i b
  simp only [pc] at he
  cases b<;>simp only at aC<;>try (cases aC;done)
  · simp only [o_] at he
    cases eE:types.toList with
    | nil=>rw [eE] at he;simp [eZ.none] at he
    | cons t cl=>
      cases cl with
      | cons _ _=>rw [eE] at he;simp [eZ.none] at he
      | nil=>
        rw [eE] at he
        simp only at he
        cases aD:a7 P t with
        | none=>rw [aD] at he;simp [eZ.none] at he
        | some aM=>
          rw [aD] at he
          rw [eE] at aC
          simp only [GL,aD] at aC
          simp only [aC,cond_false] at he
          split at he
          · exact (aV.gV he).2
          · cases he
  · exact (aV.gV he).2
  · exact (aV.gV he).2
 case move=>simp only [aV.val.injEq] at he;exact he.2.symm
 case assign=>simp only [aV.val.injEq] at he;exact he.2.symm
 case pick c a b=>
  split at he
  · simp only [aV.val.injEq] at he;exact he.2.symm
  · cases he
 case makeFunc fn first dY=>
  cases fn<;>simp only at he<;>try (simp [cT.none] at he;done)
  rename_i f
  cases ax:(first.isEmpty&&!Nat.beq f cR)<;>rw [ax] at he
  · simp only [cond_false] at he
    cases hK:(dY.isEmpty&&!Nat.beq f cR)<;>rw [hK] at he
    · simp [cT.none] at he
    · simp only [cond_true,aV.val.injEq] at he;exact he.2.symm
  · simp only [cond_true,aV.val.injEq] at he;exact he.2.symm
 case typeAssert x rC t ok=>
  cases aD:a7 P t with
  | none=>rw [aD] at he;simp [cT.none] at he
  | some aM=>
    rw [aD] at he
    simp only at he
    cases ag:Nat.beq (ef aM.bb) 5<;>rw [ag] at he
    · exact (aV.gV he).2
    · simp [cT.none] at he
 case makeInterface t x=>
  cases aD:a7 P t with
  | none=>rw [aD] at he;simp [cT.none] at he
  | some aM=>
    rw [aD] at he
    simp only at he
    cases ag:Nat.beq (ef aM.bb) 5<;>rw [ag] at he
    · simp only [cond_false,aV.val.injEq] at he;exact he.2.symm
    · simp [cT.none] at he
 case extract x i=>
  split at he
  · exact (aV.gV he).2
  · cases he
 all_goals exact (aV.gV he).2
theorem aV.s9 {h ab:af} {x:Option V} {v:V} (he:aV.of h x=.val v ab) (H:af):aV.of H x=.val v H:=by
 rw [(aV.gV he).1];rfl
theorem Kz {o:Oper} {call:dc} {r:br} {h ab:af} {v:V} (aC:eb P o.op=false) (ai:looks o.op=false) (he:(et P o).run call r h=.val v ab) (H:af):(et P o).run call r H=.val v H:=by
 obtain ⟨dst,op,type,pos,after,guard⟩:=o
 cases op<;>simp only [eb] at aC<;>try (cases aC;done)
 all_goals simp only [looks] at ai<;>try (cases ai;done)
 all_goals simp only [et] at he ⊢
 case call c=>
  obtain ⟨callee,args,types⟩:=c
  cases callee<;>simp only at aC<;>try (cases aC;done)
  rename_i b
  simp only [pc] at he ⊢
  cases b<;>simp only at aC<;>try (cases aC;done)
  · simp only [o_] at he ⊢
    cases eE:types.toList with
    | nil=>rw [eE] at he;simp [eZ.none] at he
    | cons t cl=>
      cases cl with
      | cons _ _=>rw [eE] at he;simp [eZ.none] at he
      | nil=>
        rw [eE] at he
        simp only at he ⊢
        cases aD:a7 P t with
        | none=>rw [aD] at he;simp [eZ.none] at he
        | some aM=>
          rw [aD] at he
          rw [eE] at aC
          simp only [GL,aD] at aC
          simp only [aC,cond_false] at he ⊢
          split at he
          · exact aV.s9 he H
          · cases he
  · exact aV.s9 he H
  · exact aV.s9 he H
 case move=>simp only [aV.val.injEq] at he;rw [he.1]
 case assign=>simp only [aV.val.injEq] at he;rw [he.1]
 case pick c a b=>
  split at he
  · simp only [aV.val.injEq] at he;rw [he.1]
  · cases he
 case makeFunc fn first dY=>
  cases fn<;>simp only at he ⊢<;>try (simp [cT.none] at he;done)
  rename_i f
  cases ax:(first.isEmpty&&!Nat.beq f cR)<;>rw [ax] at he
  · simp only [cond_false] at he ⊢
    cases hK:(dY.isEmpty&&!Nat.beq f cR)<;>rw [hK] at he
    · simp [cT.none] at he
    · simp only [cond_true,aV.val.injEq] at he ⊢;exact ⟨he.1,trivial⟩
  · simp only [cond_true,aV.val.injEq] at he ⊢;exact ⟨he.1,trivial⟩
 case typeAssert x rC t ok=>
  cases aD:a7 P t with
  | none=>rw [aD] at he;simp [cT.none] at he
  | some aM=>
    rw [aD] at he
    simp only at he ⊢
    cases ag:Nat.beq (ef aM.bb) 5<;>rw [ag] at he
    · exact aV.s9 he H
    · simp [cT.none] at he
 case makeInterface t x=>
  cases aD:a7 P t with
  | none=>rw [aD] at he;simp [cT.none] at he
  | some aM=>
    rw [aD] at he
    simp only at he ⊢
    cases ag:Nat.beq (ef aM.bb) 5<;>rw [ag] at he
    · simp only [cond_false,aV.val.injEq] at he ⊢;exact ⟨he.1,trivial⟩
    · simp [cT.none] at he
 case extract x i=>
  split at he
  · exact aV.s9 he H
  · cases he
 all_goals exact aV.s9 he H
end
end Go.Proofs.YtkehcalakofigaaGreatDoor.aS
namespace Go.Proofs.YtkehcalakofigaaGreatDoor.aS
variable [Lay]
open Go Go.RowKit
section
variable {P:Program}
def Jg (P:Program) (E:Env) (m:Sem Value) (v:V) (h ab:af):Prop:=
 ∃k,ab=h.new k∧True∧∀w,∃X cM,m.run P w=.ok X {w with heap:=w.heap.push cM}∧
  ∀ar,E.le ar→ar (ay h.next)=some ⟨w.heap.size,0,0⟩→Rel ar v X∧∀B,B≤w.heap.size→fl B ar {w with heap:=w.heap.push cM} (ay h.next) k
theorem Hg {E:Env} {h ab:af} {ad:List V} {l:List Value} (ai:a8 E ad l) (he:fg h ad=some ab) (t:TypeId):
 ∃k,ab=h.new k∧True∧∀w,(newRow t l.toArray).run P w=.ok ⟨w.heap.size,0,none⟩ {w with heap:=w.heap.push (.cells l.toArray t)}∧
  ∀ar,E.le ar→ar (ay h.next)=some ⟨w.heap.size,0,0⟩→∀B,B≤w.heap.size→fl B ar {w with heap:=w.heap.push (.cells l.toArray t)} (ay h.next) k:=by
 unfold fg at he
 obtain ⟨ao,he⟩:=dL he
 rw [Nat.ble_eq] at ao
 cases he
 refine ⟨_,rfl,trivial,fun w=>⟨by simp [newRow],fun ar hle dj B cN=>?_⟩⟩
 have:=w5 (a8.mono hle _ _ ai) ao #[]
 rw [Array.append_empty] at this
 exact ⟨ao,_,_,t,(0,0),dj,cN,by simp,.inr (Nat.le_refl _),fun _=>rfl,fun h=>absurd rfl h,this⟩
theorem S5 {E:Env} {h ab:af} {t:TypeId} {n:Nat} {bc:List (Nat × V)} {h_:List (Nat × Value)} {v:V} (ah:o3 E bc h_) (he:(r2 P t n).run bc h=.val v ab):
 Jg P E (Instr.buildSlice t n h_.toArray) v h ab:=by
 unfold r2 at he
 cases aD:a7 P t with
 | none=>rw [aD] at he;cases he
 | some aM=>
   rw [aD] at he
   simp only at he
   have hu:=eK aD
   cases bJ:aM.bb with
   | slice e=>
     rw [bJ] at he hu
     simp only at he
     cases cf:a7 P e with
     | none=>rw [cf] at he;cases he
     | some bd=>
       rw [cf] at he
       simp only at he
       cases bh:bd.zero with
       | none=>rw [bh] at he;cases he
       | some z=>
         rw [bh] at he
         simp only at he
         cases ao:(Nat.ble (n * bd.size) 1000000&&Nat.beq z.cells.length bd.size) with
         | false=>rw [ao] at he;cases he
         | true=>
           rw [ao] at he
           simp only [cond_true] at he
           simp only [Bool.and_eq_true,Nat.ble_eq,Nat.beq_eq] at ao
           cases ax:kS (fun i=>some (i * bd.size,bd.size)) (hh z.cells n) bc with
           | none=>rw [ax] at he;cases he
           | some cs=>
             rw [ax] at he
             simp only at he
             cases aZ:fg h cs with
             | none=>rw [aZ] at he;cases he
             | some aa=>
               rw [aZ] at he
               simp only [aV.val.injEq] at he
               obtain ⟨rfl,rfl⟩:=he
               obtain ⟨x,ak,ou,ov⟩:=rD (P:=P) (E:=E) cf bh ⟨#[],fun _ _=>0,0,default,#[]⟩
               have sO:x.cells.size=bd.size:=by rw [ov,ao.2]
               have sK:=yC ou n
               rw [sO] at sK
               obtain ⟨b,ij,m'⟩:=w3 (a:=(Array.range (n * bd.size)).map (x.cells[· % x.cells.size]!)) ah (by rw [sO];exact sK) ax
               obtain ⟨k,g1,g2,g3⟩:=Hg (P:=P) m' aZ e
               refine ⟨k,g1,g2,fun w=>⟨.slice (some ⟨w.heap.size,0,none⟩) n n,.cells b e,?_,fun ar hle dj=>⟨?_,?_⟩⟩⟩
               · have sC:¬16777216<n * bd.size:=by omega
                 have kZ:(newRow e b).run P w=.ok ⟨w.heap.size,0,none⟩ {w with heap:=w.heap.push (.cells b e)}:=by simpa using (g3 w).1
                 by_cases ba:n * bd.size=0
                 · have Fl:Instr.fill (fun i=>some (i * bd.size,bd.size)) ((Array.range (n * bd.size)).map ((#[]:Array Value)[· % 0]!)) h_=some b:=by
                    have aN:(Array.range (n * bd.size)).map ((#[]:Array Value)[· % 0]!)=(Array.range (n * bd.size)).map (x.cells[· % x.cells.size]!):=by
                     rw [ba];simp
                    rw [aN];exact ij
                   have Fm:Instr.fill (fun i=>some (i * bd.size,bd.size)) ((Array.range (n * bd.size)).map (fun x=>(#[]:Array Value)[x % (#[]:Array Value).size]!)) h_=some b:=Fl
                   simp only [Instr.buildSlice,Sem.run_bind,hu,Result.andThen_ok,ix cf,Sem.run_ite]
                   rw [if_neg sC]
                   simp only [Sem.run_pure,Result.andThen_ok,if_pos ba]
                   rw [Fm]
                   simp only [Sem.run_bind,kZ,Result.andThen_ok,Sem.run_pure]
                 · simp only [Instr.buildSlice,Sem.run_bind,hu,Result.andThen_ok,ix cf,Sem.run_ite]
                   rw [if_neg sC]
                   simp only [Sem.run_pure,Result.andThen_ok,if_neg ba,ak]
                   rw [ij]
                   simp only [Sem.run_bind,kZ,Result.andThen_ok,Sem.run_pure]
               · simp only [Rel]
                 exact ⟨_,dj,Nat.le_refl _,by simp⟩
               · simpa using (g3 w).2 ar hle dj
   | _=>rw [bJ] at he;cases he
set_option maxHeartbeats 2000000 in
theorem V8 {E:Env} {h ab:af} {call:dc} {o:Oper} {an:Nat} {r:br} {a:Act} {v:V} (bn:fr o=true) (he:(et P o).run call r h=.val v ab) (k:RegRel0 E an r a):
 ∃m:Sem Value,execOp a.eval o=(do pure (.value (←m)))∧Jg P E m v h ab:=by
 obtain ⟨dst,op,type,pos,after,guard⟩:=o
 cases op<;>simp only [fr] at bn<;>try (cases bn;done)
 all_goals simp only [et] at he
 case alloc t=>
  refine ⟨Instr.alloc t true (.tuple #[]),rfl,?_⟩
  cases aD:a7 P t with
  | none=>rw [aD] at he;simp [cT.none] at he
  | some aM=>
    rw [aD] at he
    simp only at he
    cases bh:aM.zero with
    | none=>rw [bh] at he;simp [cT.none] at he
    | some z=>
      rw [bh] at he
      simp only at he
      cases aZ:fg h z.cells with
      | none=>rw [aZ] at he;cases he
      | some aa=>
        rw [aZ] at he
        simp only [gj,aV.val.injEq] at he;obtain ⟨rfl,rfl⟩:=he
        obtain ⟨x,ak,ou,_⟩:=rD (P:=P) (E:=E) aD bh ⟨#[],fun _ _=>0,0,default,#[]⟩
        obtain ⟨cJ,g1,g2,g3⟩:=Hg (P:=P) ou aZ t
        refine ⟨cJ,g1,g2,fun w=>⟨.pointer (some ⟨w.heap.size,0,none⟩),.cells x.cells t,?_,fun ar hle dj=>⟨?_,?_⟩⟩⟩
        · have:=(g3 w).1
          simp only [Array.toArray_toList] at this
          simp only [Instr.alloc,Sem.run_bind,ak,Result.andThen_ok,newVar,this,Sem.run_pure]
        · simp only [Rel];exact ⟨_,dj,by simp⟩
        · simpa using (g3 w).2 ar hle dj
 case box t x=>
  refine ⟨Instr.box t (a.eval x),rfl,?_⟩
  obtain ⟨aG,he⟩:=jb he
  cases aZ:fg h ((bE x).run r).cells with
  | none=>rw [aZ] at he;cases he
  | some aa=>
    rw [aZ] at he
    simp only [gj,aV.val.injEq] at he;obtain ⟨rfl,rfl⟩:=he
    have ai:=(de k x).cells (fun e=>by rw [e] at aG;cases aG)
    obtain ⟨cJ,g1,g2,g3⟩:=Hg (P:=P) ai aZ t
    refine ⟨cJ,g1,g2,fun w=>⟨.pointer (some ⟨w.heap.size,0,none⟩),.cells (a.eval x).cells t,?_,fun ar hle dj=>⟨?_,?_⟩⟩⟩
    · have:=(g3 w).1
      simp only [Array.toArray_toList] at this
      simp only [Instr.box,Sem.run_bind,newVar,this,Result.andThen_ok,Sem.run_pure]
    · simp only [Rel];exact ⟨_,dj,by simp⟩
    · simpa using (g3 w).2 ar hle dj
 case buildSlice t n bc=>
  refine ⟨Instr.buildSlice t n (bc.map fun (i,x)=>(i,a.eval x)),rfl,?_⟩
  rw [HE]
  exact S5 (BL k bc.toList) he
 case makeMap t x=>
  cases x with
  | some _=>cases bn
  | none=>
    refine ⟨Instr.makeMap t none,rfl,?_⟩
    simp only [oG,vf] at he
    cases aD:a7 P t with
    | none=>rw [aD] at he;cases he
    | some aM=>
      rw [aD] at he
      simp only at he
      cases ag:Nat.beq (ef aM.bb) 3 with
      | false=>rw [ag] at he;cases he
      | true=>
        rw [ag] at he
        simp only [cond_true,q2,s5] at he
        simp only [aV.val.injEq] at he
        obtain ⟨rfl,rfl⟩:=he
        refine ⟨_,rfl,trivial,fun w=>⟨.map (some w.heap.size),.map #[] 0,?_,fun ar hle dj=>⟨?_,fun B cN=>?_⟩⟩⟩
        · simp only [Instr.makeMap,Sem.run_bind,run_newObj,Result.andThen_ok,Sem.run_pure]
        · simp only [Rel];exact ⟨_,dj,rfl⟩
        · exact ⟨_,#[],dj,cN,by simp,rfl⟩
def Fr.hold (F:Fr) (b:aO) (k:bW):Fr:=⟨F.w,fun bC=>if bC=b then some k else F.dK bC⟩
def Fr.free (F:Fr) (b:aO):Fr:=⟨F.w,fun bC=>if bC=b then none else F.dK bC⟩
theorem a1.hold {F:Fr} {E:Env} {h:af} {w:World} (s:a1 F E h w) (k:bW):a1 (F.hold (ay h.next) k) E (h.new k) w:=by
 have c7:=s.fresh h.next (Nat.le_refl _)
 refine ⟨fun b ag=>?_,fun b bl aA=>?_,fun b bC p p' aa ae aN aY ga=>?_,fun i az=>s.fresh i (Nat.le_of_succ_le az),s.frame,s.laid,fun b p n cs st aa aN=>s.base b p n cs st (by
  have c1:ay h.next≠b:=fun e=>by rw [←e,c7] at aN;cases aN
  rwa [af.gE,if_neg c1] at aa) aN⟩
 · simp only [Fr.hold] at ag
   by_cases aC:b=ay h.next
   · rw [if_pos aC] at ag;cases ag
   · rw [if_neg aC] at ag
     rw [af.gE,if_neg (fun e=>aC e.symm)]
     exact s.a_ b ag
 · simp only [Fr.hold] at aA
   by_cases aC:b=ay h.next
   · rw [if_pos aC] at aA
     cases aA
     exact ⟨by rw [af.gE,if_pos aC.symm],by rw [aC];exact c7,h.next,Nat.lt_succ_self _,aC⟩
   · rw [if_neg aC] at aA
     obtain ⟨aq,av,i,aK,bD⟩:=s.mA b bl aA
     exact ⟨by rw [af.gE,if_neg (fun e=>aC e.symm)];exact aq,av,i,Nat.lt_succ_of_lt aK,bD⟩
 · have c1:ay h.next≠b:=fun e=>by rw [←e,c7] at aN;cases aN
   have hO:ay h.next≠bC:=fun e=>by rw [←e,c7] at aY;cases aY
   rw [af.gE,if_neg c1] at aa
   rw [af.gE,if_neg hO] at ae
   exact s.inj b bC p p' aa ae aN aY ga
theorem a1.link {F:Fr} {E:Env} {h:af} {w:World} (s:a1 F E h w) {b:aO} {k:bW} (ah:F.dK b=some k) {o:Obj}
 (hc:fl F.w.heap.size (E.put b ⟨w.heap.size,0,0⟩) {w with heap:=w.heap.push o} b k):
 E.le (E.put b ⟨w.heap.size,0,0⟩)∧a1 (F.free b) (E.put b ⟨w.heap.size,0,0⟩) h {w with heap:=w.heap.push o}:=by
 obtain ⟨aA,c7,i0,sw,lD⟩:=s.mA b k ah
 have hle:E.le (E.put b ⟨w.heap.size,0,0⟩):=Env.jn c7
 have dj:E.put b ⟨w.heap.size,0,0⟩ b=some ⟨w.heap.size,0,0⟩:=by unfold Env.put;rw [if_pos rfl]
 have hold:∀bC,bC≠b→E.put b ⟨w.heap.size,0,0⟩ bC=E bC:=by intro bC ag;unfold Env.put;rw [if_neg ag]
 have hZ:∀bC q,E bC=some q→(h.get bC)≠.dead→q.a_<w.heap.size:=by
  intro bC q aC aX
  have ag:=s.at aC
  cases aG:h.get bC with
  | dead=>exact absurd aG aX
  | view n cs=>rw [aG] at ag;obtain ⟨_,dS,c,el,bL,e,_,a',_⟩:=ag;rw [e] at aC;cases aC;exact (Array.getElem?_eq_some_iff.1 a').1
  | cells n cs cv st=>rw [aG] at ag;obtain ⟨_,dS,c,el,bL,e,_,a',_⟩:=ag;rw [e] at aC;cases aC;exact (Array.getElem?_eq_some_iff.1 a').1
  | iter st pos=>rw [aG] at ag;obtain ⟨dS,e,_,_,a'⟩:=ag;rw [e] at aC;cases aC;exact (Array.getElem?_eq_some_iff.1 a').1
  | mp es clock=>rw [aG] at ag;obtain ⟨dS,a,e,_,a',_⟩:=ag;rw [e] at aC;cases aC;exact (Array.getElem?_eq_some_iff.1 a').1
  | cY l=>rw [aG] at ag;obtain ⟨dS,a,e,_,a',_⟩:=ag;rw [e] at aC;cases aC;exact (Array.getElem?_eq_some_iff.1 a').1
  | eu=>rw [aG] at ag;obtain ⟨dS,e,_,a'⟩:=ag;rw [e] at aC;cases aC;exact (Array.getElem?_eq_some_iff.1 a').1
  | gx es=>rw [aG] at ag;obtain ⟨dS,a,c,l,e,_,a',_⟩:=ag;rw [e] at aC;cases aC;exact (Array.getElem?_eq_some_iff.1 a').1
  | hv src since seen last=>rw [aG] at ag;obtain ⟨dS,m,a,e,_,_,a',_⟩:=ag;rw [e] at aC;cases aC;exact (Array.getElem?_eq_some_iff.1 a').1
 refine ⟨hle,fun bC fP=>?_,fun bC bl fz=>?_,fun b7 b_ b2 cq aa ae aN aY ga=>?_,fun i az=>?_,⟨s.frame.os,s.frame.tape,s.frame.output,?_,fun j bI=>?_⟩,s.laid,fun b7 b2 n cs st aa aN=>by
  by_cases bs:b7=b
  · subst bs;rw [dj] at aN;cases aN;rfl
  · rw [hold b7 bs] at aN;exact s.base _ _ _ _ _ aa aN⟩
 · by_cases aC:bC=b
   · subst aC;rw [aA];exact hc
   · simp only [Fr.free,if_neg aC] at fP
     have ba:=(s.a_ bC fP).mono hle
     by_cases aX:h.get bC=.dead
     · rw [aX];trivial
     · refine fl.e5 ba fun q lK=>?_
       rw [hold bC aC] at lK
       have:=hZ bC q lK aX
       simp only [Array.getElem?_push]
       rw [if_neg (by omega)]
 · simp only [Fr.free] at fz
   by_cases aC:bC=b
   · rw [if_pos aC] at fz;cases fz
   · rw [if_neg aC] at fz
     obtain ⟨aq,av,aK⟩:=s.mA bC bl fz
     exact ⟨aq,by rw [hold bC aC];exact av,aK⟩
 · by_cases bs:b7=b<;>by_cases bN:b_=b
   · exact bs.trans bN.symm
   · subst bs
     rw [dj] at aN;cases aN
     rw [hold b_ bN] at aY
     have:=hZ b_ cq aY (fun e=>by rw [e] at ae;cases ae)
     simp only at ga
     omega
   · subst bN
     rw [dj] at aY;cases aY
     rw [hold b7 bs] at aN
     have:=hZ b7 b2 aN (fun e=>by rw [e] at aa;cases aa)
     simp only at ga
     omega
   · rw [hold b7 bs] at aN
     rw [hold b_ bN] at aY
     exact s.inj b7 b_ b2 cq aa ae aN aY ga
 · rw [hold _ (fun e=>?_)]
   · exact s.fresh i az
   · rw [lD] at e
     have:=fB e
     omega
 · have:=s.frame.size
   simp only [Array.size_push,Fr.free]
   omega
 · have aa:=s.frame.size
   simp only [Fr.free,Array.getElem?_push]
   rw [if_neg (by simp only [Fr.free] at bI;omega)]
   exact s.frame.block j bI
end
end Go.Proofs.YtkehcalakofigaaGreatDoor.aS
namespace Go.Proofs.YtkehcalakofigaaGreatDoor.aS
variable [Lay]
open Go Go.RowKit
section
variable {P:Program}
def dG (es:List d_) (cC:br) (i:Nat):br:=
 match es[i]? with
 | some e=>e.r
 | none=>cC
theorem uH (e:d_) (es:List d_) (ax:af) (i:Nat):b0 (e::es) ax (i+1)=b0 es ax i:=by simp [b0]
theorem vA (e:d_) (es:List d_) (cC:br) (i:Nat):dG (e::es) cC (i+1)=dG es cC i:=by simp [dG]
theorem rv {an:Nat} {all:Array Oper} {call:dc}:∀{l:List Oper} {r cC:br} {h ax:af} {es:List d_},(eH P an all l).run call r h=.ok es cC ax→
 es.length=l.length∧b0 es ax 0=h∧dG es cC 0=r∧∀j o,l[j]? =some o→∃e,es[j]? =some e∧(cg P an all o).run call e.r e.h=.val e.v (b0 es ax (j+1))∧dG es cC (j+1)=(eJ o.dst).run e.r e.v
 | [],r,cC,h,ax,es,he=>by
   simp only [eH,nM.ok.injEq] at he
   obtain ⟨rfl,rfl,rfl⟩:=he
   exact ⟨rfl,rfl,rfl,fun j o aR=>by simp at aR⟩
 | o::os,r,cC,h,ax,es,he=>by
   simp only [eH,yI] at he
   cases aa:(cg P an all o).run call r h with
   | fail=>rw [aa] at he;cases he
   | ck _ _=>rw [aa] at he;simp only at he;cases hm:jX o.op<;>rw [hm] at he<;>cases he
   | val v a'=>
     rw [aa] at he
     simp only at he
     cases ae:(eH P an all os).run call ((eJ o.dst).run r v) a' with
     | fail=>rw [ae] at he;cases he
     | ck _ _ _ _ _=>rw [ae] at he;cases he
     | ok f' bz aF=>
       rw [ae] at he
       simp only [nM.ok.injEq] at he
       obtain ⟨rfl,rfl,rfl⟩:=he
       obtain ⟨aq,av,aK,bD⟩:=rv ae
       refine ⟨by simp [aq],by simp [b0],by simp [dG],fun j bX aR=>?_⟩
       cases j with
       | zero=>
         simp only [List.getElem?_cons_zero,Option.some.injEq] at aR
         subst aR
         exact ⟨⟨r,h,v⟩,rfl,by rw [uH,av];exact aa,by rw [vA,aK]⟩
       | succ j=>
         obtain ⟨e,b2,cq,dR⟩:=bD j bX (by simpa using aR)
         exact ⟨e,by simpa using b2,by rw [uH];exact cq,by rw [vA];exact dR⟩
theorem Qd {an:Nat} {all:Array Oper} {call:dc}:∀{l:List Oper} {r cC:br} {h ax ab:af} {es:List d_} {v:V},(eH P an all l).run call r h=.ck es cC ax v ab→
 b0 es ax 0=h∧dG es cC 0=r∧(∀j o,j<es.length→l[j]? =some o→∃e,es[j]? =some e∧(cg P an all o).run call e.r e.h=.val e.v (b0 es ax (j+1))∧dG es cC (j+1)=(eJ o.dst).run e.r e.v)∧
  ∃o,l[es.length]? =some o∧jX o.op=true∧(cg P an all o).run call cC ax=.ck v ab
 | [],r,cC,h,ax,ab,es,v,he=>by simp [eH] at he
 | o::os,r,cC,h,ax,ab,es,v,he=>by
   simp only [eH,yI] at he
   cases aa:(cg P an all o).run call r h with
   | fail=>rw [aa] at he;cases he
   | ck x ak=>
     rw [aa] at he
     simp only at he
     cases hm:jX o.op with
     | false=>rw [hm] at he;cases he
     | true=>
       rw [hm] at he
       simp only [cond_true,nM.ck.injEq] at he
       obtain ⟨rfl,rfl,rfl,rfl,rfl⟩:=he
       exact ⟨rfl,rfl,fun j bX bI=>by simp at bI,o,rfl,hm,aa⟩
   | val x a'=>
     rw [aa] at he
     simp only at he
     cases ae:(eH P an all os).run call ((eJ o.dst).run r x) a' with
     | fail=>rw [ae] at he;cases he
     | ok _ _ _=>rw [ae] at he;cases he
     | ck f' bz aF v1 bu=>
       rw [ae] at he
       simp only [nM.ck.injEq] at he
       obtain ⟨rfl,rfl,rfl,rfl,rfl⟩:=he
       obtain ⟨av,aK,bD,c2,dr,fi,jv⟩:=Qd ae
       refine ⟨by simp [b0],by simp [dG],fun j bX bI aR=>?_,c2,by simpa using dr,fi,jv⟩
       cases j with
       | zero=>
         simp only [List.getElem?_cons_zero,Option.some.injEq] at aR
         subst aR
         exact ⟨⟨r,h,x⟩,rfl,by rw [uH,av];exact aa,by rw [vA,aK]⟩
       | succ j=>
         obtain ⟨e,b2,cq,dR⟩:=bD j bX (by simpa using bI) (by simpa using aR)
         exact ⟨e,by simpa using b2,by rw [uH];exact cq,by rw [vA];exact dR⟩
theorem LH {an:Nat} {d:Option Nat} (aX:ew an d=true) {r:br} {v:V} {t:Nat} (aD:t≤top):T.get .bad (ay t) ((eJ d).run r v)=if d=some t then v else T.get .bad (ay t) r:=by
 cases d with
 | none=>simp [eJ]
 | some d=>
   simp only [ew,Bool.and_eq_true,Nat.blt_eq,Nat.ble_eq] at aX
   simp only [eJ,T.gF,Option.some.injEq]
   by_cases h:d=t
   · subst h;simp
   · rw [if_neg (fun e=>h (fB e)),if_neg h]
theorem iE {an:Nat} {all:Array Oper} {o:Oper} {call:dc} {r:br} {h ab:af} {v:V} (he:(cg P an all o).run call r h=.val v ab):ew an o.dst=true∧iV (bS all o)=true:=by
 unfold cg at he
 cases ao:(ew an o.dst&&iV (bS all o)) with
 | false=>rw [ao] at he;simp [cT.none] at he
 | true=>simpa using ao
theorem Qo {r:br} {rs:List Nat} (aQ:iV rs=true) {t:Nat} (aD:t≤top):T.get .bad (ay t) (c8 r rs)=if t ∈ rs then T.get .bad (ay t) r else .bad:=by
 induction rs with
 | nil=>simp [c8]
 | cons u rs bf=>
   simp only [iV,List.all_cons,Bool.and_eq_true,Nat.ble_eq] at aQ
   simp only [c8,T.gF,List.mem_cons]
   by_cases h:u=t
   · subst h;simp
   · rw [if_neg (fun e=>h (fB e)),bf aQ.2]
     have ab:¬t=u:=fun e=>h e.symm
     simp [ab]
theorem KM {an:Nat} {all:Array Oper} {o:Oper} {call:dc} {r:br} {h ab:af} {v:V} (he:(cg P an all o).run call r h=.ck v ab):ew an o.dst=true∧iV (bS all o)=true:=by
 unfold cg at he
 cases ao:(ew an o.dst&&iV (bS all o)) with
 | false=>rw [ao] at he;simp [cT.none] at he
 | true=>simpa using ao
def C9 (au:Fr) (E:Env) (o:Oper) (a:Act) (K:Act→World→Prop) (Q:Exit→Act→World→Prop):aV→Prop
 | .val v ab=>∀ar x aj,E.le ar→Rel ar v x→a1 au ar ab aj→K (a.put o.dst x) aj
 | .ck v ab=>jX o.op=true∧∀ar x aj,E.le ar→Rel ar v x→a1 au ar ab aj→Q (.panic (nA x)) a aj
 | .fail=>False
theorem KN {rd:Option Nat} {au:Fr} {E:Env} {h:af} {w:World} {call:dc} (bx:dU P) (cy:fv P call) (c9:fF P call) {all:Array Oper} {i:Nat} {o:Oper} (az:all[i]? =some o) {an:Nat} {r:br} {a:Act}
 (fQ:ew an o.dst=true∧iV (bS all o)=true) (nm:a.tmps.size=an) (iL:∀t ∈ bS all o,Rel E (T.get .bad (ay t) r) (a.tmps.getD t undef)) (s:a1 au E h w)
 {K:Act→World→Prop} {Q:Exit→Act→World→Prop} (ah:C9 au E o a K Q ((cg P an all o).run call r h)):wpOpIn (bU rd) 0 P all Q i K a w:=by
 obtain ⟨aX,aQ⟩:=fQ
 have k:RegRel0 E an (c8 r (bS all o)) a:=⟨nm,fun t aD=>by
  rw [Qo aQ aD]
  by_cases hm:t ∈ bS all o
  · rw [if_pos hm];exact iL t hm
  · rw [if_neg hm];simp [Rel]⟩
 unfold cg at ah
 rw [show (ew an o.dst&&iV (bS all o))=true from by rw [aX,aQ];rfl] at ah
 simp only [cond_true] at ah
 have wanted:C9 au E o a K Q ((et P o).run call (c8 r (bS all o)) h)→Region.wanted o (yielded all a.tmps)=true→wpOpIn (bU rd) 0 P all Q i K a w:=by
  intro aa hw
  simp only [wpOpIn,az,hw,if_true]
  cases aH:(et P o).run call (c8 r (bS all o)) h with
  | fail=>rw [aH] at aa;exact aa.elim
  | val v ab=>rw [aH] at aa;exact KB bx cy c9 aH k s aa
  | ck v ab=>rw [aH] at aa;exact Ky bx cy aa.1 aH k s aa.2
 have Qx:C9 au E o a K Q (.val (.tuple []) h)→Region.wanted o (yielded all a.tmps)=false→wpOpIn (bU rd) 0 P all Q i K a w:=by
  intro aa hw
  simp only [wpOpIn,az,hw,Bool.false_eq_true,if_false]
  exact ⟨fun _ _=>trivial,aa E undef w (Env.le.refl E) (by simp only [Rel];exact ⟨#[],rfl,rfl⟩) s⟩
 cases aG:o.guard with
 | none=>
   rw [aG] at ah
   exact wanted ah (by simp [Region.wanted,aG])
 | some np=>
   obtain ⟨j,want⟩:=np
   rw [aG] at ah
   simp only at ah
   cases bI:all[j]? with
   | none=>rw [bI] at ah;exact ah.elim
   | some g=>
     rw [bI] at ah
     simp only at ah
     cases iI:g.dst with
     | none=>rw [iI] at ah;exact ah.elim
     | some d=>
       rw [iI] at ah
       simp only at ah
       cases ao:(Nat.blt d an&&Nat.ble d top) with
       | false=>rw [ao] at ah;exact ah.elim
       | true=>
         rw [ao] at ah
         simp only [cond_true,hp,mb] at ah
         simp only [Bool.and_eq_true,Nat.blt_eq,Nat.ble_eq] at ao
         obtain ⟨g1,g2⟩:=E6 k bI iI ao.1 ao.2
         cases bp:T.get .bad (ay d) (c8 r (bS all o))<;>rw [bp] at ah<;>simp only at ah<;>try (exact ah.elim)
         · rename_i b
           have a6:=g1 b bp
           cases ag:(bif want then b else !b) with
           | true=>
             rw [ag] at ah
             simp only [cond_true] at ah
             refine wanted ah ?_
             simp only [Region.wanted,aG,a6]
             cases want<;>cases b<;>simp_all
           | false=>
             rw [ag] at ah
             simp only [cond_false] at ah
             refine Qx ah ?_
             simp only [Region.wanted,aG,a6]
             cases want<;>cases b<;>simp_all
         · rename_i ad
           have a6:=g2 ad bp
           refine Qx ah ?_
           simp only [Region.wanted,aG,a6]
           rfl
theorem nY {rd:Option Nat} {au:Fr} {E:Env} {h ab:af} {w:World} {call:dc} (bx:dU P) (cy:fv P call) (c9:fF P call) {all:Array Oper} {i:Nat} {o:Oper} (az:all[i]? =some o) {an:Nat} {r:br} {a:Act} {v:V}
 (he:(cg P an all o).run call r h=.val v ab) (nm:a.tmps.size=an) (iL:∀t ∈ bS all o,Rel E (T.get .bad (ay t) r) (a.tmps.getD t undef)) (s:a1 au E h w)
 {K:Act→World→Prop} {Q:Exit→Act→World→Prop} (dk:∀ar x aj,E.le ar→Rel ar v x→a1 au ar ab aj→K (a.put o.dst x) aj):wpOpIn (bU rd) 0 P all Q i K a w:=
 KN bx cy c9 az (iE he) nm iL s (by rw [he];exact dk)
theorem Wp {rd:Option Nat} {au:Fr} {E:Env} {h ab:af} {w:World} {call:dc} (bx:dU P) (cy:fv P call) (c9:fF P call) {all:Array Oper} {i:Nat} {o:Oper} (az:all[i]? =some o) {an:Nat} {r:br} {a:Act} {v:V}
 (he:(cg P an all o).run call r h=.ck v ab) (hm:jX o.op=true) (nm:a.tmps.size=an) (iL:∀t ∈ bS all o,Rel E (T.get .bad (ay t) r) (a.tmps.getD t undef)) (s:a1 au E h w)
 {K:Act→World→Prop} {Q:Exit→Act→World→Prop} (cP:∀ar x aj,E.le ar→Rel ar v x→a1 au ar ab aj→Q (.panic (nA x)) a aj):wpOpIn (bU rd) 0 P all Q i K a w:=
 KN bx cy c9 az (KM he) nm iL s (by rw [he];exact ⟨hm,cP⟩)
theorem r5 {an:Nat} {all:Array Oper} {o:Oper} {call:dc} {r:br} {h ab:af} {v:V} (aC:eb P o.op=false) (he:(cg P an all o).run call r h=.val v ab):
 ab=h∧(looks o.op=false→∀H,(cg P an all o).run call r H=.val v H):=by
 obtain ⟨aX,aQ⟩:=iE he
 have cI:(ew an o.dst&&iV (bS all o))=true:=by rw [aX,aQ];rfl
 have key:cg P an all o=(match o.guard with
  | none=>⟨hp none (et P o) (bS all o)⟩
  | some (j,want)=>match all[j]? with
    | some g=>match g.dst with
      | some d=>bif Nat.blt d an&&Nat.ble d top then ⟨hp (some (mb (ay d),want)) (et P o) (bS all o)⟩ else cT.none
      | none=>cT.none
    | none=>cT.none):=by
  unfold cg;rw [cI];rfl
 rw [key] at he ⊢
 cases aG:o.guard with
 | none=>
   rw [aG] at he
   exact ⟨KA aC he,fun ai H=>Kz aC ai he H⟩
 | some np=>
   obtain ⟨j,want⟩:=np
   rw [aG] at he
   simp only at he ⊢
   cases bI:all[j]? with
   | none=>rw [bI] at he;simp [cT.none] at he
   | some g=>
     rw [bI] at he
     simp only at he ⊢
     cases iI:g.dst with
     | none=>rw [iI] at he;simp [cT.none] at he
     | some d=>
       rw [iI] at he
       simp only at he ⊢
       cases ao:(Nat.blt d an&&Nat.ble d top) with
       | false=>rw [ao] at he;simp [cT.none] at he
       | true=>
         rw [ao] at he
         simp only [cond_true,hp] at he ⊢
         cases bp:(mb (ay d)).run (c8 r (bS all o))<;>rw [bp] at he<;>simp only at he ⊢<;>try (cases he;done)
         · rename_i b
           cases ag:(bif want then b else !b)<;>rw [ag] at he<;>simp only [cond_true,cond_false] at he ⊢
           · simp only [aV.val.injEq] at he ⊢
             exact ⟨he.2.symm,fun _ H=>⟨he.1,trivial⟩⟩
           · exact ⟨KA aC he,fun ai H=>Kz aC ai he H⟩
         · simp only [aV.val.injEq] at he ⊢
           exact ⟨he.2.symm,fun _ H=>⟨he.1,trivial⟩⟩
theorem JK {op:cT} {call:dc} {es:List d_} {ax:af} {r:br} {v:V}:∀{ez:List Nat},zD op call es ax r v ez=true→∀s ∈ ez,∃ab,op.run call r (b0 es ax s)=.val v ab
 | [],_,s,h=>by simp at h
 | fC::ez,he,s,hm=>by
   simp only [zD,Bool.and_eq_true] at he
   simp only [List.mem_cons] at hm
   rcases hm with rfl | hm
   · have aa:=he.1
     cases aH:op.run call r (b0 es ax s) with
     | fail=>rw [aH] at aa;cases aa
     | ck _ _=>rw [aH] at aa;cases aa
     | val eh ab=>
       rw [aH] at aa
       rw [ER aa]
       exact ⟨ab,rfl⟩
   · exact JK he.2 s hm
theorem Dp {an:Nat} {all:Array Oper} {dn aB dN:List Nat} {call:dc} {es:List d_} {ax:af}:∀{l:List Oper} {i:Nat},(o8 P an all dn aB dN i l).run call es ax=true→
 ∀j o,l[j]? =some o→looks o.op=true→eb P o.op=false→∀e,es[posOf aB (i+j)]? =some e→∀s ∈ dN,pY P dn all.toList aB (i+j) ((dn[i+j]?).getD 0) s=true→∃ab,(cg P an all o).run call e.r (b0 es ax s)=.val e.v ab
 | [],_,_,j,o,aR,_,_=>by simp at aR
 | bX::os,i,he,j,o,aR,ai,aC=>by
   simp only [o8] at he
   cases j with
   | zero=>
     simp only [List.getElem?_cons_zero,Option.some.injEq] at aR
     subst aR
     rw [ai,aC] at he
     simp only [Bool.not_false,Bool.and_true,cond_true,Bool.and_eq_true,JL] at he
     have aa:=he.1
     intro e kX s aQ hm
     · rw [Nat.add_zero] at kX
       rw [kX] at aa
       exact JK aa s (List.mem_filter.2 ⟨aQ,by simpa using hm⟩)
   | succ j=>
     have rest:(o8 P an all dn aB dN (i+1) os).run call es ax=true:=by
      cases ao:(looks bX.op&&!eb P bX.op) with
      | false=>rw [ao] at he;exact he
      | true=>rw [ao] at he;simp only [cond_true,Bool.and_eq_true] at he;exact he.2
     have:=Dp rest j o (by simpa using aR) ai aC
     rw [show i + (j+1)=i+1+j from by omega]
     exact this
theorem vd {aB:List Nat}:∀{l:List Oper} {i j:Nat} {o:Oper},l[j]? =some o→dB P o=true→posOf aB (i+j) ∈ gh P aB i l
 | [],_,j,o,h,_=>by simp at h
 | bX::os,i,j,o,h,he=>by
   simp only [gh]
   cases j with
   | zero=>
     simp only [List.getElem?_cons_zero,Option.some.injEq] at h
     subst h
     rw [he]
     simp
   | succ j=>
     have:=vd (aB:=aB) (i:=i+1) (by simpa using h) he
     rw [show i + (j+1)=i+1+j from by omega]
     cases dB P bX with
     | true=>simp [this]
     | false=>exact this
theorem Bh {aB:List Nat}:∀{l:List Oper} {i:Nat},i+l.length ∈ gh P aB i l
 | [],_=>by simp [gh]
 | o::os,i=>by
   have:=Bh (aB:=aB) (l:=os) (i:=i+1)
   simp only [gh,List.length_cons]
   rw [show i + (os.length+1)=i+1+os.length from by omega]
   cases dB P o with
   | true=>simp [this]
   | false=>exact this
theorem q1 {aB:List Nat}:∀{l:List Oper} {i s:Nat},s ∈ gh P aB i l→s=i+l.length∨∃j o,l[j]? =some o∧dB P o=true∧s=posOf aB (i+j)
 | [],i,s,h=>by simp only [gh,List.mem_singleton] at h;exact .inl (by simpa using h)
 | o::os,i,s,h=>by
   simp only [gh] at h
   have rest:s ∈ gh P aB (i+1) os→s=i + (o::os).length∨∃j bX,(o::os)[j]? =some bX∧dB P bX=true∧s=posOf aB (i+j):=by
    intro h
    rcases q1 h with h | ⟨j,bX,aa,ae,aF⟩
    · exact .inl (by simp only [List.length_cons];omega)
    · exact .inr ⟨j+1,bX,by simpa using aa,ae,by rw [aF];congr 1;omega⟩
   cases ao:dB P o with
   | true=>
     rw [ao] at h
     simp only [cond_true,List.mem_cons] at h
     rcases h with h | h
     · exact .inr ⟨0,o,rfl,ao,h⟩
     · exact rest h
   | false=>rw [ao] at h;exact rest h
theorem V9 {o:Oper} {call:dc} {r:br} {h ab:af} {v:V} (bn:fr o=true) (he:(et P o).run call r h=.val v ab):∃k,ab=h.new k∧True:=by
 have cells:∀{ad:List V} {aa:af},fg h ad=some aa→∃k,aa=h.new k∧True:=by
  intro ad aa he
  unfold fg at he
  obtain ⟨ao,he⟩:=dL he
  cases he
  exact ⟨_,rfl,trivial⟩
 obtain ⟨dst,op,type,pos,after,guard⟩:=o
 cases op<;>simp only [fr] at bn<;>try (cases bn;done)
 all_goals simp only [et] at he
 case alloc t=>
  cases aD:a7 P t with
  | none=>rw [aD] at he;simp [cT.none] at he
  | some aM=>
    rw [aD] at he
    simp only at he
    cases bh:aM.zero with
    | none=>rw [bh] at he;simp [cT.none] at he
    | some z=>
      rw [bh] at he
      simp only at he
      cases aZ:fg h z.cells with
      | none=>rw [aZ] at he;cases he
      | some aa=>
        rw [aZ] at he
        simp only [gj,aV.val.injEq] at he;obtain ⟨_,rfl⟩:=he
        exact cells aZ
 case box t x=>
  obtain ⟨aG,he⟩:=jb he
  cases aZ:fg h ((bE x).run r).cells with
  | none=>rw [aZ] at he;cases he
  | some aa=>
    rw [aZ] at he
    simp only [gj,aV.val.injEq] at he;obtain ⟨_,rfl⟩:=he
    exact cells aZ
 case buildSlice t n bc=>
  unfold r2 at he
  cases aD:a7 P t with
  | none=>rw [aD] at he;cases he
  | some aM=>
    rw [aD] at he
    simp only at he
    cases bJ:aM.bb<;>rw [bJ] at he<;>simp only at he<;>try (cases he;done)
    rename_i e
    cases cf:a7 P e with
    | none=>rw [cf] at he;cases he
    | some bd=>
      rw [cf] at he
      simp only at he
      cases bh:bd.zero with
      | none=>rw [bh] at he;cases he
      | some z=>
        rw [bh] at he
        simp only at he
        cases ao:(Nat.ble (n * bd.size) 1000000&&Nat.beq z.cells.length bd.size) with
        | false=>rw [ao] at he;cases he
        | true=>
          rw [ao] at he
          simp only [cond_true] at he
          cases ax:kS (fun i=>some (i * bd.size,bd.size)) (hh z.cells n) ((re bc.toList).run r) with
          | none=>rw [ax] at he;cases he
          | some cs=>
            rw [ax] at he
            simp only at he
            cases aZ:fg h cs with
            | none=>rw [aZ] at he;cases he
            | some aa=>
              rw [aZ] at he
              simp only [aV.val.injEq] at he
              obtain ⟨_,rfl⟩:=he
              exact cells aZ
 case makeMap t x=>
  cases x with
  | some _=>cases bn
  | none=>
    simp only [oG,vf] at he
    cases aD:a7 P t with
    | none=>rw [aD] at he;cases he
    | some aM=>
      rw [aD] at he
      simp only at he
      cases ag:Nat.beq (ef aM.bb) 3 with
      | false=>rw [ag] at he;cases he
      | true=>
        rw [ag] at he
        simp only [cond_true,q2,s5] at he
        simp only [aV.val.injEq] at he
        exact ⟨_,he.2.symm,trivial⟩
theorem aas {o:Oper} (bn:fr o=true):eb P o.op=true:=by
 obtain ⟨dst,op,type,pos,after,guard⟩:=o
 cases op<;>simp only [fr] at bn<;>first | (cases bn;done) | rfl
theorem KP {an:Nat} {all:Array Oper} {o:Oper} {call:dc} {r:br} {h ab:af} {v:V} (he:(cg P an all o).run call r h=.val v ab):
 ((et P o).run call (c8 r (bS all o)) h=.val v ab∧∀E a,RegRel0 E an (c8 r (bS all o)) a→Region.wanted o (yielded all a.tmps)=true)∨
 (ab=h∧∀H,(cg P an all o).run call r H=.val v H):=by
 obtain ⟨aX,aQ⟩:=iE he
 have cI:(ew an o.dst&&iV (bS all o))=true:=by rw [aX,aQ];rfl
 have key:cg P an all o=(match o.guard with
  | none=>⟨hp none (et P o) (bS all o)⟩
  | some (j,want)=>match all[j]? with
    | some g=>match g.dst with
      | some d=>bif Nat.blt d an&&Nat.ble d top then ⟨hp (some (mb (ay d),want)) (et P o) (bS all o)⟩ else cT.none
      | none=>cT.none
    | none=>cT.none):=by
  unfold cg;rw [cI];rfl
 rw [key] at he ⊢
 cases aG:o.guard with
 | none=>
   rw [aG] at he
   exact .inl ⟨he,fun E a _=>by simp [Region.wanted,aG]⟩
 | some np=>
   obtain ⟨j,want⟩:=np
   rw [aG] at he
   simp only at he ⊢
   cases bI:all[j]? with
   | none=>rw [bI] at he;simp [cT.none] at he
   | some g=>
     rw [bI] at he
     simp only at he ⊢
     cases iI:g.dst with
     | none=>rw [iI] at he;simp [cT.none] at he
     | some d=>
       rw [iI] at he
       simp only at he ⊢
       cases ao:(Nat.blt d an&&Nat.ble d top) with
       | false=>rw [ao] at he;simp [cT.none] at he
       | true=>
         rw [ao] at he
         simp only [cond_true,hp] at he ⊢
         have na:=ao
         simp only [Bool.and_eq_true,Nat.blt_eq,Nat.ble_eq] at na
         cases bp:(mb (ay d)).run (c8 r (bS all o))<;>rw [bp] at he<;>simp only at he ⊢<;>try (cases he;done)
         · rename_i b
           cases ag:(bif want then b else !b)<;>rw [ag] at he<;>simp only [cond_true,cond_false] at he ⊢
           · simp only [aV.val.injEq] at he ⊢
             exact .inr ⟨he.2.symm,fun H=>⟨he.1,trivial⟩⟩
           · refine .inl ⟨he,fun E a k=>?_⟩
             obtain ⟨g1,_⟩:=E6 k bI iI na.1 na.2
             have a6:=g1 b bp
             simp only [Region.wanted,aG,a6]
             cases want<;>cases b<;>simp_all
         · simp only [aV.val.injEq] at he ⊢
           exact .inr ⟨he.2.symm,fun H=>⟨he.1,trivial⟩⟩
theorem KO {an:Nat} {all:Array Oper} {o:Oper} {call:dc} {r:br} {h ab:af} {v:V} (bn:fr o=true) (he:(cg P an all o).run call r h=.val v ab):
 (∃k,ab=h.new k∧True)∨(ab=h∧∀H,(cg P an all o).run call r H=.val v H):=by
 rcases KP he with ⟨aa,_⟩ | aa
 · exact .inl (V9 bn aa)
 · exact .inr aa
theorem Wn {rd:Option Nat} {F:Fr} {E:Env} {h ab H:af} {w:World} {call:dc} {all:Array Oper} {i:Nat} {o:Oper} (az:all[i]? =some o) (bn:fr o=true) {an:Nat} {r:br} {a:Act} {v:V}
 (he:(cg P an all o).run call r h=.val v ab) (nm:a.tmps.size=an) (iL:∀t ∈ bS all o,Rel E (T.get .bad (ay t) r) (a.tmps.getD t undef)) (s:a1 F E H w)
 (F0:ab.next≠h.next) (ah:F.dK (ay h.next)=some (ab.get (ay h.next)))
 {K:Act→World→Prop} {Q:Exit→Act→World→Prop} (dk:∀ar x aj,E.le ar→Rel ar v x→a1 (F.free (ay h.next)) ar H aj→K (a.put o.dst x) aj):wpOpIn (bU rd) 0 P all Q i K a w:=by
 obtain ⟨aX,aQ⟩:=iE he
 have k:RegRel0 E an (c8 r (bS all o)) a:=⟨nm,fun t aD=>by
  rw [Qo aQ aD]
  by_cases hm:t ∈ bS all o
  · rw [if_pos hm];exact iL t hm
  · rw [if_neg hm];simp [Rel]⟩
 obtain ⟨dA,hw⟩:(et P o).run call (c8 r (bS all o)) h=.val v ab∧Region.wanted o (yielded all a.tmps)=true:=by
  rcases KP he with ⟨aa,ae⟩ | ⟨aa,_⟩
  · exact ⟨aa,ae E a k⟩
  · exact absurd (by rw [aa]) F0
 obtain ⟨m,ak,cJ,aq,av,aK⟩:=V8 bn dA k
 simp only [wpOpIn,az,hw,if_true]
 obtain ⟨X,cM,b2,cq⟩:=aK w
 rw [aq,af.gE,if_pos rfl] at ah
 have dj:E.put (ay h.next) ⟨w.heap.size,0,0⟩ (ay h.next)=some ⟨w.heap.size,0,0⟩:=by unfold Env.put;rw [if_pos rfl]
 have hle:E.le (E.put (ay h.next) ⟨w.heap.size,0,0⟩):=Env.jn (s.mA _ _ ah).2.1
 obtain ⟨bz,bZ⟩:=cq _ hle dj
 have b5:F.w.heap.size≤w.heap.size:=s.frame.size
 obtain ⟨_,jK⟩:=s.link ah (o:=cM) (bZ _ b5)
 refine ⟨fun _ _=>trivial,?_⟩
 rw [nG (by intro c h;have:=bn;unfold fr at this;rw [h] at this;cases this),ak,Sem.run_bind,b2]
 exact dk _ X _ hle bz jK
end
end Go.Proofs.YtkehcalakofigaaGreatDoor.aS
