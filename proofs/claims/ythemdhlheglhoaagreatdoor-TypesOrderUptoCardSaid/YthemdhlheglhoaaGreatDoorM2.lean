/- The abstract machine and its walks (a verified interpreter of the model's code: plain definitions and lemmas, no condition). Printed by a program from longer texts: names made short. -/
import Derived.Test.YthemdhlheglhoaaGreatDoorM1
import Derived.LaidEqlPtr
import Derived.RangeFuncLeaves
import Derived.RecoverIn
import Derived.OrdersIn
set_option linter.unusedSectionVars false
set_option linter.unusedSimpArgs false
set_option linter.unusedVariables false
namespace Go.Proofs.YthemdhlheglhoaaGreatDoor.aY
variable [Lay]
open Go Go.RowKit
section
variable {P:Program}
theorem O1 {α β:Type} (g:α→Sem β) (k:α→β) (w:World):∀(l:List α),(∀x ∈ l,(g x).run P w=.ok (k x) w)→(l.mapM g).run P w=.ok (l.map k) w
 | [],_=>by simp
 | x::l,h=>by
   rw [List.mapM_cons,Sem.run_bind,h x (by simp)]
   simp only [Result.andThen_ok,Sem.run_bind,O1 g k w l (fun y a7=>h y (by simp [a7])),Sem.run_pure,List.map]
theorem R2 {E:Env} {t:TypeId} {a_:List (Nat × V)} {jC:List (Nat × Value)} {v:V} (ag:qp E a_ jC) (he:(zZ P t).run a_=some v) (w:World):
 ∃Z,(Instr.build t jC.toArray).run P w=.ok Z w∧Rel E v Z:=by
 unfold zZ at he
 cases ax:aZ P t with
 | none=>rw [ax] at he;cases he
 | some aL=>
   rw [ax] at he
   simp only at he
   cases bs:aL.zero with
   | none=>rw [bs] at he;cases he
   | some z=>
     rw [bs] at he
     simp only at he
     obtain ⟨x,ak,pX,mz⟩:=wM (P:=P) ax bs E w
     have hu:=fu ax w
     have Ma:a8 E z.cells x.cells.toList:=by
      rw [mz]
      have:∀y:Value,a8 E (hb y).cells y.cells.toList:=by
       intro y
       cases y with
       | agg cs=>simp only [hb,V.cells,Value.cells];exact yM E _
       | pointer a=>cases a<;>simp [hb,iX,V.cells,Value.cells,a8,Rel]
       | slice a n c=>
         have:=sk E (.slice a n c)
         cases a with
         | some a=>simp [hb,iX,V.cells,Value.cells,a8,Rel]
         | none=>
           simp only [hb,iX] at this ⊢
           cases ah:(Nat.beq n 0&&Nat.beq c 0) with
           | false=>simp [V.cells,Value.cells,a8,Rel]
           | true=>rw [ah] at this;simpa [V.cells,Value.cells,a8] using this
       | map r=>cases r<;>simp [hb,iX,V.cells,Value.cells,a8,Rel]
       | tuple cs=>
         have:=sk E (.tuple cs)
         simp only [hb,V.cells,Value.cells,a8] at this ⊢
         exact ⟨_,_,rfl,this,rfl⟩
       | _=>simp [hb,iX,V.cells,Value.cells,a8,Rel]
      exact this x
     cases bJ:aL.a' with
     | struct b6=>
       rw [bJ] at he hu
       simp only at he
       cases ay:Az P b6.toList with
       | false=>rw [ay] at he;cases he
       | true=>
         rw [ay] at he
         simp only [cond_true] at he
         cases ar:mj (vi P b6) z.cells a_ with
         | none=>rw [ar] at he;cases he
         | some cs=>
           rw [ar] at he
           simp only [Option.some.injEq] at he
           subst he
           let k:Field→Nat × Nat:=fun f=>(f.offset,((aZ P f.type).map (·.size)).getD 0)
           have mv:(b6.mapM fun f=>do pure (f.offset,←sizeOf f.type):Sem (Array (Nat × Nat))).run P w=.ok (b6.map k) w:=by
            rw [Array.mapM_eq_mapM_toList,Sem.run_map,O1 _ k w b6.toList]
            · simp only [Result.andThen_ok]
              congr 1
              apply Array.ext'
              simp
            · intro f iM
              have:=List.all_eq_true.1 ay f iM
              cases vW:aZ P f.type with
              | none=>rw [vW] at this;simp at this
              | some kc=>simp only [Sem.run_bind,j5 vW,Result.andThen_ok,Sem.run_pure,k,vW];rfl
           have XK:(fun i=>(b6.map k)[i]?)=vi P b6:=by
            funext i
            simp only [vi,Array.getElem?_map]
            cases aF:b6[i]? with
            | none=>rfl
            | some f=>
              have r5:f ∈ b6.toList:=by
               have:=List.mem_of_getElem? (l:=b6.toList) (i:=i) (a:=f) (by simpa using aF)
               exact this
              have:=List.all_eq_true.1 ay f r5
              cases vW:aZ P f.type with
              | none=>rw [vW] at this;simp at this
              | some kc=>simp [k,vW]
           obtain ⟨b,kH,qK⟩:=xH (a:=x.cells) ag Ma ar
           refine ⟨.agg b,?_,by simp only [Rel];exact ⟨b,rfl,qK⟩⟩
           simp only [Instr.build,Sem.run_bind,ak,hu,Result.andThen_ok,mv]
           rw [XK]
           simp only [kH,Sem.run_pure]
     | array n e=>
       rw [bJ] at he hu
       simp only at he
       cases cj:aZ P e with
       | none=>rw [cj] at he;cases he
       | some bb=>
         rw [cj] at he
         simp only at he
         cases ar:mj (fun i=>some (i * bb.size,bb.size)) z.cells a_ with
         | none=>rw [ar] at he;cases he
         | some cs=>
           rw [ar] at he
           simp only [Option.some.injEq] at he
           subst he
           obtain ⟨b,kH,qK⟩:=xH (a:=x.cells) ag Ma ar
           refine ⟨.agg b,?_,by simp only [Rel];exact ⟨b,rfl,qK⟩⟩
           simp only [Instr.build,Sem.run_bind,ak,hu,Result.andThen_ok,j5 cj,kH,Sem.run_pure]
     | _=>rw [bJ] at he;cases he
theorem y' {E:Env} {z:List V} {l:Array Value} (bs:a8 E z l.toList):∀n:Nat,a8 E (i_ z n) ((Array.range (n * l.size)).map (l[· % l.size]!)).toList:=by
 have X0:(List.range l.size).map (l[· % l.size]!)=l.toList:=by
  apply List.ext_getElem?
  intro i
  simp only [List.getElem?_map]
  by_cases aF:i<l.size
  · rw [List.getElem?_range aF]
    simp only [Option.map,Nat.mod_eq_of_lt aF,Array.getElem?_toList]
    rw [getElem!_pos l i aF,Array.getElem?_eq_getElem aF]
  · rw [List.getElem?_eq_none (by simp;omega),Array.getElem?_toList,Array.getElem?_eq_none (by omega)]
    rfl
 intro n
 simp only [Array.toList_map,Array.toList_range]
 induction n with
 | zero=>simp [i_,a8]
 | succ n bj=>
   have e:(n+1) * l.size=l.size+n * l.size:=by rw [Nat.add_mul];omega
   rw [e,List.range_add,List.map_append,X0,List.map_map]
   have bl:((l[· % l.size]!) ∘ fun x=>l.size+x)=(l[· % l.size]!):=by
    funext x
    simp
   rw [bl]
   exact bs.append bj
theorem sI {E:Env} {t:TypeId} {aL:mU} {z:V} (ax:aZ P t=some aL) (bs:aL.zero=some z) (w:World):∃x:Value,(∀w,(zeroValue t).run P w=.ok x w)∧a8 E z.cells x.cells.toList∧x.cells.size=z.cells.length:=by
 obtain ⟨x,ak,_,mz⟩:=wM (P:=P) ax bs E w
 obtain ⟨i,aa,_,_,_,_,b8⟩:=sD ax
 rw [bs] at b8
 have Ym:∃y,i.zero=some y:=by cases av:i.zero with | none=>rw [av] at b8;cases b8 | some y=>exact ⟨y,rfl⟩
 obtain ⟨y,a7⟩:=Ym
 have cK:∀w,(zeroValue t).run P w=.ok y w:=fun w=>by simp only [zeroValue,Sem.run_bind,wL aa,Result.andThen_ok,a7];rfl
 have v_:y=x:=by have:=cK w;rw [ak] at this;simp at this;exact this.symm
 subst v_
 refine ⟨_,cK,?_,?_⟩
 · rw [mz]
   have:∀y:Value,a8 E (hb y).cells y.cells.toList:=by
    intro y
    cases y with
    | agg cs=>simp only [hb,V.cells,Value.cells];exact yM E _
    | pointer a=>cases a<;>simp [hb,iX,V.cells,Value.cells,a8,Rel]
    | slice a n c=>
      have:=sk E (.slice a n c)
      cases a with
      | some a=>simp [hb,iX,V.cells,Value.cells,a8,Rel]
      | none=>
        simp only [hb,iX] at this ⊢
        cases ah:(Nat.beq n 0&&Nat.beq c 0) with
        | false=>simp [V.cells,Value.cells,a8,Rel]
        | true=>rw [ah] at this;simpa [V.cells,Value.cells,a8] using this
    | map r=>cases r<;>simp [hb,iX,V.cells,Value.cells,a8,Rel]
    | tuple cs=>
      have:=sk E (.tuple cs)
      simp only [hb,V.cells,Value.cells,a8] at this ⊢
      exact ⟨_,_,rfl,this,rfl⟩
    | _=>simp [hb,iX,V.cells,Value.cells,a8,Rel]
   exact this _
 · rw [mz,ab6]
theorem R4 {aq:Fr} {E:Env} {h ab:af} {w:World} (s:a1 aq E h w) {t:TypeId} {n:Nat} {a_:List (Nat × V)} {jC:List (Nat × Value)} {v:V} (ag:qp E a_ jC) (he:(s7 P t n).run a_ h=.val v ab):
 cY aq P E w (Instr.buildSlice t n jC.toArray) v ab:=by
 unfold s7 at he
 cases ax:aZ P t with
 | none=>rw [ax] at he;cases he
 | some aL=>
   rw [ax] at he
   simp only at he
   have hu:=fu ax
   cases bJ:aL.a' with
   | slice e=>
     rw [bJ] at he hu
     simp only at he
     cases cj:aZ P e with
     | none=>rw [cj] at he;cases he
     | some bb=>
       rw [cj] at he
       simp only at he
       cases bs:bb.zero with
       | none=>rw [bs] at he;cases he
       | some z=>
         rw [bs] at he
         simp only at he
         cases aD:(Nat.ble (n * bb.size) 1000000&&Nat.beq z.cells.length bb.size) with
         | false=>rw [aD] at he;cases he
         | true=>
           rw [aD] at he
           simp only [cond_true] at he
           simp only [Bool.and_eq_true,Nat.ble_eq,Nat.beq_eq] at aD
           cases ar:mj (fun i=>some (i * bb.size,bb.size)) (i_ z.cells n) a_ with
           | none=>rw [ar] at he;cases he
           | some cs=>
             rw [ar] at he
             simp only at he
             cases aS:gg h cs with
             | none=>rw [aS] at he;cases he
             | some aa=>
               rw [aS] at he
               simp only [aU.val.injEq] at he
               obtain ⟨rfl,rfl⟩:=he
               obtain ⟨x,ak,pX,pY⟩:=sI (P:=P) (E:=E) cj bs w
               have tV:x.cells.size=bb.size:=by rw [pY,aD.2]
               have tT:=y' pX n
               rw [tV] at tT
               obtain ⟨b,kH,qK⟩:=xH (a:=(Array.range (n * bb.size)).map (x.cells[· % x.cells.size]!)) ag (by rw [tV];exact tT) ar
               obtain ⟨an,g1,g2,g3,g4⟩:=BM (P:=P) s qK aS e
               refine ⟨.slice (some ⟨w.heap.size,0,none⟩) n n,_,an,?_,g1,?_,g4⟩
               · have tK:¬16777216<n * bb.size:=by omega
                 have mn:(newRow e b).run P w=.ok ⟨w.heap.size,0,none⟩ {w with heap:=w.heap.push (.cells b e)}:=by simpa using g3
                 by_cases a6:n * bb.size=0
                 · have Fb:Instr.fill (fun i=>some (i * bb.size,bb.size)) ((Array.range (n * bb.size)).map ((#[]:Array Value)[· % 0]!)) jC=some b:=by
                    have aP:(Array.range (n * bb.size)).map ((#[]:Array Value)[· % 0]!)=(Array.range (n * bb.size)).map (x.cells[· % x.cells.size]!):=by
                     rw [a6];simp
                    rw [aP];exact kH
                   have Fc:Instr.fill (fun i=>some (i * bb.size,bb.size)) ((Array.range (n * bb.size)).map (fun x=>(#[]:Array Value)[x % (#[]:Array Value).size]!)) jC=some b:=Fb
                   simp only [Instr.buildSlice,Sem.run_bind,hu,Result.andThen_ok,j5 cj,Sem.run_ite]
                   rw [if_neg tK]
                   simp only [Sem.run_pure,Result.andThen_ok,if_pos a6]
                   rw [Fc]
                   simp only [Sem.run_bind,mn,Result.andThen_ok,Sem.run_pure]
                 · simp only [Instr.buildSlice,Sem.run_bind,hu,Result.andThen_ok,j5 cj,Sem.run_ite]
                   rw [if_neg tK]
                   simp only [Sem.run_pure,Result.andThen_ok,if_neg a6,ak]
                   rw [kH]
                   simp only [Sem.run_bind,mn,Result.andThen_ok,Sem.run_pure]
               · simp only [Rel]
                 exact ⟨_,g2,Nat.le_refl _,by simp⟩
   | _=>rw [bJ] at he;cases he
theorem abo {aq:Fr} {E:Env} {h ab:af} {w:World} (s:a1 aq E h w) {t:TypeId} {x y v:V} {X Y:Value} (ak:Rel E x X) (a7:Rel E y Y) (he:(BG P t).run x y h=.val v ab):
 cY aq P E w (Instr.makeSlice t X Y) v ab:=by
 unfold BG at he
 cases ax:aZ P t with
 | none=>rw [ax] at he;cases he
 | some aL=>
   rw [ax] at he
   simp only at he
   have hu:=fu ax
   cases bJ:aL.a' with
   | slice e=>
     rw [bJ] at he hu
     simp only at he
     cases cj:aZ P e with
     | none=>rw [cj] at he;cases he
     | some bb=>
       rw [cj] at he
       simp only at he
       cases bs:bb.zero with
       | none=>rw [bs] at he;cases he
       | some z=>
         rw [bs] at he
         simp only at he
         cases Fh:Nat.ble bb.bytes 4096 with
         | false=>rw [Fh] at he;cases he
         | true=>
           rw [Fh] at he
           simp only [cond_true,BH] at he
           obtain ⟨bX,l,rfl,AZ⟩:=yN he
           obtain ⟨b',c,rfl,eh⟩:=yN AZ
           have:=ak.iR;subst this
           have:=a7.iR;subst this
           obtain ⟨aD,xR⟩:=jP eh
           simp only [Bool.and_eq_true,n2,decide_eq_true_eq,Nat.beq_eq] at aD
           obtain ⟨⟨a6,aa,ae⟩,aH⟩:=aD
           rw [Nat.ble_eq] at Fh
           cases aS:gg h (i_ z.cells c.toNat) with
           | none=>rw [aS] at xR;cases xR
           | some ba=>
             rw [aS] at xR
             simp only [aU.val.injEq] at xR
             obtain ⟨rfl,rfl⟩:=xR
             obtain ⟨qg,yh,pX,pY⟩:=sI (P:=P) (E:=E) cj bs w
             have tV:qg.cells.size=bb.size:=by rw [pY,aH]
             have tT:=y' pX c.toNat
             obtain ⟨an,g1,g2,g3,g4⟩:=BM (P:=P) s tT aS e
             obtain ⟨i,aF,r4⟩:=HV (P:=P) cj w
             have Ye:IntKind.i64.wrap l=l:=by simp only [IntKind.wrap,IntKind.bits,IntKind.signed];simp;omega
             have Yd:IntKind.i64.wrap c=c:=by simp only [IntKind.wrap,IntKind.bits,IntKind.signed];simp;omega
             have hmul:(bb.bytes:Int) * c≤4096 * 1000000:=by
              have ah:(bb.bytes:Int)≤4096:=by omega
              have:=Int.mul_le_mul_of_nonneg_right (c:=c) ah (by omega)
              omega
             refine ⟨.slice (some ⟨w.heap.size,0,none⟩) l.toNat c.toNat,_,an,?_,g1,?_,g4⟩
             · have mn:=g3
               simp only [Array.toArray_toList] at mn
               have bL:¬c<0:=by omega
               have b0:¬((bb.bytes:Int) * c>281474976710656):=by omega
               have c3:¬l<0:=by omega
               have fj:¬l>c:=by omega
               have same:(if c.toNat * bb.size=0 then (Array.range (c.toNat * bb.size)).map (fun x=>(#[]:Array Value)[x % (#[]:Array Value).size]!) else (Array.range (c.toNat * bb.size)).map (fun x=>qg.cells[x % qg.cells.size]!))=
                (Array.range (c.toNat * qg.cells.size)).map (qg.cells[· % qg.cells.size]!):=by
                rw [tV]
                by_cases av:c.toNat * bb.size=0
                · rw [av];simp
                · rw [if_neg av]
               simp only [Instr.makeSlice,Sem.run_bind,hu,Result.andThen_ok,asInt,asIntOf,Sem.run_pure,aF,Ye,Yd,r4]
               rw [if_neg (by simp only [Bool.or_eq_true,decide_eq_true_eq,not_or];exact ⟨⟨⟨bL,b0⟩,c3⟩,fj⟩)]
               simp only [Result.andThen_ok,Sem.run_bind,run_askRoom,j5 cj]
               by_cases av:c.toNat * bb.size=0
               · rw [if_pos av] at same
                 rw [if_pos av]
                 simp only [Sem.run_pure,Result.andThen_ok,Sem.run_bind,same,mn,Array.toArray_toList]
               · rw [if_neg av] at same
                 rw [if_neg av]
                 simp only [Sem.run_pure,Result.andThen_ok,Sem.run_bind,yh,same,mn,Array.toArray_toList]
             · simp only [Rel]
               exact ⟨_,g2,by omega,by simp⟩
   | _=>rw [bJ] at he;cases he
end
end Go.Proofs.YthemdhlheglhoaaGreatDoor.aY
namespace Go.Proofs.YthemdhlheglhoaaGreatDoor.aY
variable [Lay]
open Go Go.RowKit
theorem aN.k0:∀{p q:aN},aN.gr p q=true→p=q
 | .z,.z,_=>rfl
 | .l p,.l q,h=>by rw [aN.k0 (p:=p) (q:=q) h]
 | .r p,.r q,h=>by rw [aN.k0 (p:=p) (q:=q) h]
 | .z,.l _,h=>by cases h
 | .z,.r _,h=>by cases h
 | .l _,.z,h=>by cases h
 | .l _,.r _,h=>by cases h
 | .r _,.z,h=>by cases h
 | .r _,.l _,h=>by cases h
theorem aN.xE:∀p:aN,aN.gr p p=true
 | .z=>rfl
 | .l p=>aN.xE p
 | .r p=>aN.xE p
section
variable {P:Program}
theorem NY {aq:Fr} {E:Env} {h:af} {w:World} (s:a1 aq E h w) {b:aN} {p:iJ} (ag:E b=some p) (ah:(h.get b).B5=true):(h.get b).own=true∧∃c t,w.heap[p.bc]? =some (.cells c t (0,0)):=by
 have ay:=s.at ag
 cases aE:h.get b<;>rw [aE] at ah<;>try (cases ah;done)
 rename_i n cs cP st
 rw [aE] at ay
 obtain ⟨_,p',c,el,bN,aP,_,pO,_,ct,_⟩:=ay
 rw [ag] at aP;cases aP
 have:st=false:=by simpa [b4.B5] using ah
 rw [ct this] at pO
 exact ⟨rfl,c,el,pO⟩
theorem Of {t:TypeId} (h:lZ P t=true):∃e j,P.underlying t=some (.pointer e)∧P.info? e=some j∧j.size≠0:=by
 unfold lZ at h
 cases ax:aZ P t with
 | none=>rw [ax] at h;cases h
 | some aL=>
   rw [ax] at h
   simp only at h
   cases hu:aL.a'<;>rw [hu] at h<;>simp only at h<;>try (cases h;done)
   rename_i e
   cases he:aZ P e with
   | none=>rw [he] at h;cases h
   | some bb=>
     rw [he] at h
     simp only at h
     obtain ⟨_,_,ae,_⟩:=sD ax
     obtain ⟨j,g1,_,g3,_⟩:=sD he
     refine ⟨e,j,by rw [ae,hu],g1,fun cR=>?_⟩
     rw [g3,cR] at h
     cases h
theorem ac4 {t:TypeId} (h:lZ P t=true) (w:World):∃e,(underlying t).run P w=.ok (.pointer e) w:=by
 obtain ⟨e,_,aa,_⟩:=Of h
 exact ⟨e,HW aa w⟩
theorem adK {t e:TypeId} {w:World} (hu:(underlying t).run P w=.ok (.pointer e) w) (b:Bool) (v:Value):(Instr.checkKey b 10000 t v).run P w=.ok () w:=by
 show (Instr.checkKey b (9999+1) t v).run P w=.ok () w
 unfold Instr.checkKey
 rw [Sem.run_bind,hu]
 rfl
theorem Od {aq:Fr} {E:Env} {h:af} {w:World} (s:a1 aq E h w) {t:TypeId} (ax:lZ P t=true) {x y:V} {X Y:Value} {b:Bool} (he:oj h x y=some b) (ak:Rel E x X) (a7:Rel E y Y):
 (∃a c,X=.pointer (some a)∧Y=.pointer (some c))∧∀d,(Op.equalIn (d+1) t X Y).run P w=.ok b w:=by
 obtain ⟨e,j,ag,cj,cc⟩:=Of ax
 unfold oj at he
 split at he
 case h_2=>cases he
 rename_i cx bC
 split at he
 case h_2=>cases he
 rename_i cn bR
 simp only [Rel] at ak a7
 obtain ⟨p,il,rfl⟩:=ak
 obtain ⟨q,hN,rfl⟩:=a7
 refine ⟨⟨_,_,rfl,rfl⟩,fun d=>?_⟩
 cases heq:aN.gr cx cn with
 | true=>
   rw [heq] at he
   simp only [cond_true,Option.some.injEq] at he
   have:=aN.k0 heq
   subst this
   rw [il] at hN;cases hN
   have ah:b=decide (bC=bR):=by
    rw [←he]
    by_cases h:bC=bR
    · subst h;simp
    · rw [decide_eq_false h,←Bool.not_eq_true,Nat.beq_eq];exact h
   have key:(sameAddr ⟨p.bc,p.base+bC,none⟩ ⟨p.bc,p.base+bR,none⟩).run P w=.ok b w:=by
    rw [ah]
    by_cases h:bC=bR
    · subst h
      simpa using run_sameAddr_same w (⟨p.bc,p.base+bC,none⟩:Addr)
    · have dJ:((⟨p.bc,p.base+bC,none⟩:Addr) == ⟨p.bc,p.base+bR,none⟩)=false:=by
       rw [beq_eq_false_iff_ne]
       intro e
       injection e with _ bl _
       omega
      simp [sameAddr,dJ,h]
   simp [Op.equalIn,run_underlying ag,sizeOf,typeInfo,cj,cc,key]
 | false=>
   rw [heq] at he
   simp only [cond_false] at he
   obtain ⟨aD,he⟩:=en he
   simp only [Bool.and_eq_true] at aD
   cases he
   obtain ⟨Hf,bL,t1,pN⟩:=NY s il aD.1
   obtain ⟨Hg,b0,t2,FB⟩:=NY s hN aD.2
   have dJ:(⟨p.bc,p.base+bC,none⟩:Addr)≠⟨q.bc,q.base+bR,none⟩:=by
    intro e
    injection e with aP _ _
    have:=s.inj cx cn p q Hf Hg il hN aP
    subst this
    rw [aN.xE] at heq
    cases heq
   simp [Op.equalIn,run_underlying ag,sizeOf,typeInfo,cj,cc,run_sameAddr_other w dJ pN FB]
theorem ac2 {aq:Fr} {E:Env} {h:af} {w:World} (s:a1 aq E h w) {op:BinOp} {t:TypeId} {neg:Bool} (k':B' P op t=some neg) {x y:V} {iZ h_:Operand} {X Y:Value} {b:Bool} (he:oj h x y=some b) (ak:Rel E x X) (a7:Rel E y Y):
 ∃Z,(do eqGuard op t iZ h_ X Y;binOp op t X Y:Sem Value).run P w=.ok Z w∧Rel E (.bool (bif neg then !b else b)) Z:=by
 unfold B' at k'
 have main:lZ P t=true→((op=.eql∧neg=false)∨(op=.neq∧neg=true))→∃Z,(do eqGuard op t iZ h_ X Y;binOp op t X Y:Sem Value).run P w=.ok Z w∧Rel E (.bool (bif neg then !b else b)) Z:=by
  intro ax lQ
  obtain ⟨⟨a,c,rfl,rfl⟩,cK⟩:=Od s ax he ak a7
  have aE:=fun (o:BinOp)=>An (P:=P) (op:=o) (t:=t) (x:=iZ) (y:=h_) (X:=.pointer (some a)) (Y:=.pointer (some c)) (by simp) (.inl (by simp)) w
  have aP:(Op.equal t (.pointer (some a)) (.pointer (some c))).run P w=.ok b w:=cK 9999
  rcases lQ with ⟨rfl,rfl⟩ | ⟨rfl,rfl⟩
  · refine ⟨.bool b,?_,by simp [Rel]⟩
    rw [Sem.run_bind,aE,Result.andThen_ok,binOp_eql (X:=.pointer (some a)) True.intro,Sem.run_bind,aP]
    rfl
  · refine ⟨.bool (!b),?_,by simp [Rel]⟩
    rw [Sem.run_bind,aE,Result.andThen_ok,binOp_neq (X:=.pointer (some a)) True.intro,Sem.run_bind,aP]
    rfl
 cases op<;>simp only at k'<;>try (cases k';done)
 · obtain ⟨aa,ae⟩:=en k'
   cases ae
   exact main aa (.inl ⟨rfl,rfl⟩)
 · obtain ⟨aa,ae⟩:=en k'
   cases ae
   exact main aa (.inr ⟨rfl,rfl⟩)
end
end Go.Proofs.YthemdhlheglhoaaGreatDoor.aY
namespace Go.Proofs.YthemdhlheglhoaaGreatDoor.aY
variable [Lay]
open Go Go.RowKit
section
variable {P:Program}
def uT (P:Program) (w:World) (E:Env) (cd:TypeId) (e:dq):Prop:=
 ∀k bp K mQ b,e.run k bp=some b→Rel E k K→Rel E bp mQ→(Op.equal cd K mQ).run P w=.ok b w∧(b=true→mQ=K∧Instr.sameBits 10000 K K=true)
theorem ac3 {aq:Fr} {E:Env} {h:af} {w:World} (s:a1 aq E h w) {cd:TypeId} (ax:lZ P cd=true):uT P w E cd ⟨oj h⟩:=by
 intro k bp K mQ b he ak a7
 obtain ⟨⟨a,c,rfl,rfl⟩,cK⟩:=Od s ax he ak a7
 refine ⟨cK 9999,fun ah=>?_⟩
 subst ah
 simp only [oj] at he
 split at he
 case h_2=>cases he
 split at he
 case h_2=>cases he
 rename_i cx bC _ cn bR
 simp only [Rel] at ak a7
 obtain ⟨p,il,ak⟩:=ak
 obtain ⟨q,hN,a7⟩:=a7
 cases heq:aN.gr cx cn with
 | false=>
   rw [heq] at he
   simp only [cond_false] at he
   obtain ⟨_,he⟩:=en he
   cases he
 | true=>
   rw [heq] at he
   simp only [cond_true,Option.some.injEq] at he
   have:=aN.k0 heq
   subst this
   rw [il] at hN;cases hN
   have:=Nat.eq_of_beq_eq_true he
   subst this
   rw [ak,a7]
   exact ⟨rfl,by simp [Instr.sameBits]⟩
theorem KJ {w:World} {E:Env} {cd:TypeId} {e:dq} (lJ:uT P w E cd e) {k:V} {K:Value} (ay:Rel E k K):∀(es:List cH) (l:List MapEntry) (r:Option V) (i:Nat),nM e k es=some r→ek E es l→
 ∃R,(Instr.findAsking cd K l i).run P w=.ok R w∧(match r with
  | none=>R=none
  | some v=>∃j Y,R=some (j,Y)∧Rel E v Y)
 | [],l,r,i,h,aG=>by
   simp only [ek] at aG
   subst aG
   simp only [nM,Option.some.injEq] at h
   subst h
   exact ⟨none,rfl,rfl⟩
 | m::ms,l,r,i,h,aG=>by
   obtain ⟨dT,es,rfl,aa,ae,aH,bf⟩:=aG
   simp only [nM] at h
   cases aO:e.run k m.k with
   | none=>rw [aO] at h;cases h
   | some b=>
     rw [aO] at h
     simp only at h
     obtain ⟨au,az⟩:=lJ _ _ _ _ _ aO ay aa
     cases b with
     | true=>
       simp only [cond_true,Option.some.injEq] at h
       subst h
       exact ⟨some (i,dT.val),by simp [Instr.findAsking,au],i,dT.val,rfl,ae⟩
     | false=>
       simp only [cond_false] at h
       obtain ⟨R,g1,g2⟩:=KJ lJ ay ms es r (i+1) h bf
       exact ⟨R,by simp [Instr.findAsking,au,g1],g2⟩
theorem Og {w:World} {E:Env} {cd:TypeId} {e:dq} (lJ:uT P w E cd e) {k v:V} {K X:Value} (ay:Rel E k K) (br:Rel E v X) (clock:Nat):∀(es:List cH) (l:List MapEntry) (r:List cH × Bool) (i:Nat),lr e k v clock es=some r→ek E es l→
 (r.2=true→(Instr.findAsking cd K l i).run P w=.ok none w∧ek E r.1 (l++[⟨K,X,clock⟩]))∧
 (r.2=false→∃j dT Y,(Instr.findAsking cd K l i).run P w=.ok (some (i+j,Y)) w∧l[j]? =some dT∧Instr.sameBits 10000 dT.key K=true∧ek E r.1 (l.modify j fun dT=>{dT with key:=K,val:=X}))
 | [],l,r,i,h,aG=>by
   simp only [ek] at aG
   subst aG
   simp only [lr,Option.some.injEq] at h
   subst h
   exact ⟨fun _=>⟨rfl,_,_,rfl,ay,br,rfl,rfl⟩,fun h=>by cases h⟩
 | m::ms,l,r,i,h,aG=>by
   obtain ⟨dT,es,rfl,aa,ae,aH,bf⟩:=aG
   simp only [lr] at h
   cases aO:e.run k m.k with
   | none=>rw [aO] at h;cases h
   | some b=>
     rw [aO] at h
     simp only at h
     obtain ⟨au,az⟩:=lJ _ _ _ _ _ aO ay aa
     cases b with
     | true=>
       simp only [cond_true,Option.some.injEq] at h
       subst h
       obtain ⟨aM,bU⟩:=az rfl
       refine ⟨fun h=>(by cases h),fun _=>⟨0,dT,dT.val,by simp [Instr.findAsking,au],rfl,by rw [aM];exact bU,?_⟩⟩
       exact ⟨_,es,rfl,ay,br,aH,bf⟩
     | false=>
       simp only [cond_false] at h
       cases ag:lr e k v clock ms with
       | none=>rw [ag] at h;cases h
       | some bq=>
         rw [ag] at h
         simp only [Option.some.injEq] at h
         subst h
         obtain ⟨g1,g2⟩:=Og lJ ay br clock ms es bq (i+1) ag bf
         refine ⟨fun h=>?_,fun h=>?_⟩
         · obtain ⟨bE,a2⟩:=g1 h
           exact ⟨by simp [Instr.findAsking,au,bE],⟨dT,es++[⟨K,X,clock⟩],rfl,aa,ae,aH,a2⟩⟩
         · obtain ⟨j,c_,Y,bE,a2,a3,a4⟩:=g2 h
           exact ⟨j+1,c_,Y,by simp [Instr.findAsking,au,bE];omega,by simpa using a2,a3,⟨dT,_,rfl,aa,ae,aH,a4⟩⟩
theorem adM {cd:TypeId} {ka:TypeId} {w:World} (hu:(underlying cd).run P w=.ok (.pointer ka) w) {K:Value} {l:List MapEntry} {R:Option (Nat × Value)} (h:(Instr.findAsking cd K l 0).run P w=.ok R w):
 (Instr.findKey cd K l).run P w=.ok R w:=by
 cases l with
 | nil=>
   simp only [Instr.findAsking,Sem.run_pure] at h
   cases h
   simp [Instr.findKey,hu,Instr.findNow]
 | cons dT es=>
   have aS:Instr.findNow (.pointer ka) K (dT::es) 0=none:=by simp [Instr.findNow,Instr.sameNow]
   simp [Instr.findKey,hu,aS,h]
theorem U7 {x y:V} (h:tf x y=true):x=y:=by
 cases x<;>simp only [tf] at h<;>try (cases h;done)
 all_goals (cases y<;>simp only at h<;>try (cases h;done))
 · rw [beq_iff_eq] at h;rw [h]
 · simp only [Bool.and_eq_true,k0,beq_iff_eq] at h
   rw [rS h.1,h.2]
 · rw [s5,beq_iff_eq] at h;rw [h]
theorem Ky:∀{xs cA:List V},tg xs cA=true→xs=cA
 | [],[],_=>rfl
 | [],_::_,h=>by cases h
 | _::_,[],h=>by cases h
 | x::xs,y::cA,h=>by
   simp only [tg] at h
   cases aa:tf x y with
   | false=>rw [aa] at h;cases h
   | true=>rw [aa] at h;rw [U7 aa,Ky h]
theorem U6 {E:Env} {x:V} {X Y:Value} (h:tf x x=true) (c4:Rel E x X) (fk:Rel E x Y):X=Y∧∀n,Instr.sameBits n X X=true:=by
 cases x<;>simp only [tf] at h<;>try (cases h;done)
 · simp only [Rel] at c4 fk;subst c4 fk;exact ⟨rfl,fun n=>by cases n<;>simp [Instr.sameBits]⟩
 · simp only [Rel] at c4 fk;subst c4 fk;exact ⟨rfl,fun n=>by cases n<;>simp [Instr.sameBits]⟩
 · simp only [Rel] at c4 fk;subst c4 fk;exact ⟨rfl,fun n=>by cases n<;>simp [Instr.sameBits,bytes_beq]⟩
theorem Kx {E:Env}:∀{xs:List V} {l cE:List Value},tg xs xs=true→a8 E xs l→a8 E xs cE→l=cE∧∀n,((l.zip l).all fun (x,y)=>Instr.sameBits n x y)=true
 | [],l,cE,_,aa,ae=>by
   simp only [a8] at aa ae
   subst aa ae
   exact ⟨rfl,fun _=>rfl⟩
 | x::xs,l,cE,h,aa,ae=>by
   obtain ⟨y,cA,rfl,bE,a2⟩:=aa
   obtain ⟨uK,ag_,rfl,cx,cn⟩:=ae
   simp only [tg] at h
   cases aD:tf x x with
   | false=>rw [aD] at h;cases h
   | true=>
     rw [aD] at h
     obtain ⟨rfl,au⟩:=U6 aD bE cx
     obtain ⟨rfl,az⟩:=Kx h a2 cn
     exact ⟨rfl,fun n=>by simp only [List.zip_cons_cons,List.all_cons,au,az,Bool.and_self]⟩
theorem aep {w:World} {E:Env} {cd:TypeId}:uT P w E cd (structEq P cd):=by
 intro k bp K mQ b he ak a7
 simp only [structEq] at he
 split at he
 case h_2=>cases he
 split at he
 case h_2=>cases he
 rename_i xs _ cA
 cases av:(hj P 12 cd).run (.agg xs) (.agg cA) with
 | none=>rw [av] at he;cases he
 | some c=>
   rw [av] at he
   have aO:=EN 12 Op.maxDepth cd _ _ K mQ c (by decide) av ak a7 w
   cases c with
   | false=>
     simp only [cond_false,Option.some.injEq] at he
     subst he
     exact ⟨aO,fun h=>by cases h⟩
   | true=>
     simp only [cond_true] at he
     cases ag:tg xs cA with
     | false=>rw [ag] at he;cases he
     | true=>
       rw [ag] at he
       simp only [cond_true,Option.some.injEq] at he
       subst he
       refine ⟨aO,fun _=>?_⟩
       have:=Ky ag
       subst this
       simp only [Rel] at ak a7
       obtain ⟨a,rfl,aa⟩:=ak
       obtain ⟨bh,rfl,ae⟩:=a7
       obtain ⟨e,q⟩:=Kx ag aa ae
       have c_:a=bh:=Array.toList_inj.1 e
       subst c_
       exact ⟨rfl,by show Instr.sameBits (9999+1) _ _=true;simp only [Instr.sameBits,beq_self_eq_true,Bool.true_and];exact q _⟩
theorem run_checkKey_plain {a':TypeDesc} (ar:nj a'=true) {t:TypeId} {w:World} (hu:(underlying t).run P w=.ok a' w) (b:Bool) (n:Nat) (v:Value):(Instr.checkKey b (n+1) t v).run P w=.ok () w:=by
 unfold Instr.checkKey
 rw [Sem.run_bind,hu]
 cases a'<;>simp only [nj] at ar<;>first
  | (cases ar;done)
  | rfl
theorem VB {w:World} {E:Env} {cs:List V} {a:Array Value} (bd:a8 E cs a.toList) (b:Bool) (n:Nat):∀(b6:List Field),Ay P cs b6=true→
 (do for f in b6 do
      if f.name≠ "_" then Instr.checkKey b (n+1) f.type (←part f.type a f.offset):Sem Unit).run P w=.ok () w:=by
 intro b6
 induction b6 with
 | nil=>intro _;simp
 | cons f b6 bj=>
   intro h
   simp only [Ay] at h
   cases aa:(o8 P f.type f.offset).run cs with
   | none=>rw [aa] at h;cases h
   | some x=>
     rw [aa] at h
     simp only at h
     cases ae:aZ P f.type with
     | none=>rw [ae] at h;cases h
     | some kc=>
       rw [ae] at h
       simp only at h
       cases aH:nj kc.a' with
       | false=>rw [aH] at h;cases h
       | true=>
         rw [aH] at h
         simp only [cond_true] at h
         obtain ⟨X,c4,_⟩:=yW bd aa w
         have ay:=run_checkKey_plain (P:=P) aH (fu ae w) b n X
         have:=bj h
         by_cases aS:f.name= "_"
         · simpa [aS] using this
         · simpa [aS,c4,ay] using this
theorem aeq {t:TypeId} (h:rl P t=true) (w:World):∃b6,(underlying t).run P w=.ok (.struct b6) w:=by
 unfold rl at h
 cases ax:aZ P t with
 | none=>rw [ax] at h;cases h
 | some aL=>
   rw [ax] at h
   simp only at h
   have hu:=fu ax w
   cases bJ:aL.a'<;>rw [bJ] at h<;>simp only at h<;>try (cases h;done)
   rw [bJ] at hu
   exact ⟨_,hu⟩
theorem adL {t:TypeId} {k:V} (aE:ub P t k=true) {E:Env} {K:Value} (ay:Rel E k K) {w:World} (b:Bool):(Instr.checkKey b 10000 t K).run P w=.ok () w:=by
 unfold ub at aE
 cases ax:aZ P t with
 | none=>rw [ax] at aE;cases aE
 | some aL=>
   rw [ax] at aE
   simp only at aE
   have hu:=fu ax w
   cases bJ:aL.a'<;>rw [bJ] at aE<;>simp only at aE<;>try (cases aE;done)
   rename_i b6
   rw [bJ] at hu
   cases k<;>simp only at aE<;>try (cases aE;done)
   rename_i cs
   simp only [Rel] at ay
   obtain ⟨a,rfl,bd⟩:=ay
   show (Instr.checkKey b (9998+1+1) t (.agg a)).run P w=.ok () w
   unfold Instr.checkKey
   rw [Sem.run_bind,hu]
   have:=VB (P:=P) (w:=w) bd b 9998 b6.toList aE
   simp only [Result.andThen_ok,Array.forIn_toList] at this ⊢
   exact this
theorem adN {cd:TypeId} {b6:Array Field} {w:World} (hu:(underlying cd).run P w=.ok (.struct b6) w) {K:Value} {l:List MapEntry} {R:Option (Nat × Value)} (h:(Instr.findAsking cd K l 0).run P w=.ok R w):
 (Instr.findKey cd K l).run P w=.ok R w:=by
 cases l with
 | nil=>
   simp only [Instr.findAsking,Sem.run_pure] at h
   cases h
   simp [Instr.findKey,hu,Instr.findNow]
 | cons dT es=>
   have aS:Instr.findNow (.struct b6) K (dT::es) 0=none:=by simp [Instr.findNow,Instr.sameNow]
   simp [Instr.findKey,hu,aS,h]
structure w1 (P:Program) (w:World) (E:Env) (cd:TypeId) (e:dq) (K:Value):Prop where
 eq:uT P w E cd e
 check:∀b,(Instr.checkKey b 10000 cd K).run P w=.ok () w
 find:∀{l:List MapEntry} {R},(Instr.findAsking cd K l 0).run P w=.ok R w→(Instr.findKey cd K l).run P w=.ok R w
theorem Du {aq:Fr} {E:Env} {h:af} {w:World} (s:a1 aq E h w) {cd:TypeId} (ax:lZ P cd=true) (K:Value):w1 P w E cd ⟨oj h⟩ K:=by
 obtain ⟨NU,mo⟩:=ac4 ax w
 exact ⟨ac3 s ax,fun b=>adK mo b K,fun q=>adM mo q⟩
theorem Dv {w:World} {E:Env} {cd:TypeId} (ax:rl P cd=true) {k:V} (aE:ub P cd k=true) {K:Value} (ay:Rel E k K):w1 P w E cd (structEq P cd) K:=by
 obtain ⟨b6,mo⟩:=aeq ax w
 exact ⟨aep,fun b=>adL aE ay b,fun q=>adN mo q⟩
end
end Go.Proofs.YthemdhlheglhoaaGreatDoor.aY
namespace Go.Proofs.YthemdhlheglhoaaGreatDoor.aY
variable [Lay]
open Go Go.RowKit
section
variable {P:Program}
theorem GB {E:Env} {a':TypeDesc} {k bp:V} {K mQ:Value} {b:Bool} (he:(kL a').run k bp=some b) (ak:Rel E k K) (a7:Rel E bp mQ):
 Instr.sameNow a' K mQ=some b∧(b=true→mQ=K∧∀n,Instr.sameBits n K K=true):=by
 cases a'<;>simp only [kL] at he<;>try (simp [dq.none] at he;done)
 case bool=>
  simp only [pA] at he
  cases k<;>simp only at he<;>try (cases he;done)
  cases bp<;>simp only at he<;>try (cases he;done)
  simp only [Rel] at ak a7
  subst ak a7
  simp only [Option.some.injEq] at he
  subst he
  refine ⟨rfl,fun h=>?_⟩
  rw [beq_iff_eq] at h
  subst h
  exact ⟨rfl,fun n=>by cases n<;>simp [Instr.sameBits]⟩
 case int p2=>
  simp only [k1] at he
  obtain ⟨j,m,rfl,aa⟩:=jA he
  clear he
  obtain ⟨Bu,b3,rfl,ae⟩:=jA aa
  clear aa
  obtain ⟨ay,h⟩:=en ae
  clear ae
  have:=rS ay
  subst this
  simp only [Rel] at ak a7
  subst ak a7
  simp only [Option.some.injEq,k0] at h
  subst h
  refine ⟨by simp [Instr.sameNow],fun h=>?_⟩
  rw [beq_iff_eq] at h
  subst h
  exact ⟨rfl,fun n=>by cases n<;>simp [Instr.sameBits]⟩
 case string=>
  simp only [th] at he
  cases k<;>simp only at he<;>try (cases he;done)
  cases bp<;>simp only at he<;>try (cases he;done)
  simp only [Rel] at ak a7
  subst ak a7
  simp only [Option.some.injEq,s5] at he
  subst he
  refine ⟨by simp only [Instr.sameNow,bytes_beq],fun h=>?_⟩
  rw [beq_iff_eq] at h
  subst h
  exact ⟨rfl,fun n=>by cases n<;>simp [Instr.sameBits,bytes_beq]⟩
theorem run_checkKey {a':TypeDesc} (ar:nj a'=true) {t:TypeId} {w:World} (hu:(underlying t).run P w=.ok a' w) (b:Bool) (v:Value):(Instr.checkKey b 10000 t v).run P w=.ok () w:=by
 show (Instr.checkKey b (9999+1) t v).run P w=.ok () w
 unfold Instr.checkKey
 rw [Sem.run_bind,hu]
 cases a'<;>simp only [nj] at ar<;>first
  | (cases ar;done)
  | rfl
theorem run_findKey {a':TypeDesc} {t:TypeId} {w:World} (hu:(underlying t).run P w=.ok a' w) {K:Value} {l:List MapEntry} {R:Option (Nat × Value)} (h:Instr.findNow a' K l 0=some R):
 (Instr.findKey t K l).run P w=.ok R w:=by
 simp only [Instr.findKey,Sem.run_bind,hu,Result.andThen_ok,h,Sem.run_pure]
theorem KO {E:Env} {a':TypeDesc} {k:V} {K:Value} (ay:Rel E k K):∀(es:List cH) (l:List MapEntry) (r:Option V) (i:Nat),nM (kL a') k es=some r→ek E es l→
 ∃R,Instr.findNow a' K l i=some R∧(match r with
  | none=>R=none
  | some v=>∃j Y,R=some (j,Y)∧Rel E v Y)
 | [],l,r,i,h,aG=>by
   simp only [ek] at aG
   subst aG
   simp only [nM,Option.some.injEq] at h
   subst h
   exact ⟨none,rfl,rfl⟩
 | m::ms,l,r,i,h,aG=>by
   obtain ⟨e,es,rfl,aa,ae,aH,bf⟩:=aG
   simp only [nM] at h
   cases aO:(kL a').run k m.k with
   | none=>rw [aO] at h;cases h
   | some b=>
     rw [aO] at h
     simp only at h
     obtain ⟨au,az⟩:=GB aO ay aa
     cases b with
     | true=>
       simp only [cond_true,Option.some.injEq] at h
       subst h
       exact ⟨some (i,e.val),by simp only [Instr.findNow,au],i,e.val,rfl,ae⟩
     | false=>
       simp only [cond_false] at h
       obtain ⟨R,g1,g2⟩:=KO ay ms es r (i+1) h bf
       exact ⟨R,by simp only [Instr.findNow,au,g1],g2⟩
theorem Oq {E:Env} {a':TypeDesc} {k v:V} {K X:Value} (ay:Rel E k K) (br:Rel E v X) (clock:Nat):∀(es:List cH) (l:List MapEntry) (r:List cH × Bool) (i:Nat),lr (kL a') k v clock es=some r→ek E es l→
 (r.2=true→Instr.findNow a' K l i=some none∧ek E r.1 (l++[⟨K,X,clock⟩]))∧
 (r.2=false→∃j e Y,Instr.findNow a' K l i=some (some (i+j,Y))∧l[j]? =some e∧Instr.sameBits 10000 e.key K=true∧ek E r.1 (l.modify j fun e=>{e with key:=K,val:=X}))
 | [],l,r,i,h,aG=>by
   simp only [ek] at aG
   subst aG
   simp only [lr,Option.some.injEq] at h
   subst h
   exact ⟨fun _=>⟨rfl,_,_,rfl,ay,br,rfl,rfl⟩,fun h=>by cases h⟩
 | m::ms,l,r,i,h,aG=>by
   obtain ⟨e,es,rfl,aa,ae,aH,bf⟩:=aG
   simp only [lr] at h
   cases aO:(kL a').run k m.k with
   | none=>rw [aO] at h;cases h
   | some b=>
     rw [aO] at h
     simp only at h
     obtain ⟨au,az⟩:=GB aO ay aa
     cases b with
     | true=>
       simp only [cond_true,Option.some.injEq] at h
       subst h
       obtain ⟨aM,bU⟩:=az rfl
       refine ⟨fun h=>(by cases h),fun _=>⟨0,e,e.val,by simp only [Instr.findNow,au,Nat.add_zero],rfl,by rw [aM];exact bU _,?_⟩⟩
       exact ⟨_,es,rfl,ay,br,aH,bf⟩
     | false=>
       simp only [cond_false] at h
       cases ag:lr (kL a') k v clock ms with
       | none=>rw [ag] at h;cases h
       | some bq=>
         rw [ag] at h
         simp only [Option.some.injEq] at h
         subst h
         obtain ⟨g1,g2⟩:=Oq ay br clock ms es bq (i+1) ag bf
         refine ⟨fun h=>?_,fun h=>?_⟩
         · obtain ⟨bE,a2⟩:=g1 h
           exact ⟨by simp only [Instr.findNow,au,bE],⟨e,es++[⟨K,X,clock⟩],rfl,aa,ae,aH,a2⟩⟩
         · obtain ⟨j,c_,Y,bE,a2,a3,a4⟩:=g2 h
           exact ⟨j+1,c_,Y,by simp only [Instr.findNow,au,bE];congr 3;omega,by simpa using a2,a3,e,_,rfl,aa,ae,aH,a4⟩
theorem GS {aq:Fr} {E:Env} {h:af} {w:World} (s:a1 aq E h w) {x:V} {X:Value} {es:List cH} (he:sg h x=some es) (ak:Rel E x X):
 (X=.map none∧es=[])∨∃r a clock,X=.map (some r)∧(getObj r).run P w=.ok (.map a clock) w∧ek E es a.toList:=by
 cases x<;>simp only [sg] at he<;>try (cases he;done)
 · simp only [Rel] at ak
   exact .inl ⟨ak,by simpa using he.symm⟩
 · rename_i b
   simp only [Rel] at ak
   obtain ⟨p,ag,rfl⟩:=ak
   have ah:=s.at ag
   cases aE:h.get b<;>rw [aE] at he<;>simp only [b4.kN] at he<;>try (cases he;done)
   simp only [Option.some.injEq] at he
   subst he
   rw [aE] at ah
   obtain ⟨q,a,aa,_,aH,bf⟩:=ah
   rw [ag] at aa;cases aa
   exact .inr ⟨p.bc,a,_,rfl,by simp only [getObj,Sem.run,aH];rfl,bf⟩
theorem KL {a':TypeDesc} {K:Value}:∀{l:List MapEntry} {i:Nat},(∀e ∈ l,Instr.sameNow a' K e.key=some false)→Instr.findNow a' K l i=some none
 | [],_,_=>rfl
 | e::es,i,h=>by
   simp only [Instr.findNow,h e (by simp)]
   exact KL fun c_ eE=>h c_ (by simp [eE])
theorem KM {a':TypeDesc} {K:Value}:∀{l:List MapEntry} {i:Nat},(∀e ∈ l,∃b,Instr.sameNow a' K e.key=some b)→(∃e ∈ l,Instr.sameNow a' K e.key=some true)→
 ∃j,∃e ∈ l,Instr.sameNow a' K e.key=some true∧Instr.findNow a' K l i=some (some (j,e.val))
 | [],_,_,h=>by obtain ⟨e,he,_⟩:=h;simp at he
 | e::es,i,aa,ae=>by
   obtain ⟨b,ah⟩:=aa e (by simp)
   cases b with
   | true=>exact ⟨i,e,by simp,ah,by simp only [Instr.findNow,ah]⟩
   | false=>
     obtain ⟨c_,eE,ax⟩:=ae
     simp only [List.mem_cons] at eE
     rcases eE with rfl | eE
     · rw [ah] at ax;cases ax
     · obtain ⟨j,bl,au,az,aM⟩:=KM (i:=i+1) (fun x ak=>aa x (by simp [ak])) ⟨c_,eE,ax⟩
       exact ⟨j,bl,by simp [au],az,by simp only [Instr.findNow,ah,aM]⟩
theorem KN {E:Env} {a':TypeDesc} {k:V} {K:Value} (ay:Rel E k K):∀(es:List cH) (l:List MapEntry) (r:Option V),qF (kL a') k es=some r→mV E es l→
 (∀e ∈ l,∃b,Instr.sameNow a' K e.key=some b)∧(match r with
  | none=>∀e ∈ l,Instr.sameNow a' K e.key=some false
  | some v=>(∃e ∈ l,Instr.sameNow a' K e.key=some true)∧∀e ∈ l,Instr.sameNow a' K e.key=some true→Rel E v e.val)
 | [],l,r,h,aG=>by
   simp only [mV] at aG
   subst aG
   simp only [qF,Option.some.injEq] at h
   subst h
   exact ⟨fun e he=>by simp at he,fun e he=>by simp at he⟩
 | m::ms,l,r,h,aG=>by
   obtain ⟨e,es,rfl,aa,ae,bf⟩:=aG
   simp only [qF] at h
   cases ar:qF (kL a') k ms with
   | none=>rw [ar] at h;cases h
   | some bq=>
     rw [ar] at h
     simp only at h
     obtain ⟨g1,g2⟩:=KN ay ms es bq ar bf
     cases aO:(kL a').run k m.k with
     | none=>rw [aO] at h;cases h
     | some b=>
       rw [aO] at h
       simp only at h
       obtain ⟨au,_⟩:=GB aO ay aa
       have Fj:∀c_ ∈ e::es,∃b,Instr.sameNow a' K c_.key=some b:=by
        intro c_ eE
        rcases List.mem_cons.1 eE with rfl | eE
        · exact ⟨b,au⟩
        · exact g1 c_ eE
       refine ⟨Fj,?_⟩
       cases b with
       | true=>
         simp only [cond_true] at h
         cases bq with
         | some _=>cases h
         | none=>
           simp only [Option.some.injEq] at h
           subst h
           refine ⟨⟨e,by simp,au⟩,fun c_ eE ax=>?_⟩
           rcases List.mem_cons.1 eE with rfl | eE
           · exact ae
           · have:=g2 c_ eE
             rw [ax] at this;cases this
       | false=>
         simp only [cond_false,Option.some.injEq] at h
         subst h
         cases bq with
         | none=>
           intro c_ eE
           rcases List.mem_cons.1 eE with rfl | eE
           · exact au
           · exact g2 c_ eE
         | some v=>
           obtain ⟨⟨cR,eR,fR⟩,y3⟩:=g2
           refine ⟨⟨cR,by simp [eR],fR⟩,fun c_ eE ax=>?_⟩
           rcases List.mem_cons.1 eE with rfl | eE
           · rw [au] at ax;cases ax
           · exact y3 c_ eE ax
theorem Vu {E:Env} {a':TypeDesc} {k:V} {K:Value} (ay:Rel E k K) {es:List cH} {l a:List MapEntry} {r:Option V} (h:qF (kL a') k es=some r) (aG:mV E es l) (ag:l.Perm a):
 ∃R,Instr.findNow a' K a 0=some R∧(match r with
  | none=>R=none
  | some v=>∃j Y,R=some (j,Y)∧Rel E v Y):=by
 obtain ⟨aa,ae⟩:=KN ay es l r h aG
 have hm:∀e,e ∈ a↔e ∈ l:=fun e=>ag.mem_iff.symm
 cases r with
 | none=>exact ⟨none,KL fun e he=>ae e ((hm e).1 he),rfl⟩
 | some v=>
   obtain ⟨⟨cR,eR,fR⟩,y3⟩:=ae
   obtain ⟨j,e,au,az,aM⟩:=KM (i:=0) (fun e he=>aa e ((hm e).1 he)) ⟨cR,(hm cR).2 eR,fR⟩
   exact ⟨_,aM,j,e.val,rfl,y3 e ((hm e).1 au) az⟩
theorem abk {e:dq} {z:V} {ok:Bool} {h:af} {x k v:V} (he:oa e z ok h x k=some v):
 q2 e z ok h x k=some v∨∃b es r,x=.map b∧h.get b=.iW es∧qF e k es=some r∧v=(match r with
  | some u=>bif ok then .tuple [u,.bool true] else u
  | none=>bif ok then .tuple [z,.bool false] else z):=by
 unfold oa at he
 cases x<;>simp only at he<;>try (exact .inl he)
 rename_i b
 cases aE:h.get b<;>rw [aE] at he<;>simp only at he<;>try (exact .inl he)
 rename_i es
 cases ar:qF e k es with
 | none=>rw [ar] at he;cases he
 | some r=>
   rw [ar] at he
   refine .inr ⟨b,es,r,rfl,aE,ar,?_⟩
   cases r<;>simp only [Option.some.injEq] at he<;>exact he.symm
theorem abj {aq:Fr} {E:Env} {h:af} {w:World} (s:a1 aq E h w) {t:TypeId} {ok:Bool} {x k v:V} {X K:Value} (ak:Rel E x X) (ay:Rel E k K) (he:(BE P t ok).run h x k=some v):
 ∃Z,(Instr.lookup t X K ok).run P w=.ok Z w∧Rel E v Z:=by
 unfold BE at he
 cases ax:aZ P t with
 | none=>rw [ax] at he;cases he
 | some aL=>
   rw [ax] at he
   simp only at he
   have hu:=fu ax w
   cases bJ:aL.a'<;>rw [bJ] at he<;>simp only at he<;>try (cases he;done)
   rename_i cd ka
   rw [bJ] at hu
   cases nf:aZ P cd with
   | none=>rw [nf] at he;cases he
   | some hs=>
     rw [nf] at he
     simp only at he
     cases het:aZ P ka with
     | none=>rw [het] at he;cases he
     | some bb=>
       rw [het] at he
       simp only at he
       cases bs:bb.zero with
       | none=>rw [bs] at he;cases he
       | some z=>
         rw [bs] at he
         simp only at he
         cases ar:nj hs.a' with
         | false=>
           rw [ar] at he
           simp only [cond_false] at he
           have r1:∃e,w1 P w E cd e K∧q2 e z ok h x k=some v:=by
            cases oU:lZ P cd with
            | true=>
              rw [oU] at he
              exact ⟨_,Du s oU K,he⟩
            | false=>
              rw [oU] at he
              simp only [cond_false] at he
              cases ct:rl P cd with
              | false=>rw [ct] at he;cases he
              | true=>
                rw [ct] at he
                simp only [cond_true] at he
                obtain ⟨aE,he⟩:=en he
                exact ⟨_,Dv ct aE ay,he⟩
           clear he
           obtain ⟨e,ask,he⟩:=r1
           obtain ⟨sJ,mz,lS,_⟩:=wM (P:=P) het bs E w
           simp only [q2] at he
           cases hm:sg h x with
           | none=>rw [hm] at he;cases he
           | some es=>
             rw [hm] at he
             simp only at he
             cases tB:nM e k es with
             | none=>rw [tB] at he;cases he
             | some r=>
               rw [tB] at he
               simp only at he
               have main:∀(l:List MapEntry),ek E es l→∃R,(Instr.findKey cd K l).run P w=.ok R w∧
                ((R=none∧Rel E v (if ok=true then .tuple #[sJ,.bool false] else sJ))∨∃j Y,R=some (j,Y)∧Rel E v (if ok=true then .tuple #[Y,.bool true] else Y)):=by
                intro l ao
                obtain ⟨R,g1,g2⟩:=KJ ask.eq ay es l r 0 tB ao
                refine ⟨R,ask.find g1,?_⟩
                cases r with
                | none=>
                  simp only at g2 he
                  refine .inl ⟨g2,?_⟩
                  simp only [Option.some.injEq] at he
                  subst he
                  cases ok
                  · exact lS
                  · simp only [cond_true,if_true,Rel,a8];exact ⟨_,rfl,_,_,rfl,lS,_,_,rfl,rfl,rfl⟩
                | some u=>
                  simp only at g2 he
                  obtain ⟨j,Y,cC,fk⟩:=g2
                  refine .inr ⟨j,Y,cC,?_⟩
                  simp only [Option.some.injEq] at he
                  subst he
                  cases ok
                  · exact fk
                  · simp only [cond_true,if_true,Rel,a8];exact ⟨_,rfl,_,_,rfl,fk,_,_,rfl,rfl,rfl⟩
               rcases GS (P:=P) s hm ak with ⟨rfl,rfl⟩ | ⟨bQ,a,clock,rfl,e1,pR⟩
               · obtain ⟨R,g1,g2⟩:=main [] rfl
                 have jr:=ask.check true
                 rcases g2 with ⟨rfl,g3⟩ | ⟨j,Y,rfl,g3⟩
                 all_goals
                  refine ⟨_,?_,g3⟩
                  simp only [Instr.lookup,Sem.run_bind,hu,Result.andThen_ok,Sem.run_pure]
                  have aP:(#[]:Array MapEntry).isEmpty=true:=rfl
                  rw [aP,jr,Result.andThen_ok,g1,Result.andThen_ok]
                  simp only [Sem.run_bind,mz,Result.andThen_ok,Sem.run_pure]
               · obtain ⟨R,g1,g2⟩:=main a.toList pR
                 have jr:=ask.check a.isEmpty
                 rcases g2 with ⟨rfl,g3⟩ | ⟨j,Y,rfl,g3⟩
                 all_goals
                  refine ⟨_,?_,g3⟩
                  simp only [Instr.lookup,Sem.run_bind,hu,Result.andThen_ok,Sem.run_pure,e1]
                  rw [jr,Result.andThen_ok,g1,Result.andThen_ok]
                  simp only [Sem.run_bind,mz,Result.andThen_ok,Sem.run_pure]
         | true=>
           rw [ar] at he
           simp only [cond_true] at he
           obtain ⟨sJ,mz,lS,_⟩:=wM (P:=P) het bs E w
           have mo:=fu nf w
           rcases abk he with he | ⟨b,es,r,rfl,aE,W8,rfl⟩
           case inr=>
            simp only [Rel] at ak
            obtain ⟨p,ag,rfl⟩:=ak
            have ah:=s.at ag
            rw [aE] at ah
            obtain ⟨p',a,c,l,fN,_,ba,yd,ye⟩:=ah
            rw [ag] at fN;cases fN
            obtain ⟨R,g1,g2⟩:=Vu ay W8 yd ye
            have e1:(getObj p.bc).run P w=.ok (.map a c) w:=by simp only [getObj,Sem.run,ba]
            have jr:=run_checkKey (P:=P) ar mo a.isEmpty K
            have AI:=run_findKey mo g1
            cases r with
            | none=>
              simp only at g2
              subst g2
              refine ⟨if ok=true then .tuple #[sJ,.bool false] else sJ,?_,?_⟩
              · simp only [Instr.lookup,Sem.run_bind,hu,Result.andThen_ok,Sem.run_pure,e1]
                rw [jr,Result.andThen_ok,AI,Result.andThen_ok]
                simp only [Sem.run_bind,mz,Result.andThen_ok,Sem.run_pure]
              · cases ok
                · exact lS
                · simp only [cond_true,if_true,Rel,a8];exact ⟨_,rfl,_,_,rfl,lS,_,_,rfl,rfl,rfl⟩
            | some u=>
              simp only at g2
              obtain ⟨j,Y,rfl,fk⟩:=g2
              refine ⟨if ok=true then .tuple #[Y,.bool true] else Y,?_,?_⟩
              · simp only [Instr.lookup,Sem.run_bind,hu,Result.andThen_ok,Sem.run_pure,e1]
                rw [jr,Result.andThen_ok,AI,Result.andThen_ok]
                simp only [Sem.run_bind,Sem.run_pure,Result.andThen_ok]
              · cases ok
                · exact fk
                · simp only [cond_true,if_true,Rel,a8];exact ⟨_,rfl,_,_,rfl,fk,_,_,rfl,rfl,rfl⟩
           simp only [q2] at he
           cases hm:sg h x with
           | none=>rw [hm] at he;cases he
           | some es=>
             rw [hm] at he
             simp only at he
             cases tB:nM (kL hs.a') k es with
             | none=>rw [tB] at he;cases he
             | some r=>
               rw [tB] at he
               simp only at he
               have main:∀(l:List MapEntry),ek E es l→∃R,(Instr.findKey cd K l).run P w=.ok R w∧
                ((R=none∧Rel E v (if ok=true then .tuple #[sJ,.bool false] else sJ))∨∃j Y,R=some (j,Y)∧Rel E v (if ok=true then .tuple #[Y,.bool true] else Y)):=by
                intro l ao
                obtain ⟨R,g1,g2⟩:=KO ay es l r 0 tB ao
                refine ⟨R,run_findKey mo g1,?_⟩
                cases r with
                | none=>
                  simp only at g2 he
                  refine .inl ⟨g2,?_⟩
                  simp only [Option.some.injEq] at he
                  subst he
                  cases ok
                  · exact lS
                  · simp only [cond_true,if_true,Rel,a8];exact ⟨_,rfl,_,_,rfl,lS,_,_,rfl,rfl,rfl⟩
                | some u=>
                  simp only at g2 he
                  obtain ⟨j,Y,cC,fk⟩:=g2
                  refine .inr ⟨j,Y,cC,?_⟩
                  simp only [Option.some.injEq] at he
                  subst he
                  cases ok
                  · exact fk
                  · simp only [cond_true,if_true,Rel,a8];exact ⟨_,rfl,_,_,rfl,fk,_,_,rfl,rfl,rfl⟩
               rcases GS (P:=P) s hm ak with ⟨rfl,rfl⟩ | ⟨bQ,a,clock,rfl,e1,pR⟩
               · obtain ⟨R,g1,g2⟩:=main [] rfl
                 have jr:=run_checkKey (P:=P) ar mo true K
                 rcases g2 with ⟨rfl,g3⟩ | ⟨j,Y,rfl,g3⟩
                 all_goals
                  refine ⟨_,?_,g3⟩
                  simp only [Instr.lookup,Sem.run_bind,hu,Result.andThen_ok,Sem.run_pure]
                  have aP:(#[]:Array MapEntry).isEmpty=true:=rfl
                  rw [aP,jr,Result.andThen_ok,g1,Result.andThen_ok]
                  simp only [Sem.run_bind,mz,Result.andThen_ok,Sem.run_pure]
               · obtain ⟨R,g1,g2⟩:=main a.toList pR
                 have jr:=run_checkKey (P:=P) ar mo a.isEmpty K
                 rcases g2 with ⟨rfl,g3⟩ | ⟨j,Y,rfl,g3⟩
                 all_goals
                  refine ⟨_,?_,g3⟩
                  simp only [Instr.lookup,Sem.run_bind,hu,Result.andThen_ok,Sem.run_pure,e1]
                  rw [jr,Result.andThen_ok,g1,Result.andThen_ok]
                  simp only [Sem.run_bind,mz,Result.andThen_ok,Sem.run_pure]
theorem PT {aq:Fr} {E:Env} {h ab:af} {w:World} (s:a1 aq E h w) {t:TypeId} {x k v:V} {X K Y:Value} (ak:Rel E x X) (ay:Rel E k K) (br:Rel E v Y) (he:(ou P t).run h x k v=some ab):
 ∃aj,(Instr.mapUpdate t X K Y).run P w=.ok () aj∧a1 aq E ab aj:=by
 unfold ou at he
 cases ax:aZ P t with
 | none=>rw [ax] at he;cases he
 | some aL=>
   rw [ax] at he
   simp only at he
   have hu:=fu ax w
   cases bJ:aL.a'<;>rw [bJ] at he<;>simp only at he<;>try (cases he;done)
   rename_i cd ka
   rw [bJ] at hu
   cases nf:aZ P cd with
   | none=>rw [nf] at he;cases he
   | some hs=>
     rw [nf] at he
     simp only at he
     cases ar:nj hs.a' with
     | false=>
       rw [ar] at he
       simp only [cond_false] at he
       have r1:∃e,w1 P w E cd e K∧nz e h x k v=some ab:=by
        cases oU:lZ P cd with
        | true=>
          rw [oU] at he
          exact ⟨_,Du s oU K,he⟩
        | false=>
          rw [oU] at he
          simp only [cond_false] at he
          cases ct:rl P cd with
          | false=>rw [ct] at he;cases he
          | true=>
            rw [ct] at he
            simp only [cond_true] at he
            obtain ⟨aE,he⟩:=en he
            exact ⟨_,Dv ct aE ay,he⟩
       clear he
       obtain ⟨e,ask,he⟩:=r1
       cases x<;>simp only [nz] at he<;>try (cases he;done)
       rename_i b
       simp only [Rel] at ak
       obtain ⟨p,ag,rfl⟩:=ak
       have ah:=s.at ag
       cases aE:h.get b<;>rw [aE] at he<;>simp only [b4.kN] at he<;>try (cases he;done)
       rename_i es clock
       rw [aE] at ah
       obtain ⟨q,a,aa,c9,aH,bf⟩:=ah
       rw [ag] at aa;cases aa
       cases tQ:lr e k v clock es with
       | none=>rw [tQ] at he;cases he
       | some r=>
         rw [tQ] at he
         simp only [Option.some.injEq] at he
         subst he
         have e1:(getObj p.bc).run P w=.ok (.map a clock) w:=by simp only [getObj,Sem.run,aH]
         have jr:=ask.check false
         have k9:=(Array.getElem?_eq_some_iff.1 aH).1
         have xD:∀(bh:Array MapEntry) (hi:Nat),ek E r.1 bh.toList→hi=(bif r.2 then clock+1 else clock)→
          ∃aj,(setObj p.bc (.map bh hi)).run P w=.ok () aj∧a1 aq E (h.set b (.mp r.1 (bif r.2 then clock+1 else clock))) aj:=by
          intro bh hi hm aD
          refine ⟨{w with heap:=w.heap.setIfInBounds p.bc (.map bh hi)},by simp only [setObj,Sem.run,aH],s.set (p:=p) (by rw [aE];rfl) ag c9 (by simp) (fun j bK=>?_) rfl rfl rfl (fun _ _ _ e=>by cases e) ?_⟩
          · simp only [Array.getElem?_setIfInBounds]
            rw [if_neg (fun e=>bK e.symm)]
          · exact ⟨p,bh,ag,c9,by simp [k9,aD],hm⟩
         obtain ⟨g1,g2⟩:=Og ask.eq ay br clock es a.toList r 0 tQ bf
         cases k_:r.2 with
         | true=>
           obtain ⟨bE,a2⟩:=g1 k_
           obtain ⟨aj,d1,d2⟩:=xD (a.push ⟨K,Y,clock⟩) (clock+1) (by simpa using a2) (by rw [k_];rfl)
           rw [k_] at d2
           refine ⟨aj,?_,d2⟩
           simp only [Instr.mapUpdate,Sem.run_bind,hu,Result.andThen_ok,e1,jr,ask.find bE,d1]
         | false=>
           obtain ⟨j,dT,Q0,bE,a2,a3,a4⟩:=g2 k_
           obtain ⟨aj,d1,d2⟩:=xD (a.modify j fun dT=>{dT with key:=K,val:=Y}) clock (by simpa using a4) (by rw [k_];rfl)
           rw [k_] at d2
           refine ⟨aj,?_,d2⟩
           rw [Nat.zero_add] at bE
           have aP:a[j]? =some dT:=by simpa using a2
           simp only [Instr.mapUpdate,Sem.run_bind,hu,Result.andThen_ok,e1,jr,ask.find bE,aP,Option.map,Option.getD,Instr.keyThatStays,a3,if_true,Sem.run_pure,d1]
     | true=>
       rw [ar] at he
       simp only [cond_true] at he
       have mo:=fu nf w
       cases x<;>simp only [nz] at he<;>try (cases he;done)
       rename_i b
       simp only [Rel] at ak
       obtain ⟨p,ag,rfl⟩:=ak
       have ah:=s.at ag
       cases aE:h.get b<;>rw [aE] at he<;>simp only [b4.kN] at he<;>try (cases he;done)
       rename_i es clock
       rw [aE] at ah
       obtain ⟨q,a,aa,c9,aH,bf⟩:=ah
       rw [ag] at aa;cases aa
       cases tQ:lr (kL hs.a') k v clock es with
       | none=>rw [tQ] at he;cases he
       | some r=>
         rw [tQ] at he
         simp only [Option.some.injEq] at he
         subst he
         have e1:(getObj p.bc).run P w=.ok (.map a clock) w:=by simp only [getObj,Sem.run,aH]
         have jr:=run_checkKey (P:=P) ar mo false K
         have k9:=(Array.getElem?_eq_some_iff.1 aH).1
         have done:∀(bh:Array MapEntry) (hi:Nat),ek E r.1 bh.toList→hi=(bif r.2 then clock+1 else clock)→
          ∃aj,(setObj p.bc (.map bh hi)).run P w=.ok () aj∧a1 aq E (h.set b (.mp r.1 (bif r.2 then clock+1 else clock))) aj:=by
          intro bh hi hm aD
          refine ⟨{w with heap:=w.heap.setIfInBounds p.bc (.map bh hi)},by simp only [setObj,Sem.run,aH],s.set (p:=p) (by rw [aE];rfl) ag c9 (by simp) (fun j bK=>?_) rfl rfl rfl (fun _ _ _ e=>by cases e) ?_⟩
          · simp only [Array.getElem?_setIfInBounds]
            rw [if_neg (fun e=>bK e.symm)]
          · exact ⟨p,bh,ag,c9,by simp [k9,aD],hm⟩
         obtain ⟨g1,g2⟩:=Oq ay br clock es a.toList r 0 tQ bf
         cases k_:r.2 with
         | true=>
           obtain ⟨bE,a2⟩:=g1 k_
           obtain ⟨aj,d1,d2⟩:=done (a.push ⟨K,Y,clock⟩) (clock+1) (by simpa using a2) (by rw [k_];rfl)
           rw [k_] at d2
           refine ⟨aj,?_,d2⟩
           simp only [Instr.mapUpdate,Sem.run_bind,hu,Result.andThen_ok,e1,jr,run_findKey mo bE,d1]
         | false=>
           obtain ⟨j,e,Q0,bE,a2,a3,a4⟩:=g2 k_
           obtain ⟨aj,d1,d2⟩:=done (a.modify j fun e=>{e with key:=K,val:=Y}) clock (by simpa using a4) (by rw [k_];rfl)
           rw [k_] at d2
           refine ⟨aj,?_,d2⟩
           rw [Nat.zero_add] at bE
           have aP:a[j]? =some e:=by simpa using a2
           simp only [Instr.mapUpdate,Sem.run_bind,hu,Result.andThen_ok,e1,jr,run_findKey mo bE,aP,Option.map,Option.getD,Instr.keyThatStays,a3,if_true,Sem.run_pure,d1]
theorem Nr {aq:Fr} {E:Env} {h ab:af} {w:World} (s:a1 aq E h w) {v:V} (he:uj h=.val v ab):cY aq P E w (do pure (.map (some (←newObj (.map #[] 0))))) v ab:=by
 unfold uj at he
 simp only [aU.val.injEq] at he
 obtain ⟨rfl,rfl⟩:=he
 have cZ:=s.fresh h.next (Nat.le_refl _)
 have dN:E.put (ai h.next) ⟨w.heap.size,0,0⟩ (ai h.next)=some ⟨w.heap.size,0,0⟩:=by unfold Env.put;rw [if_pos rfl]
 refine ⟨.map (some w.heap.size),{w with heap:=w.heap.push (.map #[] 0)},_,?_,Env.lk (p:=⟨w.heap.size,0,0⟩) cZ,?_,s.alloc 0 ?_⟩
 · simp only [Sem.run_bind,run_newObj,Result.andThen_ok,Sem.run_pure]
 · simp only [Rel];exact ⟨_,dN,rfl⟩
 · exact ⟨_,#[],dN,s.frame.size,by simp,rfl⟩
theorem abn {aq:Fr} {E:Env} {h ab:af} {w:World} (s:a1 aq E h w) {t:TypeId} {x:Option V} {X:Option Value} {v:V} (ak:hE E x X) (he:wm P t x h=.val v ab):cY aq P E w (Instr.makeMap t X) v ab:=by
 unfold wm at he
 cases ax:aZ P t with
 | none=>rw [ax] at he;cases he
 | some aL=>
   rw [ax] at he
   simp only at he
   have hu:=fu ax
   cases ah:Nat.beq (e2 aL.a') 3 with
   | false=>rw [ah] at he;cases he
   | true=>
     rw [ah] at he
     simp only [cond_true] at he
     cases x with
     | none=>
       have:X=none:=by cases X with | none=>rfl | some _=>simp [hE] at ak
       subst this
       simp only [o4] at he
       have:=Nr (P:=P) s he
       exact this
     | some u=>
       simp only [o4] at he
       obtain ⟨cV,n,rfl,aa⟩:=yN he
       obtain ⟨Y,rfl,fk⟩:∃Y,X=some Y∧Rel E (.int cV n) Y:=by
        cases X with
        | none=>simp [hE] at ak
        | some Y=>simp only [hE] at ak;obtain ⟨afK,aa,ae⟩:=ak;cases aa;exact ⟨_,rfl,ae⟩
       have:=fk.iR;subst this
       obtain ⟨Z,aj,an,au,az⟩:=Nr (P:=P) s aa
       refine ⟨Z,aj,an,?_,az⟩
       cases bJ:aL.a'<;>rw [bJ] at ah<;>simp [e2] at ah
       have hu:=hu w
       rw [bJ] at hu
       simp only [Instr.makeMap,Sem.run_bind,hu,Result.andThen_ok,asInt,Sem.run_pure]
       exact au
theorem aaZ {aq:Fr} {E:Env} {h ab:af} {w:World} (s:a1 aq E h w) {t:TypeId} {aL:mU} (ax:aZ P t=some aL) (hm:sc aL.a'=true) {x v:V} {X:Value} (ak:Rel E x X) (ty:TypeId) (rest:List TypeId)
 (he:yy [x] h=.val v ab):cY aq P E w (Builtin.len_ (t::rest).toArray ty #[X]) v ab:=by
 simp only [yy] at he
 cases aO:sg h x with
 | none=>rw [aO] at he;cases he
 | some es=>
   rw [aO] at he
   simp only [aU.val.injEq] at he
   obtain ⟨rfl,rfl⟩:=he
   have hu:=fu ax w
   cases bJ:aL.a'<;>rw [bJ] at hm<;>simp [sc] at hm
   rw [bJ] at hu
   rcases GS (P:=P) s aO ak with ⟨rfl,rfl⟩ | ⟨bQ,a,clock,rfl,e1,pR⟩
   · refine cY.plain (Z:=goInt 0) s ?_ (by simp [Rel,goInt])
     simp [Builtin.len_,hu]
   · have hlen:∀(ms:List cH) (l:List MapEntry),ek E ms l→l.length=ms.length:=by
      intro ms
      induction ms with
      | nil=>intro l h;simp only [ek] at h;subst h;rfl
      | cons m ms bj=>intro l h;obtain ⟨e,es,rfl,_,_,_,bf⟩:=h;simp [bj _ bf]
     refine cY.plain (Z:=goInt a.size) s ?_ ?_
     · simp [Builtin.len_,hu,e1]
     · have:=hlen _ _ pR
       simp only [Array.length_toList] at this
       simp [Rel,goInt,this]
end
end Go.Proofs.YthemdhlheglhoaaGreatDoor.aY
namespace Go.Proofs.YthemdhlheglhoaaGreatDoor.aY
variable [Lay]
open Go Go.RowKit
section
variable {P:Program}
theorem KI {E:Env} {v:V} {Y:Value} (br:Rel E v Y) {n:Nat}:∀(es:List cH) (l:List MapEntry) (r:List cH),vj n v es=some r→ek E es l→
 ∃j,l.findIdx? (fun e=>(e.born:Int) == (n:Int))=some j∧ek E r (l.modify j fun e=>{e with val:=Y})
 | [],l,r,h,aG=>by cases h
 | m::ms,l,r,h,aG=>by
   obtain ⟨e,es,rfl,aa,ae,aH,bf⟩:=aG
   simp only [vj] at h
   cases ah:Nat.beq m.born n with
   | true=>
     rw [ah] at h
     simp only [cond_true,Option.some.injEq] at h
     subst h
     have aS:=Nat.eq_of_beq_eq_true ah
     refine ⟨0,by simp [List.findIdx?_cons,aH,aS],?_⟩
     exact ⟨_,es,rfl,aa,br,aH,bf⟩
   | false=>
     rw [ah] at h
     simp only [cond_false] at h
     cases ar:vj n v ms with
     | none=>rw [ar] at h;cases h
     | some bq=>
       rw [ar] at h
       simp only [Option.some.injEq] at h
       subst h
       obtain ⟨j,g1,g2⟩:=KI br ms es bq ar bf
       have dJ:¬((e.born:Int) == (n:Int))=true:=by
        rw [aH]
        intro av
        have vQ:(m.born:Int)=(n:Int):=by simpa using av
        have XP:m.born=n:=by omega
        rw [XP,Nat.beq_refl] at ah
        cases ah
       refine ⟨j+1,by simp only [List.findIdx?_cons,dJ];simp [g1],⟨e,_,by simp [List.modify],aa,ae,aH,g2⟩⟩
theorem U2 {aq:Fr} {E:Env} {h ab:af} {w:World} (s:a1 aq E h w) {t:TypeId} {x st v:V} {X S Y:Value} (ak:Rel E x X) (ct:Rel E st S) (br:Rel E v Y) (he:Am h x st v=some ab):
 ∃aj,(Instr.entryStore t X S Y).run P w=.ok () aj∧a1 aq E ab aj:=by
 unfold Am at he
 split at he
 case h_2=>cases he
 rename_i b
 split at he
 case h_2=>cases he
 rename_i cV m
 split at he
 case h_2=>cases he
 rename_i n
 simp only [Rel] at ak ct
 obtain ⟨p,ag,rfl⟩:=ak
 subst ct
 have ah:=s.at ag
 cases aE:h.get b<;>rw [aE] at he<;>simp only [b4.kN] at he<;>try (cases he;done)
 rename_i es clock
 rw [aE] at ah
 obtain ⟨q,a,aa,c9,aH,bf⟩:=ah
 rw [ag] at aa;cases aa
 cases ar:vj n v es with
 | none=>rw [ar] at he;cases he
 | some r=>
   rw [ar] at he
   simp only [Option.some.injEq] at he
   subst he
   obtain ⟨j,g1,g2⟩:=KI br es a.toList r ar bf
   have e1:(getObj p.bc).run P w=.ok (.map a clock) w:=by simp only [getObj,Sem.run,aH]
   have k9:=(Array.getElem?_eq_some_iff.1 aH).1
   have AI:a.findIdx? (fun e=>(e.born:Int) == (n:Int))=some j:=by
    rw [←g1]
    cases a with | mk ud=>simp
   have bd:(asInt (.int cV (Int.ofNat n))).run P w=.ok (n:Int) w:=by simp [asInt,asIntOf]
   refine ⟨{w with heap:=w.heap.setIfInBounds p.bc (.map (a.modify j fun e=>{e with val:=Y}) clock)},?_,s.set (p:=p) (by rw [aE];rfl) ag c9 (by simp) (fun j bK=>?_) rfl rfl rfl (fun _ _ _ e=>by cases e) ?_⟩
   · simp only [Instr.entryStore,Sem.run_bind,e1,Result.andThen_ok,bd,AI,setObj,Sem.run,aH]
   · simp only [Array.getElem?_setIfInBounds]
     rw [if_neg (fun e=>bK e.symm)]
   · exact ⟨p,a.modify j fun e=>{e with val:=Y},ag,c9,by simp [k9],by rw [Array.toList_modify];exact g2⟩
theorem KK {w:World} {E:Env} {cd:TypeId} {e:dq} (lJ:uT P w E cd e) {k:V} {K:Value} (ay:Rel E k K):∀(es:List cH) (l:List MapEntry) (r:Option cH) (i:Nat),vl e k es=some r→ek E es l→
 (r=none→(Instr.findAsking cd K l i).run P w=.ok none w)∧
 (∀m,r=some m→∃j dT,(Instr.findAsking cd K l i).run P w=.ok (some (i+j,dT.val)) w∧l[j]? =some dT∧dT.key=K∧Rel E m.v dT.val∧dT.born=m.born∧Instr.sameBits 10000 K K=true∧ek E es (l.modify j fun dT=>{dT with key:=K}))
 | [],l,r,i,h,aG=>by
   simp only [ek] at aG
   subst aG
   simp only [vl,Option.some.injEq] at h
   subst h
   exact ⟨fun _=>rfl,fun m hm=>by cases hm⟩
 | m::ms,l,r,i,h,aG=>by
   obtain ⟨dT,es,rfl,aa,ae,aH,bf⟩:=aG
   simp only [vl] at h
   cases aO:e.run k m.k with
   | none=>rw [aO] at h;cases h
   | some b=>
     rw [aO] at h
     simp only at h
     obtain ⟨au,az⟩:=lJ _ _ _ _ _ aO ay aa
     cases b with
     | true=>
       simp only [cond_true,Option.some.injEq] at h
       subst h
       obtain ⟨aM,bU⟩:=az rfl
       refine ⟨fun h=>(by cases h),fun b3 hm=>?_⟩
       cases hm
       exact ⟨0,dT,by simp [Instr.findAsking,au],rfl,aM,ae,aH,bU,⟨_,es,rfl,by rw [←aM];exact aa,ae,aH,bf⟩⟩
     | false=>
       simp only [cond_false] at h
       obtain ⟨g1,g2⟩:=KK lJ ay ms es r (i+1) h bf
       refine ⟨fun h=>by simp [Instr.findAsking,au,g1 h],fun b3 hm=>?_⟩
       obtain ⟨j,U1,bE,a2,a3,a4,a5,jl,Dq⟩:=g2 b3 hm
       exact ⟨j+1,U1,by simp [Instr.findAsking,au,bE];omega,by simpa using a2,a3,a4,a5,jl,⟨dT,_,rfl,aa,ae,aH,Dq⟩⟩
theorem Nb {aq:Fr} {E:Env} {h ab:af} {w:World} (s:a1 aq E h w) {t cd ka:TypeId} (hu:(underlying t).run P w=.ok (.map cd ka) w) {e:dq} {z:V} {Z:Value} (bs:(zeroValue ka).run P w=.ok Z w) (lS:Rel E z Z)
 {x k v:V} {X K:Value} (ak:Rel E x X) (ay:Rel E k K) (ask:w1 P w E cd e K) (he:wo e z h x k=some (v,ab)):cY aq P E w (Instr.mapEntry t X K) v ab:=by
 unfold wo at he
 split at he
 case h_2=>cases he
 rename_i b
 simp only [Rel] at ak
 obtain ⟨p,ag,rfl⟩:=ak
 have ah:=s.at ag
 cases aE:h.get b<;>rw [aE] at he<;>simp only [b4.kN] at he<;>try (cases he;done)
 rename_i es clock
 rw [aE] at ah
 obtain ⟨q,a,aa,c9,aH,bf⟩:=ah
 rw [ag] at aa;cases aa
 have e1:(getObj p.bc).run P w=.ok (.map a clock) w:=by simp only [getObj,Sem.run,aH]
 have jr:=ask.check false
 have k9:=(Array.getElem?_eq_some_iff.1 aH).1
 have xD:∀(jn:List cH) (bh:Array MapEntry) (hi:Nat),ek E jn bh.toList→
  ∃aj,(setObj p.bc (.map bh hi)).run P w=.ok () aj∧a1 aq E (h.set b (.mp jn hi)) aj:=by
  intro jn bh hi hm
  refine ⟨{w with heap:=w.heap.setIfInBounds p.bc (.map bh hi)},by simp only [setObj,Sem.run,aH],s.set (p:=p) (by rw [aE];rfl) ag c9 (by simp) (fun j bK=>?_) rfl rfl rfl (fun _ _ _ e=>by cases e) ?_⟩
  · simp only [Array.getElem?_setIfInBounds]
    rw [if_neg (fun e=>bK e.symm)]
  · exact ⟨p,bh,ag,c9,by simp [k9],hm⟩
 cases ar:vl e k es with
 | none=>rw [ar] at he;cases he
 | some r=>
   rw [ar] at he
   simp only at he
   obtain ⟨g1,g2⟩:=KK ask.eq ay es a.toList r 0 ar bf
   cases r with
   | none=>
     simp only [Option.some.injEq,Prod.mk.injEq] at he
     obtain ⟨rfl,rfl⟩:=he
     have bE:=ask.find (g1 rfl)
     obtain ⟨aj,d1,d2⟩:=xD (es++[⟨k,z,clock⟩]) (a.push ⟨K,Z,clock⟩) (clock+1) (by
      have:∀(es:List cH) (l:List MapEntry),ek E es l→ek E (es++[⟨k,z,clock⟩]) (l++[⟨K,Z,clock⟩]):=by
       intro es
       induction es with
       | nil=>intro l ao;simp only [ek] at ao;subst ao;exact ⟨_,_,rfl,ay,lS,rfl,rfl⟩
       | cons m ms bj=>intro l ao;obtain ⟨dT,jn,rfl,cx,cn,hZ,kZ⟩:=ao;exact ⟨dT,_,rfl,cx,cn,hZ,bj _ kZ⟩
      simpa using this es a.toList bf)
     refine ⟨.tuple #[Z,goInt clock],aj,E,?_,Env.le.refl E,?_,d2⟩
     · simp only [Instr.mapEntry,Sem.run_bind,hu,Result.andThen_ok,e1,jr,bE,bs,d1,Sem.run_pure]
     · simp only [Rel,a8];exact ⟨_,rfl,_,_,rfl,lS,_,_,rfl,rfl,rfl⟩
   | some m=>
     simp only [Option.some.injEq,Prod.mk.injEq] at he
     obtain ⟨rfl,rfl⟩:=he
     obtain ⟨j,dT,bE,a2,a3,a4,a5,jl,Dq⟩:=g2 m rfl
     rw [Nat.zero_add] at bE
     have cx:=ask.find bE
     have aP:a[j]? =some dT:=by simpa using a2
     obtain ⟨aj,d1,d2⟩:=xD es (a.modify j fun dT=>{dT with key:=K}) clock (by rw [Array.toList_modify];exact Dq)
     refine ⟨.tuple #[dT.val,goInt dT.born],aj,E,?_,Env.le.refl E,?_,d2⟩
     · simp only [Instr.mapEntry,Sem.run_bind,hu,Result.andThen_ok,e1,jr,cx,aP,Option.map,Option.getD,a3,Instr.keyThatStays,jl,if_true,Sem.run_pure,d1]
     · simp only [Rel,a8];exact ⟨_,rfl,_,_,rfl,a4,_,_,rfl,by rw [a5];rfl,rfl⟩
theorem abp {aq:Fr} {E:Env} {h ab:af} {w:World} (s:a1 aq E h w) {t:TypeId} {x k v:V} {X K:Value} (ak:Rel E x X) (ay:Rel E k K) (he:(GR P t).run x k h=.val v ab):cY aq P E w (Instr.mapEntry t X K) v ab:=by
 unfold GR at he
 cases ax:aZ P t with
 | none=>rw [ax] at he;cases he
 | some aL=>
   rw [ax] at he
   simp only at he
   have hu:=fu ax w
   cases bJ:aL.a'<;>rw [bJ] at he<;>simp only at he<;>try (cases he;done)
   rename_i cd ka
   rw [bJ] at hu
   cases het:aZ P ka with
   | none=>rw [het] at he;cases he
   | some bb=>
     rw [het] at he
     simp only at he
     cases bs:bb.zero with
     | none=>rw [bs] at he;cases he
     | some z=>
       rw [bs] at he
       simp only at he
       obtain ⟨sJ,mz,lS,_⟩:=wM (P:=P) het bs E w
       cases oU:lZ P cd with
       | true=>
         rw [oU] at he
         simp only [cond_true,Kt] at he
         cases hm:wo ⟨oj h⟩ z h x k with
         | none=>rw [hm] at he;cases he
         | some r=>
           rw [hm] at he
           simp only [aU.val.injEq] at he
           obtain ⟨rfl,rfl⟩:=he
           exact Nb s hu mz lS ak ay (Du s oU K) hm
       | false=>
         rw [oU] at he
         simp only [cond_false] at he
         cases ct:rl P cd with
         | false=>rw [ct] at he;cases he
         | true=>
           rw [ct] at he
           simp only [cond_true,Ku] at he
           cases aE:ub P cd k with
           | false=>rw [aE] at he;cases he
           | true=>
             rw [aE] at he
             simp only [cond_true] at he
             cases hm:wo (structEq P cd) z h x k with
             | none=>rw [hm] at he;cases he
             | some r=>
               rw [hm] at he
               simp only [aU.val.injEq] at he
               obtain ⟨rfl,rfl⟩:=he
               exact Nb s hu mz lS ak ay (Dv ct aE ay) hm
end
end Go.Proofs.YthemdhlheglhoaaGreatDoor.aY
namespace Go.Proofs.YthemdhlheglhoaaGreatDoor.aY
variable [Lay]
open Go Go.RowKit
section
variable {P:Program}
theorem Lf (n:Nat):∀(l:List Nat),r0 l n=true↔n ∈ l
 | []=>by simp [r0]
 | x::xs=>by
   simp only [r0]
   cases ah:Nat.beq x n with
   | true=>have:=Nat.eq_of_beq_eq_true ah;subst this;simp
   | false=>
     have dJ:x≠n:=fun e=>by subst e;rw [Nat.beq_refl] at ah;cases ah
     simp [Lf n xs,Ne.symm dJ]
theorem Wz {a:Array Nat} {seen:List Nat} (h:a.toList=seen.reverse) (n:Nat):a.contains n=r0 seen n:=by
 rw [Bool.eq_iff_iff,Lf,Array.contains_iff_mem,←Array.mem_toList_iff,h,List.mem_reverse]
theorem MV {E:Env} {a:Array Nat} {seen:List Nat} (h:a.toList=seen.reverse):∀(ms:List cH) (l:List MapEntry),ek E ms l→ek E (leftOf seen ms) (l.filter fun e=>!a.contains e.born)
 | [],l,aG=>by simp only [ek] at aG;subst aG;rfl
 | m::ms,l,aG=>by
   obtain ⟨e,es,rfl,aa,ae,aH,bf⟩:=aG
   have bj:=MV h ms es bf
   have av:a.contains e.born=r0 seen m.born:=by rw [Wz h,aH]
   cases ah:r0 seen m.born with
   | true=>
     rw [ah] at av
     rw [List.filter_cons_of_neg (by rw [av];decide)]
     simp only [leftOf,ah,cond_true]
     exact bj
   | false=>
     rw [ah] at av
     rw [List.filter_cons_of_pos (by rw [av];decide)]
     simp only [leftOf,ah,cond_false]
     exact ⟨e,_,rfl,aa,ae,aH,bj⟩
theorem Jf {E:Env} {last:Nat}:∀(ms:List cH) (l:List MapEntry),ek E ms l→l.all (fun e=>decide (e.born≥last))=uZ last ms
 | [],l,aG=>by simp only [ek] at aG;subst aG;rfl
 | m::ms,l,aG=>by
   obtain ⟨e,es,rfl,aa,ae,aH,bf⟩:=aG
   simp only [uZ,List.all_cons,Jf ms es bf,aH]
   cases ah:Nat.ble last m.born with
   | true=>rw [Nat.ble_eq] at ah;simp [ah]
   | false=>
     have:¬last≤m.born:=by rw [←Nat.ble_eq,ah];simp
     simp [this]
theorem Jz {E:Env} {n:Nat}:∀(ms:List cH) (l:List MapEntry) (m:cH),ek E ms l→xw n ms=some m→∃e,l.find? (fun e=>e.born == n)=some e∧Rel E m.k e.key∧Rel E m.v e.val
 | [],l,m,aG,h=>by cases h
 | x::xs,l,m,aG,h=>by
   obtain ⟨e,es,rfl,aa,ae,aH,bf⟩:=aG
   simp only [xw] at h
   cases ah:Nat.beq x.born n with
   | true=>
     rw [ah] at h
     simp only [cond_true,Option.some.injEq] at h
     subst h
     have:=Nat.eq_of_beq_eq_true ah
     exact ⟨e,by simp [List.find?_cons,aH,this],aa,ae⟩
   | false=>
     rw [ah] at h
     simp only [cond_false] at h
     obtain ⟨c_,g1,g2⟩:=Jz xs es m bf h
     have dJ:x.born≠n:=fun e=>by rw [e,Nat.beq_refl] at ah;cases ah
     exact ⟨c_,by simp [List.find?_cons,aH,dJ,g1],g2⟩
theorem Hb {k:b4} {f:List cH→Nat→aU} {v:V} {ab:af} (h:k.kN .fail f=.val v ab):∃es clock,k=.mp es clock∧f es clock=.val v ab:=by
 cases k<;>simp only [b4.kN] at h<;>first
  | (cases h;done)
  | exact ⟨_,_,rfl,h⟩
theorem NH {v:V} {f:aN→Nat→aU} {r:V} {ab:af} (h:v.iY .fail f=.val r ab):∃b off,v=.ptr b off∧f b off=.val r ab:=by
 cases v<;>simp only [V.iY] at h<;>first
  | (cases h;done)
  | exact ⟨_,_,rfl,h⟩
theorem adn {aq:Fr} {E:Env} {h ab:af} {w:World} (s:a1 aq E h w) {t cd ka:TypeId} (hu:(underlying t).run P w=.ok (.map cd ka) w) {x v:V} {X:Value} (ak:Rel E x X) (he:rangeMap x h=.val v ab):cY aq P E w (Instr.range t X) v ab:=by
 have cZ:=s.fresh h.next (Nat.le_refl _)
 have dN:E.put (ai h.next) ⟨w.heap.size,0,0⟩ (ai h.next)=some ⟨w.heap.size,0,0⟩:=by unfold Env.put;rw [if_pos rfl]
 unfold rangeMap at he
 split at he
 · simp only [aU.val.injEq] at he
   obtain ⟨rfl,rfl⟩:=he
   simp only [Rel] at ak
   subst ak
   refine ⟨.pointer (some ⟨w.heap.size,0,none⟩),{w with heap:=w.heap.push (.mapIter none 0 #[] 0)},_,?_,Env.lk (p:=⟨w.heap.size,0,0⟩) cZ,?_,s.alloc 0 ?_⟩
   · simp only [Instr.range,Sem.run_bind,hu,Result.andThen_ok,Sem.run_pure,run_newObj]
   · simp only [Rel];exact ⟨_,dN,by simp⟩
   · exact ⟨_,none,#[],dN,s.frame.size,rfl,by simp,rfl,rfl⟩
 · rename_i c
   obtain ⟨es,clock,aE,he⟩:=Hb he
   simp only [aU.val.injEq] at he
   obtain ⟨rfl,rfl⟩:=he
   simp only [Rel] at ak
   obtain ⟨p,ag,rfl⟩:=ak
   have ah:=s.at ag
   rw [aE] at ah
   obtain ⟨q,a,aa,c9,aH,bf⟩:=ah
   rw [ag] at aa;cases aa
   have e1:(getObj p.bc).run P w=.ok (.map a clock) w:=by simp only [getObj,Sem.run,aH]
   have hle:E.le (E.put (ai h.next) ⟨w.heap.size,0,0⟩):=Env.lk cZ
   refine ⟨.pointer (some ⟨w.heap.size,0,none⟩),{w with heap:=w.heap.push (.mapIter (some p.bc) clock #[] clock)},_,?_,hle,?_,s.alloc 0 ?_⟩
   · simp only [Instr.range,Sem.run_bind,hu,Result.andThen_ok,Sem.run_pure,e1,run_newObj]
   · simp only [Rel];exact ⟨_,dN,by simp⟩
   · exact ⟨_,some p.bc,#[],dN,s.frame.size,rfl,by simp,rfl,p,hle _ _ ag,rfl⟩
 · cases he
theorem abK {aq:Fr} {E:Env} {h ab:af} {w:World} (s:a1 aq E h w) {x v:V} {X:Value} {ty:TypeId} (ak:Rel E x X) (he:gT x h=.val v ab):cY aq P E w (Instr.next X false ty) v ab:=by
 unfold gT at he
 obtain ⟨b,off,rfl,aa⟩:=NH he
 clear he
 have ah:=s.at (p:=_) (by simp only [Rel] at ak;exact ak.choose_spec.1)
 cases aE:h.get b<;>rw [aE] at aa<;>simp only at aa<;>try (cases aa;done)
 rename_i src since seen last
 rw [aE] at ah
 cases a6:Nat.beq off 0 with
 | false=>rw [a6] at aa;cases aa
 | true=>
 rw [a6] at aa
 simp only [cond_true] at aa
 have a6:=Nat.eq_of_beq_eq_true a6
 subst a6
 obtain ⟨p,m,a,ag,c9,nb,ba,bd,jw⟩:=ah
 simp only [Rel] at ak
 obtain ⟨q,av,rfl⟩:=ak
 rw [ag] at av;cases av
 have e1:(getObj p.bc).run P w=.ok (.mapIter m since a last) w:=by simp only [getObj,Sem.run,ba]
 have over:Rel E (.tuple [.bool false]) (.tuple #[.bool false]):=by simp only [Rel,a8];exact ⟨_,rfl,_,_,rfl,rfl,rfl⟩
 cases src with
 | none=>
   simp only [s0] at jw
   subst jw
   simp only [aU.val.injEq] at aa
   obtain ⟨rfl,rfl⟩:=aa
   refine cY.plain (Z:=.tuple #[.bool false]) s ?_ over
   simp only [Instr.next,nb,Sem.run_bind,e1,Result.andThen_ok,Sem.run_pure]
 | some c=>
   simp only [s0] at jw
   obtain ⟨wE,oT,rfl⟩:=jw
   simp only at aa
   obtain ⟨es,clock,FA,aa⟩:=Hb aa
   have pI:=s.at oT
   rw [FA] at pI
   obtain ⟨q,mG,g1,_,g3,g4⟩:=pI
   rw [oT] at g1;cases g1
   have A0:(getObj wE.bc).run P w=.ok (.map mG clock) w:=by simp only [getObj,Sem.run,g3]
   cases aD:(!seen.isEmpty&&(!es.isEmpty&&uZ last es)) with
   | true=>rw [aD] at aa;cases aa
   | false=>
     rw [aD] at aa
     simp only [cond_false] at aa
     have aP:a.isEmpty=seen.isEmpty:=by
      have:a.toList.isEmpty=seen.reverse.isEmpty:=by rw [bd]
      simpa using this
     have bl:mG.isEmpty=es.isEmpty:=by
      cases es with
      | nil=>simp only [ek] at g4;have:mG=#[]:=Array.toList_inj.1 g4
             simp [this]
      | cons y cA=>obtain ⟨e,l,ao,_⟩:=g4;have:mG.toList.isEmpty=false:=by rw [ao];rfl
                   simpa using this
     have bW:mG.all (fun e=>decide (e.born≥last))=uZ last es:=by rw [←Jf es _ g4,Array.all_toList]
     have Lk:(!a.isEmpty&&!mG.isEmpty&&mG.all (fun e=>decide (e.born≥last)))=false:=by rw [aP,bl,bW,Bool.and_assoc];exact aD
     have xY:=MV (E:=E) bd es _ g4
     have Lp:(mG.filter fun e=>!a.contains e.born).toList=mG.toList.filter fun e=>!a.contains e.born:=by simp
     cases ao:leftOf seen es with
     | nil=>
       rw [ao] at aa xY
       simp only [G4,aU.val.injEq] at aa
       obtain ⟨rfl,rfl⟩:=aa
       simp only [ek] at xY
       have jS:(mG.filter fun e=>!a.contains e.born)=#[]:=by
        apply Array.toList_inj.1;rw [Lp,xY]
       refine cY.plain (Z:=.tuple #[.bool false]) s ?_ over
       simp only [Instr.next,nb,Sem.run_bind,e1,Result.andThen_ok,A0,Lk,Bool.false_eq_true,if_false,jS,Sem.run_pure]
       simp [choose,Sem.run,Question.forced]
     | cons y cA=>
       rw [ao] at aa xY
       cases cA with
       | cons _ _=>cases aa
       | nil=>
         simp only [G4] at aa
         cases aW:Nat.blt y.born since with
         | false=>rw [aW] at aa;cases aa
         | true=>
           rw [aW] at aa
           simp only [cond_true,aU.val.injEq] at aa
           obtain ⟨rfl,rfl⟩:=aa
           rw [Nat.blt_eq] at aW
           obtain ⟨e,r,aG,bX,b',gG,g_⟩:=xY
           simp only [ek] at g_
           subst g_
           have jS:(mG.filter fun e=>!a.contains e.born)=#[e]:=by
            apply Array.toList_inj.1;rw [Lp,aG]
           rw [←gG] at aW ⊢
           let b1:Obj:=.mapIter (some wE.bc) since (a.push e.born) clock
           let aj:World:={w with heap:=w.heap.setIfInBounds p.bc b1}
           have k9:=(Array.getElem?_eq_some_iff.1 ba).1
           have qU:(setObj p.bc b1).run P w=.ok () aj:=by simp only [setObj,Sem.run,ba];rfl
           have r6:¬since≤e.born:=by omega
           refine ⟨.tuple #[.bool true,e.key,e.val],aj,E,?_,Env.le.refl E,?_,s.set (p:=p) (by rw [aE];rfl) ag c9 (by simp [aj]) (fun j bK=>?_) rfl rfl rfl (fun _ _ _ e=>by cases e) ?_⟩
           · simp only [Instr.next,nb,Sem.run_bind,e1,Result.andThen_ok,A0,Lk,Bool.false_eq_true,if_false,jS,Sem.run_pure]
             have aa:(#[e]:Array MapEntry).filter (fun x=>decide (x.born<since))=#[e]:=by simp [aW]
             have ae:(#[e]:Array MapEntry).filter (fun x=>decide (x.born≥since))=#[]:=by simp [aW]
             have lK:(choose (.mapNext 1)).run P w=.ok 0 w:=by simp [choose,Sem.run,Question.forced]
             simp only [aa,ae]
             simp [lK]
             change ((setObj p.bc b1).run P w).andThen _=_
             rw [qU]
             rfl
           · simp only [Rel,a8]
             exact ⟨_,rfl,_,_,rfl,rfl,_,_,rfl,bX,_,_,rfl,b',rfl⟩
           · simp only [aj,Array.getElem?_setIfInBounds]
             rw [if_neg (fun e=>bK e.symm)]
           · exact ⟨p,some wE.bc,a.push e.born,ag,c9,nb,by simp [aj,k9,b1],by simp [bd],wE,oT,rfl⟩
theorem U3 {aq:Fr} {E:Env} {h ab:af} {w:World} (s:a1 aq E h w) {x v:V} {X:Value} (ak:Rel E x X) (he:EL x h=.val v ab):cY aq P E w (Instr.entry X) v ab:=by
 unfold EL at he
 obtain ⟨b,off,rfl,aa⟩:=NH he
 clear he
 have ah:=s.at (p:=_) (by simp only [Rel] at ak;exact ak.choose_spec.1)
 cases aE:h.get b<;>rw [aE] at aa<;>simp only at aa<;>try (cases aa;done)
 rename_i src since seen last
 rw [aE] at ah
 cases a6:Nat.beq off 0 with
 | false=>rw [a6] at aa;cases aa
 | true=>
 rw [a6] at aa
 simp only [cond_true] at aa
 have a6:=Nat.eq_of_beq_eq_true a6
 subst a6
 obtain ⟨p,m,a,ag,c9,nb,ba,bd,jw⟩:=ah
 simp only [Rel] at ak
 obtain ⟨q,av,rfl⟩:=ak
 rw [ag] at av;cases av
 have e1:(getObj p.bc).run P w=.ok (.mapIter m since a last) w:=by simp only [getObj,Sem.run,ba]
 cases src with
 | none=>cases aa
 | some c=>
   simp only [s0] at jw
   obtain ⟨wE,oT,rfl⟩:=jw
   simp only at aa
   cases seen with
   | nil=>cases aa
   | cons n agK=>
   simp only at aa
   obtain ⟨es,clock,FA,aa⟩:=Hb aa
   have pI:=s.at oT
   rw [FA] at pI
   obtain ⟨q,mG,g1,_,g3,g4⟩:=pI
   rw [oT] at g1;cases g1
   have A0:(getObj wE.bc).run P w=.ok (.map mG clock) w:=by simp only [getObj,Sem.run,g3]
   rename_i Wc _
   clear Wc
   cases k4:Nat.beq clock last with
   | false=>rw [k4] at aa;cases aa
   | true=>
     rw [k4] at aa
     simp only [cond_true] at aa
     have:=Nat.eq_of_beq_eq_true k4
     subst this
     cases Fg:xw n es with
     | none=>rw [Fg] at aa;cases aa
     | some y=>
       rw [Fg] at aa
       simp only [aU.val.injEq] at aa
       obtain ⟨rfl,rfl⟩:=aa
       obtain ⟨e,f1,f2,f3⟩:=Jz es _ y g4 Fg
       have WE:a.back? =some n:=by
        have:a.toList.getLast? =some n:=by rw [bd];simp
        simpa using this
       have r2:mG.find? (fun e=>e.born == n)=some e:=by rw [←f1];simp
       refine cY.plain (Z:=.tuple #[e.key,e.val]) s ?_ ?_
       · simp only [Instr.entry,nb,Sem.run_bind,e1,Result.andThen_ok,WE,A0,bne_self_eq_false,Bool.false_eq_true,if_false,r2,Sem.run_pure]
       · simp only [Rel,a8]
         exact ⟨_,rfl,_,_,rfl,f2,_,_,rfl,f3,rfl⟩
end
end Go.Proofs.YthemdhlheglhoaaGreatDoor.aY
namespace Go.Proofs.YthemdhlheglhoaaGreatDoor.aY
variable [Lay]
open Go Go.RowKit
section
variable {P:Program}
theorem Rs {aq:Fr} {E:Env} {h ab:af} {w:World} (s:a1 aq E h w) {t u e:TypeId} {size:Nat} (XL:1≤size) {x v:V} {X Y:Value} {ty:TypeId} {n:Nat} {new:List V} {l:List Value}
 (ao:a8 E new l) (k7:new.length=n * size) (gR:n≤top)
 (gu:∀(aj:World) (A:Option Addr) (cM fo:Nat),cM+n≤fo→(∀a,A=some a→(storeCells (a.add (cM * size)) l).run P w=.ok () aj)→(A=none→aj=w)→
   (Builtin.append_ #[t,u] ty #[.slice A cM fo,Y]).run P w=.ok (.slice A (cM+n) fo) aj)
 (qR:∀(A:Option Addr) (cM fo:Nat) (bY:List Value),(∀aj:World,aj.heap=w.heap→(Builtin.firstCells size cM (.slice A cM fo)).run P aj=.ok bY.toArray aj)→¬cM+n≤fo→cM+n≤top→bY.length=cM * size→l.length=n * size→
   ∃cap rest aj,cM+n≤cap∧cap * size≤((bY++l).toArray++rest).size∧
   (Builtin.append_ #[t,u] ty #[.slice A cM fo,Y]).run P w=.ok (.slice (some ⟨w.heap.size,0,none⟩) (cM+n) cap) aj∧
   aj.heap=w.heap.push (.cells ((bY++l).toArray++rest) e)∧aj.os=w.os∧aj.tape=w.tape∧aj.output=w.output)
 (he:Dt size n new x h=.val v ab) (ak:Rel E x X):cY aq P E w (Builtin.append_ #[t,u] ty #[X,Y]) v ab:=by
 have oQ:l.length=n * size:=by rw [ao.length,k7]
 unfold Dt at he
 cases x<;>simp only at he<;>try (cases he;done)
 · -- a slice of known capacity
   rename_i b off len cap
   simp only [Rel] at ak
   obtain ⟨p,ag,qM,rfl⟩:=ak
   simp only [u1] at he
   cases gd:Nat.ble (len+n) cap with
   | true=>
     rw [gd] at he
     simp only [cond_true] at he
     rw [Nat.ble_eq] at gd
     cases kI:lay h b (off+len * size) new with
     | none=>rw [kI] at he;cases he
     | some aa=>
     rw [kI] at he
     simp only [aU.val.injEq] at he
     obtain ⟨rfl,rfl⟩:=he
     obtain ⟨aj,ct,iQ⟩:=wi (P:=P) s ao kI ag
     refine ⟨_,aj,E,gu aj _ _ _ gd (fun a bd=>?_) (fun bd=>by cases bd),Env.le.refl E,?_,iQ⟩
     · cases bd
       rw [add_eq,Nat.add_assoc]
       exact ct
     · simp only [Rel];exact ⟨p,ag,gd,rfl⟩
   | false=>
     rw [gd] at he
     simp only [cond_false] at he
     have F_:¬len+n≤cap:=by rw [←Nat.ble_eq,gd];simp
     obtain ⟨ah,he⟩:=jP he
     simp only [Bool.and_eq_true,Nat.ble_eq] at ah
     cases hold:ot h size b off len with
     | none=>rw [hold] at he;cases he
     | some bY=>
     rw [hold] at he
     simp only at he
     cases fV:jz h (bY++new) size false with
     | none=>rw [fV] at he;cases he
     | some aa=>
     rw [fV] at he
     simp only [aU.val.injEq] at he
     obtain ⟨rfl,rfl⟩:=he
     obtain ⟨q,bG,av,eK,qQ,hB⟩:=wS (P:=P) s ⟨p,ag⟩ hold
     rw [ag] at av;cases av
     obtain ⟨c,rest,aj,bX,b',gG,g_,lh,oZ,o0⟩:=qR (some ⟨p.bc,p.base+off,none⟩) (len) (cap) _
      (fun aj hw=>by simp only [Builtin.firstCells];exact hB aj hw) F_ ah.1 (by rw [eK.length,qQ]) oQ
     obtain ⟨an,g1,g2,g3⟩:=ui (aj:=aj) (bN:=(0,0)) s (eK.append ao) fV b' (.inr (Nat.le_refl _)) (fun _=>rfl) g_ lh oZ o0
     refine ⟨_,aj,an,gG,g1,?_,g3⟩
     simp only [Rel]
     exact ⟨_,g2,by simp only;omega,by simp⟩
 · -- one that was appended to
   rename_i b off len idx
   have yg:=ak
   simp only [Rel] at ak
   obtain ⟨p,ag,Lt,rfl⟩:=ak
   simp only [u0] at he
   cases ix:Nat.beq n 0 with
   | true=>
     rw [ix] at he
     simp only [cond_true] at he
     cases he
     rw [Nat.beq_eq] at ix
     subst ix
     have ng:l=[]:=by cases l with | nil=>rfl | cons _ _=>simp at oQ
     subst ng
     refine ⟨_,w,E,gu w _ _ _ (by omega) (fun a _=>rfl) (fun bd=>by cases bd),Env.le.refl E,?_,s⟩
     simpa using yg
   | false=>
     rw [ix] at he
     simp only [cond_false] at he
     have pJ:=s.at ag
     cases aE:h.get b with
     | dead=>rw [aE] at he;cases he
     | view _ _=>rw [aE] at he;cases he
     | iter _ _=>rw [aE] at he;cases he
     | mp _ _=>rw [aE] at he;cases he
     | cg _=>rw [aE] at he;cases he
     | eD=>rw [aE] at he;cases he
     | iW _=>rw [aE] at he;cases he
     | iU _ _ _ _=>rw [aE] at he;cases he
     | cells N cs cP st=>
       rw [aE] at he pJ
       simp only [b4.on] at he
       obtain ⟨ah,he⟩:=jP he
       simp only [Bool.and_eq_true,Nat.ble_eq,Nat.beq_eq] at ah
       obtain ⟨⟨Fq,FY,FZ⟩,x3⟩:=ah
       cases hold:ot h size b off len with
       | none=>rw [hold] at he;cases he
       | some bY=>
       rw [hold] at he
       simp only at he
       cases fV:jz (h.set b .dead) (bY++new) size st with
       | none=>rw [fV] at he;cases he
       | some aa=>
       rw [fV] at he
       simp only [aU.val.injEq] at he
       obtain ⟨rfl,rfl⟩:=he
       obtain ⟨q,bG,av,eK,qQ,hB⟩:=wS (P:=P) s ⟨p,ag⟩ hold
       rw [ag] at av;cases av
       obtain ⟨bD,q,c,el,bN,aP,c9,ba,pM,ct,mm,bA⟩:=pJ
       rw [ag] at aP;cases aP
       have x5:=XL
       have mm:=mm (by omega)
       rw [Fq] at mm
       have zd:=s.kill ag
       by_cases gd:len+n≤p.cap-idx
       · -- in place
         have aW:=(Array.getElem?_eq_some_iff.1 ba).1
         have Xf:(idx+len+n) * size≤p.cap * size:=Nat.mul_le_mul_right _ (by omega)
         have hbound:p.base+off+len * size+0+l.length≤c.size:=by
          rw [oQ,x3]
          have:(idx+len+n) * size=idx * size+len * size+n * size:=by rw [Nat.add_mul,Nat.add_mul]
          omega
         have yc:=Cp (P:=P) aW el bN (p.base+off+len * size) l c 0 (BV FZ ao) hbound pM
         rw [Ir ba,Nat.add_zero] at yc
         have Gc:=gu (kR w p.bc (o2 c (p.base+off+len * size) l) el bN) (some ⟨p.bc,p.base+off,none⟩) _ _ gd
          (fun a bd=>by cases bd;rw [add_eq];exact yc) (fun bd=>by cases bd)
         unfold jz at fV
         obtain ⟨aD,fV⟩:=en fV
         simp only [Bool.and_eq_true,Nat.ble_eq] at aD
         simp only [Option.some.injEq] at fV
         subst fV
         have cZ:=s.fresh h.next (Nat.le_refl _)
         have hle:E.le (E.put (ai h.next) ⟨p.bc,p.base+off,p.cap-idx⟩):=Env.lk cZ
         have dN:E.put (ai h.next) ⟨p.bc,p.base+off,p.cap-idx⟩ (ai h.next)=some ⟨p.bc,p.base+off,p.cap-idx⟩:=by unfold Env.put;rw [if_pos rfl]
         refine ⟨_,_,_,Gc,hle,?_,a1.add (p:=⟨p.bc,p.base+off,p.cap-idx⟩) zd (by rw [Is];exact Nat.le_refl _) (fun j _ bK=>Iq _ _ _ bK) c9 (fun bH ew ho oV heq=>?_) rfl rfl rfl (fun _ _ _ e=>by injection e with _ _ bW;omega) ?_⟩
         · simp only [Rel]
           exact ⟨_,dN,by simp only;omega,by simp⟩
         · rw [af.c0] at ho
           by_cases h3:b=bH
           · rw [if_pos h3] at ho;cases ho
           · rw [if_neg h3] at ho
             exact h3 (s.inj b bH p ew (by rw [aE];rfl) ho ag oV heq.symm)
         · have FJ:(bY++new).length=(len+n) * size:=by rw [List.length_append,qQ,k7,Nat.add_mul]
           have W5:(len+n) * size=len * size+n * size:=Nat.add_mul _ _ _
           refine ⟨aD.1,_,_,el,bN,dN,c9,zm aW _ _ _,by rw [p3];exact pM,ct,fun _=>?_,?_⟩
           · rw [p3]
             simp only
             have:idx * size + (p.cap-idx) * size=p.cap * size:=by rw [←Nat.add_mul];congr 1;omega
             omega
           · refine ⟨by rw [p3,FJ,Nat.add_mul];simp only;omega,fun i y aF a7=>?_⟩
             rw [y8 _ _ _ _ (by omega) (by omega),if_pos (by omega),Nat.sub_zero]
             rw [Bw _ _ _ _ (by omega)] at a7
             simp only at a7
             by_cases cb:i<len * size
             · rw [if_neg (by omega)] at a7
               rw [List.getElem?_append_left (by omega)]
               have e1:=hB w rfl
               have F8:=run_loadCells (P:=P) (w:=w) (off:=p.base+off) (n:=len * size) ba (by omega)
               rw [F8] at e1
               simp only [Result.ok.injEq,and_true] at e1
               have xZ:bG=(c.toList.drop (p.base+off)).take (len * size):=by
                have:=congrArg Array.toList e1
                simpa using this.symm
               obtain ⟨uK,h6,aG⟩:=eK.get i bY[i] (List.getElem?_eq_getElem (by omega))
               rw [List.getElem?_eq_getElem (by omega)]
               rw [xZ] at h6
               rw [List.getElem?_take_of_lt (by omega),List.getElem?_drop] at h6
               simp only [Array.getElem?_toList] at h6
               rw [a7] at h6
               cases h6
               exact Rel.mono hle _ _ aG
             · rw [if_pos (by omega)] at a7
               rw [List.getElem?_append_right (by omega)]
               have bW:p.base+off+i - (p.base+off+len * size)=i-bY.length:=by omega
               rw [bW] at a7
               have x0:i-bY.length<new.length:=by omega
               obtain ⟨uK,h6,aG⟩:=ao.get (i-bY.length) new[i-bY.length] (List.getElem?_eq_getElem x0)
               rw [a7] at h6;cases h6
               rw [List.getElem?_eq_getElem x0]
               exact Rel.mono hle _ _ aG
       · -- elsewhere
         obtain ⟨b0,rest,aj,bX,b',gG,g_,lh,oZ,o0⟩:=qR (some ⟨p.bc,p.base+off,none⟩) (len) (p.cap-idx) _
          (fun aj hw=>by simp only [Builtin.firstCells];exact hB aj hw) gd FY (by rw [eK.length,qQ]) oQ
         obtain ⟨an,g1,g2,g3⟩:=ui (aj:=aj) (bN:=(0,0)) zd (eK.append ao) fV b' (.inr (Nat.le_refl _)) (fun _=>rfl) g_ lh oZ o0
         refine ⟨_,aj,an,gG,g1,?_,g3⟩
         simp only [Rel]
         exact ⟨_,g2,by simp only;omega,by simp⟩
 · -- nil
   simp only [Rel] at ak
   subst ak
   simp only [u2] at he
   cases ix:Nat.beq n 0 with
   | true=>
     rw [ix] at he
     simp only [cond_true] at he
     cases he
     rw [Nat.beq_eq] at ix
     subst ix
     exact cY.plain s (gu w _ _ _ (by omega) (fun a bd=>by cases bd) (fun _=>rfl)) (by simp [Rel])
   | false=>
     rw [ix] at he
     simp only [cond_false] at he
     have tN:¬n=0:=by intro e;subst e;simp at ix
     cases fV:jz h new size false with
     | none=>rw [fV] at he;cases he
     | some aa=>
     rw [fV] at he
     simp only [aU.val.injEq] at he
     obtain ⟨rfl,rfl⟩:=he
     obtain ⟨c,rest,aj,bX,b',gG,g_,lh,oZ,o0⟩:=qR (none) (0) (0) []
      (fun aj _=>by simp [Builtin.firstCells]) (by omega) (by omega) (by simp) oQ
     obtain ⟨an,g1,g2,g3⟩:=ui (aj:=aj) (bN:=(0,0)) s ao fV b' (.inr (Nat.le_refl _)) (fun _=>rfl) g_ lh oZ o0
     refine ⟨_,aj,an,gG,g1,?_,g3⟩
     simp only [Rel]
     exact ⟨_,g2,by simp only;omega,by simp⟩
structure Dp (P:Program) (t u e:TypeId) (size bytes:Nat) (k:IntKind) (z:Value):Prop where
 ut:∀w,(underlying t).run P w=.ok (.slice e) w
 rr:∀w,(underlying u).run P w=.ok (.int k) w
 kr:∀w,(sizeOf e).run P w=.ok size w
 z8:∀w,∃i,(typeInfo e).run P w=.ok i w∧i.bytes=bytes
 wY:∀w,(zeroValue e).run P w=.ok z w
 jg:z.cells.size=size
 pos:1≤size
 small:bytes≤4096
theorem P_ (c:Array Value):Builtin.zeroCells c 0=#[]:=by simp [Builtin.zeroCells]
theorem adH {t u e:TypeId} {size bytes:Nat} {k:IntKind} {z:Value} (H:Dp P t u e size bytes k z) {n:Nat} (aS:n≤100000) {ty:TypeId} {w aj:World} {A:Option Addr} {cM fo:Nat} (gd:cM+n≤fo)
 (ct:∀a,A=some a→(storeCells (a.add (cM * size)) (Builtin.zeroCells z.cells n).toList).run P w=.ok () aj) (cZ:A=none→aj=w):
 (Builtin.append_ #[t,u] ty #[.slice A cM fo,.int .i64 n]).run P w=.ok (.slice A (cM+n) fo) aj:=by
 have hw:IntKind.i64.wrap (n:Int)=n:=by unfold IntKind.wrap;simp [IntKind.bits,IntKind.signed];omega
 obtain ⟨i,aF,r4⟩:=H.z8 w
 have rX:¬(281474976710656 < (n:Int) * (i.bytes:Int)):=by
  rw [r4]
  have aa:n * bytes≤100000 * 4096:=Nat.mul_le_mul aS H.small
  have ae:((n * bytes:Nat):Int)=(n:Int) * (bytes:Int):=Int.natCast_mul _ _
  omega
 have nS:¬((n:Int)<0):=by omega
 have cc:size≠0:=by have:=H.pos;omega
 have bd:∀w,(asInt (.int .i64 (n:Int))).run P w=.ok (n:Int) w:=fun w=>by simp [asInt,asIntOf]
 have AS:∀w,(asInt (.int .i64 0)).run P w=.ok 0 w:=fun w=>by simp [asInt,asIntOf]
 have v7:IntKind.i64.wrap 0=0:=by decide
 cases A with
 | none=>
   have:=cZ rfl;subst this
   by_cases a6:n=0
   · subst a6
     simp [Builtin.append_,H.ut,H.rr,H.kr,AS,aF,v7,(show cM≤fo from by omega)]
   · simp [Builtin.append_,H.ut,H.rr,H.kr,H.wY,bd,aF,rX,hw,gd,nS,cc,a6]
 | some a=>
   have:=ct a rfl
   by_cases a6:n=0
   · subst a6
     rw [P_] at this
     simp [Builtin.append_,H.ut,H.rr,H.kr,AS,aF,v7,(show cM≤fo from by omega),this]
   · simp [Builtin.append_,H.ut,H.rr,H.kr,H.wY,bd,aF,rX,hw,gd,nS,Nat.mul_ne_zero a6 cc,this]
theorem adI {t u e:TypeId} {size bytes:Nat} {k:IntKind} {z:Value} (H:Dp P t u e size bytes k z) {n:Nat} (aS:n≤100000) {ty:TypeId} {w:World} (A:Option Addr) (cM fo:Nat) (bY:List Value)
 (hold:∀aj:World,aj.heap=w.heap→(Builtin.firstCells size cM (.slice A cM fo)).run P aj=.ok bY.toArray aj) (gd:¬cM+n≤fo) (yb:cM+n≤top) (aQ:bY.length=cM * size) (ao:(Builtin.zeroCells z.cells n).toList.length=n * size):
 ∃cap rest aj,cM+n≤cap∧cap * size≤((bY++(Builtin.zeroCells z.cells n).toList).toArray++rest).size∧
  (Builtin.append_ #[t,u] ty #[.slice A cM fo,.int .i64 n]).run P w=.ok (.slice (some ⟨w.heap.size,0,none⟩) (cM+n) cap) aj∧
  aj.heap=w.heap.push (.cells ((bY++(Builtin.zeroCells z.cells n).toList).toArray++rest) e)∧aj.os=w.os∧aj.tape=w.tape∧aj.output=w.output:=by
 have hw:IntKind.i64.wrap (n:Int)=n:=by simp only [IntKind.wrap,IntKind.bits,IntKind.signed];simp;omega
 obtain ⟨i,aF,r4⟩:=H.z8 w
 have nh:P.info? e=some i:=by
  simp only [typeInfo,Sem.run_bind,run_program,Result.andThen_ok] at aF
  cases av:P.info? e with
  | none=>rw [av] at aF;simp at aF
  | some j=>rw [av] at aF;simp at aF;rw [aF]
 have tE:∀aj,(typeInfo e).run P aj=.ok i aj:=fun aj=>wL nh aj
 have Yo:¬(281474976710656 < (n:Int) * (i.bytes:Int)):=by
  rw [r4]
  have aa:n * bytes≤100000 * 4096:=Nat.mul_le_mul aS H.small
  have ae:((n * bytes:Nat):Int)=(n:Int) * (bytes:Int):=Int.natCast_mul _ _
  omega
 have rX:¬(281474976710656<Builtin.nextslicecap (cM+n) fo * i.bytes):=by
  have aa:fo<cM+n:=by omega
  have:=growslice_fits (bytes:=i.bytes) aa (by
   rw [r4]
   have ae:(cM+n) * bytes≤top * 4096:=Nat.mul_le_mul yb H.small
   unfold top at ae
   omega)
  omega
 have ik:¬(9223372036854775807 < ((cM:Int) + (n:Int))):=by unfold top at yb;omega
 have nS:¬((n:Int)<0):=by omega
 have cc:size≠0:=by have:=H.pos;omega
 have bd:∀w,(asInt (.int .i64 (n:Int))).run P w=.ok (n:Int) w:=fun w=>by simp [asInt,asIntOf]
 have AS:∀w,(asInt (.int .i64 0)).run P w=.ok 0 w:=fun w=>by simp [asInt,asIntOf]
 have v7:IntKind.i64.wrap 0=0:=by decide
 let q:Question:=.appendCap (cM+n) fo e
 let cap:=q.cut (w.tape w.drawn q)
 have mm:cM+n≤cap:=by show cM+n≤(cM+n)+_;omega
 refine ⟨cap,Builtin.zeroCells z.cells (cap - (cM+n)),w.drew.alloc (.cells ((bY++(Builtin.zeroCells z.cells n).toList).toArray++Builtin.zeroCells z.cells (cap - (cM+n))) e),mm,?_,?_,rfl,rfl,rfl,rfl⟩
 · simp only [Array.size_append,List.size_toArray,List.length_append,aQ,ao]
   have:(Builtin.zeroCells z.cells (cap - (cM+n))).size=(cap - (cM+n)) * size:=by simp [Builtin.zeroCells,H.jg]
   rw [this,←Nat.add_mul,←Nat.add_mul]
   exact Nat.mul_le_mul_right _ (by omega)
 · have f2:=hold w.drew rfl
   by_cases a6:n=0
   · subst a6
     have XW:¬cM≤fo:=by omega
     have WD:¬(9223372036854775807 < (cM:Int)):=by omega
     rw [Nat.add_zero] at rX
     simp [Builtin.append_,H.ut,H.rr,H.kr,H.wY,AS,v7,tE,XW,rX,WD,Question.forced,f2,newRow]
     refine ⟨rfl,?_⟩
     have aP:(bY++(Builtin.zeroCells z.cells 0).toList).toArray=bY.toArray:=by rw [P_];simp
     rw [aP]
     rfl
   · simp [Builtin.append_,H.ut,H.rr,H.kr,H.wY,bd,hw,Yo,nS,Nat.mul_ne_zero a6 cc,gd,tE,rX,ik,Question.forced,f2,newRow]
     refine ⟨rfl,?_⟩
     have aP:(bY++(Builtin.zeroCells z.cells n).toList).toArray=bY.toArray++Builtin.zeroCells z.cells n:=by simp
     rw [aP,Array.append_assoc]
end
end Go.Proofs.YthemdhlheglhoaaGreatDoor.aY
namespace Go.Proofs.YthemdhlheglhoaaGreatDoor.aY
variable [Lay]
open Go Go.RowKit
section
variable {P:Program}
abbrev ca (rd:Option Nat):Fence:={fn:=fun _=>True,depth:=none,alive:=false,round:=rd}
theorem rO {rd:Option Nat} {n:Nat} {f:FuncId} {args:Array Value} {w:World} {R:Ending→World→Prop}:CallsIn (ca rd) n P f args w R↔Calls P f args w R:=callsIn_wide
theorem HS {rd:Option Nat} (n:Nat):(ca rd).room n:=fun _ h=>by simp [ca] at h
abbrev o7 (x:Value):List PanicEntry:=[{v:=x,recovered:=false}]
structure gz (P:Program) (call:dw):Prop where
 fn:∀(aq:Fr) f args h v ab,f≠da→call f args h=.val v ab→∀E w xs,a8 E args xs→a1 aq E h w→
  ((∃fn,P.funcs[f]? =some fn∧fn.body.isSome=true)∧Calls P f xs.toArray w fun e aj=>∃an x,e=.returned x∧E.le an∧Rel an v x∧a1 aq an ab aj)∨
  ∃an x aj,(callFunc f xs.toArray).run P w=.ok (.value x) aj∧E.le an∧Rel an v x∧a1 aq an ab aj
 cv:∀(aq:Fr) f args h v ab,f≠da→call f args h=.cv v ab→∀E w xs,a8 E args xs→a1 aq E h w→
  (∃fn,P.funcs[f]? =some fn∧fn.body.isSome=true)∧Calls P f xs.toArray w fun e aj=>∃an x,e=.panicked (o7 x)∧E.le an∧Rel an v x∧a1 aq an ab aj
 P9:∀(aq:Fr) args b h v ab,call da (args++[.ptr b 0]) h=.val v ab→∀E w xs p,a8 E args xs→a1 aq E h w→E b=some p→
  ∃f tmps assign body,(Instr.yield p.bc xs.toArray).run P w=.ok (.round p.bc f tmps assign body) w∧
   RoundIn (ca none) 0 P p.bc f tmps assign body w fun e aj=>∃an x,e=.returned x∧E.le an∧Rel an v x∧a1 aq an ab aj
 P':∀args h v ab,call da args h≠.cv v ab
theorem pa {rd:Option Nat} {o:Oper} (mw:∀c,o.op≠.defer c) (ρ:Operand→Value):o.semAt (ca rd).round ρ=execOp ρ o:=Oper.semAt_eq _ ρ o mw
theorem gj {rd:Option Nat} {o:Oper} {a:Act} {w:World} {aq:Fr} {E:Env} {ab:af} {v:V} {m:Sem Value} {K:Act→World→Prop} {Q:Exit→Act→World→Prop}
 (ak:execOp a.eval o=(do pure (.value (←m)))) (g:cY aq P E w m v ab) (dH:∀an x aj,E.le an→Rel an v x→a1 aq an ab aj→K (a.put o.dst x) aj) (mw:∀c,o.op≠.defer c:=by intro c h;cases h):
 o.wpIn (ca rd) 0 P a w K Q:=by
 obtain ⟨Z,aj,an,aa,ae,aH,bf⟩:=g
 refine ⟨fun _ _=>trivial,?_⟩
 rw [pa mw,ak,Sem.run_bind,aa]
 exact dH an Z aj ae aH bf
theorem B2 {E:Env} {al:Nat} {r:bt} {a:Act} (k:RegRel0 E al r a):∀l:List (Nat × Operand),qp E ((sq l).run r) (l.map fun (i,x)=>(i,a.eval x))
 | []=>rfl
 | (i,x)::l=>by
   simp only [sq,List.map,qp]
   exact ⟨_,_,rfl,dx k x,B2 k l⟩
theorem B1 {E:Env} {al:Nat} {r:bt} {a:Act} (k:RegRel0 E al r a) (x:Option Operand):hE E ((p9 x).run r) (x.map a.eval):=by
 cases x with
 | none=>rfl
 | some x=>simp only [p9,hE,Option.map];exact ⟨_,rfl,dx k x⟩
theorem ab8 {v:V} {f:aN→Nat→aU} {r:V} {h:af} (he:v.iY .fail f=.val r h):∃b off,v=.ptr b off∧f b off=.val r h:=by
 cases v<;>simp only [V.iY] at he<;>first
  | (cases he;done)
  | exact ⟨_,_,rfl,he⟩
theorem abM {aq:Fr} {E:Env} {h ab:af} {w:World} (s:a1 aq E h w) {x v:V} {X:Value} {ty:TypeId} (ak:Rel E x X) (he:uk x h=.val v ab):cY aq P E w (Instr.next X true ty) v ab:=by
 unfold uk at he
 obtain ⟨b,off,rfl,aa⟩:=ab8 he
 have ah:=s.at (p:=_) (by simp only [Rel] at ak;exact ak.choose_spec.1)
 cases aE:h.get b with
 | dead=>rw [aE] at aa;cases aa
 | view _ _=>rw [aE] at aa;cases aa
 | cells _ _ _ _=>rw [aE] at aa;cases aa
 | mp _ _=>rw [aE] at aa;cases aa
 | cg _=>rw [aE] at aa;cases aa
 | eD=>rw [aE] at aa;cases aa
 | iW _=>rw [aE] at aa;cases aa
 | iU _ _ _ _=>rw [aE] at aa;cases aa
 | iter st pos=>
   rw [aE] at aa ah
   simp only at aa
   obtain ⟨a6,ae⟩:=jP aa
   rw [Nat.beq_eq] at a6
   subst a6
   obtain ⟨p,ag,c9,nb,ba⟩:=ah
   simp only [Rel] at ak
   obtain ⟨q,av,rfl⟩:=ak
   rw [ag] at av;cases av
   have e1:(getObj p.bc).run P w=.ok (.stringIter ⟨⟨st⟩⟩ pos) w:=by simp only [getObj,Sem.run,ba]
   have cc:(⟨⟨st⟩⟩:ByteArray).size=st.length:=rfl
   cases aW:Nat.blt pos st.length with
   | true=>
     rw [aW] at ae
     simp only [cond_true,aU.val.injEq] at ae
     obtain ⟨rfl,rfl⟩:=ae
     rw [Nat.blt_eq] at aW
     let b1:Obj:=.stringIter ⟨⟨st⟩⟩ (pos + (decodeL st pos).2)
     let aj:World:={w with heap:=w.heap.setIfInBounds p.bc b1}
     have k9:=(Array.getElem?_eq_some_iff.1 ba).1
     have qU:(setObj p.bc b1).run P w=.ok () aj:=by simp only [setObj,Sem.run,ba];rfl
     refine ⟨.tuple #[.bool true,goInt pos,.int .i32 (decodeL st pos).1],aj,E,?_,Env.le.refl E,?_,s.set (p:=p) (by rw [aE];rfl) ag c9 (by simp [aj]) (fun j bK=>?_) rfl rfl rfl (fun _ _ _ e=>by cases e) ?_⟩
     · simp only [Instr.next,nb,Sem.run_bind,e1,Result.andThen_ok,cc,if_pos aW]
       have:(Utf8.decode (⟨⟨st⟩⟩:ByteArray) pos)=decodeL st pos:=rfl
       simp only [this]
       rw [qU]
       rfl
     · simp only [Rel,a8]
       exact ⟨_,rfl,_,_,rfl,rfl,_,_,rfl,rfl,_,_,rfl,rfl,rfl⟩
     · simp only [aj,Array.getElem?_setIfInBounds]
       rw [if_neg (fun e=>bK e.symm)]
     · exact ⟨p,ag,c9,nb,by simp [aj,k9,b1]⟩
   | false=>
     rw [aW] at ae
     simp only [cond_false,aU.val.injEq] at ae
     obtain ⟨rfl,rfl⟩:=ae
     have mr:¬pos<st.length:=by rw [←Nat.blt_eq,aW];simp
     refine cY.plain (Z:=.tuple #[.bool false]) s ?_ ?_
     · simp only [Instr.next,nb,Sem.run_bind,e1,Result.andThen_ok,cc,if_neg mr,Sem.run_pure]
     · simp only [Rel,a8]
       exact ⟨_,rfl,_,_,rfl,rfl,rfl⟩
theorem adm {aq:Fr} {E:Env} {h ab:af} {w:World} (s:a1 aq E h w) {t:TypeId} {x v:V} {X:Value} (ak:Rel E x X) (he:(Cf P t).run x h=.val v ab):cY aq P E w (Instr.range t X) v ab:=by
 unfold Cf at he
 cases ax:aZ P t with
 | none=>rw [ax] at he;cases he
 | some aL=>
   rw [ax] at he
   simp only at he
   have hu:=fu ax
   cases bJ:aL.a' with
   | string=>
     rw [bJ] at he hu
     simp only at he
     cases x<;>simp only at he<;>try (cases he;done)
     rename_i st
     simp only [aU.val.injEq] at he
     obtain ⟨rfl,rfl⟩:=he
     have:=ak.rk;subst this
     have cZ:=s.fresh h.next (Nat.le_refl _)
     have dN:E.put (ai h.next) ⟨w.heap.size,0,0⟩ (ai h.next)=some ⟨w.heap.size,0,0⟩:=by unfold Env.put;rw [if_pos rfl]
     refine ⟨.pointer (some ⟨w.heap.size,0,none⟩),{w with heap:=w.heap.push (.stringIter ⟨⟨st⟩⟩ 0)},_,?_,Env.lk (p:=⟨w.heap.size,0,0⟩) cZ,?_,s.alloc 0 ?_⟩
     · simp only [Instr.range,Sem.run_bind,hu,Result.andThen_ok,Sem.run_pure,run_newObj]
     · simp only [Rel];exact ⟨_,dN,by simp⟩
     · exact ⟨_,dN,s.frame.size,rfl,by simp⟩
   | map cd ka=>
     rw [bJ] at he hu
     exact adn s (hu w) ak he
   | _=>rw [bJ] at he;cases he
theorem Rp {aq:Fr} {E:Env} {h ab:af} {w:World} (s:a1 aq E h w) {t u:TypeId} {x y v:V} {X Y:Value} {ty:TypeId}
 (he:(zQ P t u).run x y h=.val v ab) (ak:Rel E x X) (a7:Rel E y Y):cY aq P E w (Builtin.append_ #[t,u] ty #[X,Y]) v ab:=by
 unfold zQ at he
 cases ax:aZ P t with
 | none=>rw [ax] at he;cases he
 | some aL=>
   cases hu:aZ P u with
   | none=>rw [ax,hu] at he;cases he
   | some rq=>
     rw [ax,hu] at he
     simp only at he
     have main:(∀k,rq.a'≠.int k)→(match aL.a' with
      | .slice e=>match aZ P e with
        | none=>(⟨fun _ _ _=>.fail⟩:zo)
        | some bb=>match bb.zero with
          | none=>⟨fun _ _ _=>.fail⟩
          | some z=>bif Nat.ble 1 bb.size&&Nat.ble bb.bytes 4096&&Nat.beq z.cells.length bb.size then ⟨mY bb.size⟩ else ⟨fun _ _ _=>.fail⟩
      | _=>⟨fun _ _ _=>.fail⟩).run x y h=.val v ab→cY aq P E w (Builtin.append_ #[t,u] ty #[X,Y]) v ab:=by
      intro pS he
      cases bJ:aL.a' with
      | slice e=>
        rw [bJ] at he
        simp only at he
        cases cj:aZ P e with
        | none=>rw [cj] at he;cases he
        | some bb=>
          rw [cj] at he
          simp only at he
          cases bs:bb.zero with
          | none=>rw [bs] at he;cases he
          | some z=>
            rw [bs] at he
            simp only at he
            cases aD:(Nat.ble 1 bb.size&&Nat.ble bb.bytes 4096&&Nat.beq z.cells.length bb.size) with
            | false=>rw [aD] at he;cases he
            | true=>
              rw [aD] at he
              simp only [cond_true] at he
              simp only [Bool.and_eq_true,Nat.ble_eq,Nat.beq_eq] at aD
              obtain ⟨qg,yh,_,pY⟩:=sI (P:=P) (E:=E) cj bs w
              refine Rr s ⟨fun w=>?_,⟨rq.a',fun w=>fu hu w,pS⟩,fun w=>j5 cj w,fun w=>HV cj w,⟨qg,yh,by rw [pY];exact aD.2⟩,aD.1.1,aD.1.2⟩ he ak a7
              have:=fu ax w
              rw [bJ] at this
              exact this
      | _=>rw [bJ] at he;cases he
     cases vY:rq.a' with
     | int k=>
       rw [vY] at he
       simp only at he
       cases bJ:aL.a' with
       | slice e=>
         rw [bJ] at he
         simp only at he
         cases cj:aZ P e with
         | none=>rw [cj] at he;cases he
         | some bb=>
           rw [cj] at he
           simp only at he
           cases bs:bb.zero with
           | none=>rw [bs] at he;cases he
           | some z=>
             rw [bs] at he
             simp only at he
             cases aD:(Nat.ble 1 bb.size&&Nat.ble bb.bytes 4096&&Nat.beq z.cells.length bb.size) with
             | false=>rw [aD] at he;cases he
             | true=>
               rw [aD] at he
               simp only [cond_true] at he
               simp only [Bool.and_eq_true,Nat.ble_eq,Nat.beq_eq] at aD
               obtain ⟨qg,yh,Gp,pY⟩:=sI (P:=P) (E:=E) cj bs w
               have vZ:∀w,(underlying t).run P w=.ok (.slice e) w:=fun w=>by have:=fu ax w;rw [bJ] at this;exact this
               have Gh:∀w,(underlying u).run P w=.ok (.int k) w:=fun w=>by have:=fu hu w;rw [vY] at this;exact this
               have H:Dp P t u e bb.size bb.bytes k qg:=⟨vZ,Gh,fun w=>j5 cj w,fun w=>HV cj w,yh,by rw [pY];exact aD.2,aD.1.1,aD.1.2⟩
               unfold Ji at he
               split at he
               case h_2=>cases he
               rename_i cV m
               split at he
               case h_2=>cases he
               rename_i n
               obtain ⟨oO,br⟩:=jP he
               simp only [Bool.and_eq_true,Nat.ble_eq] at oO
               have ay:=rS oO.1
               subst ay
               simp only [Rel] at a7
               subst a7
               have LY:=y' Gp n
               have hlen:(i_ z.cells n).length=n * bb.size:=by
                rw [←LY.length]
                simp [Builtin.zeroCells,pY,aD.2]
               exact Rs s aD.1.1 LY hlen (by have:=oO.2;unfold top;omega) (fun aj A cM fo a b c=>adH H oO.2 a b c) (fun A cM fo bY a b c d f=>adI H oO.2 A cM fo bY a b c d f) br ak
       | _=>rw [bJ] at he;cases he
     | _=>rw [vY] at he;exact main (by rw [vY];simp) he
theorem UF {aq:Fr} {E:Env} {h ab:af} {w:World} (s:a1 aq E h w) {t:TypeId} {rest:List TypeId} {x y v:V} {X Y:Value} {ty:TypeId}
 (he:(Ad P t).run x y h=.val v ab) (ak:Rel E x X) (a7:Rel E y Y):cY aq P E w (Builtin.copy_ (t::rest).toArray ty #[X,Y]) v ab:=by
 unfold Ad at he
 cases ax:aZ P t with
 | none=>rw [ax] at he;cases he
 | some aL=>
   rw [ax] at he
   simp only at he
   cases bJ:aL.a' with
   | slice e=>
     rw [bJ] at he
     simp only at he
     cases cj:aZ P e with
     | none=>rw [cj] at he;cases he
     | some bb=>
       rw [cj] at he
       simp only at he
       exact UG s (fun w=>by have:=fu ax w;rw [bJ] at this;exact this) (fun w=>j5 cj w) he ak a7
   | _=>rw [bJ] at he;cases he
theorem Ur {aq:Fr} {E:Env} {h ab:af} {w:World} (s:a1 aq E h w) {t:TypeId} {x v:V} {X:Value} {ty:TypeId} {z:List V} (aD:xA P t=some z)
 (he:Ac z x h=.val v ab) (ak:Rel E x X):cY aq P E w (Builtin.clear_ #[t] ty #[X]) v ab:=by
 unfold xA at aD
 cases ax:aZ P t with
 | none=>rw [ax] at aD;cases aD
 | some aL=>
   rw [ax] at aD
   simp only at aD
   cases bJ:aL.a' with
   | slice e=>
     rw [bJ] at aD
     simp only at aD
     cases cj:aZ P e with
     | none=>rw [cj] at aD;cases aD
     | some bb=>
       rw [cj] at aD
       simp only at aD
       cases bs:bb.zero with
       | none=>rw [bs] at aD;cases aD
       | some z0=>
         rw [bs] at aD
         simp only [Option.some.injEq] at aD
         subst aD
         have hu:∀w,(underlying t).run P w=.ok (.slice e) w:=fun w=>by have:=fu ax w;rw [bJ] at this;exact this
         obtain ⟨z,lS,Gp,Mc⟩:=sI (P:=P) (E:=E) cj bs w
         have nothing:∀a c,X=.slice a 0 c→v=.tuple []→ab=h→cY aq P E w (Builtin.clear_ #[t] ty #[X]) v ab:=by
          intro a c c4 br ba
          subst c4 br ba
          refine ⟨.tuple #[],w,E,?_,Env.le.refl E,?_,s⟩
          · cases a<;>simp [Builtin.clear_,Sem.run_bind,hu,Result.andThen_ok,Sem.run_pure]
          · simp only [Rel];exact ⟨_,rfl,rfl⟩
         have Pd:∀(b:aN) (off n c:Nat) (p:iJ),E b=some p→X=.slice (some ⟨p.bc,p.base+off,none⟩) n c→(bif Nat.beq n 0 then (aU.val (.tuple []) h) else (match lay h b off (i_ z0.cells n) with
          | some ab=>aU.val (.tuple []) ab
          | none=>.fail))=.val v ab→cY aq P E w (Builtin.clear_ #[t] ty #[X]) v ab:=by
          intro b off n c p ag c4 he
          cases n with
          | zero=>
            simp only [Nat.beq_refl,cond_true,aU.val.injEq] at he
            exact nothing _ _ c4 he.1.symm he.2.symm
          | succ n=>
            simp only [show Nat.beq (n+1) 0=false from rfl,cond_false] at he
            cases ao:lay h b off (i_ z0.cells (n+1)) with
            | none=>rw [ao] at he;cases he
            | some aa=>
              rw [ao] at he
              simp only [aU.val.injEq] at he
              obtain ⟨rfl,rfl⟩:=he
              obtain ⟨aj,g1,g2⟩:=wi (P:=P) s (y' Gp (n+1)) ao ag
              subst c4
              refine ⟨.tuple #[],aj,E,?_,Env.le.refl E,?_,g2⟩
              · simp only [Builtin.clear_,Sem.run_bind,List.getElem?_toArray,List.getElem?_cons_zero,hu,lS,Result.andThen_ok]
                have:(storeCells ⟨p.bc,p.base+off,none⟩ (Builtin.zeroCells z.cells (n+1)).toList).run P w=.ok () aj:=g1
                simp [this,Sem.run_pure,Result.andThen_ok]
              · simp only [Rel];exact ⟨_,rfl,rfl⟩
         unfold Ac at he
         cases x<;>simp only at he<;>try (cases he;done)
         · simp only [Rel] at ak
           obtain ⟨p,g1,g2,g3⟩:=ak
           exact Pd _ _ _ _ p g1 g3 he
         · simp only [Rel] at ak
           obtain ⟨p,g1,g2,g3⟩:=ak
           exact Pd _ _ _ _ p g1 g3 he
         · simp only [Rel] at ak
           obtain ⟨a,c,rfl⟩:=ak
           simp only [aU.val.injEq] at he
           exact nothing _ _ rfl he.1.symm he.2.symm
         · simp only [Rel] at ak
           simp only [aU.val.injEq] at he
           exact nothing _ _ ak he.1.symm he.2.symm
   | _=>rw [bJ] at aD;cases aD
theorem T7 {E:Env} {t:TypeId} {aL:mU} {x v:V} {X:Value} {ty:TypeId} (ax:aZ P t=some aL) (aO:Gz aL.a'=true) (he:Er x=some v) (ak:Rel E x X) (w:World):
 ∃Z,(Builtin.cap_ #[t] ty #[X]).run P w=.ok Z w∧Rel E v Z:=by
 cases bJ:aL.a' with
 | slice e=>
   have hu:∀w,(underlying t).run P w=.ok (.slice e) w:=fun w=>by have:=fu ax w;rw [bJ] at this;exact this
   cases x<;>simp only [Er] at he<;>try (cases he;done)
   · simp only [Rel] at ak
     obtain ⟨p,_,_,rfl⟩:=ak
     cases he
     refine ⟨_,?_,rfl⟩
     simp [Builtin.cap_,Sem.run_bind,hu,Result.andThen_ok,Sem.run_pure]
     rfl
   · simp only [Rel] at ak
     subst ak
     cases he
     refine ⟨_,?_,rfl⟩
     simp [Builtin.cap_,Sem.run_bind,hu,Result.andThen_ok,Sem.run_pure]
     rfl
 | _=>rw [bJ] at aO;cases aO
theorem zh {α:Type} (a:Array α):a.toList.toArray=a:=by simp
theorem R6 {aq:Fr} {E:Env} {h ab:af} {w:World} (s:a1 aq E h w) {b:Builtin} {cr:Array TypeId} {args:List V} {xs:List Value} {v:V} {ty:TypeId} {cs:Array Bool} (ao:a8 E args xs)
 (he:(qx P b cr.toList).run args h=.val v ab):∃m:Sem Value,Go.builtin b cr ty cs xs.toArray=(do pure (.value (←m)))∧cY aq P E w m v ab:=by
 have one:∀{x:V},a8 E [x] xs→∃X,xs=[X]∧Rel E x X:=by
  intro x h
  simp only [a8] at h
  obtain ⟨y,cA,rfl,a7,rfl⟩:=h
  exact ⟨y,rfl,a7⟩
 have two:∀{x y:V},a8 E [x,y] xs→∃X Y,xs=[X,Y]∧Rel E x X∧Rel E y Y:=by
  intro x y h
  simp only [a8] at h
  obtain ⟨X,_,rfl,c4,Y,_,rfl,fk,rfl⟩:=h
  exact ⟨X,Y,rfl,c4,fk⟩
 cases b<;>simp only [qx] at he<;>try (simp [fL.none] at he;done)
 · -- append
   cases fm:cr.toList with
   | nil=>rw [fm] at he;simp [fL.none] at he
   | cons t rp=>
     rw [fm] at he
     cases rp with
     | nil=>simp [fL.none] at he
     | cons u aeP=>
       cases aeP with
       | cons _ _=>simp [fL.none] at he
       | nil=>
         simp only at he
         match args,he,ao with
         | [x,y],he,ao=>
           obtain ⟨X,Y,rfl,c4,fk⟩:=two ao
           have e:cr=#[t,u]:=by rw [←zh cr,fm]
           exact ⟨_,rfl,by rw [e];exact Rp s he c4 fk⟩
         | [],he,_=>cases he
         | [_],he,_=>cases he
         | _::_::_::_,he,_=>cases he
 · -- cap
   cases fm:cr.toList with
   | nil=>rw [fm] at he;simp [fL.none] at he
   | cons t rp=>
     rw [fm] at he
     cases rp with
     | cons _ _=>simp [fL.none] at he
     | nil=>
       simp only at he
       cases ax:aZ P t with
       | none=>rw [ax] at he;simp [fL.none] at he
       | some aL=>
         rw [ax] at he
         simp only at he
         cases aO:Gz aL.a' with
         | false=>rw [aO] at he;simp [fL.none] at he
         | true=>
           rw [aO] at he
           simp only [cond_true] at he
           match args,he,ao with
           | [x],he,ao=>
             obtain ⟨X,rfl,c4⟩:=one ao
             have e:cr=#[t]:=by rw [←zh cr,fm]
             obtain ⟨eh,rfl⟩:=aU.h9 he
             obtain ⟨Z,fy,cC⟩:=T7 (P:=P) (ty:=ty) ax aO eh c4 w
             exact ⟨_,rfl,by rw [e];exact cY.plain s fy cC⟩
           | [],he,_=>cases he
           | _::_::_,he,_=>cases he
 · -- clear
   cases fm:cr.toList with
   | nil=>rw [fm] at he;simp [fL.none] at he
   | cons t rp=>
     rw [fm] at he
     cases rp with
     | cons _ _=>simp [fL.none] at he
     | nil=>
       simp only at he
       cases aD:xA P t with
       | none=>rw [aD] at he;simp [fL.none] at he
       | some z=>
         rw [aD] at he
         simp only at he
         match args,he,ao with
         | [x],he,ao=>
           obtain ⟨X,rfl,c4⟩:=one ao
           have e:cr=#[t]:=by rw [←zh cr,fm]
           exact ⟨_,rfl,by rw [e];exact Ur s aD he c4⟩
         | [],he,_=>cases he
         | _::_::_,he,_=>cases he
 · -- copy
   cases fm:cr.toList with
   | nil=>rw [fm] at he;simp [fL.none] at he
   | cons t rp=>
     rw [fm] at he
     simp only at he
     match args,he,ao with
     | [x,y],he,ao=>
       obtain ⟨X,Y,rfl,c4,fk⟩:=two ao
       have e:cr=(t::rp).toArray:=by rw [←zh cr,fm]
       exact ⟨_,rfl,by rw [e];exact UF s he c4 fk⟩
     | [],he,_=>cases he
     | [_],he,_=>cases he
     | _::_::_::_,he,_=>cases he
 · -- len
   cases fm:cr.toList with
   | nil=>rw [fm] at he;simp [fL.none] at he
   | cons t rp=>
     rw [fm] at he
     cases rp with
     | cons _ _=>simp [fL.none] at he
     | nil=>
       simp only at he
       cases ax:aZ P t with
       | none=>rw [ax] at he;simp [fL.none] at he
       | some aL=>
         rw [ax] at he
         simp only at he
         match args,he,ao with
         | [x],he,ao=>
           obtain ⟨X,rfl,c4⟩:=one ao
           have e:cr=[t].toArray:=by rw [←zh cr,fm]
           cases hm:sc aL.a' with
           | true=>
             rw [hm] at he
             exact ⟨_,rfl,by rw [e];exact aaZ s ax hm c4 ty [] he⟩
           | false=>
             rw [hm] at he
             simp only [cond_false] at he
             obtain ⟨eh,rfl⟩:=aU.h9 he
             obtain ⟨Z,fy,cC⟩:=aa0 (P:=P) ax eh c4 ty [] w
             exact ⟨_,rfl,by rw [e];exact cY.plain s fy cC⟩
         | [],he,_=>cases hm:sc aL.a'<;>rw [hm] at he<;>cases he
         | _::_::_,he,_=>cases hm:sc aL.a'<;>rw [hm] at he<;>cases he
 · -- max
   obtain ⟨eh,rfl⟩:=aU.h9 he
   clear he
   cases args with
   | nil=>cases eh
   | cons x args=>
     simp only [km] at eh
     obtain ⟨k,a,rfl,aa⟩:=jA eh
     simp only [a8] at ao
     obtain ⟨X,cA,rfl,c4,ao⟩:=ao
     have:=c4.iR;subst this
     obtain ⟨Z,fy,cC⟩:=Hl (P:=P) false args cA k a v ao aa w
     exact ⟨_,rfl,cY.plain (Z:=Z) s (by simpa [Builtin.max_] using fy) cC⟩
 · -- min
   obtain ⟨eh,rfl⟩:=aU.h9 he
   clear he
   cases args with
   | nil=>cases eh
   | cons x args=>
     simp only [km] at eh
     obtain ⟨k,a,rfl,aa⟩:=jA eh
     simp only [a8] at ao
     obtain ⟨X,cA,rfl,c4,ao⟩:=ao
     have:=c4.iR;subst this
     obtain ⟨Z,fy,cC⟩:=Hl (P:=P) true args cA k a v ao aa w
     exact ⟨_,rfl,cY.plain (Z:=Z) s (by simpa [Builtin.min_] using fy) cC⟩
end
end Go.Proofs.YthemdhlheglhoaaGreatDoor.aY
namespace Go.Proofs.YthemdhlheglhoaaGreatDoor.aY
variable [Lay]
open Go Go.RowKit
section
variable {P:Program}
def eI (P:Program):Prop:=∀(f:FuncId) (fn:Func),P.funcs[f]? =some fn→(fn.name == "runtime.NumGoroutine")=false
theorem sy (bD:eI P) {f:FuncId} {fn:Func} (ar:P.funcs[f]? =some fn) (ah:fn.body.isSome=true) (args:Array Value) (w:World):(callFunc f args).run P w=.ok (.enter f args) w:=by
 have gZ:fn.body.isNone=false:=by cases h:fn.body with | none=>rw [h] at ah;cases ah | some c=>rfl
 simp only [callFunc,Sem.run_bind,run_program,Result.andThen_ok,ar]
 rw [if_neg (by rw [bD f fn ar];simp)]
 simp [gZ]
theorem GU {α β:Type} (f:α→β) (a:Array α):a.map f=(a.toList.map f).toArray:=by
 apply Array.ext'
 simp
theorem Hk (ρ:Operand→Value) (a_:Array (Nat × Operand)):(a_.map fun (i,x)=>(i,ρ x))=(a_.toList.map fun (i,x)=>(i,ρ x)).toArray:=by
 apply Array.ext'
 simp
theorem RF {E:Env} {t sG:TypeId} {aL:mU} {ok:Bool} {x v:V} {X:Value} (ax:aZ P t=some aL) (ah:Nat.beq (e2 aL.a') 5=false) (ak:Rel E x X)
 (he:xo t aL.zero ok x=some v) (w:World):∃Z,(Instr.typeAssert X sG t ok).run P w=.ok Z w∧Rel E v Z:=by
 have hu:=fu ax w
 have pS:∀ms,aL.a'≠.interface ms:=fun ms e=>by rw [e] at ah;simp [e2] at ah
 have zero:∀z,aL.zero=some z→∃x,(zeroValue t).run P w=.ok x w∧Rel E z x:=fun z bs=>by
  obtain ⟨x,aa,ae,_⟩:=wM (P:=P) ax bs E w
  exact ⟨x,aa,ae⟩
 unfold xo at he
 cases x<;>simp only at he<;>try (cases he;done)
 case iface u y=>
  simp only [Rel] at ak
  obtain ⟨Y,rfl,fk⟩:=ak
  rw [hL] at he
  by_cases vZ:u=t
  · rw [if_pos vZ] at he
    simp only [Option.some.injEq] at he
    subst vZ
    cases ok with
    | true=>
      simp only [cond_true] at he
      subst he
      refine ⟨.tuple #[Y,.bool true],?_,by simp only [Rel,a8];exact ⟨_,rfl,_,_,rfl,fk,_,_,rfl,rfl,rfl⟩⟩
      simp only [Instr.typeAssert,Sem.run_bind,hu,Result.andThen_ok]
      cases bJ:aL.a'<;>first
       | exact absurd bJ (pS _)
       | (simp only [if_true];rfl)
    | false=>
      simp only [cond_false] at he
      subst he
      refine ⟨Y,?_,fk⟩
      simp only [Instr.typeAssert,Sem.run_bind,hu,Result.andThen_ok]
      cases bJ:aL.a'<;>first
       | exact absurd bJ (pS _)
       | (simp only [if_true];rfl)
  · rw [if_neg vZ] at he
    cases ok with
    | false=>cases he
    | true=>
      simp only [cond_true] at he
      cases bs:aL.zero with
      | none=>rw [bs] at he;cases he
      | some z=>
        rw [bs] at he
        simp only [Option.some.injEq] at he
        subst he
        obtain ⟨bw,cm,z2⟩:=zero z bs
        refine ⟨.tuple #[bw,.bool false],?_,by simp only [Rel,a8];exact ⟨_,rfl,_,_,rfl,z2,_,_,rfl,rfl,rfl⟩⟩
        simp only [Instr.typeAssert,Sem.run_bind,hu,Result.andThen_ok]
        cases bJ:aL.a'<;>first
         | exact absurd bJ (pS _)
         | (simp only [if_neg vZ,if_true,Sem.run_bind,cm,Result.andThen_ok];rfl)
 case nilIface=>
  simp only [Rel] at ak
  subst ak
  cases ok with
  | false=>cases he
  | true=>
    simp only [cond_true] at he
    cases bs:aL.zero with
    | none=>rw [bs] at he;cases he
    | some z=>
      rw [bs] at he
      simp only [Option.some.injEq] at he
      subst he
      obtain ⟨bw,cm,z2⟩:=zero z bs
      refine ⟨.tuple #[bw,.bool false],?_,by simp only [Rel,a8];exact ⟨_,rfl,_,_,rfl,z2,_,_,rfl,rfl,rfl⟩⟩
      simp only [Instr.typeAssert,Sem.run_bind,hu,Result.andThen_ok]
      cases bJ:aL.a'<;>first
       | exact absurd bJ (pS _)
       | (simp only [if_true,Sem.run_bind,cm,Result.andThen_ok];rfl)
def gN (P:Program) (call:dw):Prop:=∀f args h v ab,call f args h=.val v ab→True
set_option maxHeartbeats 2000000 in
theorem J5 {rd:Option Nat} {aq:Fr} {E:Env} {h ab:af} {w:World} {call:dw} (bD:eI P) (cD:gz P call) (de:gN P call) {o:Oper} {al:Nat} {r:bt} {a:Act} {v:V}
 (he:(fb P o).run call r h=.val v ab) (k:RegRel0 E al r a) (s:a1 aq E h w) {K:Act→World→Prop} {Q:Exit→Act→World→Prop}
 (dH:∀an x aj,E.le an→Rel an v x→a1 aq an ab aj→K (a.put o.dst x) aj):o.wpIn (ca rd) 0 P a w K Q:=by
 obtain ⟨dst,op,type,pos,after,guard⟩:=o
 cases op<;>simp only [fb] at he<;>try (simp [c7.none] at he;done)
 case move x=>
  simp only [aU.val.injEq] at he;obtain ⟨rfl,rfl⟩:=he
  exact gj (m:=pure (a.eval x)) rfl (cY.plain s rfl (dx k x)) dH
 case assign x=>
  simp only [aU.val.injEq] at he;obtain ⟨rfl,rfl⟩:=he
  exact gj (m:=pure (a.eval x)) rfl (cY.plain s rfl (dx k x)) dH
 case pick c x y=>
  have aD:=dx k c
  generalize (bF c).run r=wW at he aD
  cases wW<;>simp only at he<;>try (cases he;done)
  rename_i t
  simp only [aU.val.injEq] at he;obtain ⟨rfl,rfl⟩:=he
  simp only [Rel] at aD
  refine gj (m:=do pure (if ←asBool (a.eval c) then a.eval x else a.eval y)) (by simp only [execOp,bind_assoc,pure_bind]) (cY.plain (Z:=if t then a.eval x else a.eval y) s ?_ ?_) dH
  · rw [aD];rfl
  · cases t
    · exact dx k y
    · exact dx k x
 case alloc t=>
  cases ax:aZ P t with
  | none=>rw [ax] at he;simp [c7.none] at he
  | some aL=>
    rw [ax] at he
    simp only at he
    cases bs:aL.zero with
    | none=>rw [bs] at he;simp [c7.none] at he
    | some z=>
      rw [bs] at he
      simp only at he
      cases aS:gg h z.cells with
      | none=>rw [aS] at he;cases he
      | some aa=>
        rw [aS] at he
        simp only [gI,aU.val.injEq] at he;obtain ⟨rfl,rfl⟩:=he
        obtain ⟨x,ak,pX,_⟩:=sI (P:=P) (E:=E) ax bs w
        obtain ⟨an,g1,g2,g3,g4⟩:=BM (P:=P) s pX aS t
        have EZ:(newRow t x.cells).run P w=.ok ⟨w.heap.size,0,none⟩ {w with heap:=w.heap.push (.cells x.cells t)}:=by simpa using g3
        have E0:a1 aq an aa {w with heap:=w.heap.push (.cells x.cells t)}:=by simpa using g4
        exact gj (m:=Instr.alloc t true (.tuple #[])) rfl ⟨.pointer (some ⟨w.heap.size,0,none⟩),_,an,by simp only [Instr.alloc,Sem.run_bind,ak,Result.andThen_ok,newVar,EZ,Sem.run_pure],g1,by simp only [Rel];exact ⟨_,g2,by simp⟩,E0⟩ dH
 case box t x=>
  obtain ⟨aE,he⟩:=jP he
  cases aS:gg h ((bF x).run r).cells with
  | none=>rw [aS] at he;cases he
  | some aa=>
    rw [aS] at he
    simp only [gI,aU.val.injEq] at he;obtain ⟨rfl,rfl⟩:=he
    have ao:=(dx k x).cells (fun e=>by rw [e] at aE;cases aE)
    obtain ⟨an,g1,g2,g3,g4⟩:=BM (P:=P) s ao aS t
    have EZ:(newRow t (a.eval x).cells).run P w=.ok ⟨w.heap.size,0,none⟩ {w with heap:=w.heap.push (.cells (a.eval x).cells t)}:=by simpa using g3
    have E0:a1 aq an aa {w with heap:=w.heap.push (.cells (a.eval x).cells t)}:=by simpa using g4
    exact gj (m:=Instr.box t (a.eval x)) rfl ⟨.pointer (some ⟨w.heap.size,0,none⟩),_,an,by simp only [Instr.box,Sem.run_bind,newVar,EZ,Result.andThen_ok,Sem.run_pure],g1,by simp only [Rel];exact ⟨_,g2,by simp⟩,E0⟩ dH
 case build t a_=>
  obtain ⟨eh,rfl⟩:=aU.h9 he
  clear he
  obtain ⟨Z,fy,cC⟩:=R2 (P:=P) (B2 k a_.toList) eh w
  refine gj (m:=Instr.build t (a_.map fun (i,x)=>(i,a.eval x))) rfl (cY.plain (Z:=Z) s ?_ cC) dH
  rw [Hk];exact fy
 case buildSlice t n a_=>
  refine gj (m:=Instr.buildSlice t n (a_.map fun (i,x)=>(i,a.eval x))) rfl ?_ dH
  rw [Hk]
  exact R4 s (B2 k a_.toList) he
 case load t x=>
  obtain ⟨eh,rfl⟩:=aU.h9 he
  clear he
  obtain ⟨Y,fk,cC,_⟩:=M4 (P:=P) s (dx k x) eh
  exact gj (m:=Instr.loadAt t (a.eval x)) rfl (cY.plain s fk cC) dH
 case store t x y=>
  cases ct:(rf P t).run h ((bF x).run r) ((bF y).run r) with
  | none=>rw [ct] at he;cases he
  | some aa=>
    rw [ct] at he
    simp only [gI,aU.val.injEq] at he;obtain ⟨rfl,rfl⟩:=he
    obtain ⟨aj,cK,iQ⟩:=ael (P:=P) s (dx k x) (dx k y) ct
    refine ⟨fun _ _=>trivial,?_⟩
    rw [pa (by intro c h;cases h)]
    have:execOp a.eval ⟨dst,.store t x y,type,pos,after,guard⟩=(do Instr.storeAt t (a.eval x) (a.eval y);pure .skip):=rfl
    rw [this,Sem.run_bind,cK]
    exact dH E undef aj (Env.le.refl E) (by simp [Rel]) iQ
 case nilCheck x=>
  obtain ⟨eh,rfl⟩:=aU.h9 he
  clear he
  have ak:=dx k x
  generalize (bF x).run r=uI at eh ak
  have e1:∀X,Rel E uI X→(match X with
   | .pointer none | .nilIface | .nilFunc=>(runtimePanic .nilDeref:Sem Next)
   | .func (.method name) first captured=>
     match (first[0]? :Option Value) with
     | some .nilIface=>runtimePanic .nilDeref
     | some (.iface t w)=>do
       if (←nilAhead ((←program).types.size+Made.depth) t w name) != some false then
        unsupported (.noEntry "op/nilCheck.the method's receiver behind this interface value is a nil pointer, or cannot be seen to be none, and the arguments act or may panic (ledger 612)")
       pure (.value (.func (.method name) first captured))
     | _=>pure (.value (.func (.method name) first captured))
   | x=>pure (.value x))=pure (.value X)∧v=uI:=by
   intro X c4
   cases uI<;>simp only [si] at eh<;>try (cases eh;done)
   all_goals simp only [Option.some.injEq] at eh
   all_goals simp only [Rel] at c4
   · obtain ⟨p,_,rfl⟩:=c4;exact ⟨rfl,eh.symm⟩
   · rcases c4 with ⟨_,_,rfl,_⟩ | ⟨_,_,_,_,_,rfl⟩<;>exact ⟨rfl,eh.symm⟩
   · obtain ⟨p,rfl,_⟩:=c4;exact ⟨rfl,eh.symm⟩
   · obtain ⟨_,p,rfl,_⟩:=c4;exact ⟨rfl,eh.symm⟩
  obtain ⟨aa,rfl⟩:=e1 _ ak
  exact gj (m:=pure (a.eval x)) (by simp only [execOp];rw [pure_bind];exact aa) (cY.plain s rfl ak) dH
 case binOp op t x y u=>
  obtain ⟨eh,rfl⟩:=aU.h9 he
  clear he
  obtain ⟨Z,fy,cC⟩:=RY (P:=P) (iZ:=x) (h_:=y) eh (dx k x) (dx k y) w
  exact gj rfl (cY.plain s fy cC) dH
 case unOp op t x=>
  obtain ⟨eh,rfl⟩:=aU.h9 he
  clear he
  obtain ⟨Z,fy,cC⟩:=aeY (P:=P) eh (dx k x) w
  exact gj (m:=Op.unary op (a.eval x)) rfl (cY.plain s fy cC) dH
 case convert t u x=>exact gj (m:=convert t u (a.eval x)) rfl (UC s he (dx k x)) dH
 case makeInterface t x=>
  cases ax:aZ P t with
  | none=>rw [ax] at he;simp [c7.none] at he
  | some aL=>
    rw [ax] at he
    simp only at he
    cases ah:Nat.beq (e2 aL.a') 5 with
    | true=>rw [ah] at he;simp [c7.none] at he
    | false=>
      rw [ah] at he
      simp only [cond_false,aU.val.injEq] at he;obtain ⟨rfl,rfl⟩:=he
      refine gj (m:=Instr.makeInterface t (a.eval x)) rfl (cY.plain (Z:=.iface t (a.eval x)) s ?_ ?_) dH
      · have hu:=fu ax w
        simp only [Instr.makeInterface,Sem.run_bind,hu,Result.andThen_ok]
        cases bJ:aL.a'<;>first
         | rfl
         | (rw [bJ] at ah;simp [e2] at ah)
      · simp only [Rel];exact ⟨_,rfl,dx k x⟩
 case makeFunc fn first eJ=>
  cases fn<;>simp only at he<;>try (simp [c7.none] at he;done)
  rename_i f
  cases ar:(first.isEmpty&&!Nat.beq f da) with
  | false=>
    rw [ar] at he
    simp only [cond_false] at he
    cases iM:(eJ.isEmpty&&!Nat.beq f da) with
    | false=>rw [iM] at he;simp [c7.none] at he
    | true=>
      rw [iM] at he
      simp only [cond_true,aU.val.injEq] at he;obtain ⟨rfl,rfl⟩:=he
      simp only [Bool.and_eq_true,Bool.not_eq_true'] at iM
      have Fy:f≠da:=fun e=>by rw [e] at iM;exact absurd iM.2 (by decide)
      have Fu:eJ=#[]:=by simpa using iM.1
      subst Fu
      refine gj (m:=Instr.makeFunc (.func f) (first.map a.eval) #[]) (by simp [execOp]) (cY.plain s rfl ?_) dH
      simp only [Rel]
      exact ⟨Fy,_,rfl,by rw [GU];simpa using pF k first.toList⟩
  | true=>
    rw [ar] at he
    simp only [cond_true,aU.val.injEq] at he;obtain ⟨rfl,rfl⟩:=he
    simp only [Bool.and_eq_true,Bool.not_eq_true'] at ar
    have Fy:f≠da:=fun e=>by rw [e] at ar;exact absurd ar.2 (by decide)
    have Fu:first=#[]:=by simpa using ar.1
    subst Fu
    refine gj (m:=Instr.makeFunc (.func f) #[] (eJ.map a.eval)) (by simp [execOp]) (cY.plain s rfl ?_) dH
    simp only [Rel]
    exact .inl ⟨Fy,_,rfl,by rw [GU];simpa using pF k eJ.toList⟩
 case makeSlice t l c=>exact gj (m:=Instr.makeSlice t (a.eval l) (a.eval c)) rfl (abo s (dx k l) (dx k c) he) dH
 case slice t x bG aF dO=>
  obtain ⟨eh,rfl⟩:=aU.h9 he
  clear he
  obtain ⟨Z,fy,cC⟩:=ad9 (P:=P) eh (dx k x) (B1 k bG) (B1 k aF) (B1 k dO) w
  exact gj (m:=Instr.sliceAt t (a.eval x) (bG.map a.eval) (aF.map a.eval) (dO.map a.eval)) rfl (cY.plain s fy cC) dH
 case fieldAddr t x i=>
  obtain ⟨eh,rfl⟩:=aU.h9 he
  clear he
  obtain ⟨Z,fy,cC⟩:=Vm (P:=P) eh (dx k x) w
  exact gj (m:=Instr.fieldAt t (a.eval x) i) rfl (cY.plain s fy cC) dH
 case field t x i=>
  obtain ⟨eh,rfl⟩:=aU.h9 he
  clear he
  obtain ⟨Z,fy,cC⟩:=Vn (P:=P) eh (dx k x) w
  exact gj (m:=Instr.field t (a.eval x) i) rfl (cY.plain s fy cC) dH
 case indexAddr t x i=>
  obtain ⟨eh,rfl⟩:=aU.h9 he
  clear he
  obtain ⟨Z,fy,cC⟩:=Yy (P:=P) eh (dx k x) (dx k i) w
  exact gj (m:=Instr.indexAt t (a.eval x) (a.eval i)) rfl (cY.plain s fy cC) dH
 case index t x i=>
  obtain ⟨eh,rfl⟩:=aU.h9 he
  clear he
  obtain ⟨Z,fy,cC⟩:=YA (P:=P) eh (dx k x) (dx k i) w
  exact gj (m:=Instr.index t (a.eval x) (a.eval i)) rfl (cY.plain s fy cC) dH
 case range t x=>exact gj (m:=Instr.range t (a.eval x)) rfl (adm s (dx k x) he) dH
 case next it we=>
  cases we with
  | true=>exact gj (m:=Instr.next (a.eval it) true type) rfl (abM s (dx k it) he) dH
  | false=>exact gj (m:=Instr.next (a.eval it) false type) rfl (abK s (dx k it) he) dH
 case entry it=>exact gj (m:=Instr.entry (a.eval it)) rfl (U3 s (dx k it) he) dH
 case lookup t x y ok=>
  obtain ⟨eh,rfl⟩:=aU.h9 he
  clear he
  obtain ⟨Z,fy,cC⟩:=abj (P:=P) s (dx k x) (dx k y) eh
  exact gj (m:=Instr.lookup t (a.eval x) (a.eval y) ok) rfl (cY.plain s fy cC) dH
 case mapEntry t m y=>exact gj (m:=Instr.mapEntry t (a.eval m) (a.eval y)) rfl (abp s (dx k m) (dx k y) he) dH
 case entryStore t m st x=>
  cases ct:Am h ((bF m).run r) ((bF st).run r) ((bF x).run r) with
  | none=>rw [ct] at he;cases he
  | some aa=>
    rw [ct] at he
    simp only [gI,aU.val.injEq] at he;obtain ⟨rfl,rfl⟩:=he
    obtain ⟨aj,cK,iQ⟩:=U2 (P:=P) (t:=t) s (dx k m) (dx k st) (dx k x) ct
    refine ⟨fun _ _=>trivial,?_⟩
    rw [pa (by intro c h;cases h)]
    have:execOp a.eval ⟨dst,.entryStore t m st x,type,pos,after,guard⟩=(do Instr.entryStore t (a.eval m) (a.eval st) (a.eval x);pure .skip):=rfl
    rw [this,Sem.run_bind,cK]
    exact dH E undef aj (Env.le.refl E) (by simp [Rel]) iQ
 case mapUpdate t m y x=>
  cases ct:(ou P t).run h ((bF m).run r) ((bF y).run r) ((bF x).run r) with
  | none=>rw [ct] at he;cases he
  | some aa=>
    rw [ct] at he
    simp only [gI,aU.val.injEq] at he;obtain ⟨rfl,rfl⟩:=he
    obtain ⟨aj,cK,iQ⟩:=PT (P:=P) s (dx k m) (dx k y) (dx k x) ct
    refine ⟨fun _ _=>trivial,?_⟩
    rw [pa (by intro c h;cases h)]
    have:execOp a.eval ⟨dst,.mapUpdate t m y x,type,pos,after,guard⟩=(do Instr.mapUpdate t (a.eval m) (a.eval y) (a.eval x);pure .skip):=rfl
    rw [this,Sem.run_bind,cK]
    exact dH E undef aj (Env.le.refl E) (by simp [Rel]) iQ
 case insert t m y x=>
  cases ct:(ou P t).run h ((bF m).run r) ((bF y).run r) ((bF x).run r) with
  | none=>rw [ct] at he;cases he
  | some aa=>
    rw [ct] at he
    simp only [gI,aU.val.injEq] at he;obtain ⟨rfl,rfl⟩:=he
    obtain ⟨aj,cK,iQ⟩:=PT (P:=P) s (dx k m) (dx k y) (dx k x) ct
    refine ⟨fun _ _=>trivial,?_⟩
    rw [pa (by intro c h;cases h)]
    have:execOp a.eval ⟨dst,.insert t m y x,type,pos,after,guard⟩=(do Instr.mapUpdate t (a.eval m) (a.eval y) (a.eval x);pure .skip):=rfl
    rw [this,Sem.run_bind,cK]
    exact dH E undef aj (Env.le.refl E) (by simp [Rel]) iQ
 case makeMap t x=>exact gj (m:=Instr.makeMap t (x.map a.eval)) rfl (abn s (B1 k x) he) dH
 case panic x=>
  exfalso
  unfold Hj at he
  split at he<;>cases he
 case typeAssert x sG t ok=>
  cases ax:aZ P t with
  | none=>rw [ax] at he;simp [c7.none] at he
  | some aL=>
    rw [ax] at he
    simp only at he
    cases ah:Nat.beq (e2 aL.a') 5 with
    | true=>rw [ah] at he;simp [c7.none] at he
    | false=>
      rw [ah] at he
      simp only [cond_false] at he
      obtain ⟨eh,rfl⟩:=aU.h9 he
      clear he
      obtain ⟨Z,fy,cC⟩:=RF ax ah (sG:=sG) (dx k x) eh w
      exact gj (m:=Instr.typeAssert (a.eval x) sG t ok) rfl (cY.plain s fy cC) dH
 case extract x i=>
  have ak:=dx k x
  generalize (bF x).run r=uI at he ak
  cases uI<;>simp only at he<;>try (cases he;done)
  obtain ⟨eh,rfl⟩:=aU.h9 he
  clear he
  simp only [Rel] at ak
  obtain ⟨arr,c4,ao⟩:=ak
  obtain ⟨y,a7,cC⟩:=ao.get i v eh
  refine gj (m:=Instr.extract (a.eval x) i) rfl (cY.plain (Z:=y) s ?_ cC) dH
  rw [c4]
  have:arr[i]? =some y:=by simpa using a7
  simp only [Instr.extract,this,Sem.run_pure]
 case call c=>
  obtain ⟨callee,args,types⟩:=c
  cases callee with
  | invoke _ _=>simp [qz,c7.none] at he
  | builtin b=>
    simp only [qz] at he
    obtain ⟨cs,h4⟩:∃cs,execOp a.eval ⟨dst,.call ⟨.builtin b,args,types⟩,type,pos,after,guard⟩=Go.builtin b types type cs (args.map a.eval):=by
     simp only [execOp,resolve,pure_bind,invoke]
     exact ⟨_,rfl⟩
    obtain ⟨m,hm,aE⟩:=R6 (P:=P) (ty:=type) (cs:=cs) s (pF k args.toList) he
    refine gj (m:=m) ?_ aE dH
    rw [h4,←hm,GU]
  | value f=>
    simp only [qz] at he
    have ar:=dx k f
    generalize Yb:(bF f).run r=uG at he ar
    cases uG<;>simp only [V.wA] at he<;>try (cases he;done)
    rotate_left
    · rename_i g cs
      simp only [Rel] at ar
      refine ⟨fun _ _=>trivial,?_⟩
      rw [pa (by intro c h;cases h)]
      obtain ⟨aE,first,c4,ao⟩:=ar
      have oM:=a8.append ao (pF k args.toList)
      have oO:=cD.fn _ _ _ _ _ _ aE he E w _ oM s
      have hex:execOp a.eval ⟨dst,.call ⟨.value f,args,types⟩,type,pos,after,guard⟩=callFunc g (first++args.map a.eval):=by
       simp only [execOp,resolve,c4,Deferred.ofValue,pure_bind,invoke]
       simp
      have e:first++args.map a.eval=(first.toList++args.toList.map a.eval).toArray:=by
       apply Array.ext';simp
      rw [hex,e]
      rcases oO with ⟨⟨fn,jU,ah⟩,aD⟩ | ⟨an,x,aj,aG,au,az,aM⟩
      case inr=>
       rw [aG]
       exact dH an x aj au az aM
      rw [sy bD jU ah]
      refine ⟨fun h=>by simp at h,rO.2 (aD.mono fun e aj av=>?_)⟩
      obtain ⟨an,x,rfl,au,az,aM⟩:=av
      exact dH an x aj au az aM
    rename_i g cs
    simp only [Rel] at ar
    refine ⟨fun _ _=>trivial,?_⟩
    rw [pa (by intro c h;cases h)]
    rcases ar with ⟨aE,eJ,c4,ao⟩ | ⟨aE,b,p,h4,ag,c4⟩
    · have oM:=(pF k args.toList).append ao
      have oO:=cD.fn _ _ _ _ _ _ aE he E w _ oM s
      have hex:execOp a.eval ⟨dst,.call ⟨.value f,args,types⟩,type,pos,after,guard⟩=callFunc g (args.map a.eval++eJ):=by
       simp only [execOp,resolve,c4,Deferred.ofValue,pure_bind,invoke]
       simp
      have e:args.map a.eval++eJ=(args.toList.map a.eval++eJ.toList).toArray:=by
       apply Array.ext';simp
      rw [hex,e]
      rcases oO with ⟨⟨fn,jU,ah⟩,aD⟩ | ⟨an,x,aj,aG,au,az,aM⟩
      case inr=>
       rw [aG]
       exact dH an x aj au az aM
      rw [sy bD jU ah]
      refine ⟨fun h=>by simp at h,rO.2 (aD.mono fun e aj av=>?_)⟩
      obtain ⟨an,x,rfl,au,az,aM⟩:=av
      exact dH an x aj au az aM
    · subst aE h4
      obtain ⟨vh,tmps,assign,body,au,az⟩:=cD.P9 _ _ _ _ _ _ he E w _ p (pF k args.toList) s ag
      have hex:execOp a.eval ⟨dst,.call ⟨.value f,args,types⟩,type,pos,after,guard⟩=Instr.yield p.bc (args.map a.eval):=by
       simp only [execOp,resolve,c4,Deferred.ofValue,pure_bind,invoke]
       simp
      have e:args.map a.eval=(args.toList.map a.eval).toArray:=by
       apply Array.ext';simp
      rw [hex,e,au]
      refine ⟨fun h=>by simp at h,RoundIn.mono az fun e aj av=>?_⟩
      obtain ⟨an,x,rfl,bS,b7,cT⟩:=av
      exact dH an x aj bS b7 cT
end
end Go.Proofs.YthemdhlheglhoaaGreatDoor.aY
namespace Go.Proofs.YthemdhlheglhoaaGreatDoor.aY
variable [Lay]
open Go Go.RowKit
section
variable {P:Program}
theorem E4 {E:Env} {al:Nat} {r:bt} {a:Act} (k:RegRel0 E al r a) {all:Array Oper} {j:Nat} {g:Oper} {d:Nat} (bK:all[j]? =some g) (aX:g.dst=some d) (Ll:d<al) (tz:d≤top):
 (∀b,T.get .bad (ai d) r=.bool b→yielded all a.tmps j=some b)∧(∀ad,T.get .bad (ai d) r=.tuple ad→yielded all a.tmps j=none):=by
 have aG:=k.aJ d tz
 have aW:d<a.tmps.size:=by rw [k.size];exact Ll
 have he:a.tmps[d]? =some (a.tmps.getD d undef):=by simp [Array.getD_eq_getD_getElem?,aW]
 refine ⟨fun b ah=>?_,fun ad ah=>?_⟩
 · rw [ah] at aG
   simp only [Rel] at aG
   simp only [yielded,bK,Option.bind,aX,he,aG]
 · rw [ah] at aG
   simp only [Rel] at aG
   obtain ⟨arr,aG,_⟩:=aG
   simp only [yielded,bK,Option.bind,aX,he,aG]
theorem J2 {rd:Option Nat} {aq:Fr} {E:Env} {h ab:af} {w:World} {call:dw} (bD:eI P) (cD:gz P call) {o:Oper} {al:Nat} {r:bt} {a:Act} {v:V} (hm:ln o.op=true)
 (he:(fb P o).run call r h=.cv v ab) (k:RegRel0 E al r a) (s:a1 aq E h w) {K:Act→World→Prop} {Q:Exit→Act→World→Prop}
 (c2:∀an x aj,E.le an→Rel an v x→a1 aq an ab aj→Q (.panic (o7 x)) a aj):o.wpIn (ca rd) 0 P a w K Q:=by
 obtain ⟨dst,op,type,pos,after,guard⟩:=o
 cases op<;>simp only [ln] at hm<;>try (cases hm;done)
 all_goals simp only [fb] at he
 case panic x=>
  have ak:=dx k x
  generalize (bF x).run r=uI at he ak
  unfold Hj at he
  cases uI<;>simp only at he<;>try (cases he;done)
  simp only [aU.cv.injEq] at he
  obtain ⟨rfl,rfl⟩:=he
  have yg:=ak
  simp only [Rel] at ak
  obtain ⟨Y,c4,fk⟩:=ak
  refine ⟨fun _ _=>trivial,?_⟩
  rw [pa (by intro c h;cases h)]
  have hex:(execOp a.eval ⟨dst,.panic x,type,pos,after,guard⟩).run P w=.halt (.panic (a.eval x)) w:=by
   simp only [execOp,c4,Instr.panic,Sem.run_bind]
   rfl
  rw [hex]
  exact c2 E _ w (Env.le.refl E) yg s
 case call c=>
  obtain ⟨callee,args,types⟩:=c
  cases callee<;>simp only at hm<;>try (cases hm;done)
  rename_i f
  simp only [qz] at he
  have ar:=dx k f
  generalize Yb:(bF f).run r=uG at he ar
  cases uG<;>simp only [V.wA] at he<;>try (cases he;done)
  rotate_left
  · rename_i g cs
    simp only [Rel] at ar
    refine ⟨fun _ _=>trivial,?_⟩
    rw [pa (by intro c h;cases h)]
    obtain ⟨aE,first,c4,ao⟩:=ar
    have oM:=a8.append ao (pF k args.toList)
    obtain ⟨⟨fn,jU,ah⟩,aD⟩:=cD.cv _ _ _ _ _ _ aE he E w _ oM s
    have hex:execOp a.eval ⟨dst,.call ⟨.value f,args,types⟩,type,pos,after,guard⟩=callFunc g (first++args.map a.eval):=by
     simp only [execOp,resolve,c4,Deferred.ofValue,pure_bind,invoke]
     simp
    have e:first++args.map a.eval=(first.toList++args.toList.map a.eval).toArray:=by
     apply Array.ext';simp
    rw [hex,e,sy bD jU ah]
    refine ⟨fun h=>by simp at h,rO.2 (aD.mono fun e aj av=>?_)⟩
    obtain ⟨an,x,rfl,au,az,aM⟩:=av
    exact c2 an x aj au az aM
  rename_i g cs
  simp only [Rel] at ar
  refine ⟨fun _ _=>trivial,?_⟩
  rw [pa (by intro c h;cases h)]
  rcases ar with ⟨aE,eJ,c4,ao⟩ | ⟨aE,b,p,h4,ag,c4⟩
  · have oM:=(pF k args.toList).append ao
    obtain ⟨⟨fn,jU,ah⟩,aD⟩:=cD.cv _ _ _ _ _ _ aE he E w _ oM s
    have hex:execOp a.eval ⟨dst,.call ⟨.value f,args,types⟩,type,pos,after,guard⟩=callFunc g (args.map a.eval++eJ):=by
     simp only [execOp,resolve,c4,Deferred.ofValue,pure_bind,invoke]
     simp
    have e:args.map a.eval++eJ=(args.toList.map a.eval++eJ.toList).toArray:=by
     apply Array.ext';simp
    rw [hex,e,sy bD jU ah]
    refine ⟨fun h=>by simp at h,rO.2 (aD.mono fun e aj av=>?_)⟩
    obtain ⟨an,x,rfl,au,az,aM⟩:=av
    exact c2 an x aj au az aM
  · subst aE
    exact absurd he (cD.P' _ _ _ _)
def mS (aq:Fr) (E:Env) (al:Nat) (K:Act→World→Prop) (Q:Exit→Act→World→Prop):nD→Prop
 | .ok r h=>∀an bh aj,E.le an→fh an al r bh→a1 aq an h aj→K bh aj
 | .cv v r h=>∀an bh aj x,E.le an→fh an al r bh→Rel an v x→a1 aq an h aj→Q (.panic (o7 x)) bh aj
 | .fail=>False
theorem mS.up {aq:Fr} {E an:Env} (h:E.le an) {al:Nat} {K:Act→World→Prop} {Q:Exit→Act→World→Prop} {x:nD} (k:mS aq E al K Q x):mS aq an al K Q x:=by
 cases x with
 | ok r ba=>exact fun b9 a w ae=>k b9 a w (h.trans ae)
 | cv v r ba=>exact fun b9 a w x ae=>k b9 a w x (h.trans ae)
 | fail=>exact k
theorem NK {rd:Option Nat} {aq:Fr} {E:Env} {h:af} {w:World} {call:dw} (bD:eI P) (cD:gz P call) (de:gN P call) {all:Array Oper} {i:Nat} {o:Oper} (aF:all[i]? =some o) {al:Nat} {r:bt} {a:Act}
 (aX:fe al o.dst=true) (k:fh E al r a) (s:a1 aq E h w) {K:Act→World→Prop} {Q:Exit→Act→World→Prop} (hw:Region.wanted o (yielded all a.tmps)=true)
 (ag:mS aq E al K Q (B0 (ln o.op) (fb P o) (ft o.dst) call r h)):wpOpIn (ca rd) 0 P all Q i K a w:=by
 simp only [wpOpIn,aF,hw,if_true]
 unfold B0 at ag
 cases aQ:(fb P o).run call r h with
 | fail=>rw [aQ] at ag;exact ag.elim
 | val v aa=>
   rw [aQ] at ag
   exact J5 bD cD de aQ k.toRegRel0 s fun an x aj au az aM=>ag an _ aj au ((k.mono au).put aX az) aM
 | cv v aa=>
   rw [aQ] at ag
   simp only at ag
   cases hm:ln o.op with
   | false=>rw [hm] at ag;exact ag.elim
   | true=>
     rw [hm] at ag
     exact J2 bD cD hm aQ k.toRegRel0 s fun an x aj au az aM=>ag an a aj x au (k.mono au) az aM
theorem PS {rd:Option Nat} {aq:Fr} {E:Env} {h:af} {w:World} {all:Array Oper} {i:Nat} {o:Oper} (aF:all[i]? =some o) {al:Nat} {r:bt} {a:Act}
 (aX:fe al o.dst=true) (k:fh E al r a) (s:a1 aq E h w) {K:Act→World→Prop} {Q:Exit→Act→World→Prop} (hw:Region.wanted o (yielded all a.tmps)=false)
 (ag:mS aq E al K Q (.ok ((ft o.dst).run r (.tuple [])) h)):wpOpIn (ca rd) 0 P all Q i K a w:=by
 simp only [wpOpIn,aF,hw,Bool.false_eq_true,if_false]
 exact ⟨fun _ _=>trivial,ag E _ w (Env.le.refl E) (k.put aX (by simp only [Rel];exact ⟨#[],rfl,rfl⟩)) s⟩
theorem BZ {rd:Option Nat} {aq:Fr} {E:Env} {h:af} {w:World} {call:dw} (bD:eI P) (cD:gz P call) (de:gN P call) {all:Array Oper} {i:Nat} {o:Oper} (aF:all[i]? =some o) {al:Nat} {r:bt} {a:Act}
 (aX:fe al o.dst=true) (k:fh E al r a) (s:a1 aq E h w) {K:Act→World→Prop} {Q:Exit→Act→World→Prop}
 (ag:mS aq E al K Q ((wC P al all o).run call r h)):wpOpIn (ca rd) 0 P all Q i K a w:=by
 unfold wC at ag
 cases aE:o.guard with
 | none=>
   rw [aE] at ag
   exact NK bD cD de aF aX k s (by simp [Region.wanted,aE]) ag
 | some oY=>
   obtain ⟨j,want⟩:=oY
   rw [aE] at ag
   simp only at ag
   cases bK:all[j]? with
   | none=>rw [bK] at ag;exact ag.elim
   | some g=>
     rw [bK] at ag
     simp only at ag
     cases kf:g.dst with
     | none=>rw [kf] at ag;exact ag.elim
     | some d=>
       rw [kf] at ag
       simp only at ag
       cases aD:(Nat.blt d al&&Nat.ble d top) with
       | false=>rw [aD] at ag;exact ag.elim
       | true=>
         rw [aD] at ag
         simp only [cond_true,K6,nL] at ag
         simp only [Bool.and_eq_true,Nat.blt_eq,Nat.ble_eq] at aD
         obtain ⟨g1,g2⟩:=E4 k.toRegRel0 bK kf aD.1 aD.2
         cases br:T.get .bad (ai d) r<;>rw [br] at ag<;>simp only at ag<;>try (exact ag.elim)
         · rename_i b
           have a7:=g1 b br
           cases ah:(bif want then b else !b) with
           | true=>
             rw [ah] at ag
             simp only [cond_true] at ag
             refine NK bD cD de aF aX k s ?_ ag
             simp only [Region.wanted,aE,a7]
             cases want<;>cases b<;>simp_all
           | false=>
             rw [ah] at ag
             simp only [cond_false] at ag
             refine PS aF aX k s ?_ ag
             simp only [Region.wanted,aE,a7]
             cases want<;>cases b<;>simp_all
         · rename_i ad
           have a7:=g2 ad br
           refine PS aF aX k s ?_ ag
           simp only [Region.wanted,aE,a7]
           rfl
theorem kT.list {E:Env} {v:V} {ds:List Deferred} (k:kT E v ds):mM E v.list ds:=by
 cases v<;>first
  | exact k
theorem acs {rd:Option Nat} {aq:Fr} {E:Env} {h:af} {w:World} {call:dw} (bD:eI P) (cD:gz P call) (de:gN P call) {all:Array Oper} {i:Nat} {o:Oper} (aF:all[i]? =some o) {al:Nat} {r:bt} {a:Act}
 (aG:rd=none∨G7 o=true) (k:fh E al r a) (s:a1 aq E h w) {K:Act→World→Prop} {Q:Exit→Act→World→Prop}
 (ag:mS aq E al K Q ((BY P al all o).run call r h)):wpOpIn (ca rd) 0 P all Q i K a w:=by
 unfold BY at ag
 cases aX:fe al o.dst with
 | false=>rw [aX] at ag;exact ag.elim
 | true=>
   rw [aX] at ag
   simp only [cond_true] at ag
   obtain ⟨dst,op,type,pos,after,guard⟩:=o
   cases op with
   | defer c=>
     rcases aG with rfl | aG
     case inr=>cases aG
     simp only at ag
     cases guard with
     | some _=>exact ag.elim
     | none=>
       simp only at ag
       obtain ⟨callee,args,types⟩:=c
       simp only [Ka] at ag
       cases callee<;>simp only at ag<;>try (exact ag.elim)
       rename_i f
       unfold Kb at ag
       have ar:=dx k.toRegRel0 f
       generalize (bF f).run r=uG at ag ar
       cases uG<;>simp only at ag<;>try (exact ag.elim)
       rename_i g cs
       cases a7:Nat.beq g da with
       | true=>rw [a7] at ag;exact ag.elim
       | false=>
         rw [a7] at ag
         simp only [cond_false] at ag
         have A2:g≠da:=fun e=>by rw [e] at a7;exact absurd a7 (by decide)
         simp only [Rel] at ar
         rcases ar with ⟨_,eJ,c4,ao⟩ | ⟨aE,_⟩
         case inr=>exact absurd aE A2
         simp only [wpOpIn,aF,Region.wanted,if_true]
         refine ⟨fun _ _=>trivial,?_⟩
         have hex:((Oper.mk dst (.defer ⟨.value f,args,types⟩) type pos after none).semAt (ca none).round a.eval).run P w=.ok (.defer {target:=.fn (.func g) eJ,args:=#[]++args.map a.eval}) w:=by
          simp only [Oper.semAt_none,execOp,resolve,c4,Deferred.ofValue,pure_bind]
          rfl
         rw [hex]
         refine ag E _ w (Env.le.refl E) (fh.put ?_ aX (by simp only [Rel];exact ⟨#[],rfl,rfl⟩)) s
         refine ⟨⟨k.size,fun t ax=>?_⟩,?_⟩
         rotate_left
         · rw [T.hM,if_pos rfl]
           simp only [kT,mM]
           refine ⟨_,_,rfl,⟨A2,eJ,rfl,?_⟩,k.defers.list⟩
           have:=(pF k.toRegRel0 args.toList).append ao
           simpa using this
         · rw [T.hM,if_neg (fun e=>uo ax e.symm)]
           exact k.aJ t ax
   | binOp op t x y u=>
     simp only at ag
     cases guard with
     | some g=>exact BZ bD cD de aF aX k s ag
     | none=>
       simp only at ag
       cases k':B' P op t with
       | none=>rw [k'] at ag;exact BZ bD cD de aF aX k s ag
       | some neg=>
         rw [k'] at ag
         simp only [Oe] at ag
         cases av:oj h ((bF x).run r) ((bF y).run r) with
         | none=>rw [av] at ag;exact BZ bD cD de aF aX k s ag
         | some b=>
           rw [av] at ag
           simp only [wpOpIn,aF,Region.wanted,if_true]
           obtain ⟨Z,fy,cC⟩:=ac2 (P:=P) (iZ:=x) (h_:=y) s k' av (dx k.toRegRel0 x) (dx k.toRegRel0 y)
           exact gj rfl (cY.plain s fy cC) fun an v aj au az aM=>ag an _ aj au ((k.mono au).put aX az) aM
   | _=>exact BZ bD cD de aF aX k s ag
theorem NL {rd:Option Nat} {aq:Fr} {call:dw} (bD:eI P) (cD:gz P call) (de:gN P call) {all:Array Oper} {al:Nat} {Q:Exit→Act→World→Prop}:∀(l:List Oper) (i:Nat),(∀j,l[j]? =all[i+j]?)→(rd=none∨∀o ∈ l,G7 o=true)→
 ∀(E:Env) (r:bt) (h:af) (a:Act) (w:World),mS aq E al (Q .normal) Q ((yQ P al all l).run call r h)→fh E al r a→a1 aq E h w→
 wpOpsIn (ca rd) 0 P all Q (List.range' i l.length) a w
 | [],i,_,_,E,r,h,a,w,ag,k,s=>by
   simp only [yQ] at ag
   simp only [List.length_nil,List.range'_zero,wpOpsIn]
   exact ag E a w (Env.le.refl E) k s
 | o::os,i,ao,aG,E,r,h,a,w,ag,k,s=>by
   simp only [yQ,O8] at ag
   have aF:all[i]? =some o:=by have:=ao 0;simpa using this.symm
   rw [List.length_cons,List.range'_succ,wpOpsIn_cons]
   refine acs bD cD de aF (aG.imp id fun h=>h o (by simp)) k s ?_
   cases aa:(BY P al all o).run call r h with
   | fail=>rw [aa] at ag;exact ag
   | cv v bS pN=>rw [aa] at ag;exact ag
   | ok bS pN=>
     rw [aa] at ag
     simp only at ag
     intro an bh aj au az aM
     refine NL bD cD de os (i+1) (fun j=>?_) (aG.imp id fun h b1 hn=>h b1 (by simp [hn])) an bS pN bh aj (ag.up au) az aM
     have:=ao (j+1)
     simp only [List.getElem?_cons_succ] at this
     rw [this]
     congr 1
     omega
end
end Go.Proofs.YthemdhlheglhoaaGreatDoor.aY
namespace Go.Proofs.YthemdhlheglhoaaGreatDoor.aY
variable [Lay]
open Go Go.RowKit
theorem KA {a b:V} (h:Ao a b=true):a=b:=by
 cases a<;>cases b<;>simp only [Ao] at h<;>first
  | rfl
  | (cases h;done)
  | (rename_i x y;cases x<;>cases y<;>simp_all;done)
  | (rename_i k x l y
     simp only [Bool.and_eq_true] at h
     have aa:=rS h.1
     have ae:=h.2
     rw [k0,beq_iff_eq] at ae
     rw [aa,ae];done)
  | (rw [s5,beq_iff_eq] at h;rw [h];done)
  | (simp only [Bool.and_eq_true,Nat.beq_eq] at h
     obtain ⟨aa,ae,aH,bf⟩:=h
     rw [aN.k0 aa,ae,aH,bf];done)
  | (simp only [Bool.and_eq_true,Nat.beq_eq] at h
     rw [aN.k0 h.1,h.2];done)
  | (rw [aN.k0 h];done)
  | (simp only [Bool.and_eq_true,Nat.beq_eq,List.isEmpty_iff] at h
     obtain ⟨aa,ae,aH⟩:=h
     rw [aa,ae,aH];done)
  | (simp only [Bool.and_eq_true,List.isEmpty_iff] at h
     rw [h.1,h.2];done)
theorem EO {f:V→V→Bool} (ar:∀a b,f a b=true→a=b):∀{a b:List V},ve f a b=true→a=b
 | [],[],_=>rfl
 | [],_::_,h=>by cases h
 | _::_,[],h=>by cases h
 | a::x,b::y,h=>by
   simp only [ve] at h
   cases aa:f a b with
   | false=>rw [aa] at h;cases h
   | true=>
     rw [aa] at h
     rw [ar a b aa,EO ar h]
theorem RW {c x:Bool} (h:(bif c then x else false)=true):c=true∧x=true:=by
 cases c with
 | false=>cases h
 | true=>exact ⟨rfl,h⟩
theorem KB:∀(d:Nat) (a b:V),ti d a b=true→a=b
 | 0,a,b,h=>KA h
 | d+1,a,b,h=>by
   have bj:=KB d
   cases a<;>simp only [ti] at h<;>first
    | exact KA h
    | (cases b<;>simp only at h<;>first
        | (cases h;done)
        | rfl
        | (rw [EO bj h];done)
        | (obtain ⟨aa,ae⟩:=RW h
           rw [Nat.beq_eq] at aa
           rw [aa]
           first
            | rw [EO bj ae]
            | rw [bj _ _ ae]))
theorem EP {a b:V} (h:xG a b=true):a=b:=KB 5 a b h
theorem xr (m i:Nat):fF m i=m.testBit i:=by
 rw [Nat.testBit_eq_decide_div_mod_eq]
 unfold fF
 have e:Nat.mod (Nat.shiftRight m i) 2=m / 2 ^ i % 2:=by
  show (m >>> i) % 2=_
  rw [Nat.shiftRight_eq_div_pow]
 rw [e,Bool.eq_iff_iff,Nat.beq_eq,decide_eq_true_eq]
theorem GV {dI:List Nat} {i:Nat}:∀{es:List Edge},fF (sh dI es) i=true→∃e ∈ es,s6 e=true∧(e.on=i∨fF ((dI[e.on]?).getD 0) i=true)
 | [],h=>by simp [sh,xr] at h
 | e::es,h=>by
   simp only [sh] at h
   cases ah:s6 e with
   | false=>
     rw [ah] at h
     obtain ⟨c_,aa,ae⟩:=GV (es:=es) h
     exact ⟨c_,by simp [aa],ae⟩
   | true=>
     rw [ah] at h
     simp only [cond_true,xr] at h
     have ab:((1 <<< e.on||| (dI[e.on]?).getD 0)||| sh dI es).testBit i=true:=h
     rw [Nat.testBit_or,Nat.testBit_or,Bool.or_eq_true,Bool.or_eq_true] at ab
     rcases ab with (aa | aa) | aa
     · refine ⟨e,by simp,ah,.inl ?_⟩
       rw [Nat.testBit_shiftLeft] at aa
       simp only [Bool.and_eq_true,decide_eq_true_eq] at aa
       have:=aa.2
       rw [Nat.testBit_one_eq_true_iff_self_eq_zero] at this
       omega
     · exact ⟨e,by simp,ah,.inr (by rw [xr];exact aa)⟩
     · rw [←xr] at aa
       obtain ⟨c_,au,az⟩:=GV (es:=es) aa
       exact ⟨c_,by simp [au],az⟩
def pk (ops:Array Oper) (L:Nat→Prop):Prop:=∀k o e,L k→ops[k]? =some o→e ∈ o.after.toList→s6 e=true→L e.on
theorem yD {ops:Array Oper} {L:Nat→Prop} (tq:pk ops L):∀(os:List Oper) (dI:List Nat),(∀j,os[j]? =ops[dI.length+j]?)→
 (∀k m i,dI[k]? =some m→fF m i=true→L k→L i)→∀k m i,(eF dI os)[k]? =some m→fF m i=true→L k→L i
 | [],dI,_,h,k,m,i,ay,ah,eO=>h k m i ay ah eO
 | o::os,dI,nU,h,k,m,i,ay,ah,eO=>by
   simp only [eF] at ay
   refine yD tq os (dI++[sh dI o.after.toList]) (fun j=>?_) (fun k m i ay ah eO=>?_) k m i ay ah eO
   · have:=nU (j+1)
     simp only [List.getElem?_cons_succ] at this
     rw [this]
     congr 1
     simp
     omega
   · by_cases aW:k<dI.length
     · rw [List.getElem?_append_left aW] at ay
       exact h k m i ay ah eO
     · rw [List.getElem?_append_right (by omega)] at ay
       have xX:k-dI.length=0:=by
        cases bs:k-dI.length with
        | zero=>rfl
        | succ n=>rw [bs] at ay;simp at ay
       rw [xX] at ay
       simp only [List.getElem?_cons_zero,Option.some.injEq] at ay
       subst ay
       have A6:k=dI.length:=by omega
       have aQ:ops[k]? =some o:=by have:=nU 0;simp only [List.getElem?_cons_zero,Nat.add_zero] at this;rw [A6];exact this.symm
       obtain ⟨e,he,Fe,hB⟩:=GV ah
       have Lb:=tq k o e eO aQ he Fe
       rcases hB with rfl | hB
       · exact Lb
       · cases hm:dI[e.on]? with
         | none=>rw [hm] at hB;simp [xr] at hB
         | some b3=>rw [hm] at hB;exact h e.on b3 i hm hB Lb
theorem pg {f:Nat→Nat→Oper→Bool}:∀{k:Nat} {ms:List Nat} {os:List Oper},mJ f k ms os=true→∀j o,os[j]? =some o→∃m,ms[j]? =some m∧f (k+j) m o=true
 | _,_,[],_,j,o,h=>by simp at h
 | _,[],_::_,h,_,_,_=>by cases h
 | k,m::ms,b1::os,h,j,o,aQ=>by
   simp only [mJ,Bool.and_eq_true] at h
   cases j with
   | zero=>simp only [List.getElem?_cons_zero,Option.some.injEq] at aQ;subst aQ;exact ⟨m,rfl,h.1⟩
   | succ j=>
     obtain ⟨b3,aa,ae⟩:=pg h.2 j o (by simpa using aQ)
     exact ⟨b3,by simpa using aa,by rw [show k + (j+1)=k+1+j from by omega];exact ae⟩
theorem Iz {f:Nat→Nat→Oper→Bool}:∀{k:Nat} {ms:List Nat} {os:List Oper},ms.length=os.length→(∀j m o,ms[j]? =some m→os[j]? =some o→f (k+j) m o=true)→mJ f k ms os=true
 | _,[],[],_,_=>rfl
 | _,[],_::_,h,_=>by simp at h
 | _,_::_,[],h,_=>by simp at h
 | k,m::ms,o::os,h,ar=>by
   simp only [mJ,Bool.and_eq_true]
   refine ⟨ar 0 m o rfl rfl,Iz (by simpa using h) fun j b3 b1 aa ae=>?_⟩
   have:=ar (j+1) b3 b1 (by simpa using aa) (by simpa using ae)
   rw [show k+1+j=k + (j+1) from by omega]
   exact this
theorem GW:∀(os:List Oper) (dI:List Nat),(eF dI os).length=dI.length+os.length
 | [],dI=>rfl
 | o::os,dI=>by simp [eF,GW os];omega
section
variable {P:Program}
theorem J4 {o:Oper} {call:dw} {r:bt} {h ab:af} {v:V} (av:eP P o.op=false) (he:(fb P o).run call r h=.val v ab):ab=h:=by
 obtain ⟨dst,op,type,pos,after,guard⟩:=o
 cases op<;>simp only [eP] at av<;>try (cases av;done)
 all_goals simp only [fb] at he
 case convert s d x=>
  unfold py at he
  cases aO:aZ P s with
  | none=>rw [aO] at he;cases he
  | some sA=>
    cases aX:aZ P d with
    | none=>rw [aX] at av;cases av
    | some nI=>
      rw [aO,aX] at he
      rw [aX] at av
      simp only at he av
      cases hu:nI.a' with
      | int k=>
        rw [hu] at he
        obtain ⟨bp,n,_,aa⟩:=yN he
        simp only [aU.val.injEq] at aa
        exact aa.2.symm
      | slice e=>rw [hu] at av;cases av
      | string=>
        rw [hu] at he
        simp only at he
        have other:∀x:V,(match x with
         | .str s=>aU.val (.str s) h
         | .int _ n=>.val (.str (Utf8.encode n).data.toList) h
         | _=>.fail)=.val v ab→ab=h:=by
         intro x he
         cases x<;>simp only at he<;>first
          | (cases he;done)
          | (simp only [aU.val.injEq] at he;exact he.2.symm)
        cases Bg:sA.a' with
        | slice e=>
          rw [Bg] at he
          simp only at he
          cases cj:aZ P e with
          | none=>rw [cj] at he;cases he
          | some bb=>
            rw [cj] at he
            simp only at he
            have aeo:∀b off len,sC b off len h=.val v ab→ab=h:=by
             intro b off len he
             unfold sC at he
             cases aE:h.get b<;>rw [aE] at he<;>simp only [b4.om] at he<;>try (cases he;done)
             all_goals
              obtain ⟨_,ae⟩:=jP he
              cases X9:ny (kE _ off len)<;>rw [X9] at ae<;>first
               | (cases ae;done)
               | (simp only [aU.val.injEq] at ae;exact ae.2.symm)
            cases fl:bb.a' with
            | int yr=>
              rw [fl] at he
              cases yr<;>simp only at he<;>try (cases he;done)
              simp only [rP] at he
              cases ak:(bF x).run r<;>rw [ak] at he<;>simp only at he<;>first
               | (cases he;done)
               | exact aeo _ _ _ he
               | (simp only [aU.val.injEq] at he;exact he.2.symm)
            | _=>rw [fl] at he;cases he
        | _=>rw [Bg] at he;exact other _ he
      | _=>rw [hu] at he;cases he
 case call c=>
  obtain ⟨callee,args,types⟩:=c
  cases callee<;>simp only at av<;>try (cases av;done)
  rename_i b
  simp only [qz] at he
  cases b<;>simp only at av<;>try (cases av;done)
  · simp only [qx] at he
    cases fm:types.toList with
    | nil=>rw [fm] at he;simp [fL.none] at he
    | cons t cr=>
      cases cr with
      | cons _ _=>rw [fm] at he;simp [fL.none] at he
      | nil=>
        rw [fm] at he
        simp only at he
        cases ax:aZ P t with
        | none=>rw [ax] at he;simp [fL.none] at he
        | some aL=>
          rw [ax] at he
          rw [fm] at av
          simp only [Gy,ax] at av
          simp only [av,cond_false] at he
          split at he
          · exact (aU.h9 he).2
          · cases he
  · exact (aU.h9 he).2
  · exact (aU.h9 he).2
 case move=>simp only [aU.val.injEq] at he;exact he.2.symm
 case assign=>simp only [aU.val.injEq] at he;exact he.2.symm
 case pick c a b=>
  split at he
  · simp only [aU.val.injEq] at he;exact he.2.symm
  · cases he
 case makeFunc fn first eJ=>
  cases fn<;>simp only at he<;>try (simp [c7.none] at he;done)
  rename_i f
  cases ar:(first.isEmpty&&!Nat.beq f da)<;>rw [ar] at he
  · simp only [cond_false] at he
    cases iM:(eJ.isEmpty&&!Nat.beq f da)<;>rw [iM] at he
    · simp [c7.none] at he
    · simp only [cond_true,aU.val.injEq] at he;exact he.2.symm
  · simp only [cond_true,aU.val.injEq] at he;exact he.2.symm
 case typeAssert x sG t ok=>
  cases ax:aZ P t with
  | none=>rw [ax] at he;simp [c7.none] at he
  | some aL=>
    rw [ax] at he
    simp only at he
    cases ah:Nat.beq (e2 aL.a') 5<;>rw [ah] at he
    · exact (aU.h9 he).2
    · simp [c7.none] at he
 case makeInterface t x=>
  cases ax:aZ P t with
  | none=>rw [ax] at he;simp [c7.none] at he
  | some aL=>
    rw [ax] at he
    simp only at he
    cases ah:Nat.beq (e2 aL.a') 5<;>rw [ah] at he
    · simp only [cond_false,aU.val.injEq] at he;exact he.2.symm
    · simp [c7.none] at he
 case extract x i=>
  split at he
  · exact (aU.h9 he).2
  · cases he
 all_goals exact (aU.h9 he).2
theorem aU.um {h ab:af} {x:Option V} {v:V} (he:aU.of h x=.val v ab) (H:af):aU.of H x=.val v H:=by
 rw [(aU.h9 he).1];rfl
theorem J3 {o:Oper} {call:dw} {r:bt} {h ab:af} {v:V} (av:eP P o.op=false) (ao:looks o.op=false) (he:(fb P o).run call r h=.val v ab) (H:af):(fb P o).run call r H=.val v H:=by
 obtain ⟨dst,op,type,pos,after,guard⟩:=o
 cases op<;>simp only [eP] at av<;>try (cases av;done)
 all_goals simp only [looks] at ao<;>try (cases ao;done)
 all_goals simp only [fb] at he ⊢
 case call c=>
  obtain ⟨callee,args,types⟩:=c
  cases callee<;>simp only at av<;>try (cases av;done)
  rename_i b
  simp only [qz] at he ⊢
  cases b<;>simp only at av<;>try (cases av;done)
  · simp only [qx] at he ⊢
    cases fm:types.toList with
    | nil=>rw [fm] at he;simp [fL.none] at he
    | cons t cr=>
      cases cr with
      | cons _ _=>rw [fm] at he;simp [fL.none] at he
      | nil=>
        rw [fm] at he
        simp only at he ⊢
        cases ax:aZ P t with
        | none=>rw [ax] at he;simp [fL.none] at he
        | some aL=>
          rw [ax] at he
          rw [fm] at av
          simp only [Gy,ax] at av
          simp only [av,cond_false] at he ⊢
          split at he
          · exact aU.um he H
          · cases he
  · exact aU.um he H
  · exact aU.um he H
 case move=>simp only [aU.val.injEq] at he;rw [he.1]
 case assign=>simp only [aU.val.injEq] at he;rw [he.1]
 case pick c a b=>
  split at he
  · simp only [aU.val.injEq] at he;rw [he.1]
  · cases he
 case makeFunc fn first eJ=>
  cases fn<;>simp only at he ⊢<;>try (simp [c7.none] at he;done)
  rename_i f
  cases ar:(first.isEmpty&&!Nat.beq f da)<;>rw [ar] at he
  · simp only [cond_false] at he ⊢
    cases iM:(eJ.isEmpty&&!Nat.beq f da)<;>rw [iM] at he
    · simp [c7.none] at he
    · simp only [cond_true,aU.val.injEq] at he ⊢;exact ⟨he.1,trivial⟩
  · simp only [cond_true,aU.val.injEq] at he ⊢;exact ⟨he.1,trivial⟩
 case typeAssert x sG t ok=>
  cases ax:aZ P t with
  | none=>rw [ax] at he;simp [c7.none] at he
  | some aL=>
    rw [ax] at he
    simp only at he ⊢
    cases ah:Nat.beq (e2 aL.a') 5<;>rw [ah] at he
    · exact aU.um he H
    · simp [c7.none] at he
 case makeInterface t x=>
  cases ax:aZ P t with
  | none=>rw [ax] at he;simp [c7.none] at he
  | some aL=>
    rw [ax] at he
    simp only at he ⊢
    cases ah:Nat.beq (e2 aL.a') 5<;>rw [ah] at he
    · simp only [cond_false,aU.val.injEq] at he ⊢;exact ⟨he.1,trivial⟩
    · simp [c7.none] at he
 case extract x i=>
  split at he
  · exact aU.um he H
  · cases he
 all_goals exact aU.um he H
end
end Go.Proofs.YthemdhlheglhoaaGreatDoor.aY
namespace Go.Proofs.YthemdhlheglhoaaGreatDoor.aY
variable [Lay]
open Go Go.RowKit
section
variable {P:Program}
def I3 (P:Program) (E:Env) (m:Sem Value) (v:V) (h ab:af):Prop:=
 ∃k,ab=h.new k∧True∧∀w,∃X bk,m.run P w=.ok X {w with heap:=w.heap.push bk}∧
  ∀an,E.le an→an (ai h.next)=some ⟨w.heap.size,0,0⟩→Rel an v X∧∀B,B≤w.heap.size→hg B an {w with heap:=w.heap.push bk} (ai h.next) k
theorem G1 {E:Env} {h ab:af} {ad:List V} {l:List Value} (ao:a8 E ad l) (he:gg h ad=some ab) (t:TypeId):
 ∃k,ab=h.new k∧True∧∀w,(newRow t l.toArray).run P w=.ok ⟨w.heap.size,0,none⟩ {w with heap:=w.heap.push (.cells l.toArray t)}∧
  ∀an,E.le an→an (ai h.next)=some ⟨w.heap.size,0,0⟩→∀B,B≤w.heap.size→hg B an {w with heap:=w.heap.push (.cells l.toArray t)} (ai h.next) k:=by
 unfold gg at he
 obtain ⟨aD,he⟩:=en he
 rw [Nat.ble_eq] at aD
 cases he
 refine ⟨_,rfl,trivial,fun w=>⟨by simp [newRow],fun an hle dN B c9=>?_⟩⟩
 have:=AH (a8.mono hle _ _ ao) aD #[]
 rw [Array.append_empty] at this
 exact ⟨aD,_,_,t,(0,0),dN,c9,by simp,.inr (Nat.le_refl _),fun _=>rfl,fun h=>absurd rfl h,this⟩
theorem R5 {E:Env} {h ab:af} {t:TypeId} {n:Nat} {a_:List (Nat × V)} {jC:List (Nat × Value)} {v:V} (ag:qp E a_ jC) (he:(s7 P t n).run a_ h=.val v ab):
 I3 P E (Instr.buildSlice t n jC.toArray) v h ab:=by
 unfold s7 at he
 cases ax:aZ P t with
 | none=>rw [ax] at he;cases he
 | some aL=>
   rw [ax] at he
   simp only at he
   have hu:=fu ax
   cases bJ:aL.a' with
   | slice e=>
     rw [bJ] at he hu
     simp only at he
     cases cj:aZ P e with
     | none=>rw [cj] at he;cases he
     | some bb=>
       rw [cj] at he
       simp only at he
       cases bs:bb.zero with
       | none=>rw [bs] at he;cases he
       | some z=>
         rw [bs] at he
         simp only at he
         cases aD:(Nat.ble (n * bb.size) 1000000&&Nat.beq z.cells.length bb.size) with
         | false=>rw [aD] at he;cases he
         | true=>
           rw [aD] at he
           simp only [cond_true] at he
           simp only [Bool.and_eq_true,Nat.ble_eq,Nat.beq_eq] at aD
           cases ar:mj (fun i=>some (i * bb.size,bb.size)) (i_ z.cells n) a_ with
           | none=>rw [ar] at he;cases he
           | some cs=>
             rw [ar] at he
             simp only at he
             cases aS:gg h cs with
             | none=>rw [aS] at he;cases he
             | some aa=>
               rw [aS] at he
               simp only [aU.val.injEq] at he
               obtain ⟨rfl,rfl⟩:=he
               obtain ⟨x,ak,pX,pY⟩:=sI (P:=P) (E:=E) cj bs ⟨#[],fun _ _=>0,0,default,#[]⟩
               have tV:x.cells.size=bb.size:=by rw [pY,aD.2]
               have tT:=y' pX n
               rw [tV] at tT
               obtain ⟨b,kH,qK⟩:=xH (a:=(Array.range (n * bb.size)).map (x.cells[· % x.cells.size]!)) ag (by rw [tV];exact tT) ar
               obtain ⟨k,g1,g2,g3⟩:=G1 (P:=P) qK aS e
               refine ⟨k,g1,g2,fun w=>⟨.slice (some ⟨w.heap.size,0,none⟩) n n,.cells b e,?_,fun an hle dN=>⟨?_,?_⟩⟩⟩
               · have tK:¬16777216<n * bb.size:=by omega
                 have mn:(newRow e b).run P w=.ok ⟨w.heap.size,0,none⟩ {w with heap:=w.heap.push (.cells b e)}:=by simpa using (g3 w).1
                 by_cases a6:n * bb.size=0
                 · have Fb:Instr.fill (fun i=>some (i * bb.size,bb.size)) ((Array.range (n * bb.size)).map ((#[]:Array Value)[· % 0]!)) jC=some b:=by
                    have aP:(Array.range (n * bb.size)).map ((#[]:Array Value)[· % 0]!)=(Array.range (n * bb.size)).map (x.cells[· % x.cells.size]!):=by
                     rw [a6];simp
                    rw [aP];exact kH
                   have Fc:Instr.fill (fun i=>some (i * bb.size,bb.size)) ((Array.range (n * bb.size)).map (fun x=>(#[]:Array Value)[x % (#[]:Array Value).size]!)) jC=some b:=Fb
                   simp only [Instr.buildSlice,Sem.run_bind,hu,Result.andThen_ok,j5 cj,Sem.run_ite]
                   rw [if_neg tK]
                   simp only [Sem.run_pure,Result.andThen_ok,if_pos a6]
                   rw [Fc]
                   simp only [Sem.run_bind,mn,Result.andThen_ok,Sem.run_pure]
                 · simp only [Instr.buildSlice,Sem.run_bind,hu,Result.andThen_ok,j5 cj,Sem.run_ite]
                   rw [if_neg tK]
                   simp only [Sem.run_pure,Result.andThen_ok,if_neg a6,ak]
                   rw [kH]
                   simp only [Sem.run_bind,mn,Result.andThen_ok,Sem.run_pure]
               · simp only [Rel]
                 exact ⟨_,dN,Nat.le_refl _,by simp⟩
               · simpa using (g3 w).2 an hle dN
   | _=>rw [bJ] at he;cases he
set_option maxHeartbeats 2000000 in
theorem UD {E:Env} {h ab:af} {call:dw} {o:Oper} {al:Nat} {r:bt} {a:Act} {v:V} (bd:gw o=true) (he:(fb P o).run call r h=.val v ab) (k:RegRel0 E al r a):
 ∃m:Sem Value,execOp a.eval o=(do pure (.value (←m)))∧I3 P E m v h ab:=by
 obtain ⟨dst,op,type,pos,after,guard⟩:=o
 cases op<;>simp only [gw] at bd<;>try (cases bd;done)
 all_goals simp only [fb] at he
 case alloc t=>
  refine ⟨Instr.alloc t true (.tuple #[]),rfl,?_⟩
  cases ax:aZ P t with
  | none=>rw [ax] at he;simp [c7.none] at he
  | some aL=>
    rw [ax] at he
    simp only at he
    cases bs:aL.zero with
    | none=>rw [bs] at he;simp [c7.none] at he
    | some z=>
      rw [bs] at he
      simp only at he
      cases aS:gg h z.cells with
      | none=>rw [aS] at he;cases he
      | some aa=>
        rw [aS] at he
        simp only [gI,aU.val.injEq] at he;obtain ⟨rfl,rfl⟩:=he
        obtain ⟨x,ak,pX,_⟩:=sI (P:=P) (E:=E) ax bs ⟨#[],fun _ _=>0,0,default,#[]⟩
        obtain ⟨cV,g1,g2,g3⟩:=G1 (P:=P) pX aS t
        refine ⟨cV,g1,g2,fun w=>⟨.pointer (some ⟨w.heap.size,0,none⟩),.cells x.cells t,?_,fun an hle dN=>⟨?_,?_⟩⟩⟩
        · have:=(g3 w).1
          simp only [Array.toArray_toList] at this
          simp only [Instr.alloc,Sem.run_bind,ak,Result.andThen_ok,newVar,this,Sem.run_pure]
        · simp only [Rel];exact ⟨_,dN,by simp⟩
        · simpa using (g3 w).2 an hle dN
 case box t x=>
  refine ⟨Instr.box t (a.eval x),rfl,?_⟩
  obtain ⟨aE,he⟩:=jP he
  cases aS:gg h ((bF x).run r).cells with
  | none=>rw [aS] at he;cases he
  | some aa=>
    rw [aS] at he
    simp only [gI,aU.val.injEq] at he;obtain ⟨rfl,rfl⟩:=he
    have ao:=(dx k x).cells (fun e=>by rw [e] at aE;cases aE)
    obtain ⟨cV,g1,g2,g3⟩:=G1 (P:=P) ao aS t
    refine ⟨cV,g1,g2,fun w=>⟨.pointer (some ⟨w.heap.size,0,none⟩),.cells (a.eval x).cells t,?_,fun an hle dN=>⟨?_,?_⟩⟩⟩
    · have:=(g3 w).1
      simp only [Array.toArray_toList] at this
      simp only [Instr.box,Sem.run_bind,newVar,this,Result.andThen_ok,Sem.run_pure]
    · simp only [Rel];exact ⟨_,dN,by simp⟩
    · simpa using (g3 w).2 an hle dN
 case buildSlice t n a_=>
  refine ⟨Instr.buildSlice t n (a_.map fun (i,x)=>(i,a.eval x)),rfl,?_⟩
  rw [Hk]
  exact R5 (B2 k a_.toList) he
 case makeMap t x=>
  cases x with
  | some _=>cases bd
  | none=>
    refine ⟨Instr.makeMap t none,rfl,?_⟩
    simp only [p9,wm] at he
    cases ax:aZ P t with
    | none=>rw [ax] at he;cases he
    | some aL=>
      rw [ax] at he
      simp only at he
      cases ah:Nat.beq (e2 aL.a') 3 with
      | false=>rw [ah] at he;cases he
      | true=>
        rw [ah] at he
        simp only [cond_true,o4,uj] at he
        simp only [aU.val.injEq] at he
        obtain ⟨rfl,rfl⟩:=he
        refine ⟨_,rfl,trivial,fun w=>⟨.map (some w.heap.size),.map #[] 0,?_,fun an hle dN=>⟨?_,fun B c9=>?_⟩⟩⟩
        · simp only [Instr.makeMap,Sem.run_bind,run_newObj,Result.andThen_ok,Sem.run_pure]
        · simp only [Rel];exact ⟨_,dN,rfl⟩
        · exact ⟨_,#[],dN,c9,by simp,rfl⟩
def Fr.hold (F:Fr) (b:aN) (k:b4):Fr:=⟨F.w,fun bH=>if bH=b then some k else F.c6 bH⟩
def Fr.free (F:Fr) (b:aN):Fr:=⟨F.w,fun bH=>if bH=b then none else F.c6 bH⟩
theorem a1.hold {F:Fr} {E:Env} {h:af} {w:World} (s:a1 F E h w) (k:b4):a1 (F.hold (ai h.next) k) E (h.new k) w:=by
 have cZ:=s.fresh h.next (Nat.le_refl _)
 refine ⟨fun b ah=>?_,fun b bp ay=>?_,fun b bH p p' aa ae aP bl h3=>?_,fun i aF=>s.fresh i (Nat.le_of_succ_le aF),s.frame,s.laid,fun b p n cs st aa aP=>s.base b p n cs st (by
  have cz:ai h.next≠b:=fun e=>by rw [←e,cZ] at aP;cases aP
  rwa [af.h1,if_neg cz] at aa) aP⟩
 · simp only [Fr.hold] at ah
   by_cases av:b=ai h.next
   · rw [if_pos av] at ah;cases ah
   · rw [if_neg av] at ah
     rw [af.h1,if_neg (fun e=>av e.symm)]
     exact s.bc b ah
 · simp only [Fr.hold] at ay
   by_cases av:b=ai h.next
   · rw [if_pos av] at ay
     cases ay
     exact ⟨by rw [af.h1,if_pos av.symm],by rw [av];exact cZ,h.next,Nat.lt_succ_self _,av⟩
   · rw [if_neg av] at ay
     obtain ⟨au,az,i,aM,bU⟩:=s.o9 b bp ay
     exact ⟨by rw [af.h1,if_neg (fun e=>av e.symm)];exact au,az,i,Nat.lt_succ_of_lt aM,bU⟩
 · have cz:ai h.next≠b:=fun e=>by rw [←e,cZ] at aP;cases aP
   have ha:ai h.next≠bH:=fun e=>by rw [←e,cZ] at bl;cases bl
   rw [af.h1,if_neg cz] at aa
   rw [af.h1,if_neg ha] at ae
   exact s.inj b bH p p' aa ae aP bl h3
theorem a1.link {F:Fr} {E:Env} {h:af} {w:World} (s:a1 F E h w) {b:aN} {k:b4} (ag:F.c6 b=some k) {o:Obj}
 (jX:hg F.w.heap.size (E.put b ⟨w.heap.size,0,0⟩) {w with heap:=w.heap.push o} b k):
 E.le (E.put b ⟨w.heap.size,0,0⟩)∧a1 (F.free b) (E.put b ⟨w.heap.size,0,0⟩) h {w with heap:=w.heap.push o}:=by
 obtain ⟨ay,cZ,i0,tF,tu⟩:=s.o9 b k ag
 have hle:E.le (E.put b ⟨w.heap.size,0,0⟩):=Env.lk cZ
 have dN:E.put b ⟨w.heap.size,0,0⟩ b=some ⟨w.heap.size,0,0⟩:=by unfold Env.put;rw [if_pos rfl]
 have hold:∀bH,bH≠b→E.put b ⟨w.heap.size,0,0⟩ bH=E bH:=by intro bH ah;unfold Env.put;rw [if_neg ah]
 have jT:∀bH q,E bH=some q→(h.get bH)≠.dead→q.bc<w.heap.size:=by
  intro bH q av aX
  have ah:=s.at av
  cases aE:h.get bH with
  | dead=>exact absurd aE aX
  | view n cs=>rw [aE] at ah;obtain ⟨_,ew,c,el,bN,e,_,ba,_⟩:=ah;rw [e] at av;cases av;exact (Array.getElem?_eq_some_iff.1 ba).1
  | cells n cs cP st=>rw [aE] at ah;obtain ⟨_,ew,c,el,bN,e,_,ba,_⟩:=ah;rw [e] at av;cases av;exact (Array.getElem?_eq_some_iff.1 ba).1
  | iter st pos=>rw [aE] at ah;obtain ⟨ew,e,_,_,ba⟩:=ah;rw [e] at av;cases av;exact (Array.getElem?_eq_some_iff.1 ba).1
  | mp es clock=>rw [aE] at ah;obtain ⟨ew,a,e,_,ba,_⟩:=ah;rw [e] at av;cases av;exact (Array.getElem?_eq_some_iff.1 ba).1
  | cg l=>rw [aE] at ah;obtain ⟨ew,a,e,_,ba,_⟩:=ah;rw [e] at av;cases av;exact (Array.getElem?_eq_some_iff.1 ba).1
  | eD=>rw [aE] at ah;obtain ⟨ew,e,_,ba⟩:=ah;rw [e] at av;cases av;exact (Array.getElem?_eq_some_iff.1 ba).1
  | iW es=>rw [aE] at ah;obtain ⟨ew,a,c,l,e,_,ba,_⟩:=ah;rw [e] at av;cases av;exact (Array.getElem?_eq_some_iff.1 ba).1
  | iU src since seen last=>rw [aE] at ah;obtain ⟨ew,m,a,e,_,_,ba,_⟩:=ah;rw [e] at av;cases av;exact (Array.getElem?_eq_some_iff.1 ba).1
 refine ⟨hle,fun bH gZ=>?_,fun bH bp hA=>?_,fun cx cn bu bB aa ae aP bl h3=>?_,fun i aF=>?_,⟨s.frame.os,s.frame.tape,s.frame.output,?_,fun j bK=>?_⟩,s.laid,fun cx bu n cs st aa aP=>by
  by_cases bL:cx=b
  · subst bL;rw [dN] at aP;cases aP;rfl
  · rw [hold cx bL] at aP;exact s.base _ _ _ _ _ aa aP⟩
 · by_cases av:bH=b
   · subst av;rw [ay];exact jX
   · simp only [Fr.free,if_neg av] at gZ
     have a6:=(s.bc bH gZ).mono hle
     by_cases aX:h.get bH=.dead
     · rw [aX];trivial
     · refine hg.gS a6 fun q oV=>?_
       rw [hold bH av] at oV
       have:=jT bH q oV aX
       simp only [Array.getElem?_push]
       rw [if_neg (by omega)]
 · simp only [Fr.free] at hA
   by_cases av:bH=b
   · rw [if_pos av] at hA;cases hA
   · rw [if_neg av] at hA
     obtain ⟨au,az,aM⟩:=s.o9 bH bp hA
     exact ⟨au,by rw [hold bH av];exact az,aM⟩
 · by_cases bL:cx=b<;>by_cases b0:cn=b
   · exact bL.trans b0.symm
   · subst bL
     rw [dN] at aP;cases aP
     rw [hold cn b0] at bl
     have:=jT cn bB bl (fun e=>by rw [e] at ae;cases ae)
     simp only at h3
     omega
   · subst b0
     rw [dN] at bl;cases bl
     rw [hold cx bL] at aP
     have:=jT cx bu aP (fun e=>by rw [e] at aa;cases aa)
     simp only at h3
     omega
   · rw [hold cx bL] at aP
     rw [hold cn b0] at bl
     exact s.inj cx cn bu bB aa ae aP bl h3
 · rw [hold _ (fun e=>?_)]
   · exact s.fresh i aF
   · rw [tu] at e
     have:=dR e
     omega
 · have:=s.frame.size
   simp only [Array.size_push,Fr.free]
   omega
 · have aa:=s.frame.size
   simp only [Fr.free,Array.getElem?_push]
   rw [if_neg (by simp only [Fr.free] at bK;omega)]
   exact s.frame.block j bK
end
end Go.Proofs.YthemdhlheglhoaaGreatDoor.aY
namespace Go.Proofs.YthemdhlheglhoaaGreatDoor.aY
variable [Lay]
open Go Go.RowKit
section
variable {P:Program}
def dY (es:List eM) (cL:bt) (i:Nat):bt:=
 match es[i]? with
 | some e=>e.r
 | none=>cL
theorem vC (e:eM) (es:List eM) (ar:af) (i:Nat):b2 (e::es) ar (i+1)=b2 es ar i:=by simp [b2]
theorem wI (e:eM) (es:List eM) (cL:bt) (i:Nat):dY (e::es) cL (i+1)=dY es cL i:=by simp [dY]
theorem sB {al:Nat} {all:Array Oper} {call:dw}:∀{l:List Oper} {r cL:bt} {h ar:af} {es:List eM},(fq P al all l).run call r h=.ok es cL ar→
 es.length=l.length∧b2 es ar 0=h∧dY es cL 0=r∧∀j o,l[j]? =some o→∃e,es[j]? =some e∧(ck P al all o).run call e.r e.h=.val e.v (b2 es ar (j+1))∧dY es cL (j+1)=(ft o.dst).run e.r e.v
 | [],r,cL,h,ar,es,he=>by
   simp only [fq,pj.ok.injEq] at he
   obtain ⟨rfl,rfl,rfl⟩:=he
   exact ⟨rfl,rfl,rfl,fun j o aQ=>by simp at aQ⟩
 | o::os,r,cL,h,ar,es,he=>by
   simp only [fq,zf] at he
   cases aa:(ck P al all o).run call r h with
   | fail=>rw [aa] at he;cases he
   | cv _ _=>rw [aa] at he;simp only at he;cases hm:ln o.op<;>rw [hm] at he<;>cases he
   | val v ba=>
     rw [aa] at he
     simp only at he
     cases ae:(fq P al all os).run call ((ft o.dst).run r v) ba with
     | fail=>rw [ae] at he;cases he
     | cv _ _ _ _ _=>rw [ae] at he;cases he
     | ok hk bS aH=>
       rw [ae] at he
       simp only [pj.ok.injEq] at he
       obtain ⟨rfl,rfl,rfl⟩:=he
       obtain ⟨au,az,aM,bU⟩:=sB ae
       refine ⟨by simp [au],by simp [b2],by simp [dY],fun j b1 aQ=>?_⟩
       cases j with
       | zero=>
         simp only [List.getElem?_cons_zero,Option.some.injEq] at aQ
         subst aQ
         exact ⟨⟨r,h,v⟩,rfl,by rw [vC,az];exact aa,by rw [wI,aM]⟩
       | succ j=>
         obtain ⟨e,bu,bB,dP⟩:=bU j b1 (by simpa using aQ)
         exact ⟨e,by simpa using bu,by rw [vC];exact bB,by rw [wI];exact dP⟩
theorem Pn {al:Nat} {all:Array Oper} {call:dw}:∀{l:List Oper} {r cL:bt} {h ar ab:af} {es:List eM} {v:V},(fq P al all l).run call r h=.cv es cL ar v ab→
 b2 es ar 0=h∧dY es cL 0=r∧(∀j o,j<es.length→l[j]? =some o→∃e,es[j]? =some e∧(ck P al all o).run call e.r e.h=.val e.v (b2 es ar (j+1))∧dY es cL (j+1)=(ft o.dst).run e.r e.v)∧
  ∃o,l[es.length]? =some o∧ln o.op=true∧(ck P al all o).run call cL ar=.cv v ab
 | [],r,cL,h,ar,ab,es,v,he=>by simp [fq] at he
 | o::os,r,cL,h,ar,ab,es,v,he=>by
   simp only [fq,zf] at he
   cases aa:(ck P al all o).run call r h with
   | fail=>rw [aa] at he;cases he
   | cv x ak=>
     rw [aa] at he
     simp only at he
     cases hm:ln o.op with
     | false=>rw [hm] at he;cases he
     | true=>
       rw [hm] at he
       simp only [cond_true,pj.cv.injEq] at he
       obtain ⟨rfl,rfl,rfl,rfl,rfl⟩:=he
       exact ⟨rfl,rfl,fun j b1 bK=>by simp at bK,o,rfl,hm,aa⟩
   | val x ba=>
     rw [aa] at he
     simp only at he
     cases ae:(fq P al all os).run call ((ft o.dst).run r x) ba with
     | fail=>rw [ae] at he;cases he
     | ok _ _ _=>rw [ae] at he;cases he
     | cv hk bS aH v1 bf=>
       rw [ae] at he
       simp only [pj.cv.injEq] at he
       obtain ⟨rfl,rfl,rfl,rfl,rfl⟩:=he
       obtain ⟨az,aM,bU,bC,ey,fP,j3⟩:=Pn ae
       refine ⟨by simp [b2],by simp [dY],fun j b1 bK aQ=>?_,bC,by simpa using ey,fP,j3⟩
       cases j with
       | zero=>
         simp only [List.getElem?_cons_zero,Option.some.injEq] at aQ
         subst aQ
         exact ⟨⟨r,h,x⟩,rfl,by rw [vC,az];exact aa,by rw [wI,aM]⟩
       | succ j=>
         obtain ⟨e,bu,bB,dP⟩:=bU j b1 (by simpa using bK) (by simpa using aQ)
         exact ⟨e,by simpa using bu,by rw [vC];exact bB,by rw [wI];exact dP⟩
theorem K1 {al:Nat} {d:Option Nat} (aX:fe al d=true) {r:bt} {v:V} {t:Nat} (ax:t≤top):T.get .bad (ai t) ((ft d).run r v)=if d=some t then v else T.get .bad (ai t) r:=by
 cases d with
 | none=>simp [ft]
 | some d=>
   simp only [fe,Bool.and_eq_true,Nat.blt_eq,Nat.ble_eq] at aX
   simp only [ft,T.hM,Option.some.injEq]
   by_cases h:d=t
   · subst h;simp
   · rw [if_neg (fun e=>h (dR e)),if_neg h]
theorem j_ {al:Nat} {all:Array Oper} {o:Oper} {call:dw} {r:bt} {h ab:af} {v:V} (he:(ck P al all o).run call r h=.val v ab):fe al o.dst=true∧kq (bZ all o)=true:=by
 unfold ck at he
 cases aD:(fe al o.dst&&kq (bZ all o)) with
 | false=>rw [aD] at he;simp [c7.none] at he
 | true=>simpa using aD
theorem PI {r:bt} {rs:List Nat} (aO:kq rs=true) {t:Nat} (ax:t≤top):T.get .bad (ai t) (dc r rs)=if t ∈ rs then T.get .bad (ai t) r else .bad:=by
 induction rs with
 | nil=>simp [dc]
 | cons u rs bj=>
   simp only [kq,List.all_cons,Bool.and_eq_true,Nat.ble_eq] at aO
   simp only [dc,T.hM,List.mem_cons]
   by_cases h:u=t
   · subst h;simp
   · rw [if_neg (fun e=>h (dR e)),bj aO.2]
     have ab:¬t=u:=fun e=>h e.symm
     simp [ab]
theorem Ke {al:Nat} {all:Array Oper} {o:Oper} {call:dw} {r:bt} {h ab:af} {v:V} (he:(ck P al all o).run call r h=.cv v ab):fe al o.dst=true∧kq (bZ all o)=true:=by
 unfold ck at he
 cases aD:(fe al o.dst&&kq (bZ all o)) with
 | false=>rw [aD] at he;simp [c7.none] at he
 | true=>simpa using aD
def Da (aq:Fr) (E:Env) (o:Oper) (a:Act) (K:Act→World→Prop) (Q:Exit→Act→World→Prop):aU→Prop
 | .val v ab=>∀an x aj,E.le an→Rel an v x→a1 aq an ab aj→K (a.put o.dst x) aj
 | .cv v ab=>ln o.op=true∧∀an x aj,E.le an→Rel an v x→a1 aq an ab aj→Q (.panic (o7 x)) a aj
 | .fail=>False
theorem Kf {rd:Option Nat} {aq:Fr} {E:Env} {h:af} {w:World} {call:dw} (bD:eI P) (cD:gz P call) (de:gN P call) {all:Array Oper} {i:Nat} {o:Oper} (aF:all[i]? =some o) {al:Nat} {r:bt} {a:Act}
 (g':fe al o.dst=true∧kq (bZ all o)=true) (oX:a.tmps.size=al) (kg:∀t ∈ bZ all o,Rel E (T.get .bad (ai t) r) (a.tmps.getD t undef)) (s:a1 aq E h w)
 {K:Act→World→Prop} {Q:Exit→Act→World→Prop} (ag:Da aq E o a K Q ((ck P al all o).run call r h)):wpOpIn (ca rd) 0 P all Q i K a w:=by
 obtain ⟨aX,aO⟩:=g'
 have k:RegRel0 E al (dc r (bZ all o)) a:=⟨oX,fun t ax=>by
  rw [PI aO ax]
  by_cases hm:t ∈ bZ all o
  · rw [if_pos hm];exact kg t hm
  · rw [if_neg hm];simp [Rel]⟩
 unfold ck at ag
 rw [show (fe al o.dst&&kq (bZ all o))=true from by rw [aX,aO];rfl] at ag
 simp only [cond_true] at ag
 have wanted:Da aq E o a K Q ((fb P o).run call (dc r (bZ all o)) h)→Region.wanted o (yielded all a.tmps)=true→wpOpIn (ca rd) 0 P all Q i K a w:=by
  intro aa hw
  simp only [wpOpIn,aF,hw,if_true]
  cases aG:(fb P o).run call (dc r (bZ all o)) h with
  | fail=>rw [aG] at aa;exact aa.elim
  | val v ab=>rw [aG] at aa;exact J5 bD cD de aG k s aa
  | cv v ab=>rw [aG] at aa;exact J2 bD cD aa.1 aG k s aa.2
 have PR:Da aq E o a K Q (.val (.tuple []) h)→Region.wanted o (yielded all a.tmps)=false→wpOpIn (ca rd) 0 P all Q i K a w:=by
  intro aa hw
  simp only [wpOpIn,aF,hw,Bool.false_eq_true,if_false]
  exact ⟨fun _ _=>trivial,aa E undef w (Env.le.refl E) (by simp only [Rel];exact ⟨#[],rfl,rfl⟩) s⟩
 cases aE:o.guard with
 | none=>
   rw [aE] at ag
   exact wanted ag (by simp [Region.wanted,aE])
 | some oY=>
   obtain ⟨j,want⟩:=oY
   rw [aE] at ag
   simp only at ag
   cases bK:all[j]? with
   | none=>rw [bK] at ag;exact ag.elim
   | some g=>
     rw [bK] at ag
     simp only at ag
     cases kf:g.dst with
     | none=>rw [kf] at ag;exact ag.elim
     | some d=>
       rw [kf] at ag
       simp only at ag
       cases aD:(Nat.blt d al&&Nat.ble d top) with
       | false=>rw [aD] at ag;exact ag.elim
       | true=>
         rw [aD] at ag
         simp only [cond_true,iv,nL] at ag
         simp only [Bool.and_eq_true,Nat.blt_eq,Nat.ble_eq] at aD
         obtain ⟨g1,g2⟩:=E4 k bK kf aD.1 aD.2
         cases br:T.get .bad (ai d) (dc r (bZ all o))<;>rw [br] at ag<;>simp only at ag<;>try (exact ag.elim)
         · rename_i b
           have a7:=g1 b br
           cases ah:(bif want then b else !b) with
           | true=>
             rw [ah] at ag
             simp only [cond_true] at ag
             refine wanted ag ?_
             simp only [Region.wanted,aE,a7]
             cases want<;>cases b<;>simp_all
           | false=>
             rw [ah] at ag
             simp only [cond_false] at ag
             refine PR ag ?_
             simp only [Region.wanted,aE,a7]
             cases want<;>cases b<;>simp_all
         · rename_i ad
           have a7:=g2 ad br
           refine PR ag ?_
           simp only [Region.wanted,aE,a7]
           rfl
theorem pz {rd:Option Nat} {aq:Fr} {E:Env} {h ab:af} {w:World} {call:dw} (bD:eI P) (cD:gz P call) (de:gN P call) {all:Array Oper} {i:Nat} {o:Oper} (aF:all[i]? =some o) {al:Nat} {r:bt} {a:Act} {v:V}
 (he:(ck P al all o).run call r h=.val v ab) (oX:a.tmps.size=al) (kg:∀t ∈ bZ all o,Rel E (T.get .bad (ai t) r) (a.tmps.getD t undef)) (s:a1 aq E h w)
 {K:Act→World→Prop} {Q:Exit→Act→World→Prop} (dH:∀an x aj,E.le an→Rel an v x→a1 aq an ab aj→K (a.put o.dst x) aj):wpOpIn (ca rd) 0 P all Q i K a w:=
 Kf bD cD de aF (j_ he) oX kg s (by rw [he];exact dH)
theorem UU {rd:Option Nat} {aq:Fr} {E:Env} {h ab:af} {w:World} {call:dw} (bD:eI P) (cD:gz P call) (de:gN P call) {all:Array Oper} {i:Nat} {o:Oper} (aF:all[i]? =some o) {al:Nat} {r:bt} {a:Act} {v:V}
 (he:(ck P al all o).run call r h=.cv v ab) (hm:ln o.op=true) (oX:a.tmps.size=al) (kg:∀t ∈ bZ all o,Rel E (T.get .bad (ai t) r) (a.tmps.getD t undef)) (s:a1 aq E h w)
 {K:Act→World→Prop} {Q:Exit→Act→World→Prop} (c2:∀an x aj,E.le an→Rel an v x→a1 aq an ab aj→Q (.panic (o7 x)) a aj):wpOpIn (ca rd) 0 P all Q i K a w:=
 Kf bD cD de aF (Ke he) oX kg s (by rw [he];exact ⟨hm,c2⟩)
theorem tb {al:Nat} {all:Array Oper} {o:Oper} {call:dw} {r:bt} {h ab:af} {v:V} (av:eP P o.op=false) (he:(ck P al all o).run call r h=.val v ab):
 ab=h∧(looks o.op=false→∀H,(ck P al all o).run call r H=.val v H):=by
 obtain ⟨aX,aO⟩:=j_ he
 have cR:(fe al o.dst&&kq (bZ all o))=true:=by rw [aX,aO];rfl
 have key:ck P al all o=(match o.guard with
  | none=>⟨iv none (fb P o) (bZ all o)⟩
  | some (j,want)=>match all[j]? with
    | some g=>match g.dst with
      | some d=>bif Nat.blt d al&&Nat.ble d top then ⟨iv (some (nL (ai d),want)) (fb P o) (bZ all o)⟩ else c7.none
      | none=>c7.none
    | none=>c7.none):=by
  unfold ck;rw [cR];rfl
 rw [key] at he ⊢
 cases aE:o.guard with
 | none=>
   rw [aE] at he
   exact ⟨J4 av he,fun ao H=>J3 av ao he H⟩
 | some oY=>
   obtain ⟨j,want⟩:=oY
   rw [aE] at he
   simp only at he ⊢
   cases bK:all[j]? with
   | none=>rw [bK] at he;simp [c7.none] at he
   | some g=>
     rw [bK] at he
     simp only at he ⊢
     cases kf:g.dst with
     | none=>rw [kf] at he;simp [c7.none] at he
     | some d=>
       rw [kf] at he
       simp only at he ⊢
       cases aD:(Nat.blt d al&&Nat.ble d top) with
       | false=>rw [aD] at he;simp [c7.none] at he
       | true=>
         rw [aD] at he
         simp only [cond_true,iv] at he ⊢
         cases br:(nL (ai d)).run (dc r (bZ all o))<;>rw [br] at he<;>simp only at he ⊢<;>try (cases he;done)
         · rename_i b
           cases ah:(bif want then b else !b)<;>rw [ah] at he<;>simp only [cond_true,cond_false] at he ⊢
           · simp only [aU.val.injEq] at he ⊢
             exact ⟨he.2.symm,fun _ H=>⟨he.1,trivial⟩⟩
           · exact ⟨J4 av he,fun ao H=>J3 av ao he H⟩
         · simp only [aU.val.injEq] at he ⊢
           exact ⟨he.2.symm,fun _ H=>⟨he.1,trivial⟩⟩
theorem Jm {op:c7} {call:dw} {es:List eM} {ar:af} {r:bt} {v:V}:∀{fp:List Nat},zS op call es ar r v fp=true→∀s ∈ fp,∃ab,op.run call r (b2 es ar s)=.val v ab
 | [],_,s,h=>by simp at h
 | fY::fp,he,s,hm=>by
   simp only [zS,Bool.and_eq_true] at he
   simp only [List.mem_cons] at hm
   rcases hm with rfl | hm
   · have aa:=he.1
     cases aG:op.run call r (b2 es ar s) with
     | fail=>rw [aG] at aa;cases aa
     | cv _ _=>rw [aG] at aa;cases aa
     | val e4 ab=>
       rw [aG] at aa
       rw [EP aa]
       exact ⟨ab,rfl⟩
   · exact Jm he.2 s hm
theorem Dw {al:Nat} {all:Array Oper} {dI aw ei:List Nat} {call:dw} {es:List eM} {ar:af}:∀{l:List Oper} {i:Nat},(qu P al all dI aw ei i l).run call es ar=true→
 ∀j o,l[j]? =some o→looks o.op=true→eP P o.op=false→∀e,es[posOf aw (i+j)]? =some e→∀s ∈ ei,q4 P dI all.toList aw (i+j) ((dI[i+j]?).getD 0) s=true→∃ab,(ck P al all o).run call e.r (b2 es ar s)=.val e.v ab
 | [],_,_,j,o,aQ,_,_=>by simp at aQ
 | b1::os,i,he,j,o,aQ,ao,av=>by
   simp only [qu] at he
   cases j with
   | zero=>
     simp only [List.getElem?_cons_zero,Option.some.injEq] at aQ
     subst aQ
     rw [ao,av] at he
     simp only [Bool.not_false,Bool.and_true,cond_true,Bool.and_eq_true,Jn] at he
     have aa:=he.1
     intro e nO s aO hm
     · rw [Nat.add_zero] at nO
       rw [nO] at aa
       exact Jm aa s (List.mem_filter.2 ⟨aO,by simpa using hm⟩)
   | succ j=>
     have rest:(qu P al all dI aw ei (i+1) os).run call es ar=true:=by
      cases aD:(looks b1.op&&!eP P b1.op) with
      | false=>rw [aD] at he;exact he
      | true=>rw [aD] at he;simp only [cond_true,Bool.and_eq_true] at he;exact he.2
     have:=Dw rest j o (by simpa using aQ) ao av
     rw [show i + (j+1)=i+1+j from by omega]
     exact this
theorem wj {aw:List Nat}:∀{l:List Oper} {i j:Nat} {o:Oper},l[j]? =some o→dU P o=true→posOf aw (i+j) ∈ ht P aw i l
 | [],_,j,o,h,_=>by simp at h
 | b1::os,i,j,o,h,he=>by
   simp only [ht]
   cases j with
   | zero=>
     simp only [List.getElem?_cons_zero,Option.some.injEq] at h
     subst h
     rw [he]
     simp
   | succ j=>
     have:=wj (aw:=aw) (i:=i+1) (by simpa using h) he
     rw [show i + (j+1)=i+1+j from by omega]
     cases dU P b1 with
     | true=>simp [this]
     | false=>exact this
theorem Bz {aw:List Nat}:∀{l:List Oper} {i:Nat},i+l.length ∈ ht P aw i l
 | [],_=>by simp [ht]
 | o::os,i=>by
   have:=Bz (aw:=aw) (l:=os) (i:=i+1)
   simp only [ht,List.length_cons]
   rw [show i + (os.length+1)=i+1+os.length from by omega]
   cases dU P o with
   | true=>simp [this]
   | false=>exact this
theorem se {aw:List Nat}:∀{l:List Oper} {i s:Nat},s ∈ ht P aw i l→s=i+l.length∨∃j o,l[j]? =some o∧dU P o=true∧s=posOf aw (i+j)
 | [],i,s,h=>by simp only [ht,List.mem_singleton] at h;exact .inl (by simpa using h)
 | o::os,i,s,h=>by
   simp only [ht] at h
   have rest:s ∈ ht P aw (i+1) os→s=i + (o::os).length∨∃j b1,(o::os)[j]? =some b1∧dU P b1=true∧s=posOf aw (i+j):=by
    intro h
    rcases se h with h | ⟨j,b1,aa,ae,aH⟩
    · exact .inl (by simp only [List.length_cons];omega)
    · exact .inr ⟨j+1,b1,by simpa using aa,ae,by rw [aH];congr 1;omega⟩
   cases aD:dU P o with
   | true=>
     rw [aD] at h
     simp only [cond_true,List.mem_cons] at h
     rcases h with h | h
     · exact .inr ⟨0,o,rfl,aD,h⟩
     · exact rest h
   | false=>rw [aD] at h;exact rest h
theorem UE {o:Oper} {call:dw} {r:bt} {h ab:af} {v:V} (bd:gw o=true) (he:(fb P o).run call r h=.val v ab):∃k,ab=h.new k∧True:=by
 have cells:∀{ad:List V} {aa:af},gg h ad=some aa→∃k,aa=h.new k∧True:=by
  intro ad aa he
  unfold gg at he
  obtain ⟨aD,he⟩:=en he
  cases he
  exact ⟨_,rfl,trivial⟩
 obtain ⟨dst,op,type,pos,after,guard⟩:=o
 cases op<;>simp only [gw] at bd<;>try (cases bd;done)
 all_goals simp only [fb] at he
 case alloc t=>
  cases ax:aZ P t with
  | none=>rw [ax] at he;simp [c7.none] at he
  | some aL=>
    rw [ax] at he
    simp only at he
    cases bs:aL.zero with
    | none=>rw [bs] at he;simp [c7.none] at he
    | some z=>
      rw [bs] at he
      simp only at he
      cases aS:gg h z.cells with
      | none=>rw [aS] at he;cases he
      | some aa=>
        rw [aS] at he
        simp only [gI,aU.val.injEq] at he;obtain ⟨_,rfl⟩:=he
        exact cells aS
 case box t x=>
  obtain ⟨aE,he⟩:=jP he
  cases aS:gg h ((bF x).run r).cells with
  | none=>rw [aS] at he;cases he
  | some aa=>
    rw [aS] at he
    simp only [gI,aU.val.injEq] at he;obtain ⟨_,rfl⟩:=he
    exact cells aS
 case buildSlice t n a_=>
  unfold s7 at he
  cases ax:aZ P t with
  | none=>rw [ax] at he;cases he
  | some aL=>
    rw [ax] at he
    simp only at he
    cases bJ:aL.a'<;>rw [bJ] at he<;>simp only at he<;>try (cases he;done)
    rename_i e
    cases cj:aZ P e with
    | none=>rw [cj] at he;cases he
    | some bb=>
      rw [cj] at he
      simp only at he
      cases bs:bb.zero with
      | none=>rw [bs] at he;cases he
      | some z=>
        rw [bs] at he
        simp only at he
        cases aD:(Nat.ble (n * bb.size) 1000000&&Nat.beq z.cells.length bb.size) with
        | false=>rw [aD] at he;cases he
        | true=>
          rw [aD] at he
          simp only [cond_true] at he
          cases ar:mj (fun i=>some (i * bb.size,bb.size)) (i_ z.cells n) ((sq a_.toList).run r) with
          | none=>rw [ar] at he;cases he
          | some cs=>
            rw [ar] at he
            simp only at he
            cases aS:gg h cs with
            | none=>rw [aS] at he;cases he
            | some aa=>
              rw [aS] at he
              simp only [aU.val.injEq] at he
              obtain ⟨_,rfl⟩:=he
              exact cells aS
 case makeMap t x=>
  cases x with
  | some _=>cases bd
  | none=>
    simp only [p9,wm] at he
    cases ax:aZ P t with
    | none=>rw [ax] at he;cases he
    | some aL=>
      rw [ax] at he
      simp only at he
      cases ah:Nat.beq (e2 aL.a') 3 with
      | false=>rw [ah] at he;cases he
      | true=>
        rw [ah] at he
        simp only [cond_true,o4,uj] at he
        simp only [aU.val.injEq] at he
        exact ⟨_,he.2.symm,trivial⟩
theorem YH {o:Oper} (bd:gw o=true):eP P o.op=true:=by
 obtain ⟨dst,op,type,pos,after,guard⟩:=o
 cases op<;>simp only [gw] at bd<;>first | (cases bd;done) | rfl
theorem Kh {al:Nat} {all:Array Oper} {o:Oper} {call:dw} {r:bt} {h ab:af} {v:V} (he:(ck P al all o).run call r h=.val v ab):
 ((fb P o).run call (dc r (bZ all o)) h=.val v ab∧∀E a,RegRel0 E al (dc r (bZ all o)) a→Region.wanted o (yielded all a.tmps)=true)∨
 (ab=h∧∀H,(ck P al all o).run call r H=.val v H):=by
 obtain ⟨aX,aO⟩:=j_ he
 have cR:(fe al o.dst&&kq (bZ all o))=true:=by rw [aX,aO];rfl
 have key:ck P al all o=(match o.guard with
  | none=>⟨iv none (fb P o) (bZ all o)⟩
  | some (j,want)=>match all[j]? with
    | some g=>match g.dst with
      | some d=>bif Nat.blt d al&&Nat.ble d top then ⟨iv (some (nL (ai d),want)) (fb P o) (bZ all o)⟩ else c7.none
      | none=>c7.none
    | none=>c7.none):=by
  unfold ck;rw [cR];rfl
 rw [key] at he ⊢
 cases aE:o.guard with
 | none=>
   rw [aE] at he
   exact .inl ⟨he,fun E a _=>by simp [Region.wanted,aE]⟩
 | some oY=>
   obtain ⟨j,want⟩:=oY
   rw [aE] at he
   simp only at he ⊢
   cases bK:all[j]? with
   | none=>rw [bK] at he;simp [c7.none] at he
   | some g=>
     rw [bK] at he
     simp only at he ⊢
     cases kf:g.dst with
     | none=>rw [kf] at he;simp [c7.none] at he
     | some d=>
       rw [kf] at he
       simp only at he ⊢
       cases aD:(Nat.blt d al&&Nat.ble d top) with
       | false=>rw [aD] at he;simp [c7.none] at he
       | true=>
         rw [aD] at he
         simp only [cond_true,iv] at he ⊢
         have oN:=aD
         simp only [Bool.and_eq_true,Nat.blt_eq,Nat.ble_eq] at oN
         cases br:(nL (ai d)).run (dc r (bZ all o))<;>rw [br] at he<;>simp only at he ⊢<;>try (cases he;done)
         · rename_i b
           cases ah:(bif want then b else !b)<;>rw [ah] at he<;>simp only [cond_true,cond_false] at he ⊢
           · simp only [aU.val.injEq] at he ⊢
             exact .inr ⟨he.2.symm,fun H=>⟨he.1,trivial⟩⟩
           · refine .inl ⟨he,fun E a k=>?_⟩
             obtain ⟨g1,_⟩:=E4 k bK kf oN.1 oN.2
             have a7:=g1 b br
             simp only [Region.wanted,aE,a7]
             cases want<;>cases b<;>simp_all
         · simp only [aU.val.injEq] at he ⊢
           exact .inr ⟨he.2.symm,fun H=>⟨he.1,trivial⟩⟩
theorem Kg {al:Nat} {all:Array Oper} {o:Oper} {call:dw} {r:bt} {h ab:af} {v:V} (bd:gw o=true) (he:(ck P al all o).run call r h=.val v ab):
 (∃k,ab=h.new k∧True)∨(ab=h∧∀H,(ck P al all o).run call r H=.val v H):=by
 rcases Kh he with ⟨aa,_⟩ | aa
 · exact .inl (UE bd aa)
 · exact .inr aa
theorem US {rd:Option Nat} {F:Fr} {E:Env} {h ab H:af} {w:World} {call:dw} {all:Array Oper} {i:Nat} {o:Oper} (aF:all[i]? =some o) (bd:gw o=true) {al:Nat} {r:bt} {a:Act} {v:V}
 (he:(ck P al all o).run call r h=.val v ab) (oX:a.tmps.size=al) (kg:∀t ∈ bZ all o,Rel E (T.get .bad (ai t) r) (a.tmps.getD t undef)) (s:a1 F E H w)
 (FP:ab.next≠h.next) (ag:F.c6 (ai h.next)=some (ab.get (ai h.next)))
 {K:Act→World→Prop} {Q:Exit→Act→World→Prop} (dH:∀an x aj,E.le an→Rel an v x→a1 (F.free (ai h.next)) an H aj→K (a.put o.dst x) aj):wpOpIn (ca rd) 0 P all Q i K a w:=by
 obtain ⟨aX,aO⟩:=j_ he
 have k:RegRel0 E al (dc r (bZ all o)) a:=⟨oX,fun t ax=>by
  rw [PI aO ax]
  by_cases hm:t ∈ bZ all o
  · rw [if_pos hm];exact kg t hm
  · rw [if_neg hm];simp [Rel]⟩
 obtain ⟨eE,hw⟩:(fb P o).run call (dc r (bZ all o)) h=.val v ab∧Region.wanted o (yielded all a.tmps)=true:=by
  rcases Kh he with ⟨aa,ae⟩ | ⟨aa,_⟩
  · exact ⟨aa,ae E a k⟩
  · exact absurd (by rw [aa]) FP
 obtain ⟨m,ak,cV,au,az,aM⟩:=UD bd eE k
 simp only [wpOpIn,aF,hw,if_true]
 obtain ⟨X,bk,bu,bB⟩:=aM w
 rw [au,af.h1,if_pos rfl] at ag
 have dN:E.put (ai h.next) ⟨w.heap.size,0,0⟩ (ai h.next)=some ⟨w.heap.size,0,0⟩:=by unfold Env.put;rw [if_pos rfl]
 have hle:E.le (E.put (ai h.next) ⟨w.heap.size,0,0⟩):=Env.lk (s.o9 _ _ ag).2.1
 obtain ⟨bS,b7⟩:=bB _ hle dN
 have cc:F.w.heap.size≤w.heap.size:=s.frame.size
 obtain ⟨_,mq⟩:=s.link ag (o:=bk) (b7 _ cc)
 refine ⟨fun _ _=>trivial,?_⟩
 rw [pa (by intro c h;have:=bd;unfold gw at this;rw [h] at this;cases this),ak,Sem.run_bind,bu]
 exact dH _ X _ hle bS mq
end
end Go.Proofs.YthemdhlheglhoaaGreatDoor.aY
